/- 'exact' of the law's package: each job takes just its least, or its greatest number of minutes. -/
import Derived.Test.YtcgkglonnmkfcaaPE
import Derived.Test.YtcgkglonnmkfcaaR4
namespace Go.Proofs.Ytcgkglonnmkfcaa
open Go.RowKit Go.Lap Go.Shelf

def mixF (f : Job → Job) (L : List Job) (k : Nat) : List Job := (L.take k).map f ++ L.drop k
theorem mixF_length (f : Job → Job) {L : List Job} {k : Nat} (hk : k ≤ L.length) : (mixF f L k).length = L.length := by
  simp [mixF]; omega
theorem mixF_get (f : Job → Job) {L : List Job} {k : Nat} (hk : k < L.length) : (mixF f L k)[k]? = some (L.getD k Job.none) := by
  unfold mixF
  rw [List.getElem?_append_right (by simp; omega)]
  simp [hk, List.getD_eq_getElem?_getD]
  rw [show k - min k L.length = 0 by omega]
  simp [hk]
theorem mixF_set (f : Job → Job) {L : List Job} {k : Nat} (hk : k < L.length) : (mixF f L k).set k (f (L.getD k Job.none)) = mixF f L (k + 1) := by
  unfold mixF
  rw [List.set_append_right _ _ (by simp; omega)]
  rw [List.take_succ_eq_append_getElem hk, List.map_append, List.append_assoc]
  congr 1
  rw [show k - ((L.take k).map f).length = 0 by simp; omega, List.drop_eq_getElem_cons hk, List.set_cons_zero]
  simp [hk, List.getD_eq_getElem?_getD]
theorem mixF_all (f : Job → Job) (L : List Job) : mixF f L L.length = L.map f := by simp [mixF]

set_option maxRecDepth 100000 in
set_option maxHeartbeats 4000000 in
theorem exact_true (M : Mend) (hlen : M.jobs.length ≤ 6) (sv jv : Value) (w : World) (hS : IntsAt w sv M.setup) (hJ : JobsAt w jv M.jobs) (hN : NilOk jv) :
    Calls Try.prog 35 #[.agg #[sv, jv], .bool true] w fun e w' => ∃ a cap, e = .returned (.agg #[sv, .slice a M.jobs.length cap]) ∧ jobK.own w.heap.size w' (.slice a M.jobs.length cap) (M.exact true).jobs ∧ Below w.heap.size w w' := by
  obtain ⟨sa, scap, rfl, _⟩ := hS
  have hj' := hid (jobs_at.1 hJ)
  obtain ⟨ja, jcap, rfl, _⟩ := hJ
  have hlen' := hid hlen
  have hN' := hid hN
  clear hN
  go_enter Try.func35, Try.ntmps35
  go_upto_region 2 with fail
  have hm2 : (((w.alloc (.cells #[.slice sa M.setup.length scap, .slice ja M.jobs.length jcap] 25)).alloc (.cells #[.slice none 0 0, .slice none 0 0] 25)).alloc (.cells #[.slice sa M.setup.length scap, .slice ja M.jobs.length jcap] 25)).heap[w.heap.size]? = some (.cells #[.slice sa M.setup.length scap, .slice ja M.jobs.length jcap] 25 (0, 0)) := alloc_old (by simp; omega) (alloc_old (by simp) (alloc_at rfl))
  have hm4 : (((w.alloc (.cells #[.slice sa M.setup.length scap, .slice ja M.jobs.length jcap] 25)).alloc (.cells #[.slice none 0 0, .slice none 0 0] 25)).alloc (.cells #[.slice sa M.setup.length scap, .slice ja M.jobs.length jcap] 25)).heap[w.heap.size + 1]? = some (.cells #[.slice none 0 0, .slice none 0 0] 25 (0, 0)) := alloc_old (by simp) (alloc_at (by simp))
  have hm5 : (((w.alloc (.cells #[.slice sa M.setup.length scap, .slice ja M.jobs.length jcap] 25)).alloc (.cells #[.slice none 0 0, .slice none 0 0] 25)).alloc (.cells #[.slice sa M.setup.length scap, .slice ja M.jobs.length jcap] 25)).heap[w.heap.size + 1 + 1]? = some (.cells #[.slice sa M.setup.length scap, .slice ja M.jobs.length jcap] 25 (0, 0)) := alloc_at (by simp)
  have hb1 : Below w.heap.size w (((w.alloc (.cells #[.slice sa M.setup.length scap, .slice ja M.jobs.length jcap] 25)).alloc (.cells #[.slice none 0 0, .slice none 0 0] 25)).alloc (.cells #[.slice sa M.setup.length scap, .slice ja M.jobs.length jcap] 25)) := below_alloc (below_alloc (below_alloc (Below.refl _ _) _) _) _
  have hz1 : (((w.alloc (.cells #[.slice sa M.setup.length scap, .slice ja M.jobs.length jcap] 25)).alloc (.cells #[.slice none 0 0, .slice none 0 0] 25)).alloc (.cells #[.slice sa M.setup.length scap, .slice ja M.jobs.length jcap] 25)).heap.size = w.heap.size + 3 := by simp
  generalize (((w.alloc (.cells #[.slice sa M.setup.length scap, .slice ja M.jobs.length jcap] 25)).alloc (.cells #[.slice none 0 0, .slice none 0 0] 25)).alloc (.cells #[.slice sa M.setup.length scap, .slice ja M.jobs.length jcap] 25)) = w1 at hm2 hm4 hm5 hb1 hz1 ⊢
  obtain ⟨l2, c2⟩ := cells_of hm2
  have hz1' := hid hz1
  clear hz1
  go_upto_region 3 with (at_builtin; refine wpList_append_arg jobK rfl _ _ rfl w1.heap.size (.slice (some ⟨w1.heap.size, 0, none⟩) 0 0) [] M.jobs rfl (jobK.own_made (Nat.le_refl _)) (.slice ja M.jobs.length jcap) rfl ((hj'.out.below hb1).below (below_alloc (Below.refl _ _) _)) hN'.out (by simp; omega) (by simp) ?_; intro v' w' hown' hb'; replace hown' : jobK.own w1.heap.size w' v' M.jobs := hown'; have hbw' := below_low hb' (below_alloc (Below.refl _ _) _) (Nat.le_refl _); obtain ⟨ca, ccap, rfl, _⟩ := hown'.at; have hm5' := (hbw'.block _ (heap_lt hm5)).trans hm5; obtain ⟨l5, c5⟩ := cells_of hm5'; have z5 := free_of hm5')
  have hm5w := heap_set_same (o := 1) (v := .slice ca M.jobs.length ccap) hm5'
  have hm4w := (Below.heap_setCell w' ⟨w.heap.size + 1 + 1, 1, none⟩ (.slice ca M.jobs.length ccap) _ (by simp)).trans ((hbw'.block _ (heap_lt hm4)).trans hm4)
  have hb3 := below_set (below_via hbw' hb1) (p := ⟨w.heap.size + 1 + 1, 1, none⟩) (.slice ca M.jobs.length ccap) (by simp only; omega)
  have hown3 := hown'.set (b := w.heap.size + 1 + 1) (o := 1) (u := .slice ca M.jobs.length ccap) (heap_lt hm5)
  have hz3 : w1.heap.size ≤ (w'.setCell ⟨w.heap.size + 1 + 1, 1, none⟩ (.slice ca M.jobs.length ccap)).heap.size := by simpa using hbw'.size
  clear hown' c2 c5 z5 l5 hm5' hb' hbw'
  generalize w'.setCell ⟨w.heap.size + 1 + 1, 1, none⟩ (.slice ca M.jobs.length ccap) = w3 at hm5w hm4w hb3 hown3 hz3 ⊢
  replace hm5w : w3.heap[w.heap.size + 1 + 1]? = some (.cells #[.slice sa M.setup.length scap, .slice ca M.jobs.length ccap] 25 (0, 0)) := by simpa using hm5w
  have hown3' := hid hown3
  have lx5 := heap_lt hm5
  have lx4 := heap_lt hm4
  have hm5s := (cells_of hm5w).2
  have lm5s := (cells_of hm5w).1
  clear hown3
  go_wp2
  clear hm5s lm5s
  go_loopw [6, 7, 17] (fun _ _ i wr => ∃ k : Nat, k ≤ M.jobs.length ∧ i = .int .i64 k ∧ jobK.own w1.heap.size wr (.slice ca M.jobs.length ccap) (mixF (Job.exact true) M.jobs k) ∧ Below w1.heap.size w3 wr) (fun _ _ i _ => M.jobs.length - (intOf i).toNat)
  case atStart => exact ⟨0, by omega, rfl, by simpa [mixF] using hown3'.out, Below.refl _ _⟩
  case round =>
    obtain ⟨k, hkk, rfl, hrow, hbr⟩ := hrel
    have hm5r := (hbr.block _ lx5).trans hm5w
    obtain ⟨lxr, cxr⟩ := cells_of hm5r
    have hbr' := hid hbr
    have hlen6 := hlen'.out
    by_cases hlt : k < M.jobs.length
    · obtain ⟨g, cap', cur, e, hBg, hg, hc⟩ := hrow.block (fun e => by have := congrArg List.length e; rw [mixF_length _ hkk, List.length_nil] at this; omega)
      injection e with e1 e2 e3
      subst e1
      clear e2 e3 hbr
      have hxk := mixF_get (Job.exact true) hlt
      have hck : wr.cell? ⟨g, k * 8 + 1 + 1, none⟩ = some (.int .i64 (M.jobs.getD k Job.none).hi) := hc k _ hxk 2 _ rfl
      have hcd : wr.cell? ⟨g, k * 8 + 1, none⟩ = some (.int .i64 (M.jobs.getD k Job.none).lo) := hc k _ hxk 1 _ rfl
      generalize (M.jobs.getD k Job.none).lo = y at hcd
      have lg := (cells_of hg).1
      have zg := free_of hg
      have hrow' := hid hrow
      have hBg' := hid hBg
      clear hc hrow hg hBg
      obtain ⟨x, hx⟩ : ∃ x, (M.jobs.getD k Job.none).hi = x := ⟨_, rfl⟩
      rw [hx] at hck
      have hx' := hid hx
      have hxk' := hid hxk
      clear hx hxk
      have hki : (k : Int) < (M.jobs.length : Int) := by omega
      go_wp2
      go_roundw
      case rel =>
        refine ⟨k + 1, by omega, by go_num, ?_, hbr'.out.setCell hBg'.out _⟩
        rw [← mixF_set _ hlt, ← hx'.out]
        have hset : ∀ (j : Job), jobK.enc (j.exact true) = (jobK.enc j).set 1 (.int .i64 j.hi) := fun _ => rfl
        exact hrow'.out.put (k := k) (f := 1) (x := M.jobs.getD k Job.none) hxk'.out (show 1 < 8 by decide) (hset _)
      case measure => simp [intOf]; omega
    · obtain rfl : k = M.jobs.length := by omega
      rw [mixF_all] at hrow
      have hm4r := (hbr.block _ lx4).trans hm4w
      obtain ⟨l4, c4⟩ := cells_of hm4r
      have z4 := free_of hm4r
      have hbw := below_low hbr hb3 hb1.size
      have hm4z := heap_set_same (o := 1) (v := .slice ca M.jobs.length ccap) (heap_set_same (o := 0) (v := .slice sa M.setup.length scap) hm4r)
      have hownz := ((hrow.set (b := w.heap.size + 1) (o := 0) (u := .slice sa M.setup.length scap) lx4).set (b := w.heap.size + 1) (o := 1) (u := .slice ca M.jobs.length ccap) lx4).low hb1.size
      have hbz := below_set (below_set hbw (p := ⟨w.heap.size + 1, 0, none⟩) (.slice sa M.setup.length scap) (by simp only; omega)) (p := ⟨w.heap.size + 1, 1, none⟩) (.slice ca M.jobs.length ccap) (by simp only; omega)
      have hown9 := hid hownz
      have hb9 := hid hbz
      have cz := (cells_of hm4z).2
      clear hownz hbz hrow hbr hbw
      go_wp2
      refine bodyPost_ret (v := .agg #[.slice sa M.setup.length scap, .slice ca M.jobs.length ccap]) (by simp [results, Try.results35, go_sem, cz]) rfl ⟨_, _, rfl, hown9.out, hb9.out⟩

set_option maxRecDepth 100000 in
set_option maxHeartbeats 4000000 in
theorem exact_false (M : Mend) (hlen : M.jobs.length ≤ 6) (sv jv : Value) (w : World) (hS : IntsAt w sv M.setup) (hJ : JobsAt w jv M.jobs) (hN : NilOk jv) :
    Calls Try.prog 35 #[.agg #[sv, jv], .bool false] w fun e w' => ∃ a cap, e = .returned (.agg #[sv, .slice a M.jobs.length cap]) ∧ jobK.own w.heap.size w' (.slice a M.jobs.length cap) (M.exact false).jobs ∧ Below w.heap.size w w' := by
  obtain ⟨sa, scap, rfl, _⟩ := hS
  have hj' := hid (jobs_at.1 hJ)
  obtain ⟨ja, jcap, rfl, _⟩ := hJ
  have hlen' := hid hlen
  have hN' := hid hN
  clear hN
  go_enter Try.func35, Try.ntmps35
  go_upto_region 2 with fail
  have hm2 : (((w.alloc (.cells #[.slice sa M.setup.length scap, .slice ja M.jobs.length jcap] 25)).alloc (.cells #[.slice none 0 0, .slice none 0 0] 25)).alloc (.cells #[.slice sa M.setup.length scap, .slice ja M.jobs.length jcap] 25)).heap[w.heap.size]? = some (.cells #[.slice sa M.setup.length scap, .slice ja M.jobs.length jcap] 25 (0, 0)) := alloc_old (by simp; omega) (alloc_old (by simp) (alloc_at rfl))
  have hm4 : (((w.alloc (.cells #[.slice sa M.setup.length scap, .slice ja M.jobs.length jcap] 25)).alloc (.cells #[.slice none 0 0, .slice none 0 0] 25)).alloc (.cells #[.slice sa M.setup.length scap, .slice ja M.jobs.length jcap] 25)).heap[w.heap.size + 1]? = some (.cells #[.slice none 0 0, .slice none 0 0] 25 (0, 0)) := alloc_old (by simp) (alloc_at (by simp))
  have hm5 : (((w.alloc (.cells #[.slice sa M.setup.length scap, .slice ja M.jobs.length jcap] 25)).alloc (.cells #[.slice none 0 0, .slice none 0 0] 25)).alloc (.cells #[.slice sa M.setup.length scap, .slice ja M.jobs.length jcap] 25)).heap[w.heap.size + 1 + 1]? = some (.cells #[.slice sa M.setup.length scap, .slice ja M.jobs.length jcap] 25 (0, 0)) := alloc_at (by simp)
  have hb1 : Below w.heap.size w (((w.alloc (.cells #[.slice sa M.setup.length scap, .slice ja M.jobs.length jcap] 25)).alloc (.cells #[.slice none 0 0, .slice none 0 0] 25)).alloc (.cells #[.slice sa M.setup.length scap, .slice ja M.jobs.length jcap] 25)) := below_alloc (below_alloc (below_alloc (Below.refl _ _) _) _) _
  have hz1 : (((w.alloc (.cells #[.slice sa M.setup.length scap, .slice ja M.jobs.length jcap] 25)).alloc (.cells #[.slice none 0 0, .slice none 0 0] 25)).alloc (.cells #[.slice sa M.setup.length scap, .slice ja M.jobs.length jcap] 25)).heap.size = w.heap.size + 3 := by simp
  generalize (((w.alloc (.cells #[.slice sa M.setup.length scap, .slice ja M.jobs.length jcap] 25)).alloc (.cells #[.slice none 0 0, .slice none 0 0] 25)).alloc (.cells #[.slice sa M.setup.length scap, .slice ja M.jobs.length jcap] 25)) = w1 at hm2 hm4 hm5 hb1 hz1 ⊢
  obtain ⟨l2, c2⟩ := cells_of hm2
  have hz1' := hid hz1
  clear hz1
  go_upto_region 3 with (at_builtin; refine wpList_append_arg jobK rfl _ _ rfl w1.heap.size (.slice (some ⟨w1.heap.size, 0, none⟩) 0 0) [] M.jobs rfl (jobK.own_made (Nat.le_refl _)) (.slice ja M.jobs.length jcap) rfl ((hj'.out.below hb1).below (below_alloc (Below.refl _ _) _)) hN'.out (by simp; omega) (by simp) ?_; intro v' w' hown' hb'; replace hown' : jobK.own w1.heap.size w' v' M.jobs := hown'; have hbw' := below_low hb' (below_alloc (Below.refl _ _) _) (Nat.le_refl _); obtain ⟨ca, ccap, rfl, _⟩ := hown'.at; have hm5' := (hbw'.block _ (heap_lt hm5)).trans hm5; obtain ⟨l5, c5⟩ := cells_of hm5'; have z5 := free_of hm5')
  have hm5w := heap_set_same (o := 1) (v := .slice ca M.jobs.length ccap) hm5'
  have hm4w := (Below.heap_setCell w' ⟨w.heap.size + 1 + 1, 1, none⟩ (.slice ca M.jobs.length ccap) _ (by simp)).trans ((hbw'.block _ (heap_lt hm4)).trans hm4)
  have hb3 := below_set (below_via hbw' hb1) (p := ⟨w.heap.size + 1 + 1, 1, none⟩) (.slice ca M.jobs.length ccap) (by simp only; omega)
  have hown3 := hown'.set (b := w.heap.size + 1 + 1) (o := 1) (u := .slice ca M.jobs.length ccap) (heap_lt hm5)
  have hz3 : w1.heap.size ≤ (w'.setCell ⟨w.heap.size + 1 + 1, 1, none⟩ (.slice ca M.jobs.length ccap)).heap.size := by simpa using hbw'.size
  clear hown' c2 c5 z5 l5 hm5' hb' hbw'
  generalize w'.setCell ⟨w.heap.size + 1 + 1, 1, none⟩ (.slice ca M.jobs.length ccap) = w3 at hm5w hm4w hb3 hown3 hz3 ⊢
  replace hm5w : w3.heap[w.heap.size + 1 + 1]? = some (.cells #[.slice sa M.setup.length scap, .slice ca M.jobs.length ccap] 25 (0, 0)) := by simpa using hm5w
  have hown3' := hid hown3
  have lx5 := heap_lt hm5
  have lx4 := heap_lt hm4
  have hm5s := (cells_of hm5w).2
  have lm5s := (cells_of hm5w).1
  clear hown3
  go_wp2
  clear hm5s lm5s
  go_loopw [6, 7, 17] (fun _ _ i wr => ∃ k : Nat, k ≤ M.jobs.length ∧ i = .int .i64 k ∧ jobK.own w1.heap.size wr (.slice ca M.jobs.length ccap) (mixF (Job.exact false) M.jobs k) ∧ Below w1.heap.size w3 wr) (fun _ _ i _ => M.jobs.length - (intOf i).toNat)
  case atStart => exact ⟨0, by omega, rfl, by simpa [mixF] using hown3'.out, Below.refl _ _⟩
  case round =>
    obtain ⟨k, hkk, rfl, hrow, hbr⟩ := hrel
    have hm5r := (hbr.block _ lx5).trans hm5w
    obtain ⟨lxr, cxr⟩ := cells_of hm5r
    have hbr' := hid hbr
    have hlen6 := hlen'.out
    by_cases hlt : k < M.jobs.length
    · obtain ⟨g, cap', cur, e, hBg, hg, hc⟩ := hrow.block (fun e => by have := congrArg List.length e; rw [mixF_length _ hkk, List.length_nil] at this; omega)
      injection e with e1 e2 e3
      subst e1
      clear e2 e3 hbr
      have hxk := mixF_get (Job.exact false) hlt
      have hck : wr.cell? ⟨g, k * 8 + 1, none⟩ = some (.int .i64 (M.jobs.getD k Job.none).lo) := hc k _ hxk 1 _ rfl
      have hcd : wr.cell? ⟨g, k * 8 + 1 + 1, none⟩ = some (.int .i64 (M.jobs.getD k Job.none).hi) := hc k _ hxk 2 _ rfl
      generalize (M.jobs.getD k Job.none).hi = y at hcd
      have lg := (cells_of hg).1
      have zg := free_of hg
      have hrow' := hid hrow
      have hBg' := hid hBg
      clear hc hrow hg hBg
      obtain ⟨x, hx⟩ : ∃ x, (M.jobs.getD k Job.none).lo = x := ⟨_, rfl⟩
      rw [hx] at hck
      have hx' := hid hx
      have hxk' := hid hxk
      clear hx hxk
      have hki : (k : Int) < (M.jobs.length : Int) := by omega
      go_wp2
      go_roundw
      case rel =>
        refine ⟨k + 1, by omega, by go_num, ?_, hbr'.out.setCell hBg'.out _⟩
        rw [← mixF_set _ hlt, ← hx'.out]
        have hset : ∀ (j : Job), jobK.enc (j.exact false) = (jobK.enc j).set 2 (.int .i64 j.lo) := fun _ => rfl
        exact hrow'.out.put (k := k) (f := 2) (x := M.jobs.getD k Job.none) hxk'.out (show 2 < 8 by decide) (hset _)
      case measure => simp [intOf]; omega
    · obtain rfl : k = M.jobs.length := by omega
      rw [mixF_all] at hrow
      have hm4r := (hbr.block _ lx4).trans hm4w
      obtain ⟨l4, c4⟩ := cells_of hm4r
      have z4 := free_of hm4r
      have hbw := below_low hbr hb3 hb1.size
      have hm4z := heap_set_same (o := 1) (v := .slice ca M.jobs.length ccap) (heap_set_same (o := 0) (v := .slice sa M.setup.length scap) hm4r)
      have hownz := ((hrow.set (b := w.heap.size + 1) (o := 0) (u := .slice sa M.setup.length scap) lx4).set (b := w.heap.size + 1) (o := 1) (u := .slice ca M.jobs.length ccap) lx4).low hb1.size
      have hbz := below_set (below_set hbw (p := ⟨w.heap.size + 1, 0, none⟩) (.slice sa M.setup.length scap) (by simp only; omega)) (p := ⟨w.heap.size + 1, 1, none⟩) (.slice ca M.jobs.length ccap) (by simp only; omega)
      have hown9 := hid hownz
      have hb9 := hid hbz
      have cz := (cells_of hm4z).2
      clear hownz hbz hrow hbr hbw
      go_wp2
      refine bodyPost_ret (v := .agg #[.slice sa M.setup.length scap, .slice ca M.jobs.length ccap]) (by simp [results, Try.results35, go_sem, cz]) rfl ⟨_, _, rfl, hown9.out, hb9.out⟩

theorem exact_any (M : Mend) (most : Bool) (hlen : M.jobs.length ≤ 6) (sv jv : Value) (w : World) (hS : IntsAt w sv M.setup) (hJ : JobsAt w jv M.jobs) (hN : NilOk jv) :
    Calls Try.prog 35 #[.agg #[sv, jv], .bool most] w fun e w' => ∃ a cap, e = .returned (.agg #[sv, .slice a M.jobs.length cap]) ∧ jobK.own w.heap.size w' (.slice a M.jobs.length cap) (M.exact most).jobs ∧ Below w.heap.size w w' := by
  cases most
  · exact exact_false M hlen sv jv w hS hJ hN
  · exact exact_true M hlen sv jv w hS hJ hN

end Go.Proofs.Ytcgkglonnmkfcaa
