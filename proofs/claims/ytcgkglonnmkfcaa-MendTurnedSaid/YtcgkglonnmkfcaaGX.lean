/- 'exact' of the law's package: each job takes just its least, or its greatest number of minutes. The walk of 'part'. The walk of the function that MendDrop makes. -/
import Derived.Test.YtcgkglonnmkfcaaPE
import Derived.Test.YtcgkglonnmkfcaaR4
import Derived.Test.YtcgkglonnmkfcaaGQ
import Derived.Test.YtcgkglonnmkfcaaGD
import Derived.Test.YtcgkglonnmkfcaaGK
import Derived.Test.YtcgkglonnmkfcaaN4
import Derived.Test.YtcgkglonnmkfcaaG
namespace Go.Proofs.Ytcgkglonnmkfcaa
open Go.RowKit Go.Lap Go.Shelf

def mixF (f : Job → Job) (L : List Job) (k : Nat) : List Job := (L.take k).map f ++ L.drop k
theorem mixF_length (f : Job → Job) {L : List Job} {k : Nat} (hk : k ≤ L.length) : (mixF f L k).length = L.length := by
  simp [mixF]; omega
theorem mixF_get (f : Job → Job) {L : List Job} {k : Nat} (hk : k < L.length) : (mixF f L k)[k]? = some (L.getD k Job.none) := by
  unfold mixF
  rw [List.getElem?_append_right (by simp; omega)]
  simp [hk, List.getD_eq_getElem?_getD]
  rw [show k - min k L.length = 0 by omega]
  simp [hk]
theorem mixF_set (f : Job → Job) {L : List Job} {k : Nat} (hk : k < L.length) : (mixF f L k).set k (f (L.getD k Job.none)) = mixF f L (k + 1) := by
  unfold mixF
  rw [List.set_append_right _ _ (by simp; omega)]
  rw [List.take_succ_eq_append_getElem hk, List.map_append, List.append_assoc]
  congr 1
  rw [show k - ((L.take k).map f).length = 0 by simp; omega, List.drop_eq_getElem_cons hk, List.set_cons_zero]
  simp [hk, List.getD_eq_getElem?_getD]
theorem mixF_all (f : Job → Job) (L : List Job) : mixF f L L.length = L.map f := by simp [mixF]

set_option maxRecDepth 100000 in
set_option maxHeartbeats 4000000 in
theorem exact_true (M : Mend) (hlen : M.jobs.length ≤ 6) (sv jv : Value) (w : World) (hS : IntsAt w sv M.setup) (hJ : JobsAt w jv M.jobs) (hN : NilOk jv) :
    Calls Try.prog 35 #[.agg #[sv, jv], .bool true] w fun e w' => ∃ a cap, e = .returned (.agg #[sv, .slice a M.jobs.length cap]) ∧ jobK.own w.heap.size w' (.slice a M.jobs.length cap) (M.exact true).jobs ∧ Below w.heap.size w w' := by
  obtain ⟨sa, scap, rfl, _⟩ := hS
  have hj' := hid (jobs_at.1 hJ)
  obtain ⟨ja, jcap, rfl, _⟩ := hJ
  have hlen' := hid hlen
  have hN' := hid hN
  clear hN
  go_enter Try.func35, Try.ntmps35
  go_upto_region 2 with fail
  have hm2 : (((w.alloc (.cells #[.slice sa M.setup.length scap, .slice ja M.jobs.length jcap] 25)).alloc (.cells #[.slice none 0 0, .slice none 0 0] 25)).alloc (.cells #[.slice sa M.setup.length scap, .slice ja M.jobs.length jcap] 25)).heap[w.heap.size]? = some (.cells #[.slice sa M.setup.length scap, .slice ja M.jobs.length jcap] 25 (0, 0)) := alloc_old (by simp; omega) (alloc_old (by simp) (alloc_at rfl))
  have hm4 : (((w.alloc (.cells #[.slice sa M.setup.length scap, .slice ja M.jobs.length jcap] 25)).alloc (.cells #[.slice none 0 0, .slice none 0 0] 25)).alloc (.cells #[.slice sa M.setup.length scap, .slice ja M.jobs.length jcap] 25)).heap[w.heap.size + 1]? = some (.cells #[.slice none 0 0, .slice none 0 0] 25 (0, 0)) := alloc_old (by simp) (alloc_at (by simp))
  have hm5 : (((w.alloc (.cells #[.slice sa M.setup.length scap, .slice ja M.jobs.length jcap] 25)).alloc (.cells #[.slice none 0 0, .slice none 0 0] 25)).alloc (.cells #[.slice sa M.setup.length scap, .slice ja M.jobs.length jcap] 25)).heap[w.heap.size + 1 + 1]? = some (.cells #[.slice sa M.setup.length scap, .slice ja M.jobs.length jcap] 25 (0, 0)) := alloc_at (by simp)
  have hb1 : Below w.heap.size w (((w.alloc (.cells #[.slice sa M.setup.length scap, .slice ja M.jobs.length jcap] 25)).alloc (.cells #[.slice none 0 0, .slice none 0 0] 25)).alloc (.cells #[.slice sa M.setup.length scap, .slice ja M.jobs.length jcap] 25)) := below_alloc (below_alloc (below_alloc (Below.refl _ _) _) _) _
  have hz1 : (((w.alloc (.cells #[.slice sa M.setup.length scap, .slice ja M.jobs.length jcap] 25)).alloc (.cells #[.slice none 0 0, .slice none 0 0] 25)).alloc (.cells #[.slice sa M.setup.length scap, .slice ja M.jobs.length jcap] 25)).heap.size = w.heap.size + 3 := by simp
  generalize (((w.alloc (.cells #[.slice sa M.setup.length scap, .slice ja M.jobs.length jcap] 25)).alloc (.cells #[.slice none 0 0, .slice none 0 0] 25)).alloc (.cells #[.slice sa M.setup.length scap, .slice ja M.jobs.length jcap] 25)) = w1 at hm2 hm4 hm5 hb1 hz1 ⊢
  obtain ⟨l2, c2⟩ := cells_of hm2
  have hz1' := hid hz1
  clear hz1
  go_upto_region 3 with (at_builtin; refine wpList_append_arg jobK rfl _ _ rfl w1.heap.size (.slice (some ⟨w1.heap.size, 0, none⟩) 0 0) [] M.jobs rfl (jobK.own_made (Nat.le_refl _)) (.slice ja M.jobs.length jcap) rfl ((hj'.out.below hb1).below (below_alloc (Below.refl _ _) _)) hN'.out (by simp; omega) (by simp) ?_; intro v' w' hown' hb'; replace hown' : jobK.own w1.heap.size w' v' M.jobs := hown'; have hbw' := below_low hb' (below_alloc (Below.refl _ _) _) (Nat.le_refl _); obtain ⟨ca, ccap, rfl, _⟩ := hown'.at; have hm5' := (hbw'.block _ (heap_lt hm5)).trans hm5; obtain ⟨l5, c5⟩ := cells_of hm5'; have z5 := free_of hm5')
  have hm5w := heap_set_same (o := 1) (v := .slice ca M.jobs.length ccap) hm5'
  have hm4w := (Below.heap_setCell w' ⟨w.heap.size + 1 + 1, 1, none⟩ (.slice ca M.jobs.length ccap) _ (by simp)).trans ((hbw'.block _ (heap_lt hm4)).trans hm4)
  have hb3 := below_set (below_via hbw' hb1) (p := ⟨w.heap.size + 1 + 1, 1, none⟩) (.slice ca M.jobs.length ccap) (by simp only; omega)
  have hown3 := hown'.set (b := w.heap.size + 1 + 1) (o := 1) (u := .slice ca M.jobs.length ccap) (heap_lt hm5)
  have hz3 : w1.heap.size ≤ (w'.setCell ⟨w.heap.size + 1 + 1, 1, none⟩ (.slice ca M.jobs.length ccap)).heap.size := by simpa using hbw'.size
  clear hown' c2 c5 z5 l5 hm5' hb' hbw'
  generalize w'.setCell ⟨w.heap.size + 1 + 1, 1, none⟩ (.slice ca M.jobs.length ccap) = w3 at hm5w hm4w hb3 hown3 hz3 ⊢
  replace hm5w : w3.heap[w.heap.size + 1 + 1]? = some (.cells #[.slice sa M.setup.length scap, .slice ca M.jobs.length ccap] 25 (0, 0)) := by simpa using hm5w
  have hown3' := hid hown3
  have lx5 := heap_lt hm5
  have lx4 := heap_lt hm4
  have hm5s := (cells_of hm5w).2
  have lm5s := (cells_of hm5w).1
  clear hown3
  go_wp2
  clear hm5s lm5s
  go_loopw [6, 7, 17] (fun _ _ i wr => ∃ k : Nat, k ≤ M.jobs.length ∧ i = .int .i64 k ∧ jobK.own w1.heap.size wr (.slice ca M.jobs.length ccap) (mixF (Job.exact true) M.jobs k) ∧ Below w1.heap.size w3 wr) (fun _ _ i _ => M.jobs.length - (intOf i).toNat)
  case atStart => exact ⟨0, by omega, rfl, by simpa [mixF] using hown3'.out, Below.refl _ _⟩
  case round =>
    obtain ⟨k, hkk, rfl, hrow, hbr⟩ := hrel
    have hm5r := (hbr.block _ lx5).trans hm5w
    obtain ⟨lxr, cxr⟩ := cells_of hm5r
    have hbr' := hid hbr
    have hlen6 := hlen'.out
    by_cases hlt : k < M.jobs.length
    · obtain ⟨g, cap', cur, e, hBg, hg, hc⟩ := hrow.block (fun e => by have := congrArg List.length e; rw [mixF_length _ hkk, List.length_nil] at this; omega)
      injection e with e1 e2 e3
      subst e1
      clear e2 e3 hbr
      have hxk := mixF_get (Job.exact true) hlt
      have hck : wr.cell? ⟨g, k * 8 + 1 + 1, none⟩ = some (.int .i64 (M.jobs.getD k Job.none).hi) := hc k _ hxk 2 _ rfl
      have hcd : wr.cell? ⟨g, k * 8 + 1, none⟩ = some (.int .i64 (M.jobs.getD k Job.none).lo) := hc k _ hxk 1 _ rfl
      generalize (M.jobs.getD k Job.none).lo = y at hcd
      have lg := (cells_of hg).1
      have zg := free_of hg
      have hrow' := hid hrow
      have hBg' := hid hBg
      clear hc hrow hg hBg
      obtain ⟨x, hx⟩ : ∃ x, (M.jobs.getD k Job.none).hi = x := ⟨_, rfl⟩
      rw [hx] at hck
      have hx' := hid hx
      have hxk' := hid hxk
      clear hx hxk
      have hki : (k : Int) < (M.jobs.length : Int) := by omega
      go_wp2
      go_roundw
      case rel =>
        refine ⟨k + 1, by omega, by go_num, ?_, hbr'.out.setCell hBg'.out _⟩
        rw [← mixF_set _ hlt, ← hx'.out]
        have hset : ∀ (j : Job), jobK.enc (j.exact true) = (jobK.enc j).set 1 (.int .i64 j.hi) := fun _ => rfl
        exact hrow'.out.put (k := k) (f := 1) (x := M.jobs.getD k Job.none) hxk'.out (show 1 < 8 by decide) (hset _)
      case measure => simp [intOf]; omega
    · obtain rfl : k = M.jobs.length := by omega
      rw [mixF_all] at hrow
      have hm4r := (hbr.block _ lx4).trans hm4w
      obtain ⟨l4, c4⟩ := cells_of hm4r
      have z4 := free_of hm4r
      have hbw := below_low hbr hb3 hb1.size
      have hm4z := heap_set_same (o := 1) (v := .slice ca M.jobs.length ccap) (heap_set_same (o := 0) (v := .slice sa M.setup.length scap) hm4r)
      have hownz := ((hrow.set (b := w.heap.size + 1) (o := 0) (u := .slice sa M.setup.length scap) lx4).set (b := w.heap.size + 1) (o := 1) (u := .slice ca M.jobs.length ccap) lx4).low hb1.size
      have hbz := below_set (below_set hbw (p := ⟨w.heap.size + 1, 0, none⟩) (.slice sa M.setup.length scap) (by simp only; omega)) (p := ⟨w.heap.size + 1, 1, none⟩) (.slice ca M.jobs.length ccap) (by simp only; omega)
      have hown9 := hid hownz
      have hb9 := hid hbz
      have cz := (cells_of hm4z).2
      clear hownz hbz hrow hbr hbw
      go_wp2
      refine bodyPost_ret (v := .agg #[.slice sa M.setup.length scap, .slice ca M.jobs.length ccap]) (by simp [results, Try.results35, go_sem, cz]) rfl ⟨_, _, rfl, hown9.out, hb9.out⟩

set_option maxRecDepth 100000 in
set_option maxHeartbeats 4000000 in
theorem exact_false (M : Mend) (hlen : M.jobs.length ≤ 6) (sv jv : Value) (w : World) (hS : IntsAt w sv M.setup) (hJ : JobsAt w jv M.jobs) (hN : NilOk jv) :
    Calls Try.prog 35 #[.agg #[sv, jv], .bool false] w fun e w' => ∃ a cap, e = .returned (.agg #[sv, .slice a M.jobs.length cap]) ∧ jobK.own w.heap.size w' (.slice a M.jobs.length cap) (M.exact false).jobs ∧ Below w.heap.size w w' := by
  obtain ⟨sa, scap, rfl, _⟩ := hS
  have hj' := hid (jobs_at.1 hJ)
  obtain ⟨ja, jcap, rfl, _⟩ := hJ
  have hlen' := hid hlen
  have hN' := hid hN
  clear hN
  go_enter Try.func35, Try.ntmps35
  go_upto_region 2 with fail
  have hm2 : (((w.alloc (.cells #[.slice sa M.setup.length scap, .slice ja M.jobs.length jcap] 25)).alloc (.cells #[.slice none 0 0, .slice none 0 0] 25)).alloc (.cells #[.slice sa M.setup.length scap, .slice ja M.jobs.length jcap] 25)).heap[w.heap.size]? = some (.cells #[.slice sa M.setup.length scap, .slice ja M.jobs.length jcap] 25 (0, 0)) := alloc_old (by simp; omega) (alloc_old (by simp) (alloc_at rfl))
  have hm4 : (((w.alloc (.cells #[.slice sa M.setup.length scap, .slice ja M.jobs.length jcap] 25)).alloc (.cells #[.slice none 0 0, .slice none 0 0] 25)).alloc (.cells #[.slice sa M.setup.length scap, .slice ja M.jobs.length jcap] 25)).heap[w.heap.size + 1]? = some (.cells #[.slice none 0 0, .slice none 0 0] 25 (0, 0)) := alloc_old (by simp) (alloc_at (by simp))
  have hm5 : (((w.alloc (.cells #[.slice sa M.setup.length scap, .slice ja M.jobs.length jcap] 25)).alloc (.cells #[.slice none 0 0, .slice none 0 0] 25)).alloc (.cells #[.slice sa M.setup.length scap, .slice ja M.jobs.length jcap] 25)).heap[w.heap.size + 1 + 1]? = some (.cells #[.slice sa M.setup.length scap, .slice ja M.jobs.length jcap] 25 (0, 0)) := alloc_at (by simp)
  have hb1 : Below w.heap.size w (((w.alloc (.cells #[.slice sa M.setup.length scap, .slice ja M.jobs.length jcap] 25)).alloc (.cells #[.slice none 0 0, .slice none 0 0] 25)).alloc (.cells #[.slice sa M.setup.length scap, .slice ja M.jobs.length jcap] 25)) := below_alloc (below_alloc (below_alloc (Below.refl _ _) _) _) _
  have hz1 : (((w.alloc (.cells #[.slice sa M.setup.length scap, .slice ja M.jobs.length jcap] 25)).alloc (.cells #[.slice none 0 0, .slice none 0 0] 25)).alloc (.cells #[.slice sa M.setup.length scap, .slice ja M.jobs.length jcap] 25)).heap.size = w.heap.size + 3 := by simp
  generalize (((w.alloc (.cells #[.slice sa M.setup.length scap, .slice ja M.jobs.length jcap] 25)).alloc (.cells #[.slice none 0 0, .slice none 0 0] 25)).alloc (.cells #[.slice sa M.setup.length scap, .slice ja M.jobs.length jcap] 25)) = w1 at hm2 hm4 hm5 hb1 hz1 ⊢
  obtain ⟨l2, c2⟩ := cells_of hm2
  have hz1' := hid hz1
  clear hz1
  go_upto_region 3 with (at_builtin; refine wpList_append_arg jobK rfl _ _ rfl w1.heap.size (.slice (some ⟨w1.heap.size, 0, none⟩) 0 0) [] M.jobs rfl (jobK.own_made (Nat.le_refl _)) (.slice ja M.jobs.length jcap) rfl ((hj'.out.below hb1).below (below_alloc (Below.refl _ _) _)) hN'.out (by simp; omega) (by simp) ?_; intro v' w' hown' hb'; replace hown' : jobK.own w1.heap.size w' v' M.jobs := hown'; have hbw' := below_low hb' (below_alloc (Below.refl _ _) _) (Nat.le_refl _); obtain ⟨ca, ccap, rfl, _⟩ := hown'.at; have hm5' := (hbw'.block _ (heap_lt hm5)).trans hm5; obtain ⟨l5, c5⟩ := cells_of hm5'; have z5 := free_of hm5')
  have hm5w := heap_set_same (o := 1) (v := .slice ca M.jobs.length ccap) hm5'
  have hm4w := (Below.heap_setCell w' ⟨w.heap.size + 1 + 1, 1, none⟩ (.slice ca M.jobs.length ccap) _ (by simp)).trans ((hbw'.block _ (heap_lt hm4)).trans hm4)
  have hb3 := below_set (below_via hbw' hb1) (p := ⟨w.heap.size + 1 + 1, 1, none⟩) (.slice ca M.jobs.length ccap) (by simp only; omega)
  have hown3 := hown'.set (b := w.heap.size + 1 + 1) (o := 1) (u := .slice ca M.jobs.length ccap) (heap_lt hm5)
  have hz3 : w1.heap.size ≤ (w'.setCell ⟨w.heap.size + 1 + 1, 1, none⟩ (.slice ca M.jobs.length ccap)).heap.size := by simpa using hbw'.size
  clear hown' c2 c5 z5 l5 hm5' hb' hbw'
  generalize w'.setCell ⟨w.heap.size + 1 + 1, 1, none⟩ (.slice ca M.jobs.length ccap) = w3 at hm5w hm4w hb3 hown3 hz3 ⊢
  replace hm5w : w3.heap[w.heap.size + 1 + 1]? = some (.cells #[.slice sa M.setup.length scap, .slice ca M.jobs.length ccap] 25 (0, 0)) := by simpa using hm5w
  have hown3' := hid hown3
  have lx5 := heap_lt hm5
  have lx4 := heap_lt hm4
  have hm5s := (cells_of hm5w).2
  have lm5s := (cells_of hm5w).1
  clear hown3
  go_wp2
  clear hm5s lm5s
  go_loopw [6, 7, 17] (fun _ _ i wr => ∃ k : Nat, k ≤ M.jobs.length ∧ i = .int .i64 k ∧ jobK.own w1.heap.size wr (.slice ca M.jobs.length ccap) (mixF (Job.exact false) M.jobs k) ∧ Below w1.heap.size w3 wr) (fun _ _ i _ => M.jobs.length - (intOf i).toNat)
  case atStart => exact ⟨0, by omega, rfl, by simpa [mixF] using hown3'.out, Below.refl _ _⟩
  case round =>
    obtain ⟨k, hkk, rfl, hrow, hbr⟩ := hrel
    have hm5r := (hbr.block _ lx5).trans hm5w
    obtain ⟨lxr, cxr⟩ := cells_of hm5r
    have hbr' := hid hbr
    have hlen6 := hlen'.out
    by_cases hlt : k < M.jobs.length
    · obtain ⟨g, cap', cur, e, hBg, hg, hc⟩ := hrow.block (fun e => by have := congrArg List.length e; rw [mixF_length _ hkk, List.length_nil] at this; omega)
      injection e with e1 e2 e3
      subst e1
      clear e2 e3 hbr
      have hxk := mixF_get (Job.exact false) hlt
      have hck : wr.cell? ⟨g, k * 8 + 1, none⟩ = some (.int .i64 (M.jobs.getD k Job.none).lo) := hc k _ hxk 1 _ rfl
      have hcd : wr.cell? ⟨g, k * 8 + 1 + 1, none⟩ = some (.int .i64 (M.jobs.getD k Job.none).hi) := hc k _ hxk 2 _ rfl
      generalize (M.jobs.getD k Job.none).hi = y at hcd
      have lg := (cells_of hg).1
      have zg := free_of hg
      have hrow' := hid hrow
      have hBg' := hid hBg
      clear hc hrow hg hBg
      obtain ⟨x, hx⟩ : ∃ x, (M.jobs.getD k Job.none).lo = x := ⟨_, rfl⟩
      rw [hx] at hck
      have hx' := hid hx
      have hxk' := hid hxk
      clear hx hxk
      have hki : (k : Int) < (M.jobs.length : Int) := by omega
      go_wp2
      go_roundw
      case rel =>
        refine ⟨k + 1, by omega, by go_num, ?_, hbr'.out.setCell hBg'.out _⟩
        rw [← mixF_set _ hlt, ← hx'.out]
        have hset : ∀ (j : Job), jobK.enc (j.exact false) = (jobK.enc j).set 2 (.int .i64 j.lo) := fun _ => rfl
        exact hrow'.out.put (k := k) (f := 2) (x := M.jobs.getD k Job.none) hxk'.out (show 2 < 8 by decide) (hset _)
      case measure => simp [intOf]; omega
    · obtain rfl : k = M.jobs.length := by omega
      rw [mixF_all] at hrow
      have hm4r := (hbr.block _ lx4).trans hm4w
      obtain ⟨l4, c4⟩ := cells_of hm4r
      have z4 := free_of hm4r
      have hbw := below_low hbr hb3 hb1.size
      have hm4z := heap_set_same (o := 1) (v := .slice ca M.jobs.length ccap) (heap_set_same (o := 0) (v := .slice sa M.setup.length scap) hm4r)
      have hownz := ((hrow.set (b := w.heap.size + 1) (o := 0) (u := .slice sa M.setup.length scap) lx4).set (b := w.heap.size + 1) (o := 1) (u := .slice ca M.jobs.length ccap) lx4).low hb1.size
      have hbz := below_set (below_set hbw (p := ⟨w.heap.size + 1, 0, none⟩) (.slice sa M.setup.length scap) (by simp only; omega)) (p := ⟨w.heap.size + 1, 1, none⟩) (.slice ca M.jobs.length ccap) (by simp only; omega)
      have hown9 := hid hownz
      have hb9 := hid hbz
      have cz := (cells_of hm4z).2
      clear hownz hbz hrow hbr hbw
      go_wp2
      refine bodyPost_ret (v := .agg #[.slice sa M.setup.length scap, .slice ca M.jobs.length ccap]) (by simp [results, Try.results35, go_sem, cz]) rfl ⟨_, _, rfl, hown9.out, hb9.out⟩

theorem exact_any (M : Mend) (most : Bool) (hlen : M.jobs.length ≤ 6) (sv jv : Value) (w : World) (hS : IntsAt w sv M.setup) (hJ : JobsAt w jv M.jobs) (hN : NilOk jv) :
    Calls Try.prog 35 #[.agg #[sv, jv], .bool most] w fun e w' => ∃ a cap, e = .returned (.agg #[sv, .slice a M.jobs.length cap]) ∧ jobK.own w.heap.size w' (.slice a M.jobs.length cap) (M.exact most).jobs ∧ Below w.heap.size w w' := by
  cases most
  · exact exact_false M hlen sv jv w hS hJ hN
  · exact exact_true M hlen sv jv w hS hJ hN

end Go.Proofs.Ytcgkglonnmkfcaa

namespace Go.Proofs.Ytcgkglonnmkfcaa
open Go.RowKit Go.Lap Go.Shelf

section
variable {ops : Array Oper} {Q : Exit → Act → World → Prop} {K : Act → World → Prop} {a : Act} {w : World} {ty : TypeId} {pos : String} {af : Array Edge}
theorem op_job1 {d x : Nat} {j : Job} (hx : a.eval (.tmp x) = jobV j) (h : K (a.put (some d) (.slice (some ⟨w.heap.size, 0, none⟩) 1 1)) (w.alloc (.cells (jobK.enc j).toArray 48))) :
    ({ dst := some d, op := .buildSlice 23 1 #[(0, .tmp x)], type := ty, pos := pos, after := af, guard := none } : Oper).wp Try.prog a w K Q := by
  have hr : (Instr.buildSlice 23 1 #[(0, jobV j)]).run Try.prog w = .ok (.slice (some ⟨w.heap.size, 0, none⟩) 1 1) (w.alloc (.cells (jobK.enc j).toArray 48)) := by
    go_simp
    rfl
  unfold Oper.wp
  simp only [execOp, List.map_toArray, List.map_cons, List.map_nil, hx, Sem.run_bind, hr]
  exact h
theorem op_store {t : TypeId} {x y : Operand} {w' : World} (hr : (execOp a.eval { dst := none, op := .store t x y, type := ty, pos := pos, after := af, guard := none }).run Try.prog w = .ok .skip w') (h : K (a.put none undef) w') :
    ({ dst := none, op := .store t x y, type := ty, pos := pos, after := af, guard := none } : Oper).wp Try.prog a w K Q := by
  unfold Oper.wp
  rw [hr]
  exact h
end
/-- What lies in memory while 'part' runs. -/
structure PartK (w : World) (sv jv : Value) (rb xb nb : Nat) (nums : List Int) (rv : Value) (L : List Job) (W : World) : Prop where
  bel : Below w.heap.size w W
  m : W.heap[w.heap.size]? = some (.cells #[sv, jv] 25 (0, 0))
  r : W.heap[rb]? = some (.cells #[.slice none 0 0, .slice none 0 0] 25 (0, 0))
  x : W.heap[xb]? = some (.cells #[sv, rv] 25 (0, 0))
  n : W.heap[nb]? = some (.cells (intsV nums) 98 (0, 0))
  own : jobK.own (nb + 1) W rv L
  lt : w.heap.size < rb ∧ rb < xb ∧ xb < nb
theorem hkeep {W W' : World} {g : Nat} {p : Obj} (h : W.heap[g]? = some p) (hb : Below W.heap.size W W') : W'.heap[g]? = some p := (hb.block _ (heap_lt h)).trans h
theorem PartK.below {w : World} {sv jv : Value} {rb xb nb : Nat} {nums : List Int} {rv : Value} {L : List Job} {W W' : World} (h : PartK w sv jv rb xb nb nums rv L W) (hb : Below W.heap.size W W') : PartK w sv jv rb xb nb nums rv L W' :=
  ⟨below_via hb h.bel, hkeep h.m hb, hkeep h.r hb, hkeep h.x hb, hkeep h.n hb, h.own.below hb, h.lt⟩
/-- A number is written. -/
theorem PartK.num {w : World} {sv jv : Value} {rb xb nb : Nat} {nums : List Int} {rv : Value} {L : List Job} {W : World} (h : PartK w sv jv rb xb nb nums rv L W) (i : Nat) (z : Int) : PartK w sv jv rb xb nb (nums.set i z) rv L (W.setCell ⟨nb, i, none⟩ (.int .i64 z)) := by
  obtain ⟨l1, l2, l3⟩ := h.lt
  have ho : ∀ b, b ≠ nb → (W.setCell ⟨nb, i, none⟩ (.int .i64 z)).heap[b]? = W.heap[b]? := fun b hb => Below.heap_setCell _ _ _ _ hb
  refine ⟨below_set h.bel _ (by simp only; omega), (ho _ (by omega)).trans h.m, (ho _ (by omega)).trans h.r, (ho _ (by omega)).trans h.x, ?_, h.own.set (by omega), h.lt⟩
  rw [heap_set_at h.n]
  congr 2
  simp [intsV, List.map_set]
/-- The row of jobs is another one. -/
theorem PartK.row {w : World} {sv jv : Value} {rb xb nb : Nat} {nums : List Int} {rv rv' : Value} {L L' : List Job} {W W' : World} (h : PartK w sv jv rb xb nb nums rv L W) (hb : Below (nb + 1) W W') (ho : jobK.own (nb + 1) W' rv' L') : PartK w sv jv rb xb nb nums rv' L' (W'.setCell ⟨xb, 1, none⟩ rv') := by
  obtain ⟨l1, l2, l3⟩ := h.lt
  have hs := heap_lt h.n
  have hk : ∀ b, b ≤ nb → ∀ o, W.heap[b]? = some o → W'.heap[b]? = some o := fun b hb2 o hb3 => (hb.block b (by omega)).trans hb3
  have hc : ∀ b, b ≠ xb → (W'.setCell ⟨xb, 1, none⟩ rv').heap[b]? = W'.heap[b]? := fun b hb => Below.heap_setCell _ _ _ _ hb
  refine ⟨below_set (h.bel.trans (hb.mono (by omega))) _ (by simp only; omega), (hc _ (by omega)).trans (hk _ (by omega) _ h.m), (hc _ (by omega)).trans (hk _ (by omega) _ h.r), ?_, (hc _ (by omega)).trans (hk _ (by omega) _ h.n), ho.set (by omega), h.lt⟩
  have := heap_set_same (o := 1) (v := rv') (hk xb (by omega) _ h.x)
  simpa using this

theorem PartK.put_row {w : World} {sv jv : Value} {rb xb nb g n cap i f : Nat} {nums : List Int} {L : List Job} {x x' : Job} {u : Value} {W : World} (h : PartK w sv jv rb xb nb nums (.slice (some ⟨g, 0, none⟩) n cap) L W) (hx : L[i]? = some x) (hf : f < 8) (he : jobK.enc x' = (jobK.enc x).set f u) :
    PartK w sv jv rb xb nb nums (.slice (some ⟨g, 0, none⟩) n cap) (L.set i x') (W.setCell ⟨g, i * 8 + f, none⟩ u) := by
  obtain ⟨l1, l2, l3⟩ := h.lt
  have hg : nb + 1 ≤ g := by
    obtain ⟨g', cap', cur, e, hb, _⟩ := h.own.block (fun e => by rw [e] at hx; simp at hx)
    cases e
    exact hb
  have ho : ∀ b, b ≤ nb → (W.setCell ⟨g, i * 8 + f, none⟩ u).heap[b]? = W.heap[b]? := fun b hb => Below.heap_setCell _ _ _ _ (by simp only; omega)
  exact ⟨below_set h.bel _ (by simp only; omega), (ho _ (by omega)).trans h.m, (ho _ (by omega)).trans h.r, (ho _ (by omega)).trans h.x, (ho _ (by omega)).trans h.n, h.own.put hx hf he, h.lt⟩

def numsL (left k : Nat) : List Int := (List.range 6).map fun i => if i < k ∧ left.testBit i = false then ((free i left : Nat) : Int) else 0
theorem numsL_zero (left : Nat) : numsL left 0 = [0, 0, 0, 0, 0, 0] := by simp [numsL, List.range_succ]
theorem numsL_len (left k : Nat) : (numsL left k).length = 6 := by simp [numsL]
theorem numsL_get (left k i : Nat) (hi : i < 6) : (numsL left k)[i]? = some (if i < k ∧ left.testBit i = false then ((free i left : Nat) : Int) else 0) := by
  unfold numsL; rw [List.getElem?_map, List.getElem?_range hi]; rfl
theorem numsL_set {left k : Nat} (h : left.testBit k = false) : (numsL left k).set k ((free k left : Nat) : Int) = numsL left (k + 1) := by
  refine List.ext_getElem? fun i => ?_
  by_cases hi : i < 6
  · rw [List.getElem?_set, numsL_get _ _ _ hi]
    by_cases e : k = i
    · subst e
      rw [if_pos rfl, numsL_get _ _ _ hi]
      simp [h, numsL_len, hi]
    · rw [if_neg e, numsL_get _ _ _ hi]
      have : (i < k + 1) ↔ i < k := by omega
      simp only [this]
  · rw [List.getElem?_eq_none (by simp [numsL_len]; omega), List.getElem?_eq_none (by rw [numsL_len]; omega)]
theorem numsL_skip {left k : Nat} (h : left.testBit k = true) : numsL left (k + 1) = numsL left k := by
  unfold numsL
  refine List.map_congr_left fun i _ => ?_
  by_cases e : i = k
  · subst e; simp [h]
  · have : (i < k + 1) ↔ i < k := by omega
    simp only [this]
/-- The jobs that are not left, of the first so many. -/
def actTo (left k : Nat) : List Nat := (List.range k).filter fun i => !left.testBit i
theorem actTo_len (left k : Nat) : (actTo left k).length = free k left := rfl
theorem actTo_go {left k : Nat} (h : left.testBit k = false) : actTo left (k + 1) = actTo left k ++ [k] := by simp [actTo, List.range_succ, h]
theorem actTo_skip {left k : Nat} (h : left.testBit k = true) : actTo left (k + 1) = actTo left k := by simp [actTo, List.range_succ, h]

set_option maxRecDepth 100000 in
set_option maxHeartbeats 4000000 in
theorem part_any (M : Mend) (hM : M.Ok) (left : Nat) (hl : left < 64) (sv jv : Value) (w : World) (hS : IntsAt w sv M.setup) (hJ : JobsAt w jv M.jobs) :
    Calls Try.prog 43 #[.agg #[sv, jv], .int .i64 (left : Int)] w fun e w' => ∃ a cap, e = .returned (.agg #[sv, .slice a (free M.jobs.length left) cap]) ∧ jobK.own w.heap.size w' (.slice a (free M.jobs.length left) cap) (M.part left).jobs ∧ Below w.heap.size w w' := by
  obtain ⟨sa, scap, rfl, _⟩ := hS
  have hJ' := hid hJ
  obtain ⟨ja, jcap, rfl, _⟩ := hJ
  have hM' := hid hM
  have hM6 := hM.len
  clear hM
  go_enter Try.func43, Try.ntmps43
  go_upto_region 4 with fail
  obtain ⟨wz, hwz⟩ : ∃ wz, (((w.alloc (.cells #[.slice sa M.setup.length scap, .slice ja M.jobs.length jcap] 25)).alloc (.cells #[.slice none 0 0, .slice none 0 0] 25)).alloc (.cells #[.slice sa M.setup.length scap, .slice none 0 0] 25)).alloc (.cells #[.int .i64 0, .int .i64 0, .int .i64 0, .int .i64 0, .int .i64 0, .int .i64 0] 98) = wz := ⟨_, rfl⟩
  have hk0 : PartK w (.slice sa M.setup.length scap) (.slice ja M.jobs.length jcap) (w.heap.size + 1) (w.heap.size + 1 + 1) (w.heap.size + 1 + 1 + 1) (numsL left 0) (.slice none 0 0) [] wz := by
    subst hwz
    refine ⟨below_alloc (below_alloc (below_alloc (below_alloc (Below.refl _ _) _) _) _) _, alloc_old (by simp; try omega) (alloc_old (by simp; try omega) (alloc_old (by simp) (alloc_at rfl))), alloc_old (by simp; try omega) (alloc_old (by simp) (alloc_at (by simp))), alloc_old (by simp) (alloc_at (by simp)), ?_, jobK.own_nil _ _, by omega⟩
    rw [numsL_zero]
    exact alloc_at (by simp)
  rw [hwz]
  clear hwz
  obtain ⟨rb, hrb⟩ : ∃ rb, w.heap.size + 1 = rb := ⟨_, rfl⟩
  rw [hrb] at hk0 ⊢
  obtain ⟨xb, hxb⟩ : ∃ xb, rb + 1 = xb := ⟨_, rfl⟩
  rw [hxb] at hk0 ⊢
  obtain ⟨nb, hnb⟩ : ∃ nb, xb + 1 = nb := ⟨_, rfl⟩
  rw [hnb] at hk0 ⊢
  clear hrb hxb hnb
  have lm := (cells_of hk0.m).1
  have cm := (cells_of hk0.m).2
  have hk0' := hid hk0
  clear hk0
  go_wp2
  clear lm cm
  go_loopw [16] (fun ix wr => ∃ k : Nat, k ≤ M.jobs.length ∧ ix = .int .i64 k ∧ ∃ rv, Hid (PartK w (.slice sa M.setup.length scap) (.slice ja M.jobs.length jcap) rb xb nb (numsL left k) rv ((actTo left k).map M.job) wr)) (fun ix _ => M.jobs.length - (intOf ix).toNat)
  case atStart => exact ⟨0, by omega, rfl, _, hk0'⟩
  case round =>
    obtain ⟨k, hkk, rfl, rv, hk⟩ := hrel
    by_cases hlt : k < M.jobs.length
    · have hki : (k : Int) < (M.jobs.length : Int) := by omega
      have hk6 : (k : Int) < 6 := by omega
      have hsb := shr_bit (show (0 : Int) ≤ (left : Int) by omega) k
      rw [Int.toNat_natCast] at hsb
      obtain ⟨t, ht⟩ : ∃ t, left.testBit k = t := ⟨_, rfl⟩
      rw [ht] at hsb
      have ht' := hid ht
      clear ht
      cases t
      · have hsb : (left : Int) / 2 ^ k % 2 = 0 := by simpa using hsb
        have hjob := hJ'.out
        obtain ⟨a', cap', e1, hjc⟩ := hjob
        injection e1 with e1 e2 e3
        subst e1
        subst e3
        clear e2
        obtain ⟨jb, jo, rfl, hjq⟩ := hjc (fun e => by rw [e] at hlt; simp at hlt)
        obtain ⟨j, hj⟩ : ∃ j, M.job k = j := ⟨_, rfl⟩
        have hc0 := hjq k hlt 0 (by decide)
        have hc1 := hjq k hlt 1 (by decide)
        have hc2 := hjq k hlt 2 (by decide)
        have hc3 := hjq k hlt 3 (by decide)
        have hc4 := hjq k hlt 4 (by decide)
        have hc5 := hjq k hlt 5 (by decide)
        have hc6 := hjq k hlt 6 (by decide)
        have hc7 := hjq k hlt 7 (by decide)
        rw [show M.jobs.getD k Job.none = j from hj] at hc0 hc1 hc2 hc3 hc4 hc5 hc6 hc7
        simp only [Job.cells, List.getD_cons_zero, List.getD_cons_succ, Nat.add_zero] at hc0 hc1 hc2 hc3 hc4 hc5 hc6 hc7
        have ljb := cell_lt hc0
        have hj' := hid hj
        clear hj hjq
        have hrl : ∃ ra rcap, rv = .slice ra (free k left) rcap := by
          obtain ⟨ra, rcap, e, _⟩ := hk.out.own.at
          exact ⟨ra, rcap, by rw [e, List.length_map, actTo_len]⟩
        obtain ⟨ra, rcap, rfl⟩ := hrl
        have lx := (cells_of hk.out.x).1
        have cx := (cells_of hk.out.x).2
        have ln := (cells_of hk.out.n).1
        have zn := free_of hk.out.n
        have cn := (cells_of hk.out.n).2
        have hnl : (intsV (numsL left k)).size = 6 := by simp [intsV, numsL_len]
        have hcn : wr.cell? ⟨nb, k, none⟩ = some (.int .i64 ((numsL left k).getD k 0)) := by
          rw [cn k]
          have h6 : k < 6 := by omega
          simp [intsV, numsL_get left k k h6, List.getD_eq_getElem?_getD]
        have hk1 := hk.out.num k ((free k left : Nat) : Int)
        rw [numsL_set ht'.out] at hk1
        have hk1 := hid hk1
        clear cn
        go_upto_region 9 with fail
        generalize wr.setCell ⟨nb, k, none⟩ (.int .i64 ((free k left : Nat) : Int)) = W1 at hk1 ⊢
        refine wp_region_inv2 (fun d vals W => QJ (fun i => match i with | 0 => some (.pointer (some ⟨xb, 1, none⟩)) | 1 => some (.slice ra (free k left) rcap) | 2 => some (.pointer (some ⟨w.heap.size, 1, none⟩)) | 3 => some (.slice (some ⟨jb, jo, none⟩) M.jobs.length jcap) | 4 => some (.int .i64 (k : Int)) | 5 => some (.pointer (some ⟨jb, jo + k * 8, none⟩)) | 6 => some (.agg #[.int .i64 j.kind, .int .i64 j.lo, .int .i64 j.hi, .int .i64 j.from_, .int .i64 j.soft, .int .i64 j.by_, .int .i64 j.cost, .int .i64 j.after]) | 9 => some (.pointer (some ⟨xb, 1, none⟩)) | _ => none) d vals ∧ RowX jobK W1 (nb + 1) ((actTo left k).map M.job) j 7 8 10 (fun W' => ∃ rv', PartK w (.slice sa M.setup.length scap) (.slice (some ⟨jb, jo, none⟩) M.jobs.length jcap) rb xb nb (numsL left (k + 1)) rv' ((actTo left (k + 1)).map M.job) W') d vals W) (by kernel_rfl) (by kernel_rfl) (by kernel_rfl) ⟨QJ.start _ _, RowX.start⟩ ?_ ?_
        · intro q o d vals a W ho hd hdep hcl hev hnd hold hJ
          have hi := (Array.getElem?_eq_some_iff.1 ho).1
          have c10_8 : d 10 = true → d 8 = true := fun h => hcl 10 _ rfl h { on := 8, ground := Ground.data } (by simp) rfl
          have c10_9 : d 10 = true → d 9 = true := fun h => hcl 10 _ rfl h { on := 9, ground := Ground.data } (by simp) rfl
          have c8_1 : d 8 = true → d 1 = true := fun h => hcl 8 _ rfl h { on := 1, ground := Ground.data } (by simp) rfl
          have c8_7 : d 8 = true → d 7 = true := fun h => hcl 8 _ rfl h { on := 7, ground := Ground.data } (by simp) rfl
          have c7_6 : d 7 = true → d 6 = true := fun h => hcl 7 _ rfl h { on := 6, ground := Ground.data } (by simp) rfl
          have c6_5 : d 6 = true → d 5 = true := fun h => hcl 6 _ rfl h { on := 5, ground := Ground.data } (by simp) rfl
          have c5_3 : d 5 = true → d 3 = true := fun h => hcl 5 _ rfl h { on := 3, ground := Ground.data } (by simp) rfl
          rcases q with _ | _ | _ | _ | _ | _ | _ | _ | _ | _ | _ | q
          · obtain rfl := Option.some.inj ho
            have e0 : a.eval (.tmp (5 : Nat)) = .pointer (some ⟨xb, 0, none⟩) := (hold 5 (by kernel_rfl)).trans rfl
            exact wpOp_at rfl rfl (op_quiet (v := .pointer (some ⟨xb, 1, none⟩)) (by simp only [execOp, e0]; go_simp) ⟨_, rfl, hJ.1.set (by intro u hu; cases hu; rfl), hJ.2.pure (by decide)⟩)
          · obtain rfl := Option.some.inj ho
            have e0 : a.eval (.tmp (29 : Nat)) = .pointer (some ⟨xb, 1, none⟩) := (hev 0 29 rfl (hdep { on := 0, ground := Ground.data } (by simp) rfl)).trans (hJ.1.get (hdep { on := 0, ground := Ground.data } (by simp) rfl) rfl)
            have d8 : d 8 = false := not_done c8_1 hd
            have hbW := hJ.2.b d8 (not_done c10_8 d8)
            have hm2 := hkeep hk1.out.x hbW
            have lm2 := (cells_of hm2).1
            have cm2 := (cells_of hm2).2
            exact wpOp_at rfl rfl (op_quiet (v := .slice ra (free k left) rcap) (by simp only [execOp, e0]; go_simp) ⟨_, rfl, hJ.1.set (by intro u hu; cases hu; rfl), hJ.2.pure (by decide)⟩)
          · obtain rfl := Option.some.inj ho
            have e0 : a.eval (.tmp (2 : Nat)) = .pointer (some ⟨w.heap.size, 0, none⟩) := (hold 2 (by kernel_rfl)).trans rfl
            exact wpOp_at rfl rfl (op_quiet (v := .pointer (some ⟨w.heap.size, 1, none⟩)) (by simp only [execOp, e0]; go_simp) ⟨_, rfl, hJ.1.set (by intro u hu; cases hu; rfl), hJ.2.pure (by decide)⟩)
          · obtain rfl := Option.some.inj ho
            have e0 : a.eval (.tmp (31 : Nat)) = .pointer (some ⟨w.heap.size, 1, none⟩) := (hev 2 31 rfl (hdep { on := 2, ground := Ground.data } (by simp) rfl)).trans (hJ.1.get (hdep { on := 2, ground := Ground.data } (by simp) rfl) rfl)
            have d8 : d 8 = false := not_done c8_7 (not_done c7_6 (not_done c6_5 (not_done c5_3 hd)))
            have hbW := hJ.2.b d8 (not_done c10_8 d8)
            have hm2 := hkeep hk1.out.m hbW
            have lm2 := (cells_of hm2).1
            have cm2 := (cells_of hm2).2
            exact wpOp_at rfl rfl (op_quiet (v := .slice (some ⟨jb, jo, none⟩) M.jobs.length jcap) (by simp only [execOp, e0]; go_simp) ⟨_, rfl, hJ.1.set (by intro u hu; cases hu; rfl), hJ.2.pure (by decide)⟩)
          · obtain rfl := Option.some.inj ho
            have e0 : a.eval (.tmp (7 : Nat)) = .int .i64 (k : Int) := (hold 7 (by kernel_rfl)).trans rfl
            exact wpOp_at rfl rfl (op_quiet (v := .int .i64 (k : Int)) (by simp only [execOp, e0]; go_simp) ⟨_, rfl, hJ.1.set (by intro u hu; cases hu; rfl), hJ.2.pure (by decide)⟩)
          · obtain rfl := Option.some.inj ho
            have e0 : a.eval (.tmp (32 : Nat)) = .slice (some ⟨jb, jo, none⟩) M.jobs.length jcap := (hev 3 32 rfl (hdep { on := 3, ground := Ground.data } (by simp) rfl)).trans (hJ.1.get (hdep { on := 3, ground := Ground.data } (by simp) rfl) rfl)
            have e1 : a.eval (.tmp (33 : Nat)) = .int .i64 (k : Int) := (hev 4 33 rfl (hdep { on := 4, ground := Ground.data } (by simp) rfl)).trans (hJ.1.get (hdep { on := 4, ground := Ground.data } (by simp) rfl) rfl)
            exact wpOp_at rfl rfl (op_quiet (v := .pointer (some ⟨jb, jo + k * 8, none⟩)) (by simp only [execOp, e0, e1]; go_simp) ⟨_, rfl, hJ.1.set (by intro u hu; cases hu; rfl), hJ.2.pure (by decide)⟩)
          · obtain rfl := Option.some.inj ho
            have e0 : a.eval (.tmp (34 : Nat)) = .pointer (some ⟨jb, jo + k * 8, none⟩) := (hev 5 34 rfl (hdep { on := 5, ground := Ground.data } (by simp) rfl)).trans (hJ.1.get (hdep { on := 5, ground := Ground.data } (by simp) rfl) rfl)
            have d8 : d 8 = false := not_done c8_7 (not_done c7_6 hd)
            have hbW := hJ.2.b d8 (not_done c10_8 d8)
            have hbw := hk1.out.bel.trans (hbW.mono hk1.out.bel.size)
            have ljb2 := Nat.lt_of_lt_of_le ljb hbw.size
            have hc0' := (hbw.cell (p := ⟨jb, jo + k * 8, none⟩) ljb).trans hc0
            have hc1' := (hbw.cell (p := ⟨jb, jo + k * 8 + 1, none⟩) ljb).trans hc1
            have hc2' := (hbw.cell (p := ⟨jb, jo + k * 8 + 2, none⟩) ljb).trans hc2
            have hc3' := (hbw.cell (p := ⟨jb, jo + k * 8 + 3, none⟩) ljb).trans hc3
            have hc4' := (hbw.cell (p := ⟨jb, jo + k * 8 + 4, none⟩) ljb).trans hc4
            have hc5' := (hbw.cell (p := ⟨jb, jo + k * 8 + 5, none⟩) ljb).trans hc5
            have hc6' := (hbw.cell (p := ⟨jb, jo + k * 8 + 6, none⟩) ljb).trans hc6
            have hc7' := (hbw.cell (p := ⟨jb, jo + k * 8 + 7, none⟩) ljb).trans hc7
            exact wpOp_at rfl rfl (op_quiet (v := .agg #[.int .i64 j.kind, .int .i64 j.lo, .int .i64 j.hi, .int .i64 j.from_, .int .i64 j.soft, .int .i64 j.by_, .int .i64 j.cost, .int .i64 j.after]) (by simp only [execOp, e0]; go_simp) ⟨_, rfl, hJ.1.set (by intro u hu; cases hu; rfl), hJ.2.pure (by decide)⟩)
          · obtain rfl := Option.some.inj ho
            have d8 : d 8 = false := not_done c8_7 hd
            exact wpOp_at rfl rfl (op_job1 ((hev 6 35 rfl (hdep { on := 6, ground := Ground.data } (by simp) rfl)).trans (hJ.1.get (hdep { on := 6, ground := Ground.data } (by simp) rfl) rfl)) ⟨_, rfl, hJ.1.set (by intro u hu; cases hu), hJ.2.made (by decide : [7, 8, 10].Nodup) d8 (not_done c10_8 d8) rfl⟩)
          · obtain rfl := Option.some.inj ho
            have d10 : d 10 = false := not_done c10_8 hd
            refine wpOp_at rfl rfl (Oper.wp_mono ?_ (hJ.2.grow (by decide : [7, 8, 10].Nodup) (hdep { on := 7, ground := Ground.data } (by simp) rfl) hd d10 hk1.out.own (heap_lt hk1.out.n) (by rw [List.length_map, actTo_len]; have := free_le k left; omega) _ _ rfl ((hev 1 30 rfl (hdep { on := 1, ground := Ground.data } (by simp) rfl)).trans (hJ.1.get (hdep { on := 1, ground := Ground.data } (by simp) rfl) rfl)) (hev 7 36 rfl (hdep { on := 7, ground := Ground.data } (by simp) rfl))))
            rintro a' W' ⟨v, rfl, hX⟩
            exact ⟨v, rfl, hJ.1.set (by intro u hu; cases hu), hX⟩
          · obtain rfl := Option.some.inj ho
            have e0 : a.eval (.tmp (5 : Nat)) = .pointer (some ⟨xb, 0, none⟩) := (hold 5 (by kernel_rfl)).trans rfl
            exact wpOp_at rfl rfl (op_quiet (v := .pointer (some ⟨xb, 1, none⟩)) (by simp only [execOp, e0]; go_simp) ⟨_, rfl, hJ.1.set (by intro u hu; cases hu; rfl), hJ.2.pure (by decide)⟩)
          · obtain rfl := Option.some.inj ho
            have d8 : d 8 = true := (hdep { on := 8, ground := Ground.data } (by simp) rfl)
            obtain ⟨hown, hbW⟩ := hJ.2.s2 d8 hd
            have e8 : a.eval (.tmp (37 : Nat)) = vals 8 := hev 8 37 rfl d8
            have e9 : a.eval (.tmp (38 : Nat)) = .pointer (some ⟨xb, 1, none⟩) := (hev 9 38 rfl (hdep { on := 9, ground := Ground.data } (by simp) rfl)).trans (hJ.1.get (hdep { on := 9, ground := Ground.data } (by simp) rfl) rfl)
            obtain ⟨va, vcap, ev8, _⟩ := hown.at
            rw [show ((actTo left k).map M.job ++ [j]).length = (actTo left k).length + 1 by simp] at ev8
            have hown2 := hown
            rw [ev8] at e8 hown2
            have hm2 := (hbW.block xb (by have := hk1.out.lt; omega)).trans hk1.out.x
            have lm2 := (cells_of hm2).1
            have cm2 := (cells_of hm2).2
            have zm2 := free_of hm2
            have hfin := hk1.out.row hbW hown2
            refine wpOp_at rfl rfl (op_store (w' := W.setCell ⟨xb, 1, none⟩ (.slice va ((actTo left k).length + 1) vcap)) (by simp only [execOp, e8, e9]; go_simp) ⟨undef, rfl, hJ.1.set (by intro u hu; cases hu), hJ.2.end (by decide : [7, 8, 10].Nodup) d8 ⟨.slice va ((actTo left k).length + 1) vcap, ?_⟩⟩)
            rw [actTo_go ht'.out, List.map_append, List.map_singleton, hj'.out]
            exact hfin
          · simp at hi
            omega
        · rintro d vals W hall hJ
          obtain ⟨rv', hfin⟩ := hJ.2.s3 (hall 10 (by simp))
          have q0 := hJ.1.get (hall 0 (by simp)) rfl
          have q1 := hJ.1.get (hall 1 (by simp)) rfl
          have q2 := hJ.1.get (hall 2 (by simp)) rfl
          have q3 := hJ.1.get (hall 3 (by simp)) rfl
          have q4 := hJ.1.get (hall 4 (by simp)) rfl
          have q5 := hJ.1.get (hall 5 (by simp)) rfl
          have q6 := hJ.1.get (hall 6 (by simp)) rfl
          have q9 := hJ.1.get (hall 9 (by simp)) rfl
          clear hJ hall
          change Exit.inBlock _ _ Exit.normal (Act.put (Act.put (Act.put (Act.put (Act.put (Act.put (Act.put (Act.put (Act.put (Act.put (Act.put _ (some 29) (vals 0)) (some 30) (vals 1)) (some 31) (vals 2)) (some 32) (vals 3)) (some 33) (vals 4)) (some 34) (vals 5)) (some 35) (vals 6)) (some 36) (vals 7)) (some 37) (vals 8)) (some 38) (vals 9)) none (vals 10)) W
          simp only [Act.put, List.setIfInBounds_toArray, List.set_cons_zero, List.set_cons_succ]
          clear q0
          generalize vals 0 = x0
          clear q1
          generalize vals 1 = x1
          clear q2
          generalize vals 2 = x2
          clear q3
          generalize vals 3 = x3
          clear q4
          generalize vals 4 = x4
          clear q5
          generalize vals 5 = x5
          clear q6
          generalize vals 6 = x6
          generalize vals 7 = x7
          generalize vals 8 = x8
          clear q9
          generalize vals 9 = x9
          have hfin' := hid hfin
          clear hfin
          go_wp2
          go_roundw
          case rel => exact ⟨k + 1, by omega, by go_num, rv', hfin'⟩
          case measure => simp [intOf]; omega
      · have hsb : (left : Int) / 2 ^ k % 2 = 1 := by simpa using hsb
        go_wp2
        go_roundw
        case rel => exact ⟨k + 1, by omega, by go_num, rv, hid (by rw [numsL_skip ht'.out, actTo_skip ht'.out]; exact hk.out)⟩
        case measure => simp [intOf]; omega
    · obtain rfl : k = M.jobs.length := by omega
      have hrl : ∃ ra rcap, rv = .slice ra (free M.jobs.length left) rcap := by
        obtain ⟨ra, rcap, e, _⟩ := hk.out.own.at
        exact ⟨ra, rcap, by rw [e, List.length_map, actTo_len]⟩
      obtain ⟨ra, rcap, rfl⟩ := hrl
      obtain ⟨A, hA⟩ : ∃ A, (actTo left M.jobs.length).map M.job = A := ⟨_, rfl⟩
      rw [hA] at hk
      have hAl : A.length = free M.jobs.length left := by rw [← hA, List.length_map, actTo_len]
      have hFn := free_le M.jobs.length left
      obtain ⟨F, hF⟩ : ∃ F, free M.jobs.length left = F := ⟨_, rfl⟩
      rw [hF] at hk hAl hFn
      have hAm : ∀ j, j ∈ A → ∃ i, i < M.jobs.length ∧ j = M.job i := fun j hj => by
        rw [← hA] at hj
        obtain ⟨i, hi, rfl⟩ := List.mem_map.1 hj
        simp only [actTo, List.mem_filter, List.mem_range] at hi
        exact ⟨i, hi.1, rfl⟩
      have hAm := hid hAm
      have hfinal : A.map (partJob M.jobs.length left) = (M.part left).jobs := by rw [← hA, List.map_map]; rfl
      have hfinal := hid hfinal
      have hF' := hid hF
      clear hA hF
      have lx := (cells_of hk.out.x).1
      have cx := (cells_of hk.out.x).2
      go_wp2
      clear lx cx
      go_loopw [43] (fun ix wr => ∃ i : Nat, i ≤ F ∧ ix = .int .i64 i ∧ Hid (PartK w (.slice sa M.setup.length scap) (.slice ja M.jobs.length jcap) rb xb nb (numsL left M.jobs.length) (.slice ra F rcap) (mixF (partJob M.jobs.length left) A i) wr)) (fun ix _ => F - (intOf ix).toNat)
      case atStart => exact ⟨0, by omega, rfl, by simpa [mixF] using hk⟩
      case round =>
        obtain ⟨i, hiF, rfl, hk2⟩ := hrel
        clear hk
        by_cases hlt2 : i < F
        · have hii : (i : Int) < (F : Int) := by omega
          have lm := (cells_of hk2.out.m).1
          have cm := (cells_of hk2.out.m).2
          have lx := (cells_of hk2.out.x).1
          have cx := (cells_of hk2.out.x).2
          have ln := (cells_of hk2.out.n).1
          have cn := (cells_of hk2.out.n).2
          have hi2 : i < A.length := by omega
          obtain ⟨g, cap', cur, e, hBg, hg, hc⟩ := hk2.out.own.block (fun e => by have := congrArg List.length e; rw [mixF_length _ (by omega), List.length_nil] at this; omega)
          rw [mixF_length _ (by omega), hAl] at e
          injection e with e1 e2 e3
          subst e1
          subst e3
          clear e2
          have hxk := mixF_get (partJob M.jobs.length left) hi2
          obtain ⟨j, hj⟩ : ∃ j, A.getD i Job.none = j := ⟨_, rfl⟩
          rw [hj] at hxk
          have hca : wr.cell? ⟨g, i * 8 + 6 + 1, none⟩ = some (.int .i64 j.after) := hc i _ hxk 7 _ rfl
          have hjm : j ∈ A := by rw [← hj, List.getD_eq_getElem?_getD, List.getElem?_eq_getElem hi2]; exact List.getElem_mem _
          obtain ⟨q, hq, hjq⟩ := hAm.out j hjm
          have haf := hM'.out.after q hq
          rw [← hjq] at haf
          have lg := (cells_of hg).1
          have zg := free_of hg
          have hmix := mixF_set (partJob M.jobs.length left) hi2
          rw [hj] at hmix
          have hmix := hid hmix
          have hxk := hid hxk
          have hBg := hid hBg
          have hcn : ∀ k, k < M.jobs.length → left.testBit k = false → wr.cell? ⟨nb, k, none⟩ = some (.int .i64 ((free k left : Nat) : Int)) := fun k hk3 hb => by
            rw [cn k]
            simp [intsV, numsL_get left M.jobs.length k (by omega), hk3, hb]
          have hcn := hid hcn
          have hcn0 : ∀ k, k < 6 → ∃ v, wr.cell? ⟨nb, k, none⟩ = some v := fun k hk3 => by
            rw [cn k]
            simp [intsV, numsL_get left M.jobs.length k hk3]
          obtain ⟨af, haf0⟩ : ∃ af : Nat, j.after = (af : Int) := ⟨j.after.toNat, by omega⟩
          rw [haf0] at hca haf
          have haf6 : af < 64 := by
            have h2 : (2 : Int) ^ M.jobs.length ≤ 2 ^ 6 := two_pow_le hM6
            have : (2 : Int) ^ 6 = 64 := by decide
            omega
          have haf0 := hid haf0
          clear hc hj hjm hq hjq hg haf cn hcn0
          go_wp2
          clear lm cm
          go_loopw [9, 49] (fun av ix wr3 => ∃ k : Nat, k ≤ M.jobs.length ∧ ix = .int .i64 k ∧ av = .int .i64 ((renTo left af k : Nat) : Int) ∧ wr = wr3) (fun _ ix _ => M.jobs.length - (intOf ix).toNat)
          case atStart => exact ⟨0, by omega, rfl, rfl, rfl⟩
          case round =>
            obtain ⟨k, hkk, rfl, rfl, rfl⟩ := hrel
            have hr64 : renTo left af k < 64 := by
              refine Nat.lt_pow_two_of_testBit (n := 6) _ fun j hj => ?_
              cases h : (renTo left af k).testBit j
              · rfl
              · obtain ⟨q, h1, h2, h3, h4⟩ := (renTo_bit _ _ _ _).1 h
                have := free_le q left
                omega
            have hst := renTo_succ left af k
            obtain ⟨ac, hac⟩ : ∃ ac, renTo left af k = ac := ⟨_, rfl⟩
            rw [hac] at hr64 hst ⊢
            by_cases hlt3 : k < M.jobs.length
            · have hki : (k : Int) < (M.jobs.length : Int) := by omega
              have hk6 : (k : Int) < 6 := by omega
              have hsb := shr_bit (show (0 : Int) ≤ (left : Int) by omega) k
              have hsa := shr_bit (show (0 : Int) ≤ (af : Int) by omega) k
              rw [Int.toNat_natCast] at hsb hsa
              obtain ⟨t1, ht1⟩ : ∃ t, af.testBit k = t := ⟨_, rfl⟩
              obtain ⟨t2, ht2⟩ : ∃ t, left.testBit k = t := ⟨_, rfl⟩
              rw [ht1] at hsa hst
              rw [ht2] at hsb hst
              have ht2' := hid ht2
              have hst' := hid hst
              clear ht1 ht2 hst hac
              cases t1
              · have hsa : (af : Int) / 2 ^ k % 2 = 0 := by simpa using hsa
                have he := hid (show renTo left af (k + 1) = ac from hst'.out)
                go_wp2
                go_roundw
                case rel => exact ⟨k + 1, by omega, by go_num, by rw [he.out], by simp⟩
                case measure => simp [intOf]; omega
              · have hsa : (af : Int) / 2 ^ k % 2 = 1 := by simpa using hsa
                cases t2
                · have hsb : (left : Int) / 2 ^ k % 2 = 0 := by simpa using hsb
                  have he := hid (show renTo left af (k + 1) = ac ||| 2 ^ free k left from hst'.out)
                  have hnk := hcn.out k hlt3 ht2'.out
                  have hf6 : free k left < 6 := by have := free_le k left; omega
                  obtain ⟨f, hf⟩ : ∃ f, free k left = f := ⟨_, rfl⟩
                  rw [hf] at hnk he hf6
                  clear hf
                  have hf62 : (f : Int) ≤ 62 := by omega
                  have hp6 : 2 ^ f < 64 := Nat.lt_of_lt_of_le (Nat.pow_lt_pow_right (by decide) hf6) (by decide)
                  have hpi : (2 : Int) ^ f = ((2 ^ f : Nat) : Int) := by simp
                  have hor := (Go.Lap.bits_nat ac (2 ^ f) (by omega) (by omega)).2.1
                  obtain ⟨pw, hpw⟩ : ∃ pw, 2 ^ f = pw := ⟨_, rfl⟩
                  rw [hpw] at hpi hor he hp6
                  have hwr : IntKind.i64.wrap ((2 : Int) ^ f) = (pw : Int) := by rw [hpi]; exact IntWalk.i64_in _ (by omega)
                  have hwr2 : wrap64 ((2 : Int) ^ f) = (pw : Int) := by rw [hpi]; exact IntWalk.wrap64_in _ (by omega)
                  obtain ⟨na, hna⟩ : ∃ na, ac ||| pw = na := ⟨_, rfl⟩
                  rw [hna] at hor he
                  clear hpi hpw hna
                  go_wp2
                  go_roundw
                  case rel => exact ⟨k + 1, by omega, by go_num, by rw [he.out], by simp⟩
                  case measure => simp [intOf]; omega
                · have hsb : (left : Int) / 2 ^ k % 2 = 1 := by simpa using hsb
                  have he := hid (show renTo left af (k + 1) = ac from hst'.out)
                  go_wp2
                  go_roundw
                  case rel => exact ⟨k + 1, by omega, by go_num, by rw [he.out], by simp⟩
                  case measure => simp [intOf]; omega
            · obtain rfl : k = M.jobs.length := by omega
              have hset : jobK.enc (partJob M.jobs.length left j) = (jobK.enc j).set 7 (.int .i64 (ac : Int)) := by
                have : (j.after).toNat = af := by rw [haf0.out]; simp
                simp only [partJob, this, hac]
                rfl
              have hk4 := hk2.out.put_row (i := i) (f := 7) hxk.out (show 7 < 8 by decide) hset
              rw [hmix.out] at hk4
              have hk4 := hid hk4
              clear hst hac hset
              go_wp2
              go_roundw
              case rel => exact ⟨i + 1, by omega, by go_num, hk4⟩
              case measure => simp [intOf]; omega
        · obtain rfl : i = F := by omega
          have hk3 := hk2.out
          rw [show mixF (partJob M.jobs.length left) A i = A.map (partJob M.jobs.length left) from by rw [← hAl]; exact mixF_all _ _, hfinal.out] at hk3
          have hk3 := hid hk3
          obtain ⟨l1, l2, l3⟩ := hk3.out.lt
          have lx := (cells_of hk3.out.x).1
          have cx := (cells_of hk3.out.x).2
          have lr := (cells_of hk3.out.r).1
          have cr := (cells_of hk3.out.r).2
          have zr := free_of hk3.out.r
          have hrz := heap_set_same (o := 1) (v := .slice ra i rcap) (heap_set_same (o := 0) (v := .slice sa M.setup.length scap) hk3.out.r)
          have hownz := hid (((hk3.out.own.set (b := rb) (o := 0) (u := .slice sa M.setup.length scap) (by omega)).set (b := rb) (o := 1) (u := .slice ra i rcap) (by omega)).low (show w.heap.size ≤ nb + 1 by omega))
          have hbz := hid (below_set (below_set hk3.out.bel (p := ⟨rb, 0, none⟩) (.slice sa M.setup.length scap) (by simp only; omega)) (p := ⟨rb, 1, none⟩) (.slice ra i rcap) (by simp only; omega))
          have cz := (cells_of hrz).2
          clear hrz
          go_wp2
          refine bodyPost_ret (v := .agg #[.slice sa M.setup.length scap, .slice ra i rcap]) (by simp [results, Try.results43, go_sem, cz]) rfl ⟨ra, rcap, by rw [hF'.out], by rw [hF'.out]; exact hownz.out, hbz.out⟩
end Go.Proofs.Ytcgkglonnmkfcaa

namespace Go.Proofs.Ytcgkglonnmkfcaa
open Go.RowKit Go.Lap Go.Shelf

set_option maxRecDepth 100000 in
set_option maxHeartbeats 4000000 in
theorem can_any (M : Mend) (hv : M.valid = true) (left : Nat) (hl : left < 64) (mb : Nat) (sv jv : Value) (w : World) (hm : w.heap[mb]? = some (.cells #[sv, jv] 25 (0, 0))) (hS : IntsAt w sv M.setup) (hJ : JobsAt w jv M.jobs) :
    Calls Try.prog 42 #[.int .i64 (left : Int), .pointer (some ⟨mb, 0, none⟩)] w fun e w' => e = .returned (.bool (canB M left)) ∧ Below w.heap.size w w' := by
  have hP := hid (part_any M (Mend.valid_ok hv) left hl sv jv w hS hJ)
  obtain ⟨hcn, hcb⟩ := part_can hv left
  rw [← hcb]
  have hS' := hid hS
  have hC := hid (fun W a cap (h : Below w.heap.size w W) (hj : JobsAt W (.slice a (free M.jobs.length left) cap) (M.part left).jobs) => (show Calls Try.prog 20 #[.agg #[sv, .slice a (free M.jobs.length left) cap]] W fun e w' => e = .returned (.tuple #[.int .i64 ((ordersL (M.part left) 0).length : Int), .int .i64 0]) ∧ Below W.heap.size W w' from by
    have := Count_any (M.part left) sv (.slice a (free M.jobs.length left) cap) W (hS.below h) hj
    rwa [hcn] at this))
  obtain ⟨sa, scap, rfl, _⟩ := hS
  obtain ⟨ja, jcap, rfl, _⟩ := hJ
  obtain ⟨F, hF⟩ : ∃ F, free M.jobs.length left = F := ⟨_, rfl⟩
  rw [hF] at hC hP
  obtain ⟨K, hK⟩ : ∃ K, (ordersL (M.part left) 0).length = K := ⟨_, rfl⟩
  rw [hK] at hC ⊢
  clear hF hK hcn hcb
  have lm := (cells_of hm).1
  have cm := (cells_of hm).2
  clear hm
  rw [show decide ((0 : Int) < (K : Int)) = decide (0 < K) by simp]
  go_enter Try.func42, Try.ntmps42
  go_wp2_with (first | (go_at_call 43; with_reducible refine hP.out.mono ?_; rintro e w2 ⟨a, cap, rfl, ho, hb2⟩; have hC2 := hid (hC.out w2 a cap hb2 (jobs_at.2 ho.at))) | (go_at_call 20; with_reducible refine hC2.out.mono ?_; rintro e w3 ⟨rfl, hb3⟩))
  go_ret
  exact ⟨rfl, below_via hb3 hb2⟩
end Go.Proofs.Ytcgkglonnmkfcaa
