/- The reference's Until, walked. The reference's Best, walked. The reference's Drop, walked. -/
import Derived.Test.YtcgkglonnmkfcaaGS
import Derived.Test.YtcgkglonnmkfcaaGW
namespace Go.Proofs.Ytcgkglonnmkfcaa
open Go.RowKit Go.Lap Go.Shelf

theorem done_last (M : Mend) {q : List Nat} {m : Nat} (hq : q.length = M.jobs.length) (hm : M.jobs.length = m + 1) : (doneL M true q).getD m 0 = (benchOf M q).late := by
  rw [doneL_get M true (by omega)]
  unfold nowAt
  rw [if_pos rfl, List.take_of_length_le (by omega), benchOf_sit]
theorem until_code (M : Mend) : (rightCode M ≠ 0 ∧ untilOf M = (0, rightCode M)) ∨ (rightCode M = 0 ∧ M.valid = true ∧ rightRows M = ordersL M 0 ∧ ordersL M 0 ≠ [] ∧ untilOf M = (lateFold M (ordersL M 0), 0)) := by
  unfold rightCode rightRows
  cases hv : M.valid
  · left; simp [untilOf, hv]
  · rcases late_fold hv with ⟨h1, h2⟩ | ⟨h1, h2⟩
    · left; simp [h1, h2]
    · right; simp [h1, h2]
theorem late_none {M : Mend} (h0 : M.jobs.length = 0) : lateFold M (ordersL M 0) = 0 := by
  have : restN M 0 = 0 := by unfold restN; rw [free_none]; exact h0
  unfold lateFold ordersL
  rw [this]
  rfl
def lateTo (M : Mend) (A : List (List Nat)) (k : Nat) : Int := ((A.take k).map fun q => (benchOf M q).late).foldl min ((benchOf M (A.headD [])).late)
theorem lateTo_succ (M : Mend) {A : List (List Nat)} {k : Nat} {p : List Nat} (h : A[k]? = some p) : lateTo M A (k + 1) = min (lateTo M A k) (benchOf M p).late := by
  unfold lateTo
  rw [List.take_add_one, h, List.map_append, List.foldl_append]
  rfl
theorem lateTo_all (M : Mend) (A : List (List Nat)) : lateTo M A A.length = lateFold M A := by unfold lateTo lateFold; rw [List.take_length]
theorem order_in {M : Mend} {p : List Nat} (h : p ∈ ordersL M 0) : p.length = M.jobs.length ∧ ∀ i, i ∈ p → i < M.jobs.length := by
  obtain ⟨h1, _, h3, _⟩ := rightL_in h
  refine ⟨?_, h1⟩
  rw [h3]; unfold restN; exact free_none _
theorem late_in {M : Mend} (hM : M.Ok) {p : List Nat} (h : p ∈ ordersL M 0) : 0 ≤ (benchOf M p).late ∧ (benchOf M p).late ≤ 12000 := by
  obtain ⟨h1, h2⟩ := order_in h
  have hl := hM.len
  have := sit_small hM h2 (by omega) p.length
  rw [List.take_of_length_le (Nat.le_refl _), benchOf_sit] at this
  exact ⟨this.2.2.1, this.2.2.2⟩

set_option maxRecDepth 100000 in
set_option maxHeartbeats 4000000 in
theorem refUntil_any (M : Mend) (sv jv : Value) (w : World) (hS : IntsAt w sv M.setup) (hJ : JobsAt w jv M.jobs) :
    Calls Try.prog 29 #[.agg #[sv, jv]] w fun e w' => e = .returned (.tuple #[.int .i64 (untilOf M).1, .int .i64 (untilOf M).2]) ∧ Below w.heap.size w w' := by
  have HR := hid (fun W (h : Below w.heap.size w W) => refright_any M sv jv W (hS.below h) (hJ.below h))
  rcases until_code M with ⟨hc, hu⟩ | ⟨hc, hv, hrows, hne, hu⟩
  · obtain ⟨sa, scap, rfl, _⟩ := hS
    obtain ⟨ja, jcap, rfl, _⟩ := hJ
    have hx := KeepB.start w (.slice sa M.setup.length scap) (.slice ja M.jobs.length jcap)
    rw [hu]
    obtain ⟨c, hcc⟩ : ∃ c, rightCode M = c := ⟨_, rfl⟩
    rw [hcc] at HR hc ⊢
    have hct : (c != 0) = true := by rw [bne_iff_ne]; exact hc
    clear hcc hc hu
    go_enter Try.func29, Try.ntmps29
    go_upto_region 1 with fail
    generalize w.alloc (.cells #[.slice sa M.setup.length scap, .slice ja M.jobs.length jcap] 25) = w1 at hx ⊢
    have lm := (cells_of hx.m).1
    have cm := (cells_of hx.m).2
    have H1 := hid (HR.out w1 hx.bel)
    go_wp2_with (go_at_call 70; with_reducible refine H1.out.mono ?_; rintro e w2 ⟨ov, rfl, _, hb2⟩)
    go_ret2
    exact ⟨rfl, (hx.below hb2).bel⟩
  · have hM := Mend.valid_ok hv
    have hin := hid (fun p (hp : p ∈ ordersL M 0) => order_in hp)
    have hli := hid (fun p (hp : p ∈ ordersL M 0) => late_in hM hp)
    have hM6 := hM.len
    have HD := hid (fun W (h : Below w.heap.size w W) p (hp : p ∈ ordersL M 0) lv (hl : IntsAt W lv (ints p)) => refDone_true M hM sv jv lv p (order_in hp).2 (by have := (order_in hp).1; omega) W (hS.below h) (hJ.below h) hl)
    have hln := hid (fun h0 => late_none (M := M) h0)
    have hn := orders_len hM
    rw [hu]
    rw [hrows] at HR
    rw [hc] at HR
    obtain ⟨A, hA⟩ : ∃ A, ordersL M 0 = A := ⟨_, rfl⟩
    rw [hA] at HR hin hli hne HD hln hn ⊢
    obtain ⟨F, hF⟩ : ∃ F, lateFold M A = F := ⟨_, rfl⟩
    rw [hF] at hln ⊢
    have hF' := hid hF
    obtain ⟨sa, scap, rfl, _⟩ := hS
    obtain ⟨ja, jcap, rfl, _⟩ := hJ
    have hx := KeepB.start w (.slice sa M.setup.length scap) (.slice ja M.jobs.length jcap)
    have hAl : (A.map ints).length = A.length := by simp
    have hpos : 0 < A.length := List.length_pos_iff.2 hne
    clear hc hu hrows hA hF hM hv hne
    go_enter Try.func29, Try.ntmps29
    go_upto_region 1 with fail
    generalize w.alloc (.cells #[.slice sa M.setup.length scap, .slice ja M.jobs.length jcap] 25) = w1 at hx ⊢
    have lm := (cells_of hx.m).1
    have cm := (cells_of hx.m).2
    have H1 := hid (HR.out w1 hx.bel)
    by_cases h0 : M.jobs.length = 0
    · have hl0 := hln.out h0
      subst hl0
      have ht0 : ((M.jobs.length : Int) == 0) = true := by rw [beq_iff_eq]; omega
      clear h0
      go_wp2_with (go_at_call 70; with_reducible refine H1.out.mono ?_; rintro e w2 ⟨ov, rfl, _, hb2⟩; have hx := hx.below hb2; have lm := (cells_of hx.m).1; have cm := (cells_of hx.m).2)
      go_ret2
      exact ⟨rfl, hx.bel⟩
    · have ht0 : ((M.jobs.length : Int) == 0) = false := by rw [beq_eq_false_iff_ne]; omega
      obtain ⟨m, hm⟩ : ∃ m, M.jobs.length = m + 1 := ⟨M.jobs.length - 1, by omega⟩
      have hw1 : IntKind.i64.wrap ((M.jobs.length : Int) - 1) = (m : Int) := by rw [IntWalk.i64_in _ (by omega)]; omega
      have hmi : (m : Int) < (M.jobs.length : Int) := by omega
      have hm' := hid hm
      clear hln h0 hm
      go_upto_region 6 with (go_at_call 70; with_reducible refine H1.out.mono ?_; rintro e w2 ⟨ov, rfl, hl, hb2⟩; have hx := hx.below hb2; have lm := (cells_of hx.m).1; have cm := (cells_of hx.m).2; have hl' := hid hl; obtain ⟨la, lcap, rfl, _⟩ := hl.form; rw [hAl] at hl' ⊢; clear hl)
      have hxS := hid hx
      obtain ⟨g, ua, ucap, p, rfl, hpk, hpd, hpA, lg, hu, hat⟩ := row_of hl'.out (Below.refl _ _) hpos
      have hpl := hid (hin.out p hpA).1
      rw [hpl.out] at hu hat
      have HD1 := hid (HD.out w2.drew hx.drew.bel p hpA _ (hat.below (Below.refl _ _).drew))
      obtain ⟨late, hlate⟩ : ∃ late, (benchOf M p).late = late := ⟨_, rfl⟩
      have hlt0 := hid ((done_last M hpl.out hm'.out).trans hlate)
      have hst := hid (show lateTo M A 0 = late from by unfold lateTo; rw [List.take_zero, List.map_nil, List.foldl_nil, show A.headD [] = A.getD 0 [] by cases A <;> rfl, hpd, hlate])
      have hlate := hlt0
      clear hlt0 hpd hpk
      refine wp_region_held (S := fun W => Below w2.heap.size w2 W) (by kernel_rfl) ?_
      have hz0 : Below w2.heap.size w2 w2.drew := (Below.refl _ _).drew
      refine wpAnyH_quiet (i := 0) (v := .agg #[.slice sa M.setup.length scap, .slice ja M.jobs.length jcap]) rfl (by kernel_rfl) (by kernel_rfl) (by kernel_rfl) (fun _ _ _ h => h) rfl (fun W h => by have hm3 := (h.block _ lm).trans hxS.out.m; have lm3 := (cells_of hm3).1; have cm3 := (cells_of hm3).2; go_simp) hz0 ?_
      refine wpAnyH_quiet (i := 1) (v := .slice (some ⟨g, 0, none⟩) A.length lcap) rfl (by kernel_rfl) (by kernel_rfl) (by kernel_rfl) (fun _ _ _ h => h) rfl (fun W h => by go_simp) hz0 ?_
      refine wpAnyH_quiet (i := 2) (v := .pointer (some ⟨g, 0, none⟩)) rfl (by kernel_rfl) (by kernel_rfl) (by kernel_rfl) (fun _ _ _ h => h) rfl (fun W h => by go_simp) hz0 ?_
      refine wpAnyH_quiet (i := 3) (v := .slice ua M.jobs.length ucap) rfl (by kernel_rfl) (by kernel_rfl) (by kernel_rfl) (fun _ _ _ h => h) rfl (fun W h => by have hm1 := (h.cell (p := ⟨g, 0, none⟩) lg).trans hu; go_simp) hz0 ?_
      refine wpAnyH_quiet (i := 5) (v := .pointer (some ⟨w.heap.size, 1, none⟩)) rfl (by kernel_rfl) (by kernel_rfl) (by kernel_rfl) (fun _ _ _ h => h) rfl (fun W h => by go_simp) hz0 ?_
      refine wpAnyH_quiet (i := 6) (v := .slice ja M.jobs.length jcap) rfl (by kernel_rfl) (by kernel_rfl) (by kernel_rfl) (fun _ _ _ h => h) rfl (fun W h => by have hm3 := (h.block _ lm).trans hxS.out.m; have lm3 := (cells_of hm3).1; have cm3 := (cells_of hm3).2; go_simp) hz0 ?_
      refine wpAnyH_quiet (i := 7) (v := .int .i64 (M.jobs.length : Int)) rfl (by kernel_rfl) (by kernel_rfl) (by kernel_rfl) (fun _ _ _ h => h) rfl (fun W h => by go_simp) hz0 ?_
      refine wpAnyH_quiet (i := 8) (v := .int .i64 (m : Int)) rfl (by kernel_rfl) (by kernel_rfl) (by kernel_rfl) (fun _ _ _ h => h) rfl (fun W h => by go_simp) hz0 ?_
      refine wpAnyH_step (i := 4) (by kernel_rfl) rfl ?_
      go_wp2_with (go_at_call 51; refine HD1.out.mono ?_; rintro e w9 ⟨v9, rfl, hown9, hb9⟩)
      have hI9 := ints_at.2 hown9.at
      obtain ⟨cb, cof, ccap, rfl, lcb, hcc⟩ := hI9.some (fun e => by have := congrArg List.length e; rw [doneL_length, hpl.out] at this; simp only [List.length_nil] at this; omega)
      have hck := hcc m (by rw [doneL_length, hpl.out]; omega)
      rw [hlate.out] at hck
      rw [doneL_length, hpl.out]
      clear hcc hI9 hown9
      have hz9 := below_via hb9 hz0
      refine ⟨hz9, ?_⟩
      refine wpAnyH_step (i := 9) (by kernel_rfl) rfl ?_
      go_wp2
      refine ⟨hz9, ?_⟩
      refine wpAnyH_step (i := 10) (by kernel_rfl) rfl ?_
      go_wp2
      refine ⟨hz9, ?_⟩
      refine wpAnyH_step (i := 11) (by kernel_rfl) rfl ?_
      go_wp2
      refine ⟨hz9, ?_⟩
      refine wpAnyH_done (by kernel_rfl) ?_ _
      go_wp2
      have hb9' := hid hz9
      clear lm cm lg hu hat hck lcb hz0 hz9 hx hb9 hpl hpA HD1
      clear hlate
      have hx9 := hid (hxS.out.below hb9'.out)
      go_loopw [6, 7] (fun outv ix wr => ∃ k : Nat, k ≤ A.length ∧ ix = .int .i64 k ∧ outv = .int .i64 (lateTo M A k) ∧ Hid (Below w9.heap.size w9 wr)) (fun _ ix _ => A.length - (intOf ix).toNat)
      case atStart => exact ⟨0, by omega, rfl, by rw [hst.out], hid (Below.refl _ _)⟩
      case round =>
        obtain ⟨k, hkk, rfl, rfl, hbr⟩ := hrel
        have hxS := hid (hx9.out.below hbr.out)
        have lm := (cells_of hxS.out.m).1
        have cm := (cells_of hxS.out.m).2
        by_cases hlt : k < A.length
        · have hki : (k : Int) < (A.length : Int) := by omega
          obtain ⟨g2, ua, ucap, p, e1, hpk, hpd, hpA, lg, hu, hat⟩ := row_of hl'.out (hb9'.out.trans (hbr.out.mono hb9'.out.size)) hlt
          injection e1 with e1
          injection e1 with e1
          subst e1
          have hpl := hid (hin.out p hpA).1
          rw [hpl.out] at hu hat
          have HD1 := hid (HD.out wr.drew hxS.out.drew.bel p hpA _ (hat.below (Below.refl _ _).drew))
          obtain ⟨late, hlate⟩ : ∃ late, (benchOf M p).late = late := ⟨_, rfl⟩
          have hst2 := hid (show lateTo M A (k + 1) = min (lateTo M A k) late from by rw [← hlate]; exact lateTo_succ M hpk)
          have hlt0 := hid ((done_last M hpl.out hm'.out).trans hlate)
          have hlate := hlt0
          clear hlt0 hpd hpk
          obtain ⟨out, hout⟩ : ∃ out, lateTo M A k = out := ⟨_, rfl⟩
          rw [hout] at hst2 ⊢
          clear hout
          go_upto_region 10 with fail
          refine wp_region_held (S := fun W => Below wr.heap.size wr W) (by kernel_rfl) ?_
          have hz0 : Below wr.heap.size wr wr.drew := (Below.refl _ _).drew
          refine wpAnyH_quiet (i := 0) (v := .int .i64 out) rfl (by kernel_rfl) (by kernel_rfl) (by kernel_rfl) (fun _ _ _ h => h) rfl (fun W h => by go_simp) hz0 ?_
          refine wpAnyH_quiet (i := 1) (v := .agg #[.slice sa M.setup.length scap, .slice ja M.jobs.length jcap]) rfl (by kernel_rfl) (by kernel_rfl) (by kernel_rfl) (fun _ _ _ h => h) rfl (fun W h => by have hm3 := (h.block _ lm).trans hxS.out.m; have lm3 := (cells_of hm3).1; have cm3 := (cells_of hm3).2; go_simp) hz0 ?_
          refine wpAnyH_quiet (i := 2) (v := .slice (some ⟨g, 0, none⟩) A.length lcap) rfl (by kernel_rfl) (by kernel_rfl) (by kernel_rfl) (fun _ _ _ h => h) rfl (fun W h => by go_simp) hz0 ?_
          refine wpAnyH_quiet (i := 3) (v := .int .i64 (k : Int)) rfl (by kernel_rfl) (by kernel_rfl) (by kernel_rfl) (fun _ _ _ h => h) rfl (fun W h => by go_simp) hz0 ?_
          refine wpAnyH_quiet (i := 4) (v := .pointer (some ⟨g, k, none⟩)) rfl (by kernel_rfl) (by kernel_rfl) (by kernel_rfl) (fun _ _ _ h => h) rfl (fun W h => by go_simp) hz0 ?_
          refine wpAnyH_quiet (i := 5) (v := .slice ua M.jobs.length ucap) rfl (by kernel_rfl) (by kernel_rfl) (by kernel_rfl) (fun _ _ _ h => h) rfl (fun W h => by have hm1 := (h.cell (p := ⟨g, k, none⟩) lg).trans hu; go_simp) hz0 ?_
          refine wpAnyH_quiet (i := 7) (v := .pointer (some ⟨w.heap.size, 1, none⟩)) rfl (by kernel_rfl) (by kernel_rfl) (by kernel_rfl) (fun _ _ _ h => h) rfl (fun W h => by go_simp) hz0 ?_
          refine wpAnyH_quiet (i := 8) (v := .slice ja M.jobs.length jcap) rfl (by kernel_rfl) (by kernel_rfl) (by kernel_rfl) (fun _ _ _ h => h) rfl (fun W h => by have hm3 := (h.block _ lm).trans hxS.out.m; have lm3 := (cells_of hm3).1; have cm3 := (cells_of hm3).2; go_simp) hz0 ?_
          refine wpAnyH_quiet (i := 9) (v := .int .i64 (M.jobs.length : Int)) rfl (by kernel_rfl) (by kernel_rfl) (by kernel_rfl) (fun _ _ _ h => h) rfl (fun W h => by go_simp) hz0 ?_
          refine wpAnyH_quiet (i := 10) (v := .int .i64 (m : Int)) rfl (by kernel_rfl) (by kernel_rfl) (by kernel_rfl) (fun _ _ _ h => h) rfl (fun W h => by go_simp) hz0 ?_
          refine wpAnyH_step (i := 6) (by kernel_rfl) rfl ?_
          go_wp2_with (go_at_call 51; refine HD1.out.mono ?_; rintro e w9 ⟨v9, rfl, hown9, hb9⟩)
          have hI9 := ints_at.2 hown9.at
          obtain ⟨cb, cof, ccap, rfl, lcb, hcc⟩ := hI9.some (fun e => by have := congrArg List.length e; rw [doneL_length, hpl.out] at this; simp only [List.length_nil] at this; omega)
          have hck := hcc m (by rw [doneL_length, hpl.out]; omega)
          rw [hlate.out] at hck
          rw [doneL_length, hpl.out]
          clear hcc hI9 hown9
          have hz9 := below_via hb9 hz0
          refine ⟨hz9, ?_⟩
          refine wpAnyH_step (i := 11) (by kernel_rfl) rfl ?_
          go_wp2
          refine ⟨hz9, ?_⟩
          refine wpAnyH_step (i := 12) (by kernel_rfl) rfl ?_
          go_wp2
          refine ⟨hz9, ?_⟩
          have hz9' := hid hz9
          clear hz9 hz0 hb9
          by_cases hml : late < out
          · obtain rfl : lateTo M A (k + 1) = late := by rw [hst2.out]; omega
            refine wpAnyH_step (i := 13) (by kernel_rfl) rfl ?_
            go_wp2
            refine ⟨hz9'.out, ?_⟩
            refine wpAnyH_step (i := 14) (by kernel_rfl) rfl ?_
            go_wp2
            refine ⟨hz9'.out, ?_⟩
            refine wpAnyH_done (by kernel_rfl) ?_ _
            go_wp2
            go_roundw
            case rel => exact ⟨k + 1, by omega, by go_num, rfl, hid (below_via hz9'.out hbr.out)⟩
            case measure => simp [intOf]; omega
          · obtain rfl : lateTo M A (k + 1) = out := by rw [hst2.out]; omega
            refine wpAnyH_step (i := 13) (by kernel_rfl) rfl ?_
            go_wp2
            refine ⟨hz9'.out, ?_⟩
            refine wpAnyH_step (i := 14) (by kernel_rfl) rfl ?_
            go_wp2
            refine ⟨hz9'.out, ?_⟩
            refine wpAnyH_done (by kernel_rfl) ?_ _
            go_wp2
            go_roundw
            case rel => exact ⟨k + 1, by omega, by go_num, rfl, hid (below_via hz9'.out hbr.out)⟩
            case measure => simp [intOf]; omega
        · obtain rfl : k = A.length := by omega
          rw [lateTo_all, hF'.out]
          go_wp2
          go_ret2
          exact ⟨rfl, hxS.out.bel⟩
end Go.Proofs.Ytcgkglonnmkfcaa

namespace Go.Proofs.Ytcgkglonnmkfcaa
open Go.RowKit Go.Lap Go.Shelf

theorem best_code (M : Mend) : (rightCode M ≠ 0 ∧ bestOf M = (0, [], rightCode M)) ∨ (rightCode M = 0 ∧ M.valid = true ∧ rightRows M = ordersL M 0 ∧ ordersL M 0 ≠ [] ∧ bestFold M (ordersL M 0) ∈ ordersL M 0 ∧ bestOf M = (costFrom M Bench.begin (bestFold M (ordersL M 0)), bestFold M (ordersL M 0), 0)) := by
  unfold rightCode rightRows
  cases hv : M.valid
  · left; simp [bestOf, hv]
  · rcases best_fold hv with ⟨h1, h2⟩ | ⟨h1, h2, h3⟩
    · left; simp [h1, h2]
    · right
      rw [if_pos rfl, if_neg h1, if_pos rfl]
      exact ⟨rfl, rfl, rfl, h1, h2, h3⟩
def bestTo (M : Mend) (A : List (List Nat)) (k : Nat) : List Nat := (A.take k).foldl (better (costFrom M Bench.begin)) (A.headD [])
theorem bestTo_succ (M : Mend) {A : List (List Nat)} {k : Nat} {p : List Nat} (h : A[k]? = some p) : bestTo M A (k + 1) = better (costFrom M Bench.begin) (bestTo M A k) p := by
  unfold bestTo
  rw [List.take_add_one, h, List.foldl_append]
  rfl
theorem bestTo_all (M : Mend) (A : List (List Nat)) : bestTo M A A.length = bestFold M A := by unfold bestTo bestFold; rw [List.take_length]

set_option maxRecDepth 100000 in
set_option maxHeartbeats 4000000 in
theorem refBest_any (M : Mend) (sv jv : Value) (w : World) (hS : IntsAt w sv M.setup) (hJ : JobsAt w jv M.jobs) :
    Calls Try.prog 27 #[.agg #[sv, jv]] w fun e w' => ∃ lv, e = .returned (.tuple #[.int .i64 (bestOf M).1, lv, .int .i64 (bestOf M).2.2]) ∧ IntsAt w' lv (ints (bestOf M).2.1) ∧ Below w.heap.size w w' := by
  have HR := hid (fun W (h : Below w.heap.size w W) => refright_any M sv jv W (hS.below h) (hJ.below h))
  rcases best_code M with ⟨hc, hu⟩ | ⟨hc, hv, hrows, hne, hbm, hu⟩
  · obtain ⟨sa, scap, rfl, _⟩ := hS
    obtain ⟨ja, jcap, rfl, _⟩ := hJ
    have hx := KeepB.start w (.slice sa M.setup.length scap) (.slice ja M.jobs.length jcap)
    rw [hu]
    obtain ⟨c, hcc⟩ : ∃ c, rightCode M = c := ⟨_, rfl⟩
    rw [hcc] at HR hc ⊢
    have hct : (c != 0) = true := by rw [bne_iff_ne]; exact hc
    clear hcc hc hu
    dsimp only
    go_enter Try.func27, Try.ntmps27
    go_upto_region 1 with fail
    generalize w.alloc (.cells #[.slice sa M.setup.length scap, .slice ja M.jobs.length jcap] 25) = w1 at hx ⊢
    have lm := (cells_of hx.m).1
    have cm := (cells_of hx.m).2
    have H1 := hid (HR.out w1 hx.bel)
    go_wp2_with (go_at_call 70; with_reducible refine H1.out.mono ?_; rintro e w2 ⟨ov, rfl, _, hb2⟩)
    go_ret3
    exact ⟨_, rfl, ⟨none, 0, rfl, fun h => (h rfl).elim⟩, (hx.below hb2).bel⟩
  · have hM := Mend.valid_ok hv
    have hin := hid (fun p (hp : p ∈ ordersL M 0) => order_in hp)
    have hM6 := hM.len
    have HC := hid (fun W (h : Below w.heap.size w W) p (hp : p ∈ ordersL M 0) lv (hl : IntsAt W lv (ints p)) => refCoins_any M hv sv jv lv p (order_in hp).2 (by have := (order_in hp).1; omega) W (hS.below h) (hJ.below h) hl)
    have hn := orders_len hM
    rw [hu]
    rw [hrows] at HR
    rw [hc] at HR
    obtain ⟨A, hA⟩ : ∃ A, ordersL M 0 = A := ⟨_, rfl⟩
    rw [hA] at HR hin hne HC hn hbm ⊢
    obtain ⟨F, hF⟩ : ∃ F, bestFold M A = F := ⟨_, rfl⟩
    rw [hF] at hbm ⊢
    have hF' := hid hF
    obtain ⟨sa, scap, rfl, _⟩ := hS
    obtain ⟨ja, jcap, rfl, _⟩ := hJ
    have hx := KeepB.start w (.slice sa M.setup.length scap) (.slice ja M.jobs.length jcap)
    have hAl : (A.map ints).length = A.length := by simp
    have hpos : 0 < A.length := List.length_pos_iff.2 hne
    dsimp only
    clear hc hu hrows hA hF hM hv hne
    go_enter Try.func27, Try.ntmps27
    go_upto_region 1 with fail
    generalize w.alloc (.cells #[.slice sa M.setup.length scap, .slice ja M.jobs.length jcap] 25) = w1 at hx ⊢
    have lm := (cells_of hx.m).1
    have cm := (cells_of hx.m).2
    have H1 := hid (HR.out w1 hx.bel)
    go_upto_region 4 with (go_at_call 70; with_reducible refine H1.out.mono ?_; rintro e w2 ⟨ov, rfl, hl, hb2⟩; have hx := hx.below hb2; have lm := (cells_of hx.m).1; have cm := (cells_of hx.m).2; have hl' := hid hl; obtain ⟨la, lcap, rfl, _⟩ := hl.form; rw [hAl] at hl' ⊢; clear hl)
    obtain ⟨g, ua, ucap, p, rfl, hpk, hpd, hpA, lg, hu, hat⟩ := row_of hl'.out (Below.refl _ _) hpos
    have hpl := hid (hin.out p hpA).1
    have hb0 := hid (show bestTo M A 0 = p from by unfold bestTo; rw [List.take_zero, List.foldl_nil, show A.headD [] = A.getD 0 [] by cases A <;> rfl, hpd])
    rw [hpl.out] at hu hat
    have hat' := hid hat
    clear hat hpk hpd
    go_wp2
    clear hu lm cm
    have hx2 := hid hx
    clear hx
    go_loopw [7, 8] (fun bv ix wr => ∃ k : Nat, k ≤ A.length ∧ ix = .int .i64 k ∧ (∃ ba bcap, bv = .slice ba M.jobs.length bcap ∧ Hid (IntsAt w2 (.slice ba M.jobs.length bcap) (ints (bestTo M A k)))) ∧ bestTo M A k ∈ A ∧ Hid (Below w2.heap.size w2 wr)) (fun _ ix _ => A.length - (intOf ix).toNat)
    case atStart => exact ⟨0, by omega, rfl, ⟨_, _, rfl, hid (by rw [hb0.out]; exact hat'.out)⟩, by rw [hb0.out]; exact hpA, hid (Below.refl _ _)⟩
    case round =>
      obtain ⟨k, hkk, rfl, ⟨ba, bcap, rfl, hbat⟩, hbA, hbr⟩ := hrel
      have hxr := hx2.out.below hbr.out
      have lm := (cells_of hxr.m).1
      have cm := (cells_of hxr.m).2
      clear hat' hpl hpA lg
      by_cases hlt : k < A.length
      · have hki : (k : Int) < (A.length : Int) := by omega
        obtain ⟨g2, ua, ucap, p, e1, hpk, hpd, hpA, lg, hu, hat⟩ := row_of hl'.out hbr.out hlt
        injection e1 with e1
        injection e1 with e1
        subst e1
        have hpl := hid (hin.out p hpA).1
        rw [hpl.out] at hu hat
        have HC1 := fun W (h : Below wr.heap.size wr W) => HC.out W (below_via h hxr.bel) p hpA _ (hat.below h)
        have HC2 := fun W (h : Below wr.heap.size wr W) => HC.out W (below_via h hxr.bel) (bestTo M A k) hbA _ (hbat.out.below (below_via h hbr.out))
        have hbs := hid (bestTo_succ M hpk)
        have hat' := hid (show IntsAt w2 (.slice ua M.jobs.length ucap) (ints p) from by
          obtain ⟨g3, ua3, ucap3, p3, e3, hpk3, _, _, lg3, hu3, hat3⟩ := row_of hl'.out (Below.refl _ _) hlt
          injection e3 with e3
          injection e3 with e3
          subst e3
          rw [hpk] at hpk3
          cases hpk3
          have h1 := (hbr.out.cell (p := ⟨g, k, none⟩) lg3).trans hu3
          rw [hu] at h1
          rw [hpl.out] at h1 hat3
          cases h1
          exact hat3)
        obtain ⟨c1, hc1⟩ : ∃ c, costFrom M Bench.begin p = c := ⟨_, rfl⟩
        obtain ⟨c2, hc2⟩ : ∃ c, costFrom M Bench.begin (bestTo M A k) = c := ⟨_, rfl⟩
        rw [hc1] at HC1
        rw [hc2] at HC2
        have HC1 := hid HC1
        have HC2 := hid HC2
        have hbs2 := hid (show bestTo M A (k + 1) = if c1 < c2 then p else bestTo M A k from by rw [hbs.out, better, hc1, hc2])
        clear hc1 hc2 hat hpd hpk hbs
        go_upto_region 8 with fail
        refine wp_region_later (by kernel_rfl) (by kernel_rfl) ?_
        intro hxl
        repeat (go_big_quiet_step ((first | (go_at_call 71; with_reducible exact Calls.later (HC1.out _ (Later.below _))) | (go_at_call 71; with_reducible exact Calls.later (HC2.out _ (Later.below _))))))
        refine wpQuiet_nil ?_
        rintro w9 ⟨x, hxw⟩
        have hb9 := x.below
        rw [← hxw] at hb9
        clear hxl hxw x
        have hbr9 := hid (below_via hb9 hbr.out)
        have hu := (hb9.cell (p := ⟨g, k, none⟩) lg).trans hu
        have lg := Nat.lt_of_lt_of_le lg hb9.size
        clear lm cm
        by_cases hcc : c1 < c2
        · have he := hid (show bestTo M A (k + 1) = p from by rw [hbs2.out, if_pos hcc])
          go_wp2
          go_roundw
          case rel => exact ⟨k + 1, by omega, by go_num, ⟨_, _, rfl, hid (by rw [he.out]; exact hat'.out)⟩, by rw [he.out]; exact hpA, hbr9⟩
          case measure => simp [intOf]; omega
        · have he := hid (show bestTo M A (k + 1) = bestTo M A k from by rw [hbs2.out, if_neg hcc])
          go_wp2
          go_roundw
          case rel => exact ⟨k + 1, by omega, by go_num, ⟨_, _, rfl, hid (by rw [he.out]; exact hbat.out)⟩, by rw [he.out]; exact hbA, hbr9⟩
          case measure => simp [intOf]; omega
      · obtain rfl : k = A.length := by omega
        rw [bestTo_all, hF'.out] at hbat hbA
        have HC2 := (fun W (h : Below wr.heap.size wr W) => HC.out W (below_via h hxr.bel) F hbA _ (hbat.out.below (below_via h hbr.out)))
        obtain ⟨c2, hc2⟩ : ∃ c, costFrom M Bench.begin F = c := ⟨_, rfl⟩
        rw [hc2] at HC2
        have HC2 := hid HC2
        have hc2' := hid hc2
        clear hc2
        have HC3 := hid (HC2.out wr (Below.refl _ _))
        go_wp2_with (go_at_call 71; with_reducible refine HC3.out.mono ?_; rintro e w9 ⟨rfl, hb9⟩)
        go_ret3
        exact ⟨_, by rw [hc2'.out]; rfl, hbat.out.below (below_via hb9 hbr.out), (hxr.below hb9).bel⟩
end Go.Proofs.Ytcgkglonnmkfcaa

namespace Go.Proofs.Ytcgkglonnmkfcaa
open Go.RowKit Go.Lap Go.Shelf

theorem drop_can {M : Mend} (hM : M.Ok) (s : Nat) : canB M s = decide (0 < (ordersL M s).length) := by
  rw [Bool.eq_iff_iff, canB_iff hM, decide_eq_true_eq, List.length_pos_iff_exists_mem]
theorem orders_lenS {M : Mend} (hM : M.Ok) (s : Nat) : (ordersL M s).length ≤ 46656 := Nat.le_trans (length_rightL M s hM.len _ _) (Nat.pow_le_pow_right (by decide) (restN_le hM s))

set_option maxRecDepth 100000 in
set_option maxHeartbeats 4000000 in
theorem refDrop_any (M : Mend) (sv jv : Value) (w : World) (hS : IntsAt w sv M.setup) (hJ : JobsAt w jv M.jobs) :
    Calls Try.prog 31 #[.agg #[sv, jv]] w fun e w' => e = .returned (.tuple #[.int .i64 (dropOf M).1, .int .i64 (dropOf M).2]) ∧ Below w.heap.size w w' := by
  have HM := hid (fun W (h : Below w.heap.size w W) => refMend_any M sv jv W (hS.below h) (hJ.below h))
  have HO := hid (fun (hM : M.Ok) R (hR : R < 2 ^ M.jobs.length) W (h : Below w.heap.size w W) => refOrders_any M hM sv jv R hR W (hS.below h) (hJ.below h))
  obtain ⟨sa, scap, rfl, _⟩ := hS
  obtain ⟨ja, jcap, rfl, _⟩ := hJ
  have hx := KeepB.start w (.slice sa M.setup.length scap) (.slice ja M.jobs.length jcap)
  unfold dropOf
  cases hv : M.valid
  · go_enter Try.func31, Try.ntmps31
    go_upto_region 1 with fail
    generalize w.alloc (.cells #[.slice sa M.setup.length scap, .slice ja M.jobs.length jcap] 25) = w1 at hx ⊢
    have lm := (cells_of hx.m).1
    have cm := (cells_of hx.m).2
    have H1 := HM.out w1 hx.bel
    rw [hv] at H1
    have H1 := hid H1
    go_wp2_with (go_at_call 25; with_reducible refine H1.out.mono ?_; rintro e w2 ⟨rfl, hb2⟩)
    go_ret2
    exact ⟨rfl, (hx.below hb2).bel⟩
  · have hM := Mend.valid_ok hv
    have HO1 := hid (HO.out hM)
    have hcan := hid (fun s => drop_can hM s)
    have hlen := hid (fun s => orders_lenS hM s)
    have hsp := hid (fun k hk => (dropTo_spec hM k hk).1)
    have hM6 := hM.len
    have hfin := hid (drop_fold hM)
    rw [if_pos rfl]
    obtain ⟨D, hD⟩ : ∃ D, dropN M = D := ⟨_, rfl⟩
    rw [hD] at hfin ⊢
    have h64 : 2 ^ M.jobs.length ≤ 64 := Nat.le_trans (Nat.pow_le_pow_right (by decide) hM6) (by decide)
    have hp1 : 0 < 2 ^ M.jobs.length := Nat.two_pow_pos _
    have h0 := hid (show dropTo M 0 = 2 ^ M.jobs.length - 1 from rfl)
    have c62 := power_any M.jobs.length (by omega)
    obtain ⟨E, hE⟩ : ∃ E, 2 ^ M.jobs.length = E + 1 := ⟨2 ^ M.jobs.length - 1, by omega⟩
    have hEi : (2 : Int) ^ M.jobs.length = ((E + 1 : Nat) : Int) := by rw [← hE]; simp
    rw [hEi] at c62
    have c62 := hid c62
    rw [hE] at HO1 h64 h0 hsp hfin
    have hst := hid (fun k => dropTo_succ M k)
    clear hEi hE hp1 hD HO hM
    go_enter Try.func31, Try.ntmps31
    go_upto_region 1 with fail
    generalize w.alloc (.cells #[.slice sa M.setup.length scap, .slice ja M.jobs.length jcap] 25) = w1 at hx ⊢
    have lm := (cells_of hx.m).1
    have cm := (cells_of hx.m).2
    have H1 := HM.out w1 hx.bel
    rw [hv] at H1
    have H1 := hid H1
    have hw1 : IntKind.i64.wrap (((E + 1 : Nat) : Int) - 1) = (E : Int) := by rw [IntWalk.i64_in _ (by omega)]; omega
    obtain ⟨E1, hE1⟩ : ∃ E1, E + 1 = E1 := ⟨_, rfl⟩
    rw [hE1] at c62 hw1
    have hE1' := hid hE1
    clear hE1
    go_wp2_with (first | (go_at_call 25; with_reducible refine H1.out.mono ?_; rintro e w2 ⟨rfl, hb2⟩; have hx := hx.below hb2; have lm := (cells_of hx.m).1; have cm := (cells_of hx.m).2) | (go_at_call 62; with_reducible refine (c62.out _).mono ?_; rintro e w3 ⟨rfl, rfl⟩))
    clear lm cm
    rename_i wz
    have hxz := hid hx
    clear hx H1 hb2
    go_loopw [5, 6] (fun bv ix wr => ∃ k : Nat, k ≤ E + 1 ∧ ix = .int .i64 k ∧ bv = .int .i64 ((dropTo M k : Nat) : Int) ∧ Hid (KeepB w (.slice sa M.setup.length scap) (.slice ja M.jobs.length jcap) wr)) (fun _ ix _ => E + 1 - (intOf ix).toNat)
    case atStart => exact ⟨0, by omega, rfl, by rw [h0.out]; simp, hxz⟩
    case round =>
      obtain ⟨k, hkk, rfl, rfl, hxr⟩ := hrel
      have lm := (cells_of hxr.out.m).1
      have cm := (cells_of hxr.out.m).2
      have hb64 := hsp.out k hkk
      have hstk := hst.out k
      unfold dropStep at hstk
      rw [hcan.out] at hstk
      obtain ⟨b, hb⟩ : ∃ b, dropTo M k = b := ⟨_, rfl⟩
      rw [hb] at hb64 hstk ⊢
      by_cases hlt : k < E + 1
      · have hki : (k : Int) ≤ (E : Int) := by omega
        have c44a := refSize_any k (by omega)
        have c44b := refSize_any b (by omega)
        have hsa := popc_small 6 k
        obtain ⟨za, hza⟩ : ∃ z, sizeN 6 k = z := ⟨_, rfl⟩
        obtain ⟨zb, hzb⟩ : ∃ z, sizeN 6 b = z := ⟨_, rfl⟩
        rw [hza] at c44a hstk
        rw [hzb] at c44b hstk
        have c44a := hid c44a
        have c44b := hid c44b
        have HOk := hid (HO1.out k hlt wr hxr.out.bel)
        have hlenk := hlen.out k
        obtain ⟨L, hL⟩ : ∃ L, ordersL M k = L := ⟨_, rfl⟩
        rw [hL] at hstk hlenk HOk
        have hAl : (L.map ints).length = L.length := by simp
        have hstk' := hid hstk
        clear hL hza hzb hstk hb hsa
        by_cases hab : za < zb
        · have habi : (za : Int) < (zb : Int) := by omega
          by_cases hl0 : 0 < L.length
          · have hl0i : (0 : Int) < (L.length : Int) := by omega
            have hres := hid (show dropTo M (k + 1) = k from by rw [hstk'.out, if_pos ⟨hab, by simpa using hl0⟩])
            clear hab hl0
            go_wp2_with (first | (go_at_call 44; with_reducible refine (c44a.out _).mono ?_; rintro e w2 ⟨rfl, rfl⟩) | (go_at_call 44; with_reducible refine (c44b.out _).mono ?_; rintro e w2 ⟨rfl, rfl⟩) | (go_at_call 59; with_reducible refine HOk.out.mono ?_; rintro e w4 ⟨ov, rfl, hl, hb4⟩; obtain ⟨la, lcap, rfl, _⟩ := hl.form; rw [hAl]))
            go_roundw
            case rel => exact ⟨k + 1, by omega, by go_num, by rw [hres.out], hid (hxr.out.below hb4)⟩
            case measure => simp [intOf]; omega
          · have hl0i : (L.length : Int) ≤ (0 : Int) := by omega
            have hres := hid (show dropTo M (k + 1) = b from by rw [hstk'.out, if_neg (fun h => hl0 (by simpa using h.2))])
            clear hab hl0
            go_wp2_with (first | (go_at_call 44; with_reducible refine (c44a.out _).mono ?_; rintro e w2 ⟨rfl, rfl⟩) | (go_at_call 44; with_reducible refine (c44b.out _).mono ?_; rintro e w2 ⟨rfl, rfl⟩) | (go_at_call 59; with_reducible refine HOk.out.mono ?_; rintro e w4 ⟨ov, rfl, hl, hb4⟩; obtain ⟨la, lcap, rfl, _⟩ := hl.form; rw [hAl]))
            go_roundw
            case rel => exact ⟨k + 1, by omega, by go_num, by rw [hres.out], hid (hxr.out.below hb4)⟩
            case measure => simp [intOf]; omega
        · have habi : ¬ (za : Int) < (zb : Int) := by omega
          have hres := hid (show dropTo M (k + 1) = b from by rw [hstk'.out, if_neg (fun h => hab h.1)])
          clear hab
          go_wp2_with (first | (go_at_call 44; with_reducible refine (c44a.out _).mono ?_; rintro e w2 ⟨rfl, rfl⟩) | (go_at_call 44; with_reducible refine (c44b.out _).mono ?_; rintro e w2 ⟨rfl, rfl⟩))
          go_roundw
          case rel => exact ⟨k + 1, by omega, by go_num, by rw [hres.out], hxr⟩
          case measure => simp [intOf]; omega
      · obtain rfl : k = E + 1 := by omega
        obtain rfl : b = D := by rw [← hb, hfin.out]
        have hki : ¬ ((E + 1 : Nat) : Int) ≤ (E : Int) := by omega
        clear hb hstk
        go_wp2
        go_ret2
        exact ⟨rfl, hxr.out.bel⟩
end Go.Proofs.Ytcgkglonnmkfcaa
