/- The walk of the law MendMore. -/
import Derived.Test.YtcgkglonnmkfcaaPD
import Derived.Test.YtcgkglonnmkfcaaR8
import Derived.Test.YtcgkglonnmkfcaaR9
import Derived.Test.YtcgkglonnmkfcaaGD
namespace Go.Proofs.Ytcgkglonnmkfcaa
open Go.RowKit Go.Lap Go.Shelf

theorem and_less {a : Int} (h0 : 0 ≤ a) (h1 : a < 64) : ∃ b : Int, bits .and .i64 a (a - 1) = b ∧ (0 ≤ b ∧ b ≤ a ∧ ∀ k, b.toNat.testBit k = true → a.toNat.testBit k = true) := by
  obtain ⟨n, rfl⟩ : ∃ n : Nat, a = (n : Int) := ⟨a.toNat, by omega⟩
  by_cases hn : n = 0
  · subst hn
    exact ⟨0, by kernel_rfl, by omega, by omega, by simp⟩
  · refine ⟨((n &&& (n - 1) : Nat) : Int), ?_, by omega, ?_, fun k hk => ?_⟩
    · rw [show (n : Int) - 1 = ((n - 1 : Nat) : Int) by omega]
      exact (Go.Lap.bits_nat n (n - 1) (by omega) (by omega)).1
    · have : n &&& (n - 1) ≤ n := Nat.and_le_left
      omega
    · rw [Int.toNat_natCast, Nat.testBit_and, Bool.and_eq_true] at hk
      exact hk.1
theorem ease_keep {w W : World} {sv jv : Value} {b g cap B i f : Nat} {n : Nat} {J : List Job} {j j' : Job} {u : Value} (hk : KeepB w sv jv W) (hx : W.heap[b]? = some (.cells #[sv, .slice (some ⟨g, 0, none⟩) n cap] 25 (0, 0))) (ho : jobK.own B W (.slice (some ⟨g, 0, none⟩) n cap) J)
    (hg : w.heap.size < g) (hb : b < g) (hi : J[i]? = some j) (hf : f < 8) (he : jobK.enc j' = (jobK.enc j).set f u) :
    KeepX w sv jv (.slice none 0 0) [] b b (.slice (some ⟨g, 0, none⟩) n cap) (.slice (some ⟨g, 0, none⟩) n cap) (J.set i j') (J.set i j') (W.setCell ⟨g, i * 8 + f, none⟩ u) := by
  have h1 := ho.put (k := i) (f := f) (x := j) (x' := j') (u := u) hi hf he
  have h2 := jobs_at.2 h1.at
  have h3 : (W.setCell ⟨g, i * 8 + f, none⟩ u).heap[b]? = some (.cells #[sv, .slice (some ⟨g, 0, none⟩) n cap] 25 (0, 0)) := (Below.heap_setCell _ _ _ _ (by simp only; omega)).trans hx
  exact ⟨hk.put _ _ hg, h3, h3, h2, h2, IntsAt.none _⟩

set_option maxRecDepth 100000 in
set_option maxHeartbeats 8000000 in
theorem mendMore_any (M : Mend) (sv jv bv : Value) (bs : List Int) (z y : Int) (w : World) (hS : IntsAt w sv M.setup) (hJ : JobsAt w jv M.jobs) (hN : NilOk jv) (hB : BytesAt w bv bs) (hz0 : 0 ≤ z) (hz1 : z ≤ 255) (hy0 : 0 ≤ y) (hy1 : y ≤ 255) :
    Calls Try.prog 10 #[.agg #[sv, jv], bv, .int .u8 z, .int .u8 y] w fun e w' => e = .returned (.bool true) ∧ Below w.heap.size w w' := by
  have hS' := hid hS
  have hJ' := hid hJ
  have hj' := hid (jobs_at.1 hJ)
  have hB' := hid hB
  have hN' := hid hN
  clear hB hN
  obtain ⟨sa, scap, rfl, _⟩ := hS
  obtain ⟨ja, jcap, rfl, _⟩ := hJ
  have hk1 := KeepB.start w (.slice sa M.setup.length scap) (.slice ja M.jobs.length jcap)
  have HF := hid (fun W (h : KeepB w (.slice sa M.setup.length scap) (.slice ja M.jobs.length jcap) W) => fine_any M (.slice sa M.setup.length scap) (.slice ja M.jobs.length jcap) W (hS'.out.below h.bel) (hJ'.out.below h.bel))
  cases hv : M.valid
  · rw [hv] at HF
    clear hv
    go_enter Try.func10, Try.ntmps10
    go_upto_region 1 with fail
    have hx := hk1
    generalize w.alloc (.cells #[.slice sa M.setup.length scap, .slice ja M.jobs.length jcap] 25) = w1 at hx ⊢
    clear hk1
    have lm := (cells_of hx.m).1; have cm := (cells_of hx.m).2
    go_wp2_with (first
      | (go_at_call 33; with_reducible refine (HF.out _ hx).mono ?_; rintro e w2 ⟨rfl, hb2⟩; have hx := hx.below hb2)
      | (go_at_call 13; with_reducible refine (awake_any _).mono ?_; rintro e w3 ⟨rfl, hb3⟩; have hx := hx.below hb3))
    go_ret
    exact ⟨rfl, hx.bel⟩
  · rw [hv] at HF
    have hv' := hid hv
    have hlen6 := (Mend.valid_ok hv).len
    clear hv
    by_cases hn : M.jobs.length = 0
    · have hni : ((M.jobs.length : Int) == 0) = true := by rw [beq_iff_eq]; omega
      have hn' := hid hn
      clear hn
      go_enter Try.func10, Try.ntmps10
      go_upto_region 1 with fail
      have hx := hk1
      generalize w.alloc (.cells #[.slice sa M.setup.length scap, .slice ja M.jobs.length jcap] 25) = w1 at hx ⊢
      clear hk1
      have lm := (cells_of hx.m).1; have cm := (cells_of hx.m).2
      go_wp2_with (first
        | (go_at_call 33; with_reducible refine (HF.out _ hx).mono ?_; rintro e w2 ⟨rfl, hb2⟩; have hx := hx.below hb2; have lm := (cells_of hx.m).1; have cm := (cells_of hx.m).2)
        | (go_at_call 13; with_reducible refine (awake_any _).mono ?_; rintro e w3 ⟨rfl, hb3⟩; have hx := hx.below hb3))
      go_ret
      exact ⟨rfl, hx.bel⟩
    · have hni : ((M.jobs.length : Int) == 0) = false := by rw [beq_eq_false_iff_ne]; omega
      have hn' : 0 < M.jobs.length := by omega
      clear hn
      go_enter Try.func10, Try.ntmps10
      go_upto_region 1 with fail
      have hx := hk1
      generalize w.alloc (.cells #[.slice sa M.setup.length scap, .slice ja M.jobs.length jcap] 25) = w1 at hx ⊢
      clear hk1
      have lm := (cells_of hx.m).1; have cm := (cells_of hx.m).2
      go_upto_region 3 with (go_at_call 33; with_reducible refine (HF.out _ hx).mono ?_; rintro e w2 ⟨rfl, hb2⟩; have hx := hx.below hb2; have lm := (cells_of hx.m).1; have cm := (cells_of hx.m).2)
      clear HF hni
      go_upto_region 4 with fail
      have hm2 := alloc_old (o := .cells #[.slice sa M.setup.length scap, .slice ja M.jobs.length jcap] 25) (heap_lt hx.m) hx.m
      have hm5 := alloc_at (w := w2) (o := .cells #[.slice sa M.setup.length scap, .slice ja M.jobs.length jcap] 25) (n := w2.heap.size) rfl
      have hb1 := below_alloc hx.bel (.cells #[.slice sa M.setup.length scap, .slice ja M.jobs.length jcap] 25)
      have hz3 : w.heap.size < w2.heap.size := heap_lt hx.m
      generalize w2.alloc (.cells #[.slice sa M.setup.length scap, .slice ja M.jobs.length jcap] 25) = w3 at hm2 hm5 hb1 ⊢
      clear lm cm hx hb2
      have l2 := (cells_of hm2).1
      have c2 := (cells_of hm2).2
      go_upto_region 5 with (at_builtin; refine wpList_append_arg jobK rfl _ _ rfl w3.heap.size (.slice (some ⟨w3.heap.size, 0, none⟩) 0 0) [] M.jobs rfl (jobK.own_made (Nat.le_refl _)) (.slice ja M.jobs.length jcap) rfl ((hj'.out.below hb1).below (below_alloc (Below.refl _ _) _)) hN'.out (by simp; omega) (by simp) ?_; intro v' w' hown' hb'; replace hown' : jobK.own w3.heap.size w' v' M.jobs := hown'; have hbw' := below_low hb' (below_alloc (Below.refl _ _) _) (Nat.le_refl _); obtain ⟨g, cap', cur, rfl, hBg, hg, hc⟩ := hown'.block (fun e => by rw [e] at hn'; simp at hn'); have hm5' := (hbw'.block _ (heap_lt hm5)).trans hm5; obtain ⟨l5, c5⟩ := cells_of hm5'; have z5 := free_of hm5')
      have hm5w := heap_set_same (o := 1) (v := .slice (some ⟨g, 0, none⟩) M.jobs.length cap') hm5'
      have hm2w := (Below.heap_setCell w' ⟨w2.heap.size, 1, none⟩ (.slice (some ⟨g, 0, none⟩) M.jobs.length cap') _ (by simp; omega)).trans ((hbw'.block _ (heap_lt hm2)).trans hm2)
      have hb3 := below_set (below_via hbw' hb1) (p := ⟨w2.heap.size, 1, none⟩) (.slice (some ⟨g, 0, none⟩) M.jobs.length cap') (by simp only; omega)
      have hown3 := hown'.set (b := w2.heap.size) (o := 1) (u := .slice (some ⟨g, 0, none⟩) M.jobs.length cap') (heap_lt hm5)
      have hz4 : w3.heap.size ≤ (w'.setCell ⟨w2.heap.size, 1, none⟩ (.slice (some ⟨g, 0, none⟩) M.jobs.length cap')).heap.size := by simpa using hbw'.size
      have lx5 := heap_lt hm5
      clear hown' c5 z5 l5 hm5' hb' hbw' hg hc c2 l2
      generalize w'.setCell ⟨w2.heap.size, 1, none⟩ (.slice (some ⟨g, 0, none⟩) M.jobs.length cap') = w4 at hm5w hm2w hb3 hown3 hz4 ⊢
      replace hm5w : w4.heap[w2.heap.size]? = some (.cells #[.slice sa M.setup.length scap, .slice (some ⟨g, 0, none⟩) M.jobs.length cap'] 25 (0, 0)) := by simpa using hm5w
      have hown3' := hid hown3
      have l5 := (cells_of hm5w).1
      have c5 := (cells_of hm5w).2
      obtain ⟨i, hi⟩ : ∃ i : Nat, z % (M.jobs.length : Int) = i := ⟨(z % (M.jobs.length : Int)).toNat, by have := Int.emod_nonneg z (show (M.jobs.length : Int) ≠ 0 by omega); omega⟩
      have hil : i < M.jobs.length := by have := Int.emod_lt_of_pos z (show (0 : Int) < (M.jobs.length : Int) by omega); omega
      have ht1 : z.tmod (M.jobs.length : Int) = (i : Int) := by rw [Int.tmod_eq_emod_of_nonneg hz0, hi]
      have hw0 : IntKind.i64.wrap z = z := IntWalk.i64_in _ (by omega)
      have hw1 : ¬ (M.jobs.length : Int) = 0 := by omega
      have hii : (i : Int) < (M.jobs.length : Int) := by omega
      have hi' := hid hi
      clear hi hown3
      refine wp_region_later (by kernel_rfl) (by kernel_rfl) ?_
      intro hxl
      repeat (go_big_quiet_step (fail))
      refine wpQuiet_nil ?_
      rintro w5 ⟨x, hxw⟩
      have hb5 := x.below
      rw [← hxw] at hb5
      clear hxl hxw x ht1 hw0 hw1
      have hm5x := (hb5.block _ l5).trans hm5w
      have hm2x := (hb5.block _ (heap_lt hm2w)).trans hm2w
      have hown5 := hown3'.out.below hb5
      have hb05 := below_via hb5 hb3
      have hz5 : w3.heap.size ≤ w5.heap.size := Nat.le_trans hz4 hb5.size
      clear l5 c5 hm5w hm2w hown3' hb5 hb3 hz4
      obtain ⟨n, hn⟩ : ∃ n, 1 + y / 6 % 5 = n := ⟨_, rfl⟩
      obtain ⟨c, hcc⟩ : ∃ c, y % 6 = c := ⟨_, rfl⟩
      have hc6 : c = 0 ∨ c = 1 ∨ c = 2 ∨ c = 3 ∨ c = 4 ∨ c = 5 := by have := Int.emod_nonneg y (show (6 : Int) ≠ 0 by omega); have := Int.emod_lt_of_pos y (show (0 : Int) < 6 by omega); omega
      have hn15 : 1 ≤ n ∧ n ≤ 5 := by omega
      go_upto_block 0 with fail
      simp only [hcc]
      clear hn hcc
      have hkk : KeepB w (.slice sa M.setup.length scap) (.slice ja M.jobs.length jcap) w5 := ⟨hb05, hm2x⟩
      have hgg : w.heap.size < g := by omega
      have hbg : w2.heap.size < g := by have := heap_lt hm5x; have := heap_lt hm2x; omega
      go_cut [76] from 64 to 142 (fun _ wx => ∃ j', Eased M.jobs.length (M.job i) j' ∧ Hid (KeepX w (.slice sa M.setup.length scap) (.slice ja M.jobs.length jcap) (.slice none 0 0) [] w2.heap.size w2.heap.size (.slice (some ⟨g, 0, none⟩) M.jobs.length cap') (.slice (some ⟨g, 0, none⟩) M.jobs.length cap') (M.jobs.set i j') (M.jobs.set i j') wx))
      case first =>
        have hji : M.jobs[i]? = some (M.job i) := by unfold Mend.job; rw [List.getD_eq_getElem?_getD, List.getElem?_eq_getElem hil]; rfl
        obtain ⟨g2, cap2, cur, e1, hBg2, hg, hc⟩ := hown5.block (fun e => by rw [e] at hil; simp at hil)
        injection e1 with e1 e2 e3
        injection e1 with e1
        injection e1 with e1
        subst e1
        clear e2 e3
        have lg := (cells_of hg).1
        have zg := free_of hg
        have hnum := valid_nums hv'.out hil
        have hlo := valid_lo hv'.out hil
        have haf := (Mend.valid_ok hv'.out).after i hil
        obtain ⟨jj, hjj⟩ : ∃ jj, M.job i = jj := ⟨_, rfl⟩
        rw [hjj] at hji hnum hlo haf
        have hjj' := hid hjj
        clear hjj
        obtain ⟨kd, lo, hi, fr, so, bb, co, af⟩ := jj
        simp only at hnum hlo haf
        have hc1 : w5.cell? ⟨g, i * 8 + 1, none⟩ = some (.int .i64 lo) := hc i _ hji 1 _ rfl
        have hc2 : w5.cell? ⟨g, i * 8 + 1 + 1, none⟩ = some (.int .i64 hi) := hc i _ hji 2 _ rfl
        have hc3 : w5.cell? ⟨g, i * 8 + 3, none⟩ = some (.int .i64 fr) := hc i _ hji 3 _ rfl
        have hc4 : w5.cell? ⟨g, i * 8 + 4, none⟩ = some (.int .i64 so) := hc i _ hji 4 _ rfl
        have hc5 : w5.cell? ⟨g, i * 8 + 5, none⟩ = some (.int .i64 bb) := hc i _ hji 5 _ rfl
        have hc6x : w5.cell? ⟨g, i * 8 + 6, none⟩ = some (.int .i64 co) := hc i _ hji 6 _ rfl
        have hc7 : w5.cell? ⟨g, i * 8 + 7, none⟩ = some (.int .i64 af) := hc i _ hji 7 _ rfl
        have hji' := hji
        clear hji
        have hji := hid hji'
        rcases hc6 with rfl | rfl | rfl | rfl | rfl | rfl
        · have hw : IntKind.i64.wrap (hi - n) = hi - n := IntWalk.i64_in _ (by omega)
          go_upto_region 10 with fail
          refine wp_region_later_tail 17 (by kernel_rfl) (by kernel_rfl) ?_
          intro hxl
          simp only [List.take_succ_cons, List.take_zero, List.drop_succ_cons, List.drop_zero]
          repeat (go_big_quiet_step (fail))
          refine wpQuiet_nil ?_
          rintro w6 ⟨x, hxw⟩
          have hb6 := x.below
          rw [← hxw] at hb6
          clear hxl hxw x
          have hk6 := hkk.below hb6
          have hm6 := (hb6.block _ (heap_lt hm5x)).trans hm5x
          have ho6 := hid (hown5.below hb6)
          have hg6 := (hb6.block _ lg).trans hg
          have l6 := (cells_of hg6).1
          have z6 := free_of hg6
          have hc0 := (hb6.cell (p := ⟨g, i * 8 + 1 + 1, none⟩) lg).trans hc2
          clear hg6
          clear hown5 hg hc hji' hb05
          go_wp2
          all_goals
            go_meet
            first
              | (refine ⟨⟨kd, lo, hi - n, fr, so, bb, co, af⟩, ?_, hid (ease_keep (f := 2) (u := .int .i64 (hi - n)) hk6 hm6 ho6.out hgg hbg hji.out (by decide) rfl)⟩; rw [hjj'.out]; exact ⟨rfl, rfl, ⟨by simp only; omega, by simp only; omega⟩, ⟨hnum.2.2.2.2.2.2.1, Int.le_refl _⟩, ⟨Int.le_refl _, hnum.2.2.2.2.2.1⟩, ⟨Int.le_refl _, hnum.2.2.2.1⟩, ⟨hnum.1, Int.le_refl _⟩, ⟨haf.1, Int.le_refl _⟩, fun _ h => h⟩)
              | (refine ⟨⟨kd, lo, lo, fr, so, bb, co, af⟩, ?_, hid (ease_keep (f := 2) (u := .int .i64 (lo)) hk6 hm6 ho6.out hgg hbg hji.out (by decide) rfl)⟩; rw [hjj'.out]; exact ⟨rfl, rfl, ⟨by simp only; omega, by simp only; omega⟩, ⟨hnum.2.2.2.2.2.2.1, Int.le_refl _⟩, ⟨Int.le_refl _, hnum.2.2.2.2.2.1⟩, ⟨Int.le_refl _, hnum.2.2.2.1⟩, ⟨hnum.1, Int.le_refl _⟩, ⟨haf.1, Int.le_refl _⟩, fun _ h => h⟩)
        · have hw : IntKind.i64.wrap (fr - n) = fr - n := IntWalk.i64_in _ (by omega)
          have hk6 := hkk
          have hm6 := hm5x
          have ho6 := hid hown5
          clear hown5 hg hc hji' hb05
          go_wp2
          all_goals
            go_meet
            first
              | (refine ⟨⟨kd, lo, hi, fr - n, so, bb, co, af⟩, ?_, hid (ease_keep (f := 3) (u := .int .i64 (fr - n)) hk6 hm6 ho6.out hgg hbg hji.out (by decide) rfl)⟩; rw [hjj'.out]; exact ⟨rfl, rfl, ⟨hlo.2.1, Int.le_refl _⟩, ⟨by simp only; omega, by simp only; omega⟩, ⟨Int.le_refl _, hnum.2.2.2.2.2.1⟩, ⟨Int.le_refl _, hnum.2.2.2.1⟩, ⟨hnum.1, Int.le_refl _⟩, ⟨haf.1, Int.le_refl _⟩, fun _ h => h⟩)
              | (refine ⟨⟨kd, lo, hi, 0, so, bb, co, af⟩, ?_, hid (ease_keep (f := 3) (u := .int .i64 (0)) hk6 hm6 ho6.out hgg hbg hji.out (by decide) rfl)⟩; rw [hjj'.out]; exact ⟨rfl, rfl, ⟨hlo.2.1, Int.le_refl _⟩, ⟨by simp only; omega, by simp only; omega⟩, ⟨Int.le_refl _, hnum.2.2.2.2.2.1⟩, ⟨Int.le_refl _, hnum.2.2.2.1⟩, ⟨hnum.1, Int.le_refl _⟩, ⟨haf.1, Int.le_refl _⟩, fun _ h => h⟩)
        · have hw : IntKind.i64.wrap (bb + n) = bb + n := IntWalk.i64_in _ (by omega)
          have hk6 := hkk
          have hm6 := hm5x
          have ho6 := hid hown5
          clear hown5 hg hc hji' hb05
          go_wp2
          all_goals
            go_meet
            first
              | (refine ⟨⟨kd, lo, hi, fr, so, bb + n, co, af⟩, ?_, hid (ease_keep (f := 5) (u := .int .i64 (bb + n)) hk6 hm6 ho6.out hgg hbg hji.out (by decide) rfl)⟩; rw [hjj'.out]; exact ⟨rfl, rfl, ⟨hlo.2.1, Int.le_refl _⟩, ⟨hnum.2.2.2.2.2.2.1, Int.le_refl _⟩, ⟨by simp only; omega, by simp only; omega⟩, ⟨Int.le_refl _, hnum.2.2.2.1⟩, ⟨hnum.1, Int.le_refl _⟩, ⟨haf.1, Int.le_refl _⟩, fun _ h => h⟩)
              | (refine ⟨⟨kd, lo, hi, fr, so, 300, co, af⟩, ?_, hid (ease_keep (f := 5) (u := .int .i64 (300)) hk6 hm6 ho6.out hgg hbg hji.out (by decide) rfl)⟩; rw [hjj'.out]; exact ⟨rfl, rfl, ⟨hlo.2.1, Int.le_refl _⟩, ⟨hnum.2.2.2.2.2.2.1, Int.le_refl _⟩, ⟨by simp only; omega, by simp only; omega⟩, ⟨Int.le_refl _, hnum.2.2.2.1⟩, ⟨hnum.1, Int.le_refl _⟩, ⟨haf.1, Int.le_refl _⟩, fun _ h => h⟩)
        · have hw : IntKind.i64.wrap (so + n) = so + n := IntWalk.i64_in _ (by omega)
          have hk6 := hkk
          have hm6 := hm5x
          have ho6 := hid hown5
          clear hown5 hg hc hji' hb05
          go_wp2
          all_goals
            go_meet
            first
              | (refine ⟨⟨kd, lo, hi, fr, so + n, bb, co, af⟩, ?_, hid (ease_keep (f := 4) (u := .int .i64 (so + n)) hk6 hm6 ho6.out hgg hbg hji.out (by decide) rfl)⟩; rw [hjj'.out]; exact ⟨rfl, rfl, ⟨hlo.2.1, Int.le_refl _⟩, ⟨hnum.2.2.2.2.2.2.1, Int.le_refl _⟩, ⟨Int.le_refl _, hnum.2.2.2.2.2.1⟩, ⟨by simp only; omega, by simp only; omega⟩, ⟨hnum.1, Int.le_refl _⟩, ⟨haf.1, Int.le_refl _⟩, fun _ h => h⟩)
              | (refine ⟨⟨kd, lo, hi, fr, 300, bb, co, af⟩, ?_, hid (ease_keep (f := 4) (u := .int .i64 (300)) hk6 hm6 ho6.out hgg hbg hji.out (by decide) rfl)⟩; rw [hjj'.out]; exact ⟨rfl, rfl, ⟨hlo.2.1, Int.le_refl _⟩, ⟨hnum.2.2.2.2.2.2.1, Int.le_refl _⟩, ⟨Int.le_refl _, hnum.2.2.2.2.2.1⟩, ⟨by simp only; omega, by simp only; omega⟩, ⟨hnum.1, Int.le_refl _⟩, ⟨haf.1, Int.le_refl _⟩, fun _ h => h⟩)
        · have hw : IntKind.i64.wrap (co - n) = co - n := IntWalk.i64_in _ (by omega)
          have hk6 := hkk
          have hm6 := hm5x
          have ho6 := hid hown5
          clear hown5 hg hc hji' hb05
          go_wp2
          all_goals
            go_meet
            first
              | (refine ⟨⟨kd, lo, hi, fr, so, bb, co - n, af⟩, ?_, hid (ease_keep (f := 6) (u := .int .i64 (co - n)) hk6 hm6 ho6.out hgg hbg hji.out (by decide) rfl)⟩; rw [hjj'.out]; exact ⟨rfl, rfl, ⟨hlo.2.1, Int.le_refl _⟩, ⟨hnum.2.2.2.2.2.2.1, Int.le_refl _⟩, ⟨Int.le_refl _, hnum.2.2.2.2.2.1⟩, ⟨Int.le_refl _, hnum.2.2.2.1⟩, ⟨by simp only; omega, by simp only; omega⟩, ⟨haf.1, Int.le_refl _⟩, fun _ h => h⟩)
              | (refine ⟨⟨kd, lo, hi, fr, so, bb, 0, af⟩, ?_, hid (ease_keep (f := 6) (u := .int .i64 (0)) hk6 hm6 ho6.out hgg hbg hji.out (by decide) rfl)⟩; rw [hjj'.out]; exact ⟨rfl, rfl, ⟨hlo.2.1, Int.le_refl _⟩, ⟨hnum.2.2.2.2.2.2.1, Int.le_refl _⟩, ⟨Int.le_refl _, hnum.2.2.2.2.2.1⟩, ⟨Int.le_refl _, hnum.2.2.2.1⟩, ⟨by simp only; omega, by simp only; omega⟩, ⟨haf.1, Int.le_refl _⟩, fun _ h => h⟩)
        · obtain ⟨ba, hbit, hba⟩ : ∃ ba : Int, bits .and .i64 af (af - 1) = ba ∧ (0 ≤ ba ∧ ba ≤ af ∧ ∀ k, ba.toNat.testBit k = true → af.toNat.testBit k = true) := and_less haf.1 (by
            have h6 : (2 : Int) ^ M.jobs.length ≤ 2 ^ 6 := two_pow_le hlen6
            have h7 : (2 : Int) ^ 6 = 64 := by decide
            omega)
          have hw : IntKind.i64.wrap (af - 1) = af - 1 := IntWalk.i64_in _ (by
            have h6 : (2 : Int) ^ M.jobs.length ≤ 2 ^ 6 := two_pow_le hlen6
            have h7 : (2 : Int) ^ 6 = 64 := by decide
            omega)
          have hba' := hid hba
          clear hba
          go_upto_region 8 with fail
          refine wp_region_later_tail 12 (by kernel_rfl) (by kernel_rfl) ?_
          intro hxl
          simp only [List.take_succ_cons, List.take_zero, List.drop_succ_cons, List.drop_zero]
          repeat (go_big_quiet_step (fail))
          refine wpQuiet_nil ?_
          rintro w6 ⟨x, hxw⟩
          have hb6 := x.below
          rw [← hxw] at hb6
          clear hxl hxw x
          have hk6 := hkk.below hb6
          have hm6 := (hb6.block _ (heap_lt hm5x)).trans hm5x
          have ho6 := hid (hown5.below hb6)
          have hg6 := (hb6.block _ lg).trans hg
          have l6 := (cells_of hg6).1
          have z6 := free_of hg6
          have hc0 := (hb6.cell (p := ⟨g, i * 8 + 7, none⟩) lg).trans hc7
          clear hg6 hown5 hg hc hji' hb05
          go_wp2
          go_meet
          refine ⟨⟨kd, lo, hi, fr, so, bb, co, ba⟩, ?_, hid (ease_keep (f := 7) (u := .int .i64 ba) hk6 hm6 ho6.out hgg hbg hji.out (by decide) rfl)⟩
          rw [hjj'.out]
          exact ⟨rfl, rfl, ⟨hlo.2.1, Int.le_refl _⟩, ⟨hnum.2.2.2.2.2.2.1, Int.le_refl _⟩, ⟨Int.le_refl _, hnum.2.2.2.2.2.1⟩, ⟨Int.le_refl _, hnum.2.2.2.1⟩, ⟨hnum.1, Int.le_refl _⟩, ⟨hba'.out.1, hba'.out.2.1⟩, hba'.out.2.2⟩
      case rest =>
        obtain ⟨j', hE, hx0⟩ := hcut
        obtain ⟨hEz, hvN⟩ := ease_easier hv'.out hil hE
        have hx := hx0.out
        clear hx0 hkk hm5x hown5 hm2x hb05 hE
        have lm := (cells_of hx.k.m).1; have cm := (cells_of hx.k.m).2
        go_upto_region 20 with (go_at_call 34; refine (made_any M hv'.out (.slice sa M.setup.length scap) (.slice ja M.jobs.length jcap) bv bs _ (hS'.out.below hx.k.bel) (hJ'.out.below hx.k.bel) (hB'.out.below hx.k.bel)).mono ?_; rintro e w8 ⟨v8, l, rfl, hl, hown, hb8⟩; obtain ⟨la, lcap, rfl, _⟩ := hown.at; have hx := hx.below hb8; have hli := ints_at.2 hown.at; clear hown)
        obtain ⟨q, rfl, _, _, hql, _⟩ := ord_nat hl
        have hlq : (ints q).length = M.jobs.length := by simpa using hql
        rw [hlq] at hli ⊢
        generalize hNN : M.ease i j' = N at hEz hvN
        have hjN : M.jobs.set i j' = N.jobs := by rw [← hNN]; rfl
        have hsN : N.setup = M.setup := by rw [← hNN]; rfl
        rw [hjN] at hx
        have hk : KeepX w (.slice sa M.setup.length scap) (.slice ja M.jobs.length jcap) (.slice la M.jobs.length lcap) (ints q) w2.heap.size w2.heap.size (.slice (some ⟨g, 0, none⟩) M.jobs.length cap') (.slice (some ⟨g, 0, none⟩) M.jobs.length cap') N.jobs N.jobs _ := ⟨hx.k, hx.x1, hx.x2, hx.j1, hx.j2, hli⟩
        clear hx hli hjN hNN
        have hx := hk
        clear hk
        obtain ⟨hm1, ⟨ca, cb, hm2, hm3, hm4⟩, ⟨ds, dt, hm5, hm6, hm7, hm8, hm9⟩, hm10⟩ := more_law hEz hv'.out hvN
        have hlq' := hid hlq
        have hl' := hid hl
        have hvN' := hid hvN
        have hlN : ordB N.jobs.length (ints q) = true := by rw [hEz.len]; exact hl
        have hlN' := hid hlN
        have hSN : ∀ W, KeepX w (.slice sa M.setup.length scap) (.slice ja M.jobs.length jcap) (.slice la M.jobs.length lcap) (ints q) w2.heap.size w2.heap.size (.slice (some ⟨g, 0, none⟩) M.jobs.length cap') (.slice (some ⟨g, 0, none⟩) M.jobs.length cap') N.jobs N.jobs W → IntsAt W (.slice sa M.setup.length scap) N.setup := fun W h => by rw [hsN]; exact hS'.out.below h.k.bel
        have HR1 := hid (fun W (h : KeepX w (.slice sa M.setup.length scap) (.slice ja M.jobs.length jcap) (.slice la M.jobs.length lcap) (ints q) w2.heap.size w2.heap.size (.slice (some ⟨g, 0, none⟩) M.jobs.length cap') (.slice (some ⟨g, 0, none⟩) M.jobs.length cap') N.jobs N.jobs W) => lawRight_any M (.slice sa M.setup.length scap) (.slice ja M.jobs.length jcap) (.slice la M.jobs.length lcap) (ints q) (by rw [hlq'.out]; omega) W (hS'.out.below h.k.bel) (hJ'.out.below h.k.bel) h.li)
        have HR2 := hid (fun W (h : KeepX w (.slice sa M.setup.length scap) (.slice ja M.jobs.length jcap) (.slice la M.jobs.length lcap) (ints q) w2.heap.size w2.heap.size (.slice (some ⟨g, 0, none⟩) M.jobs.length cap') (.slice (some ⟨g, 0, none⟩) M.jobs.length cap') N.jobs N.jobs W) => lawRight_any N (.slice sa M.setup.length scap) _ (.slice la M.jobs.length lcap) (ints q) (by rw [hlq'.out]; omega) W (hSN W h) h.j1 h.li)
        have HC1 := hid (fun W (h : KeepX w (.slice sa M.setup.length scap) (.slice ja M.jobs.length jcap) (.slice la M.jobs.length lcap) (ints q) w2.heap.size w2.heap.size (.slice (some ⟨g, 0, none⟩) M.jobs.length cap') (.slice (some ⟨g, 0, none⟩) M.jobs.length cap') N.jobs N.jobs W) => lawCoins_any M hv'.out (.slice sa M.setup.length scap) (.slice ja M.jobs.length jcap) (.slice la M.jobs.length lcap) q hl'.out W (hS'.out.below h.k.bel) (hJ'.out.below h.k.bel) h.li)
        have HC2 := hid (fun W (h : KeepX w (.slice sa M.setup.length scap) (.slice ja M.jobs.length jcap) (.slice la M.jobs.length lcap) (ints q) w2.heap.size w2.heap.size (.slice (some ⟨g, 0, none⟩) M.jobs.length cap') (.slice (some ⟨g, 0, none⟩) M.jobs.length cap') N.jobs N.jobs W) => lawCoins_any N hvN'.out (.slice sa M.setup.length scap) _ (.slice la M.jobs.length lcap) q hlN'.out W (hSN W h) h.j1 h.li)
        have HN1 := hid (fun W (h : KeepX w (.slice sa M.setup.length scap) (.slice ja M.jobs.length jcap) (.slice la M.jobs.length lcap) (ints q) w2.heap.size w2.heap.size (.slice (some ⟨g, 0, none⟩) M.jobs.length cap') (.slice (some ⟨g, 0, none⟩) M.jobs.length cap') N.jobs N.jobs W) => Count_any M (.slice sa M.setup.length scap) (.slice ja M.jobs.length jcap) W (hS'.out.below h.k.bel) (hJ'.out.below h.k.bel))
        have HN2 := hid (fun W (h : KeepX w (.slice sa M.setup.length scap) (.slice ja M.jobs.length jcap) (.slice la M.jobs.length lcap) (ints q) w2.heap.size w2.heap.size (.slice (some ⟨g, 0, none⟩) M.jobs.length cap') (.slice (some ⟨g, 0, none⟩) M.jobs.length cap') N.jobs N.jobs W) => Count_any N (.slice sa M.setup.length scap) _ W (hSN W h) h.j1)
        have HD1 := hid (fun W (h : KeepX w (.slice sa M.setup.length scap) (.slice ja M.jobs.length jcap) (.slice la M.jobs.length lcap) (ints q) w2.heap.size w2.heap.size (.slice (some ⟨g, 0, none⟩) M.jobs.length cap') (.slice (some ⟨g, 0, none⟩) M.jobs.length cap') N.jobs N.jobs W) => Drop_any M (.slice sa M.setup.length scap) (.slice ja M.jobs.length jcap) W (hS'.out.below h.k.bel) (hJ'.out.below h.k.bel))
        have HD2 := hid (fun W (h : KeepX w (.slice sa M.setup.length scap) (.slice ja M.jobs.length jcap) (.slice la M.jobs.length lcap) (ints q) w2.heap.size w2.heap.size (.slice (some ⟨g, 0, none⟩) M.jobs.length cap') (.slice (some ⟨g, 0, none⟩) M.jobs.length cap') N.jobs N.jobs W) => Drop_any N (.slice sa M.setup.length scap) _ W (hSN W h) h.j1)
        have HB1 := hid (fun W (h : KeepX w (.slice sa M.setup.length scap) (.slice ja M.jobs.length jcap) (.slice la M.jobs.length lcap) (ints q) w2.heap.size w2.heap.size (.slice (some ⟨g, 0, none⟩) M.jobs.length cap') (.slice (some ⟨g, 0, none⟩) M.jobs.length cap') N.jobs N.jobs W) => Best_any M (.slice sa M.setup.length scap) (.slice ja M.jobs.length jcap) W (hS'.out.below h.k.bel) (hJ'.out.below h.k.bel))
        have HB2 := hid (fun W (h : KeepX w (.slice sa M.setup.length scap) (.slice ja M.jobs.length jcap) (.slice la M.jobs.length lcap) (ints q) w2.heap.size w2.heap.size (.slice (some ⟨g, 0, none⟩) M.jobs.length cap') (.slice (some ⟨g, 0, none⟩) M.jobs.length cap') N.jobs N.jobs W) => Best_any N (.slice sa M.setup.length scap) _ W (hSN W h) h.j1)
        have HU1 := hid (fun W (h : KeepX w (.slice sa M.setup.length scap) (.slice ja M.jobs.length jcap) (.slice la M.jobs.length lcap) (ints q) w2.heap.size w2.heap.size (.slice (some ⟨g, 0, none⟩) M.jobs.length cap') (.slice (some ⟨g, 0, none⟩) M.jobs.length cap') N.jobs N.jobs W) => Until_any M (.slice sa M.setup.length scap) (.slice ja M.jobs.length jcap) W (hS'.out.below h.k.bel) (hJ'.out.below h.k.bel))
        have HU2 := hid (fun W (h : KeepX w (.slice sa M.setup.length scap) (.slice ja M.jobs.length jcap) (.slice la M.jobs.length lcap) (ints q) w2.heap.size w2.heap.size (.slice (some ⟨g, 0, none⟩) M.jobs.length cap') (.slice (some ⟨g, 0, none⟩) M.jobs.length cap') N.jobs N.jobs W) => Until_any N (.slice sa M.setup.length scap) _ W (hSN W h) h.j1)
        have HZ1 := hid (fun W => refSize_any ds hm7 W)
        have HZ2 := hid (fun W => refSize_any dt hm8 W)
        rw [hm2] at HN1
        rw [hm3] at HN2
        rw [hm5] at HD1
        rw [hm6] at HD2
        have hm1' := hid hm1
        have hm10' := hid hm10
        have hds : decide ((ds : Int) < 0) = false := decide_eq_false (by omega)
        have hdt : decide ((dt : Int) < 0) = false := decide_eq_false (by omega)
        have hsz : decide (sizeN 6 ds < sizeN 6 dt) = false := decide_eq_false (by omega)
        have hcb : decide (cb < ca) = false := decide_eq_false (by omega)
        have hsz3 : ¬ sizeN 6 ds < sizeN 6 dt := by omega
        clear hm1 hm2 hm3 hm5 hm6 hm10 hlN hl hlq hvN hsN hSN
        have lm := (cells_of hx.k.m).1; have cm := (cells_of hx.k.m).2; have lx1 := (cells_of hx.x1).1; have cx1 := (cells_of hx.x1).2
        go_cut [163] from 146 to 163 (fun v wx => v = .bool false ∧ Hid (KeepX w (.slice sa M.setup.length scap) (.slice ja M.jobs.length jcap) (.slice la M.jobs.length lcap) (ints q) w2.heap.size w2.heap.size (.slice (some ⟨g, 0, none⟩) M.jobs.length cap') (.slice (some ⟨g, 0, none⟩) M.jobs.length cap') N.jobs N.jobs wx))
        case first =>
          have hrr : rightB M (ints q) = true ∨ rightB M (ints q) = false := by cases rightB M (ints q) <;> simp
          have hkey : rightB M (ints q) = false ∨ (rightB M (ints q) = true ∧ rightB N (ints q) = true ∧ decide (costFrom M Bench.begin q < costFrom N Bench.begin q) = false) := by
            rcases hrr with hrr | hrr
            · obtain ⟨h1, h2⟩ := hm1'.out q hl'.out hrr
              exact .inr ⟨hrr, h1, decide_eq_false (by omega)⟩
            · exact .inl hrr
          clear hrr
          rcases hkey with hrr | ⟨hrr, hrr2, hcc⟩
          all_goals
            rw [hrr] at HR1
            (try rw [hrr2] at HR2)
            clear hrr
            (try clear hrr2)
            refine wp_region_later (by kernel_rfl) (by kernel_rfl) ?_
            intro hxl
            repeat (go_big_quiet_step ((first | (go_at_call 37; with_reducible exact Calls.later (HR1.out _ (hx.below (Later.below _)))) | (go_at_call 37; with_reducible exact Calls.later (HR2.out _ (hx.below (Later.below _)))) | (go_at_call 39; with_reducible exact Calls.later (HC1.out _ (hx.below (Later.below _)))) | (go_at_call 39; with_reducible exact Calls.later (HC2.out _ (hx.below (Later.below _)))))))
            refine wpQuiet_nil ?_
            rintro w9 ⟨x, hxw⟩
            have hb9 := x.below
            rw [← hxw] at hb9
            clear hxl hxw x
            go_wp2
            go_meet
            exact ⟨rfl, hid (hx.below hb9)⟩
        case rest =>
          obtain ⟨rfl, hx0⟩ := hcut
          clear lm cm lx1 cx1 hx
          have hx := hx0.out
          clear hx0
          have lm := (cells_of hx.k.m).1; have cm := (cells_of hx.k.m).2; have lx1 := (cells_of hx.x1).1; have cx1 := (cells_of hx.x1).2
          generalize hbM : bestOf M = bM at HB1 hm10'
          generalize hbN : bestOf N = bN at HB2 hm10'
          generalize huM : untilOf M = uM at HU1 hm10'
          generalize huN : untilOf N = uN at HU2 hm10'
          clear hbM hbN huM huN
          obtain ⟨bM1, bM2, bM3⟩ := bM
          obtain ⟨bN1, bN2, bN3⟩ := bN
          obtain ⟨uM1, uM2⟩ := uM
          obtain ⟨uN1, uN2⟩ := uN
          simp only at HB1 HB2 HU1 HU2 hm10'
          go_upto_region 33 with (first
            | (go_at_call 20; with_reducible refine (HN1.out _ hx).mono ?_; rintro e w8 ⟨rfl, hb8⟩; have hx := hx.below hb8; have lm := (cells_of hx.k.m).1; have cm := (cells_of hx.k.m).2; have lx1 := (cells_of hx.x1).1; have cx1 := (cells_of hx.x1).2)
            | (go_at_call 20; with_reducible refine (HN2.out _ hx).mono ?_; rintro e w8 ⟨rfl, hb8⟩; have hx := hx.below hb8; have lm := (cells_of hx.k.m).1; have cm := (cells_of hx.k.m).2; have lx1 := (cells_of hx.x1).1; have cx1 := (cells_of hx.x1).2)
            | (go_at_call 30; with_reducible refine (HD1.out _ hx).mono ?_; rintro e w8 ⟨rfl, hb8⟩; have hx := hx.below hb8; have lm := (cells_of hx.k.m).1; have cm := (cells_of hx.k.m).2; have lx1 := (cells_of hx.x1).1; have cx1 := (cells_of hx.x1).2)
            | (go_at_call 30; with_reducible refine (HD2.out _ hx).mono ?_; rintro e w8 ⟨rfl, hb8⟩; have hx := hx.below hb8; have lm := (cells_of hx.k.m).1; have cm := (cells_of hx.k.m).2; have lx1 := (cells_of hx.x1).1; have cx1 := (cells_of hx.x1).2)
            | (go_at_call 44; with_reducible refine (HZ1.out _).mono ?_; rintro e w8 ⟨rfl, rfl⟩)
            | (go_at_call 44; with_reducible refine (HZ2.out _).mono ?_; rintro e w8 ⟨rfl, rfl⟩)
            | (go_at_call 26; with_reducible refine (HB1.out _ hx).mono ?_; rintro e w8 ⟨lv1, rfl, hL, hb8⟩; have hx := hx.below hb8; have lm := (cells_of hx.k.m).1; have cm := (cells_of hx.k.m).2; have lx1 := (cells_of hx.x1).1; have cx1 := (cells_of hx.x1).2)
            | (go_at_call 26; with_reducible refine (HB2.out _ hx).mono ?_; rintro e w8 ⟨lv2, rfl, hL, hb8⟩; have hx := hx.below hb8; have lm := (cells_of hx.k.m).1; have cm := (cells_of hx.k.m).2; have lx1 := (cells_of hx.x1).1; have cx1 := (cells_of hx.x1).2)
            | (go_at_call 28; with_reducible refine (HU1.out _ hx).mono ?_; rintro e w8 ⟨rfl, hb8⟩; have hx := hx.below hb8; have lm := (cells_of hx.k.m).1; have cm := (cells_of hx.k.m).2; have lx1 := (cells_of hx.x1).1; have cx1 := (cells_of hx.x1).2)
            | (go_at_call 28; with_reducible refine (HU2.out _ hx).mono ?_; rintro e w8 ⟨rfl, hb8⟩; have hx := hx.below hb8; have lm := (cells_of hx.k.m).1; have cm := (cells_of hx.k.m).2; have lx1 := (cells_of hx.x1).1; have cx1 := (cells_of hx.x1).2))
          have hfin : ((bM3 == 0) = false ∧ (bM3 != 0) = true ∧ ¬ bM3 = 0) ∨ (bM3 = 0 ∧ bN3 = 0 ∧ uM2 = 0 ∧ uN2 = 0 ∧ bN1 ≤ bM1 ∧ uN1 ≤ uM1) := by
            rcases hm10'.out with h | ⟨v, v', u, u', h1, h2, h3, h4, h5, h6, h7, h8⟩
            · exact .inl ⟨by rw [beq_eq_false_iff_ne]; exact h, by rw [bne_iff_ne]; exact h, h⟩
            · simp only [Prod.mk.injEq] at h6 h7
              exact .inr ⟨h2, h4, h6.2, h7.2, by omega, by omega⟩
          clear hm10'
          rcases hfin with ⟨hf1, hf2, hf3⟩ | ⟨rfl, rfl, rfl, rfl, hf1, hf2⟩
          all_goals
            go_wp2_with (go_at_call 13; with_reducible refine (awake_any _).mono ?_; rintro e w9 ⟨rfl, hb9⟩; have hx := hx.below hb9)
            go_ret
            exact ⟨rfl, hx.k.bel⟩

end Go.Proofs.Ytcgkglonnmkfcaa
