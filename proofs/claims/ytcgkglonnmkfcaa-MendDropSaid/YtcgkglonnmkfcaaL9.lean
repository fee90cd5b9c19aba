/- The walk of the law MendDrop. -/
import Derived.Test.YtcgkglonnmkfcaaGX
import Derived.Test.YtcgkglonnmkfcaaR3
import Derived.Test.YtcgkglonnmkfcaaR9
namespace Go.Proofs.Ytcgkglonnmkfcaa
open Go.RowKit Go.Lap Go.Shelf

set_option maxRecDepth 100000 in
set_option maxHeartbeats 8000000 in
theorem mendDrop_any (M : Mend) (sv jv : Value) (z : Int) (w : World) (hS : IntsAt w sv M.setup) (hJ : JobsAt w jv M.jobs) (hz0 : 0 ≤ z) (hz1 : z ≤ 255) :
    Calls Try.prog 9 #[.agg #[sv, jv], .int .u8 z] w fun e w' => e = .returned (.bool true) ∧ Below w.heap.size w w' := by
  have hS' := hid hS
  have hJ' := hid hJ
  obtain ⟨sa, scap, rfl, _⟩ := hS
  obtain ⟨ja, jcap, rfl, _⟩ := hJ
  have hx := KeepB.start w (.slice sa M.setup.length scap) (.slice ja M.jobs.length jcap)
  have HF := hid (fun W (h : KeepB w (.slice sa M.setup.length scap) (.slice ja M.jobs.length jcap) W) => fine_any M (.slice sa M.setup.length scap) (.slice ja M.jobs.length jcap) W (hS'.out.below h.bel) (hJ'.out.below h.bel))
  cases hv : M.valid
  · rw [hv] at HF
    clear hv
    go_enter Try.func9, Try.ntmps9
    go_upto_region 1 with fail
    generalize w.alloc (.cells #[.slice sa M.setup.length scap, .slice ja M.jobs.length jcap] 25) = w1 at hx ⊢
    have lm := (cells_of hx.m).1; have cm := (cells_of hx.m).2
    go_wp2_with (first
      | (go_at_call 33; with_reducible refine (HF.out _ hx).mono ?_; rintro e w2 ⟨rfl, hb2⟩; have hx := hx.below hb2)
      | (go_at_call 13; with_reducible refine (awake_any _).mono ?_; rintro e w3 ⟨rfl, hb3⟩; have hx := hx.below hb3))
    go_ret
    exact ⟨rfl, hx.bel⟩
  · rw [hv] at HF
    have hM := Mend.valid_ok hv
    have hM' := hid hM
    have hM6 := hM.len
    have HCan := hid (fun (q : Nat) (hq : q < 64) W (h : KeepB w (.slice sa M.setup.length scap) (.slice ja M.jobs.length jcap) W) => can_any M hv q hq w.heap.size (.slice sa M.setup.length scap) (.slice ja M.jobs.length jcap) W h.m (hS'.out.below h.bel) (hJ'.out.below h.bel))
    have H30 := fun W (h : KeepB w (.slice sa M.setup.length scap) (.slice ja M.jobs.length jcap) W) => Drop_any M (.slice sa M.setup.length scap) (.slice ja M.jobs.length jcap) W (hS'.out.below h.bel) (hJ'.out.below h.bel)
    have H20 := fun W (h : KeepB w (.slice sa M.setup.length scap) (.slice ja M.jobs.length jcap) W) => Count_any M (.slice sa M.setup.length scap) (.slice ja M.jobs.length jcap) W (hS'.out.below h.bel) (hJ'.out.below h.bel)
    have H22 := fun W (h : KeepB w (.slice sa M.setup.length scap) (.slice ja M.jobs.length jcap) W) => First_any M (.slice sa M.setup.length scap) (.slice ja M.jobs.length jcap) W (hS'.out.below h.bel) (hJ'.out.below h.bel)
    obtain ⟨D, K, F, E, hf⟩ := drop_facts hv
    rw [hf.d] at H30
    rw [hf.c] at H20
    rw [hf.f] at H22
    dsimp only at H20 H22 H30
    have hEi := hf.e
    have hDE := hf.dE
    have hFE := hf.fE
    have hw1 := hf.p
    have hand := hf.an
    have hw3 : IntKind.i64.wrap ((E : Int) + 1 - 1) = (E : Int) := by rw [IntWalk.i64_in _ (by omega)]; omega
    have hni62 : (M.jobs.length : Int) ≤ 62 := by omega
    have H20 := hid H20
    have H22 := hid H22
    have H30 := hid H30
    have hf := hid hf
    clear hv hM
    go_enter Try.func9, Try.ntmps9
    go_upto_region 1 with fail
    generalize w.alloc (.cells #[.slice sa M.setup.length scap, .slice ja M.jobs.length jcap] 25) = w1 at hx ⊢
    have lm := (cells_of hx.m).1; have cm := (cells_of hx.m).2
    go_upto_region 8 with (first
      | (go_at_call 33; with_reducible refine (HF.out _ hx).mono ?_; rintro e w2 ⟨rfl, hb⟩; have hx := hx.below hb; have lm := (cells_of hx.m).1; have cm := (cells_of hx.m).2)
      | (go_at_call 30; with_reducible refine (H30.out _ hx).mono ?_; rintro e w2 ⟨rfl, hb⟩; have hx := hx.below hb; have lm := (cells_of hx.m).1; have cm := (cells_of hx.m).2)
      | (go_at_call 20; with_reducible refine (H20.out _ hx).mono ?_; rintro e w2 ⟨rfl, hb⟩; have hx := hx.below hb; have lm := (cells_of hx.m).1; have cm := (cells_of hx.m).2)
      | (go_at_call 22; with_reducible refine (H22.out _ hx).mono ?_; rintro e w2 ⟨rfl, hb⟩; have hx := hx.below hb; have lm := (cells_of hx.m).1; have cm := (cells_of hx.m).2))
    simp only [hw1]
    have hb0 := hid hx
    have HC1 := hid (HCan.out D (by omega))
    have hn1 : decide ((0 : Int) < (M.jobs.length : Int)) = decide (0 < M.jobs.length) := by simp
    obtain ⟨b, hb⟩ : ∃ b, decide (0 < K) = b := ⟨_, rfl⟩
    obtain ⟨c, hc⟩ : ∃ c, decide (0 < M.jobs.length) = c := ⟨_, rfl⟩
    have f1 : ((D : Int) == 0) = b := by rw [← hb, ← hf.out.dz, Bool.eq_iff_iff]; simp
    have f2 : ((F : Int) != 0) = (b && c) := by rw [← hb, ← hc, ← hf.out.fz, Bool.eq_iff_iff]; simp
    have f3 : decide ((0 : Int) < (K : Int)) = b := by rw [← hb]; simp
    have f4 : decide ((E : Int) < (D : Int)) = false := by simp; omega
    have f4' : decide (E < D) = false := by simp; omega
    have f5 : decide ((D : Int) < 0) = false := by simp
    have f6 : decide ((F : Int) < 0) = false := by simp
    have f7 : decide ((0 : Int) < (M.jobs.length : Int)) = c := by rw [← hc]; simp
    go_cut [96] from 42 to 96 (fun v wx => v = .bool false ∧ Hid (KeepB w (.slice sa M.setup.length scap) (.slice ja M.jobs.length jcap) wx))
    case first =>
      have HC1x := HC1.out w2 hx
      rw [hf.out.can] at HC1x
      have HC1x := hid HC1x
      clear hn1
      cases b
      · go_wp2_with (go_at_call 42; with_reducible refine HC1x.out.mono ?_; rintro e w3 ⟨rfl, hb3⟩; have hx := hx.below hb3; have lm := (cells_of hx.m).1; have cm := (cells_of hx.m).2)
        go_meet
        exact ⟨rfl, hid hx⟩
      · go_wp2_with (go_at_call 42; with_reducible refine HC1x.out.mono ?_; rintro e w3 ⟨rfl, hb3⟩; have hx := hx.below hb3; have lm := (cells_of hx.m).1; have cm := (cells_of hx.m).2)
        go_meet
        exact ⟨rfl, hid hx⟩
    case rest =>
      clear hx lm cm hb0 HC1 hn1 hb hc f1 f2 f3 f4 f4' f5 f6 f7
      obtain ⟨rfl, hx⟩ := hcut
      have lm := (cells_of hx.out.m).1
      have cm := (cells_of hx.out.m).2
      go_wp2
      clear lm cm
      go_loopw [100] (fun ix wr => ∃ k : Nat, k ≤ M.jobs.length ∧ ix = .int .i64 k ∧ Hid (KeepB w (.slice sa M.setup.length scap) (.slice ja M.jobs.length jcap) wr)) (fun ix _ => M.jobs.length - (intOf ix).toNat)
      case atStart => exact ⟨0, by omega, rfl, hx⟩
      case round =>
        obtain ⟨k, hkk, rfl, hxr⟩ := hrel
        clear hx
        by_cases hlt : k < M.jobs.length
        · have hki : (k : Int) < (M.jobs.length : Int) := by omega
          obtain ⟨a', c', e1, hjc⟩ := hJ'.out.below hxr.out.bel
          injection e1 with e1 e2 e3
          subst e1
          subst e3
          clear e2
          obtain ⟨jb, jo, rfl, hjq⟩ := hjc (fun e => by rw [e] at hlt; simp at hlt)
          obtain ⟨j, hj⟩ : ∃ j, M.job k = j := ⟨_, rfl⟩
          have hc0 := hjq k hlt 0 (by decide)
          have hc1 := hjq k hlt 1 (by decide)
          have hc2 := hjq k hlt 2 (by decide)
          have hc3 := hjq k hlt 3 (by decide)
          have hc4 := hjq k hlt 4 (by decide)
          have hc5 := hjq k hlt 5 (by decide)
          have hc6 := hjq k hlt 6 (by decide)
          have hc7 := hjq k hlt 7 (by decide)
          rw [show M.jobs.getD k Job.none = j from hj] at hc0 hc1 hc2 hc3 hc4 hc5 hc6 hc7
          simp only [Job.cells, List.getD_cons_zero, List.getD_cons_succ, Nat.add_zero] at hc0 hc1 hc2 hc3 hc4 hc5 hc6 hc7
          have ljb := cell_lt hc0
          have hj' := hid hj
          clear hj hjq hjc
          go_upto_region 13 with fail
          have hbq := below_alloc (Below.refl _ wr) (.cells #[.int .i64 j.kind, .int .i64 j.lo, .int .i64 j.hi, .int .i64 j.from_, .int .i64 j.soft, .int .i64 j.by_, .int .i64 j.cost, .int .i64 j.after] 48)
          have hq : (wr.alloc (.cells #[.int .i64 j.kind, .int .i64 j.lo, .int .i64 j.hi, .int .i64 j.from_, .int .i64 j.soft, .int .i64 j.by_, .int .i64 j.cost, .int .i64 j.after] 48)).heap[wr.heap.size]? = some (.cells #[.int .i64 j.kind, .int .i64 j.lo, .int .i64 j.hi, .int .i64 j.from_, .int .i64 j.soft, .int .i64 j.by_, .int .i64 j.cost, .int .i64 j.after] 48 (0, 0)) := alloc_at rfl
          have hxq := hid (hxr.out.below hbq)
          clear hc0 hc1 hc2 hc3 hc4 hc5 hc6 hc7 ljb
          generalize wr.alloc (.cells #[.int .i64 j.kind, .int .i64 j.lo, .int .i64 j.hi, .int .i64 j.from_, .int .i64 j.soft, .int .i64 j.by_, .int .i64 j.cost, .int .i64 j.after] 48) = wq at hq hxq hbq ⊢
          obtain ⟨qb, hqb⟩ : ∃ qb, wr.heap.size = qb := ⟨_, rfl⟩
          rw [hqb] at hq ⊢
          have hq := hid hq
          clear hbq hqb
          have hsD := shr_bit (show (0 : Int) ≤ (D : Int) by omega) k
          have hsF := shr_bit (show (0 : Int) ≤ (F : Int) by omega) k
          rw [Int.toNat_natCast] at hsD hsF
          have hk62 : (k : Int) ≤ 62 := by omega
          obtain ⟨tD, htD⟩ : ∃ t, D.testBit k = t := ⟨_, rfl⟩
          rw [htD] at hsD
          cases tD
          · have hsD : (D : Int) / 2 ^ k % 2 = 0 := by simpa using hsD
            clear htD
            have lq := (cells_of hq.out).1
            have cq := (cells_of hq.out).2
            obtain ⟨tF, htF⟩ : ∃ t, F.testBit k = t := ⟨_, rfl⟩
            rw [htF] at hsF
            cases tF
            · have hsF : (F : Int) / 2 ^ k % 2 = 0 := by simpa using hsF
              clear htF
              go_wp2
              go_roundw
              case rel => exact ⟨k + 1, by omega, by go_num, hxq⟩
              case measure => simp [intOf]; omega
            · have hsF : (F : Int) / 2 ^ k % 2 = 1 := by simpa using hsF
              have haf : j.after = 0 := by rw [← hj'.out]; exact hf.out.after k htF
              rw [haf] at cq
              clear htF haf
              go_wp2
              go_roundw
              case rel => exact ⟨k + 1, by omega, by go_num, hxq⟩
              case measure => simp [intOf]; omega
          · have hsD : (D : Int) / 2 ^ k % 2 = 1 := by simpa using hsD
            have hp6 : 2 ^ k ≤ 64 := Nat.le_trans (Nat.pow_le_pow_right (by decide) (show k ≤ 6 by omega)) (by decide)
            have hpi : (2 : Int) ^ k = ((2 ^ k : Nat) : Int) := by simp
            have han := andNot_i D (2 ^ k) (by omega) (by omega)
            have hcan := hf.out.less k htD
            have hlt64 : Go.Lap.andN D (2 ^ k) < 64 := Nat.lt_of_le_of_lt (Go.Lap.andN_le _ _) (by omega)
            have HCk := HCan.out (Go.Lap.andN D (2 ^ k)) hlt64 wq hxq.out
            rw [hcan] at HCk
            obtain ⟨q, hqq⟩ : ∃ q, Go.Lap.andN D (2 ^ k) = q := ⟨_, rfl⟩
            rw [hqq] at han HCk
            obtain ⟨pw, hpw⟩ : ∃ pw, 2 ^ k = pw := ⟨_, rfl⟩
            rw [hpw] at hpi han hp6
            have hwr : wrap64 ((2 : Int) ^ k) = (pw : Int) := by rw [hpi]; exact IntWalk.wrap64_in _ (by omega)
            have HCk := hid HCk
            clear htD hcan hlt64 hqq hpi hpw
            obtain ⟨tF, htF⟩ : ∃ t, F.testBit k = t := ⟨_, rfl⟩
            rw [htF] at hsF
            cases tF
            · have hsF : (F : Int) / 2 ^ k % 2 = 0 := by simpa using hsF
              clear htF
              go_wp2_with (go_at_call 42; with_reducible refine HCk.out.mono ?_; rintro e w3 ⟨rfl, hb3⟩; have hxq := hid (hxq.out.below hb3); have hq := hid ((hb3.block _ (cells_of hq.out).1).trans hq.out); have lq := (cells_of hq.out).1; have cq := (cells_of hq.out).2; (try rw [haf] at cq))
              go_roundw
              case rel => exact ⟨k + 1, by omega, by go_num, hxq⟩
              case measure => simp [intOf]; omega
            · have hsF : (F : Int) / 2 ^ k % 2 = 1 := by simpa using hsF
              have haf : j.after = 0 := by rw [← hj'.out]; exact hf.out.after k htF
              clear htF
              go_wp2_with (go_at_call 42; with_reducible refine HCk.out.mono ?_; rintro e w3 ⟨rfl, hb3⟩; have hxq := hid (hxq.out.below hb3); have hq := hid ((hb3.block _ (cells_of hq.out).1).trans hq.out); have lq := (cells_of hq.out).1; have cq := (cells_of hq.out).2; (try rw [haf] at cq))
              go_roundw
              case rel => exact ⟨k + 1, by omega, by go_num, hxq⟩
              case measure => simp [intOf]; omega
        · obtain rfl : k = M.jobs.length := by omega
          have hand2 : ∃ o : Nat, bits .and .i64 z (E : Int) = (o : Int) ∧ o ≤ E := by
            obtain ⟨zn, rfl⟩ : ∃ zn : Nat, z = (zn : Int) := ⟨z.toNat, by omega⟩
            exact ⟨zn &&& E, (Go.Lap.bits_nat zn E (by omega) (by omega)).1, Nat.and_le_right⟩
          obtain ⟨o, hao, hoE⟩ := hand2
          have hcv : IntKind.i64.wrap z = z := IntWalk.i64_in _ (by omega)
          have hox := hf.out.other o hoE
          have HCo := HCan.out o (by omega) wr hxr.out
          have c44a := refSize_any o (by omega)
          have c44b := refSize_any D (by omega)
          obtain ⟨za, hza⟩ : ∃ za, sizeN 6 o = za := ⟨_, rfl⟩
          obtain ⟨zb, hzb⟩ : ∃ zb, sizeN 6 D = zb := ⟨_, rfl⟩
          obtain ⟨cn, hcn⟩ : ∃ cn, canB M o = cn := ⟨_, rfl⟩
          rw [hza] at c44a hox
          rw [hzb] at c44b hox
          rw [hcn] at HCo hox
          have c44a := hid c44a
          have c44b := hid c44b
          have HCo := hid HCo
          clear hza hzb hcn
          have fin : cn = false ∨ (cn = true ∧ zb < za) ∨ (cn = true ∧ ¬ zb < za ∧ za = zb ∧ D ≤ o) := by
            cases cn
            · exact .inl rfl
            · simp only [Bool.not_true, Bool.false_or, Bool.or_eq_true, Bool.and_eq_true, decide_eq_true_eq] at hox
              by_cases h : zb < za
              · exact .inr (.inl ⟨rfl, h⟩)
              · rcases hox with h2 | ⟨h2, h3⟩
                · exact (h h2).elim
                · exact .inr (.inr ⟨rfl, h, h2, h3⟩)
          clear hox
          rcases fin with rfl | ⟨rfl, hlt1⟩ | ⟨rfl, hlt1, rfl, hDo⟩
          all_goals
            go_wp2_with (first
              | (go_at_call 42; with_reducible refine HCo.out.mono ?_; rintro e w3 ⟨rfl, hb3⟩; have hxr := hid (hxr.out.below hb3))
              | (go_at_call 44; with_reducible refine (c44a.out _).mono ?_; rintro e w4 ⟨rfl, rfl⟩)
              | (go_at_call 44; with_reducible refine (c44b.out _).mono ?_; rintro e w4 ⟨rfl, rfl⟩)
              | (go_at_call 13; with_reducible refine (awake_any _).mono ?_; rintro e w5 ⟨rfl, hb5⟩; have hxr := hid (hxr.out.below hb5)))
            go_ret
            exact ⟨rfl, hxr.out.bel⟩
end Go.Proofs.Ytcgkglonnmkfcaa
