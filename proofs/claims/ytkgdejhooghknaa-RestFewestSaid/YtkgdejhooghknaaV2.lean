/- The walk of 'RestFewest', where another plan is right. -/
import Derived.Test.YtkgdejhooghknaaV0
import Derived.Outline
namespace Go.Proofs.Ytkgdejhooghknaa
open Go.RowKit Go.Lap Go.Shelf

set_option maxRecDepth 100000 in
set_option maxHeartbeats 8000000 in
theorem restFewest_some1 (R : Rest) (z : Int) (hz0 : 0 ≤ z) (hv : R.valid = true) (K : Int) (P : List Int) (N : Int) (hN : 0 < N) (hf : planR R changesG = (K, P, 0)) (hc : countR R = (N, 0)) (hP : P ∈ plansL R) (hK : chg P = K) (Q : List Int) (hQ : bitsL R.hours.toNat z = Q) (hrb : rightB R Q = true)
    (M : Int) (hM : chg Q = M) (hMK : K ≤ M) (hMq : M = K → Q = P ∨ Before P Q) (w : World) : Calls Try.prog 7 #[restV R, .int .u16 z] w fun e w' => e = .returned (.bool true) ∧ Below w.heap.size w w' := by
  have hh := Rest.valid_hours hv
  have ho := Rest.valid_ok hv
  have hlQ : Q.length = R.hours.toNat := by rw [← hQ, bitsL_length]
  have hl : Q.length ≤ 1000 := by omega
  have hlP : P.length = R.hours.toNat := (mem_plans hP).1
  have hlP2 : P.length ≤ 1000 := by omega
  have c32 := hid (fun w => valid_as hv w)
  have c21 := hid (fun w => fewest_as hf w)
  have c17 := hid (fun w => count_as hc w)
  have c33 := hid (fun w => by_list hQ hh.1 hh.2 hz0 w)
  have c35 := hid (fun w v h => right_as (v := v) hrb hl w h)
  have c35p := hid (fun w v h => right_as (v := v) ((rightB_iff hv).2 hP) hlP2 w h)
  have c36 := hid (fun w v h => planRef_as (v := v) (planOk_of hv hP) hlP2 w h)
  have c37 := hid (fun w v h => changes_as (v := v) hM hl w h)
  have c37p := hid (fun w v h => changes_as (v := v) hK hlP2 w h)
  have c14 := hid awake_any
  have hneed := hid (need_chg hP)
  have hKK := hid hK
  have hMK' := hid hMK
  have hMq' := hid hMq
  have hlP' := hid hlP
  have hQP := hid (hlQ.trans hlP.symm)
  have hP16 : P.length ≤ 16 := by omega
  have hN1 : decide (N < 0) = false := by simp; omega
  have hN2 : decide (0 < N) = true := by simpa using hN
  have hN3 : (N == 0) = false := by simp; omega
  clear hQ hlQ hv hf hc hrb hl hP hK hM hMK hMq hlP hlP2
  have hk := KeepR.start w R
  go_enter Try.func7, Try.ntmps7
  go_wp2_with (first | (go_at_call 21; with_reducible refine (c21.out _).mono ?_; rintro e w1 ⟨sa, sc, rfl, hn, hb1⟩; have hk := hk.plus hb1 hn; clear hn; obtain ⟨lx, cx⟩ := cells_of hk.r.x) | (go_at_call 17; with_reducible refine (c17.out _).mono ?_; rintro e w1 ⟨rfl, hb1⟩; have hk := hk.below hb1; obtain ⟨lx, cx⟩ := cells_of hk.r.x) | (go_at_call 32; with_reducible refine (c32.out _).mono ?_; rintro e w1 ⟨rfl, hb1⟩; have hk := hk.below hb1; obtain ⟨lx, cx⟩ := cells_of hk.r.x) | (go_at_call 33; with_reducible refine (c33.out _).mono ?_; rintro e w1 ⟨qa, qc, rfl, hn, hb1⟩; have hk := hk.plus hb1 hn; clear hn; obtain ⟨lx, cx⟩ := cells_of hk.r.x) | (go_at_call 35; with_reducible refine (c35.out _ _ hk.q).mono ?_; rintro e w1 ⟨rfl, hb1⟩; have hk := hk.below hb1; obtain ⟨lx, cx⟩ := cells_of hk.r.x) | (go_at_call 35; with_reducible refine (c35p.out _ _ hk.p).mono ?_; rintro e w1 ⟨rfl, hb1⟩; have hk := hk.below hb1; obtain ⟨lx, cx⟩ := cells_of hk.r.x) | (go_at_call 36; with_reducible refine (c36.out _ _ hk.p).mono ?_; rintro e w1 ⟨rfl, hb1⟩; have hk := hk.below hb1; obtain ⟨lx, cx⟩ := cells_of hk.r.x) | (go_at_call 37; with_reducible refine (c37p.out _ _ hk.p).mono ?_; rintro e w1 ⟨rfl, hb1⟩; have hk := hk.below hb1; obtain ⟨lx, cx⟩ := cells_of hk.r.x))
  go_loopw [11, 12, 116] (fun l n i wr => ∃ k : Nat, (k : Int) ≤ R.hours ∧ i = .int .i64 k ∧ l = .int .i64 (need R k).1 ∧ n = .int .i64 (need R k).2 ∧ KeepQ w R (.slice sa P.length sc) P (.slice qa Q.length qc) Q wr) (fun _ _ i _ => R.hours.toNat - (intOf i).toNat)
  case atStart => exact ⟨0, hh.1, rfl, rfl, rfl, hk⟩
  case round =>
    obtain ⟨k, hk2, rfl, rfl, rfl, hq⟩ := hrel
    have hbd := need_bd R k
    have hs := need_succ R k
    obtain ⟨last, n, hLN⟩ : ∃ l n, need R k = (l, n) := ⟨_, _, rfl⟩
    rw [hLN] at hbd hs ⊢
    simp only at hbd hs ⊢
    obtain ⟨lx, cx⟩ := cells_of hq.r.x
    by_cases hlt : (k : Int) < R.hours
    · have hLN' := hid hLN
      clear hLN
      cases ha : hasBit R.r0.out k
      all_goals cases hb : hasBit R.r1.out k
      all_goals
        have ha2 := bit_walk ha
        have hb2 := bit_walk hb
        rw [ha, hb] at hs
        have hs' := hid hs
        clear hs ha hb
      · go_wp2
        go_quiet (fail)
        go_wp2
        go_roundw
        case rel => exact ⟨k + 1, by omega, by go_num, by rw [hs'.out]; simp, by rw [hs'.out]; simp, hq.below (below_drewN (Below.refl _ _) _)⟩
        case measure => simp [intOf]; omega
      · by_cases h1 : 0 ≤ last
        · by_cases h2 : last = 0
          · subst h2
            go_wp2
            go_quiet (fail)
            go_wp2
            go_roundw
            case rel => exact ⟨k + 1, by omega, by go_num, by rw [hs'.out]; simp, by rw [hs'.out]; simp, hq.below (below_drewN (Below.refl _ _) _)⟩
            case measure => simp [intOf]; omega
          · have h3 : ((0 : Int) == last) = false := by simp; omega
            have h4 : ((0 : Int) != last) = true := by simp; omega
            have h2' := hid h2
            clear h2
            go_wp2
            go_quiet (fail)
            go_wp2
            go_roundw
            case rel => exact ⟨k + 1, by omega, by go_num, by rw [hs'.out]; simp, by rw [hs'.out]; have := h2'.out; simp [h1]; omega, hq.below (below_drewN (Below.refl _ _) _)⟩
            case measure => simp [intOf]; omega
        · have h3 : decide (0 ≤ last) = false := by simp; omega
          have h1' := hid h1
          clear h1
          go_wp2
          go_quiet (fail)
          go_wp2
          go_roundw
          case rel => exact ⟨k + 1, by omega, by go_num, by rw [hs'.out]; simp, by rw [hs'.out]; have h5 := h1'.out; simp; intro h6; omega, hq.below (below_drewN (Below.refl _ _) _)⟩
          case measure => simp [intOf]; omega
      · by_cases h1 : 0 ≤ last
        · by_cases h2 : last = 1
          · subst h2
            go_wp2
            go_quiet (fail)
            go_wp2
            go_roundw
            case rel => exact ⟨k + 1, by omega, by go_num, by rw [hs'.out]; simp, by rw [hs'.out]; simp, hq.below (below_drewN (Below.refl _ _) _)⟩
            case measure => simp [intOf]; omega
          · have h3 : ((1 : Int) == last) = false := by simp; omega
            have h4 : ((1 : Int) != last) = true := by simp; omega
            have h2' := hid h2
            clear h2
            go_wp2
            go_quiet (fail)
            go_wp2
            go_roundw
            case rel => exact ⟨k + 1, by omega, by go_num, by rw [hs'.out]; simp, by rw [hs'.out]; have := h2'.out; simp [h1]; omega, hq.below (below_drewN (Below.refl _ _) _)⟩
            case measure => simp [intOf]; omega
        · have h3 : decide (0 ≤ last) = false := by simp; omega
          have h1' := hid h1
          clear h1
          go_wp2
          go_quiet (fail)
          go_wp2
          go_roundw
          case rel => exact ⟨k + 1, by omega, by go_num, by rw [hs'.out]; simp, by rw [hs'.out]; have h5 := h1'.out; simp; intro h6; omega, hq.below (below_drewN (Below.refl _ _) _)⟩
          case measure => simp [intOf]; omega
      · go_wp2
        go_quiet (fail)
        go_wp2
        go_roundw
        case rel => exact ⟨k + 1, by omega, by go_num, by rw [hs'.out]; simp, by rw [hs'.out]; simp, hq.below (below_drewN (Below.refl _ _) _)⟩
        case measure => simp [intOf]; omega
    · have hkh : R.hours.toNat = k := by omega
      have hnk : decide (K < n) = false := by
        have h1 := hneed.out
        rw [hkh, hLN, hKK.out] at h1
        simpa using h1
      clear hs hLN hkh
      have hk := hq
      have hd0 : decide (M < K) = false := by simp; exact hMK'.out
      go_wp2_with (first | (go_at_call 35; with_reducible refine (c35.out _ _ hk.q).mono ?_; rintro e w1 ⟨rfl, hb1⟩; have hk := hk.below hb1; obtain ⟨lx, cx⟩ := cells_of hk.r.x) | (go_at_call 37; with_reducible refine (c37.out _ _ hk.q).mono ?_; rintro e w1 ⟨rfl, hb1⟩; have hk := hk.below hb1; obtain ⟨lx, cx⟩ := cells_of hk.r.x))
      cases hMe : M == K
      · have hMe' := hid hMe
        go_loopw [165] (fun i wr => ∃ j : Nat, j ≤ P.length ∧ i = .int .i64 j ∧ KeepQ w R (.slice sa P.length sc) P (.slice qa Q.length qc) Q wr) (fun i _ => P.length - (intOf i).toNat)
        case atStart => exact ⟨0, by omega, rfl, hk⟩
        case round =>
          obtain ⟨j, hj, rfl, hq⟩ := hrel
          by_cases hlt : j < P.length
          · go_wp2
            go_quiet (fail)
            go_wp2
            go_roundw
            case rel => exact ⟨j + 1, by omega, by go_num, hq.below (below_drewN (Below.refl _ _) _)⟩
            case measure => simp [intOf]; omega
          · obtain rfl : j = P.length := by omega
            have hk := hq
            obtain ⟨lx, cx⟩ := cells_of hk.r.x
            go_wp2_with (first | (go_at_call 14; with_reducible refine (c14.out _).mono ?_; rintro e w1 ⟨rfl, hb1⟩; have hk := hk.below hb1; obtain ⟨lx, cx⟩ := cells_of hk.r.x))
            go_ret
            exact ⟨rfl, hk.r.bel⟩
      · have hMq2 := hid (hMq'.out (by simpa using hMe))
        go_loopw [165] (fun i wr => ∃ j : Nat, j ≤ P.length ∧ i = .int .i64 j ∧ Hid (P.take j = Q.take j) ∧ KeepQ w R (.slice sa P.length sc) P (.slice qa Q.length qc) Q wr) (fun i _ => P.length - (intOf i).toNat)
        case atStart => exact ⟨0, by omega, rfl, hid rfl, hk⟩
        case round =>
          obtain ⟨j, hj, rfl, ht, hq⟩ := hrel
          by_cases hlt : j < P.length
          · have hlt2 : j < Q.length := by rw [hQP.out]; exact hlt
            have hlt3 : (j : Int) < Q.length := by omega
            have hlt4 : (j : Int) < P.length := by omega
            obtain ⟨pb, po, rfl, _, hc⟩ := intsAt_cell hq.p hlt
            obtain ⟨qb, qo, rfl, _, hc2⟩ := intsAt_cell hq.q hlt2
            have hcj := hc j hlt
            have hcj2 := hc2 j hlt2
            clear hc hc2
            have lpb := cell_lt hcj
            have lqb := cell_lt hcj2
            have hnx := hid (take_next hlt hlt2 ht.out)
            have hat : Hid (P.getD j 0 ≠ Q.getD j 0 → P.getD j 0 = 0 ∧ Q.getD j 0 = 1) := hid (fun hne => by
              rcases hMq2.out with e | hB
              · rw [e] at hne; exact (hne rfl).elim
              · exact hB.at ht.out hne)
            generalize P.getD j 0 = x at *
            generalize Q.getD j 0 = y at *
            by_cases hxy : x = y
            · subst hxy
              have hnx' := hid (hnx.out rfl)
              have hxx : (x != x) = false := by simp
              go_wp2
              go_quiet (fail)
              go_wp2
              go_roundw
              case rel => exact ⟨j + 1, by omega, by go_num, hnx', hq.below (below_drewN (Below.refl _ _) _)⟩
              case measure => simp [intOf]; omega
            · obtain ⟨rfl, rfl⟩ := hat.out hxy
              clear hnx hat hxy hlt2
              go_wp2
              go_quiet (fail)
              go_wp2
              refine wp_region_later (by kernel_rfl) (by kernel_rfl) ?_
              intro hx
              simp only [World.heap_drewN, World.cell?_drewN] at hx
              repeat (any_goals (first | go_big_quiet_step ((go_at_call 14; exact Calls.later_as rfl (c14.out _)))))
              refine wpQuiet_nil ?_
              rintro _ ⟨⟨w2, hb2⟩, rfl⟩
              clear hx
              go_wp2
              go_ret
              exact ⟨rfl, below_via hb2 (below_drewN hq.r.bel _)⟩
          · obtain rfl : j = P.length := by omega
            have hk := hq
            obtain ⟨lx, cx⟩ := cells_of hk.r.x
            go_wp2_with (first | (go_at_call 14; with_reducible refine (c14.out _).mono ?_; rintro e w1 ⟨rfl, hb1⟩; have hk := hk.below hb1; obtain ⟨lx, cx⟩ := cells_of hk.r.x))
            go_ret
            exact ⟨rfl, hk.r.bel⟩

end Go.Proofs.Ytkgdejhooghknaa
