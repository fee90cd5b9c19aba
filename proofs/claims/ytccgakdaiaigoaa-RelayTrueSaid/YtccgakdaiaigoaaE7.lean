/- The law RelayWrong, walked. -/
import Derived.Test.YtccgakdaiaigoaaE6
namespace Go.Proofs.Ytccgakdaiaigoaa
open Go.RowKit Go.Lap Go.Shelf

theorem can40_as {r : Rel} (hv : r.valid = true) {E : Nat} (hE : r.every = E) {S : Nat} {x : Bool} (hx : r.canB (E - S) = x) (hS : S ≤ E) {Si : Int} (hSi : Si = (S : Int)) (b : Nat) (sv : Value) (hN : NilOk sv) (w : World) (hSt : StintsAt w sv r.stints) (hbx : w.heap[b]? = some (.cells #[.int .i64 r.rest, sv] 24 (0, 0))) : Calls Try.prog 40 #[.int .i64 Si, .pointer (some ⟨b, 0, none⟩)] w fun e w' => e = .returned (.bool x) ∧ Below w.heap.size w w' := by
  subst hE hx hSi
  exact can40_any r hv S hS b sv hN w hSt hbx

set_option maxRecDepth 100000 in
set_option maxHeartbeats 4000000 in
theorem relayWrong_any (r : Rel) (hn : r.n ≤ maxLen) (z : Int) (hz0 : 0 ≤ z) (hz1 : z ≤ 4294967295) (sv : Value) (hN : NilOk sv) (w : World) (hS : StintsAt w sv r.stints) : Calls Try.prog 10 #[relV r sv, .int .u32 z] w fun e w' => e = .returned (.bool true) ∧ Below w.heap.size w w' := by
  obtain ⟨sa, scap, rfl, hs0⟩ := id hS
  clear hs0
  have hx := hid (KeepM.start hS)
  have hN' := hid hN
  clear hN
  obtain ⟨zn, rfl⟩ := Int.eq_ofNat_of_zero_le hz0
  clear hz0
  cases hfar : farB r 4
  · have hn6 := far_n hfar
    have H12 := hid (fun W h => far_as (M := 4) hfar rfl hn (by decide) (.slice sa r.stints.length scap) W h)
    cases hv : r.valid
    · have H26 := hid (fun W h => Clash_as hn6 (show clashOf r = (0, 1) by simp [clashOf, hv]) (.slice sa r.stints.length scap) W h)
      have H28 := hid (fun W h => Wrong_as hn6 (show r.wrongOf = (0, 1) by simp [Rel.wrongOf, hv]) (.slice sa r.stints.length scap) W h)
      have H32 := hid (fun W h => refRelays_as hn6 hv (.slice sa r.stints.length scap) W h)
      clear hv hn6
      clear hn hfar hS
      go_enter Try.func10, Try.ntmps10
      go_upto_region 1 with fail
      generalize w.alloc (.cells #[.int .i64 r.rest, .slice sa r.stints.length scap] 24) = w0 at hx ⊢
      have lx := (cells_of hx.out.m).1
      have cx := (cells_of hx.out.m).2
      go_wp2_with (first | (go_at_call 12; with_reducible refine (H12.out _ hx.out.s).mono ?_; rintro e w1 ⟨rfl, hb⟩; replace hx := hid (hx.out.below hb); have lx := (cells_of hx.out.m).1; have cx := (cells_of hx.out.m).2; clear hb) | (go_at_call 26; with_reducible refine (H26.out _ hx.out.s).mono ?_; rintro e w2 ⟨rfl, hb⟩; replace hx := hid (hx.out.below hb); have lx := (cells_of hx.out.m).1; have cx := (cells_of hx.out.m).2; clear hb) | (go_at_call 28; with_reducible refine (H28.out _ hx.out.s).mono ?_; rintro e w2 ⟨rfl, hb⟩; replace hx := hid (hx.out.below hb); have lx := (cells_of hx.out.m).1; have cx := (cells_of hx.out.m).2; clear hb) | (go_at_call 32; with_reducible refine (H32.out _ hx.out.s).mono ?_; rintro e w3 ⟨rfl, hb⟩; replace hx := hid (hx.out.below hb); have lx := (cells_of hx.out.m).1; have cx := (cells_of hx.out.m).2; clear hb) | (go_at_call 13; with_reducible refine (awake_any _).mono ?_; rintro e z9 ⟨rfl, hb⟩; replace hx := hid (hx.out.below hb); clear hb))
      go_ret
      exact ⟨rfl, hx.out.bel⟩
    · have hv' := hid hv
      have hn5 := hid (r.ok_of hv).2.2.1
      have H32 := hid (fun W h => refRelays_as hn6 hv (.slice sa r.stints.length scap) W h)
      obtain ⟨E, hE⟩ : ∃ E, r.every = E := ⟨_, rfl⟩
      have hEl : E ≤ 1048575 := by rw [← hE]; exact Rel.every_le5 hn5.out
      have hEi : (E : Int) ≤ 1048575 := by omega
      replace hEl := hid hEl
      have H36 := hid (refEvery_as2 hn5.out hE sa scap)
      have hand := (Go.Lap.bits_nat zn E (by omega) (by omega)).1
      obtain ⟨O, hO⟩ : ∃ O, zn &&& E = O := ⟨_, rfl⟩
      have hOE : O ≤ E := by rw [← hO]; exact Nat.and_le_right
      rw [hO] at hand
      clear hO
      have hE' := hid hE
      have HC := hid (fun (S : Nat) (x : Bool) (hx : r.canB (E - S) = x) (hS : S ≤ E) (Si : Int) (hSi : Si = (S : Int)) => can40_as hv hE hx hS hSi)
      cases hc : r.canB r.every
      · obtain ⟨C, hC, hC1, hCE, hC2, hCc, hCm, hCl⟩ := clash_law hv hc
        obtain ⟨D, hD, hD1, hDE, hDc, hDC, hDm, hDl⟩ := wrong_law hv hc
        have hx0 := hDC C hCE hCc
        have H26 := hid (fun W h => Clash_as hn6 hC (.slice sa r.stints.length scap) W h)
        have H28 := hid (fun W h => Wrong_as hn6 hD (.slice sa r.stints.length scap) W h)
        rw [hE] at hCE hCl hc hDE hDc hDC hDm hDl
        have hD1i : (1 : Int) ≤ (D : Int) := by omega
        have hDEi : (D : Int) ≤ (E : Int) := by omega
        have hxx : bits .and .i64 (D : Int) (C : Int) = ((D &&& C : Nat) : Int) := (Go.Lap.bits_nat D C (by have := hEl.out; omega) (by have := hEl.out; omega)).1
        obtain ⟨X, hX⟩ : ∃ X, D &&& C = X := ⟨_, rfl⟩
        rw [hX] at hxx hx0
        have hx1 : ((X : Int) == 0) = false := by rw [beq_eq_false_iff_ne]; omega
        clear hX hx0 hDC
        have hDc' := hid hDc
        have hDm' := hid hDm
        have hDl' := hid hDl
        have hDE' := hid hDE
        have hOE' := hid hOE
        clear hv hc hC hCc hCm hCl hE hn6 hC1 hCE hOE hC2 hD hDc hDm hDl hD1 hDE
        have HCC := hid (HC.out D true hDc'.out hDE'.out D rfl)
        obtain ⟨y, hy⟩ : ∃ y, r.canB (E - O) = y := ⟨_, rfl⟩
        have HCO := hid (HC.out O y hy hOE'.out O rfl)
        replace hy := hid hy
        obtain ⟨p, hp⟩ : ∃ p, popc D = p := ⟨_, rfl⟩
        obtain ⟨q, hq⟩ : ∃ q, popc O = q := ⟨_, rfl⟩
        have HP := hid (refSize_as2 hp (Nat.le_trans hDE'.out (Nat.le_trans hEl.out (by decide))))
        have HQ := hid (refSize_as2 hq (Nat.le_trans hOE'.out (Nat.le_trans hEl.out (by decide))))
        have hDk := hid (show D ≤ 1048575 from Nat.le_trans hDE'.out hEl.out)
        replace hp := hid hp
        replace hq := hid hq
        have hmf := hmf
        clear hn hfar hS
        go_enter Try.func10, Try.ntmps10
        go_upto_region 1 with fail
        generalize w.alloc (.cells #[.int .i64 r.rest, .slice sa r.stints.length scap] 24) = w0 at hx ⊢
        have lx := (cells_of hx.out.m).1
        have cx := (cells_of hx.out.m).2
        go_upto_region 13 with (first | (go_at_call 12; with_reducible refine (H12.out _ hx.out.s).mono ?_; rintro e w1 ⟨rfl, hb⟩; replace hx := hid (hx.out.below hb); have lx := (cells_of hx.out.m).1; have cx := (cells_of hx.out.m).2; clear hb) | (go_at_call 26; with_reducible refine (H26.out _ hx.out.s).mono ?_; rintro e w2 ⟨rfl, hb⟩; replace hx := hid (hx.out.below hb); have lx := (cells_of hx.out.m).1; have cx := (cells_of hx.out.m).2; clear hb) | (go_at_call 28; with_reducible refine (H28.out _ hx.out.s).mono ?_; rintro e w2 ⟨rfl, hb⟩; replace hx := hid (hx.out.below hb); have lx := (cells_of hx.out.m).1; have cx := (cells_of hx.out.m).2; clear hb) | (go_at_call 32; with_reducible refine (H32.out _ hx.out.s).mono ?_; rintro e w3 ⟨rfl, hb⟩; replace hx := hid (hx.out.below hb); have lx := (cells_of hx.out.m).1; have cx := (cells_of hx.out.m).2; clear hb) | (go_at_call 36; with_reducible refine (H36.out _).mono ?_; rintro e w4 ⟨rfl, hb⟩; replace hx := hid (hx.out.below hb); have lx := (cells_of hx.out.m).1; have cx := (cells_of hx.out.m).2; clear hb) | (go_at_call 40; with_reducible refine (HCC.out w.heap.size _ hN'.out _ hx.out.s hx.out.m).mono ?_; rintro e y1 ⟨rfl, hb⟩; replace hx := hid (hx.out.below hb); have lx := (cells_of hx.out.m).1; have cx := (cells_of hx.out.m).2; clear hb))
        have hni : (r.stints.length : Int) ≤ 5 := by have := hn5.out; have : r.stints.length = r.n := rfl; omega
        go_wp2
        clear lx cx HCC H12 H26 H28 H32 H36 hD1i hDEi hx1 hxx
        generalize decide ((D : Int) < 1) = e1
        generalize decide (E < D) = e2
        generalize ((X : Int) == 0) = e3
        go_loopw [4, 11, 83] (fun _ _ i wr => ∃ k : Nat, k ≤ 4 * r.stints.length ∧ i = .int .i64 k ∧ Hid (KeepM w r (.slice sa r.stints.length scap) wr)) (fun _ _ i _ => 4 * r.stints.length - (intOf i).toNat)
        case atStart => exact ⟨0, by omega, rfl, hx⟩
        case round =>
          obtain ⟨k, hk, rfl, hx1⟩ := hrel
          clear hx
          have hx := hx1
          clear hx1
          have lx := (cells_of hx.out.m).1
          have cx := (cells_of hx.out.m).2
          by_cases hlt : k < 4 * r.stints.length
          · have hki : (k : Int) < 4 * (r.stints.length : Int) := by omega
            have hk20 : k < 20 := by omega
            have hbz := bit_one D k
            cases hbt : D.testBit k
            · rw [hbt] at hbz
              clear hbt
              go_wp2
              clear hbz lx cx
              go_roundw
              case rel => exact ⟨k + 1, by omega, by go_num, hx⟩
              case measure => simp [intOf]; omega
            · rw [hbt] at hbz
              obtain ⟨B, pw, hwr, han, hBD, hBk⟩ := shl_drop hDk.out hk20 (C := D)
              have HCN := hid (HC.out B false (by rw [hBk]; exact hDm'.out k hbt) (Nat.le_trans hBD hDE'.out) B rfl)
              clear hbt hBk hBD
              go_wp2_with (go_at_call 40; with_reducible refine (HCN.out w.heap.size _ hN'.out _ hx.out.s hx.out.m).mono ?_; rintro e y1 ⟨rfl, hb⟩; replace hx := hid (hx.out.below hb); have lx := (cells_of hx.out.m).1; have cx := (cells_of hx.out.m).2; clear hb)
              clear hbz lx cx
              go_roundw
              case rel => exact ⟨k + 1, by omega, by go_num, hx⟩
              case measure => simp [intOf]; omega
          · obtain rfl : k = 4 * r.stints.length := by omega
            have hle := hid (fun (h : r.canB (E - O) = true) => le_test (hDl'.out O hOE'.out h))
            have hpq := hid (show y = true → (p : Int) < (q : Int) ∨ ((q : Int) = (p : Int) ∧ (D : Int) ≤ (O : Int)) from fun h => by
              have h2 := hle.out (by rw [hy.out, h])
              rw [hp.out, hq.out] at h2
              omega)
            clear hle
            cases y
            · clear hpq
              go_wp2_with (first | (go_at_call 40; with_reducible refine (HCO.out w.heap.size _ hN'.out _ hx.out.s hx.out.m).mono ?_; rintro e y1 ⟨rfl, hb⟩; replace hx := hid (hx.out.below hb); have lx := (cells_of hx.out.m).1; have cx := (cells_of hx.out.m).2; clear hb) | (go_at_call 39; with_reducible refine (HP.out _).mono ?_; rintro e y2 ⟨rfl, rfl⟩) | (go_at_call 39; with_reducible refine (HQ.out _).mono ?_; rintro e y2 ⟨rfl, rfl⟩) | (go_at_call 13; with_reducible refine (awake_any _).mono ?_; rintro e z9 ⟨rfl, hb⟩; replace hx := hid (hx.out.below hb); clear hb))
              go_ret
              exact ⟨rfl, hx.out.bel⟩
            · rcases hpq.out rfl with h1 | ⟨h1, h2⟩
              · clear hpq
                go_wp2_with (first | (go_at_call 40; with_reducible refine (HCO.out w.heap.size _ hN'.out _ hx.out.s hx.out.m).mono ?_; rintro e y1 ⟨rfl, hb⟩; replace hx := hid (hx.out.below hb); have lx := (cells_of hx.out.m).1; have cx := (cells_of hx.out.m).2; clear hb) | (go_at_call 39; with_reducible refine (HP.out _).mono ?_; rintro e y2 ⟨rfl, rfl⟩) | (go_at_call 39; with_reducible refine (HQ.out _).mono ?_; rintro e y2 ⟨rfl, rfl⟩) | (go_at_call 13; with_reducible refine (awake_any _).mono ?_; rintro e z9 ⟨rfl, hb⟩; replace hx := hid (hx.out.below hb); clear hb))
                go_ret
                exact ⟨rfl, hx.out.bel⟩
              · have h3 : ¬ (p : Int) < (q : Int) := by omega
                have h4 : ((q : Int) == (p : Int)) = true := by rw [beq_iff_eq]; exact h1
                clear hpq h1
                go_wp2_with (first | (go_at_call 40; with_reducible refine (HCO.out w.heap.size _ hN'.out _ hx.out.s hx.out.m).mono ?_; rintro e y1 ⟨rfl, hb⟩; replace hx := hid (hx.out.below hb); have lx := (cells_of hx.out.m).1; have cx := (cells_of hx.out.m).2; clear hb) | (go_at_call 39; with_reducible refine (HP.out _).mono ?_; rintro e y2 ⟨rfl, rfl⟩) | (go_at_call 39; with_reducible refine (HQ.out _).mono ?_; rintro e y2 ⟨rfl, rfl⟩) | (go_at_call 13; with_reducible refine (awake_any _).mono ?_; rintro e z9 ⟨rfl, hb⟩; replace hx := hid (hx.out.below hb); clear hb))
                go_ret
                exact ⟨rfl, hx.out.bel⟩
      · have H26 := hid (fun W h => Clash_as hn6 (show clashOf r = (0, 4) by simp [clashOf, hv, Rel.clashIn, hc]) (.slice sa r.stints.length scap) W h)
        have H28 := hid (fun W h => Wrong_as hn6 (show r.wrongOf = (0, 4) by simp [Rel.wrongOf, hv, hc]) (.slice sa r.stints.length scap) W h)
        clear hv hc hE hn6 hOE
        clear hn hfar hS
        go_enter Try.func10, Try.ntmps10
        go_upto_region 1 with fail
        generalize w.alloc (.cells #[.int .i64 r.rest, .slice sa r.stints.length scap] 24) = w0 at hx ⊢
        have lx := (cells_of hx.out.m).1
        have cx := (cells_of hx.out.m).2
        go_wp2_with (first | (go_at_call 12; with_reducible refine (H12.out _ hx.out.s).mono ?_; rintro e w1 ⟨rfl, hb⟩; replace hx := hid (hx.out.below hb); have lx := (cells_of hx.out.m).1; have cx := (cells_of hx.out.m).2; clear hb) | (go_at_call 26; with_reducible refine (H26.out _ hx.out.s).mono ?_; rintro e w2 ⟨rfl, hb⟩; replace hx := hid (hx.out.below hb); have lx := (cells_of hx.out.m).1; have cx := (cells_of hx.out.m).2; clear hb) | (go_at_call 28; with_reducible refine (H28.out _ hx.out.s).mono ?_; rintro e w2 ⟨rfl, hb⟩; replace hx := hid (hx.out.below hb); have lx := (cells_of hx.out.m).1; have cx := (cells_of hx.out.m).2; clear hb) | (go_at_call 32; with_reducible refine (H32.out _ hx.out.s).mono ?_; rintro e w3 ⟨rfl, hb⟩; replace hx := hid (hx.out.below hb); have lx := (cells_of hx.out.m).1; have cx := (cells_of hx.out.m).2; clear hb) | (go_at_call 13; with_reducible refine (awake_any _).mono ?_; rintro e z9 ⟨rfl, hb⟩; replace hx := hid (hx.out.below hb); clear hb))
        go_ret
        exact ⟨rfl, hx.out.bel⟩
  · have H12 := hid (fun W h => far_as (M := 4) hfar rfl hn (by decide) (.slice sa r.stints.length scap) W h)
    clear hn hfar hS
    go_enter Try.func10, Try.ntmps10
    go_upto_region 1 with fail
    generalize w.alloc (.cells #[.int .i64 r.rest, .slice sa r.stints.length scap] 24) = w0 at hx ⊢
    have lx := (cells_of hx.out.m).1
    have cx := (cells_of hx.out.m).2
    go_wp2_with (first | (go_at_call 12; with_reducible refine (H12.out _ hx.out.s).mono ?_; rintro e w1 ⟨rfl, hb⟩; replace hx := hid (hx.out.below hb); have lx := (cells_of hx.out.m).1; have cx := (cells_of hx.out.m).2; clear hb) | (go_at_call 13; with_reducible refine (awake_any _).mono ?_; rintro e z9 ⟨rfl, hb⟩; replace hx := hid (hx.out.below hb); clear hb))
    go_ret
    exact ⟨rfl, hx.out.bel⟩

end Go.Proofs.Ytccgakdaiaigoaa
