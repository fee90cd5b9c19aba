/- The law RelayClash, walked. -/
import Derived.Test.YtccgakdaiaigoaaGG
import Derived.Test.YtccgakdaiaigoaaGR
import Derived.Test.YtccgakdaiaigoaaE5
import Derived.Test.YtccgakdaiaigoaaPT
namespace Go.Proofs.Ytccgakdaiaigoaa
open Go.RowKit Go.Lap Go.Shelf

/-- What lies in memory while a law runs. -/
structure KeepM (w : World) (r : Rel) (sv : Value) (W : World) : Prop where
  bel : Below w.heap.size w W
  m : W.heap[w.heap.size]? = some (.cells #[.int .i64 r.rest, sv] 24 (0, 0))
  s : StintsAt W sv r.stints
theorem KeepM.below {w W W' : World} {r : Rel} {sv : Value} (h : KeepM w r sv W) (hb : Below W.heap.size W W') : KeepM w r sv W' :=
  ⟨below_via hb h.bel, (hb.block _ (cells_of h.m).1).trans h.m, h.s.below hb⟩
theorem KeepM.start {w : World} {r : Rel} {sv : Value} (h : StintsAt w sv r.stints) : KeepM w r sv (w.alloc (.cells #[.int .i64 r.rest, sv] 24)) :=
  ⟨below_alloc (Below.refl _ w) _, alloc_at rfl, h.below (below_alloc (Below.refl _ w) _)⟩
theorem refRelays_as {r : Rel} (hn : r.n ≤ 1000000) {x : Bool} (h : r.valid = x) (sv : Value) (w : World) (hS : StintsAt w sv r.stints) : Calls Try.prog 32 #[relV r sv] w fun e w' => e = .returned (.bool x) ∧ Below w.heap.size w w' := by
  subst h; exact refRelays_any r hn sv w hS
theorem refEvery_as2 {r : Rel} (hn : r.n ≤ 5) {E : Nat} (hE : r.every = E) (a : Option Addr) (cap : Nat) (w : World) : Calls Try.prog 36 #[relV r (.slice a r.n cap)] w fun e w' => e = .returned (.int .i64 (E : Nat)) ∧ Below w.heap.size w w' := by
  subst hE; exact refEvery_any r hn a cap w
theorem refSize_as2 {s n : Nat} (h : popc s = n) (hs : s ≤ 1048576) (w : World) : Calls Try.prog 39 #[.int .i64 (s : Int)] w fun e w' => e = .returned (.int .i64 (n : Nat)) ∧ w = w' := by
  subst h; exact refSize_any s (Nat.lt_of_le_of_lt hs (by decide)) w
theorem bit_one (S k : Nat) : ((S : Int) / 2 ^ k % 2 == 1) = S.testBit k := by
  have h := shr_bit2 (x := (S : Int)) (by omega) k
  rw [Int.toNat_natCast] at h
  rw [h]
  cases S.testBit k <;> rfl
theorem shl_drop {C k : Nat} (hC : C ≤ 1048575) (hk : k < 20) : ∃ D pw : Nat, wrap64 ((2 : Int) ^ k) = (pw : Int) ∧ bits .andNot .i64 (C : Int) (pw : Int) = (D : Int) ∧ D ≤ C ∧ D = Go.Lap.andN C (2 ^ k) := by
  have hp6 : 2 ^ k ≤ 2 ^ 20 := Nat.pow_le_pow_right (by decide) (by omega)
  have hpi : (2 : Int) ^ k = ((2 ^ k : Nat) : Int) := by simp
  refine ⟨Go.Lap.andN C (2 ^ k), 2 ^ k, by rw [hpi]; generalize 2 ^ k = x at hp6 ⊢; exact IntWalk.wrap64_in _ (by omega), andNot_i C (2 ^ k) (by omega) (by omega), Go.Lap.andN_le _ _, rfl⟩
theorem Clash_as {r : Rel} (hn : r.n ≤ 1000000) {x y : Int} (h : clashOf r = (x, y)) (sv : Value) (w : World) (hS : StintsAt w sv r.stints) : Calls Try.prog 26 #[relV r sv] w fun e w' => e = .returned (.tuple #[.int .i64 x, .int .i64 y]) ∧ Below w.heap.size w w' := by
  have h2 := Clash_any r hn sv w hS
  rw [h] at h2; exact h2
theorem Wrong_as {r : Rel} (hn : r.n ≤ 1000000) {x y : Int} (h : r.wrongOf = (x, y)) (sv : Value) (w : World) (hS : StintsAt w sv r.stints) : Calls Try.prog 28 #[relV r sv] w fun e w' => e = .returned (.tuple #[.int .i64 x, .int .i64 y]) ∧ Below w.heap.size w w' := by
  have h2 := Wrong_any r hn sv w hS
  rw [h] at h2; exact h2
theorem clashes_as {r : Rel} (hv : r.valid = true) {E : Nat} (hE : r.every = E) {S : Nat} {x : Bool} (hx : (!r.canB S) = x) (hS : S ≤ E) {Si : Int} (hSi : Si = (S : Int)) (b ev : Nat) (sv : Value) (hN : NilOk sv) (w : World) (hSt : StintsAt w sv r.stints) (hbx : w.heap[b]? = some (.cells #[.int .i64 r.rest, sv] 24 (0, 0))) (hev : w.heap[ev]? = some (.cells #[.int .i64 (E : Nat)] 3 (0, 0))) : Calls Try.prog 37 #[.int .i64 Si, .pointer (some ⟨b, 0, none⟩), .pointer (some ⟨ev, 0, none⟩)] w fun e w' => e = .returned (.bool x) ∧ Below w.heap.size w w' := by
  subst hE hx hSi
  exact clashes_any r hv S hS b ev sv hN w hSt hbx hev

set_option maxRecDepth 100000 in
set_option maxHeartbeats 4000000 in
theorem relayClash_any (r : Rel) (hn : r.n ≤ maxLen) (z : Int) (hz0 : 0 ≤ z) (hz1 : z ≤ 4294967295) (sv : Value) (hN : NilOk sv) (w : World) (hS : StintsAt w sv r.stints) : Calls Try.prog 9 #[relV r sv, .int .u32 z] w fun e w' => e = .returned (.bool true) ∧ Below w.heap.size w w' := by
  obtain ⟨sa, scap, rfl, hs0⟩ := id hS
  clear hs0
  have hx := hid (KeepM.start hS)
  have hN' := hid hN
  clear hN
  obtain ⟨zn, rfl⟩ := Int.eq_ofNat_of_zero_le hz0
  clear hz0
  cases hfar : farB r 5
  · have hn6 := far_n hfar
    have H12 := hid (fun W h => far_as (M := 5) hfar rfl hn (by decide) (.slice sa r.stints.length scap) W h)
    cases hv : r.valid
    · have H26 := hid (fun W h => Clash_as hn6 (show clashOf r = (0, 1) by simp [clashOf, hv]) (.slice sa r.stints.length scap) W h)
      have H32 := hid (fun W h => refRelays_as hn6 hv (.slice sa r.stints.length scap) W h)
      clear hv hn6
      clear hn hfar hS
      go_enter Try.func9, Try.ntmps9
      go_upto_region 1 with fail
      generalize w.alloc (.cells #[.int .i64 r.rest, .slice sa r.stints.length scap] 24) = w0 at hx ⊢
      have lx := (cells_of hx.out.m).1
      have cx := (cells_of hx.out.m).2
      go_wp2_with (first | (go_at_call 12; with_reducible refine (H12.out _ hx.out.s).mono ?_; rintro e w1 ⟨rfl, hb⟩; replace hx := hid (hx.out.below hb); have lx := (cells_of hx.out.m).1; have cx := (cells_of hx.out.m).2; clear hb) | (go_at_call 26; with_reducible refine (H26.out _ hx.out.s).mono ?_; rintro e w2 ⟨rfl, hb⟩; replace hx := hid (hx.out.below hb); have lx := (cells_of hx.out.m).1; have cx := (cells_of hx.out.m).2; clear hb) | (go_at_call 32; with_reducible refine (H32.out _ hx.out.s).mono ?_; rintro e w3 ⟨rfl, hb⟩; replace hx := hid (hx.out.below hb); have lx := (cells_of hx.out.m).1; have cx := (cells_of hx.out.m).2; clear hb) | (go_at_call 13; with_reducible refine (awake_any _).mono ?_; rintro e z9 ⟨rfl, hb⟩; replace hx := hid (hx.out.below hb); clear hb))
      go_ret
      exact ⟨rfl, hx.out.bel⟩
    · have hv' := hid hv
      have hn5 := hid (r.ok_of hv).2.2.1
      have H32 := hid (fun W h => refRelays_as hn6 hv (.slice sa r.stints.length scap) W h)
      obtain ⟨E, hE⟩ : ∃ E, r.every = E := ⟨_, rfl⟩
      have hEl : E ≤ 1048575 := by rw [← hE]; exact Rel.every_le5 hn5.out
      have hEi : (E : Int) ≤ 1048575 := by omega
      replace hEl := hid hEl
      have H36 := hid (refEvery_as2 hn5.out hE sa scap)
      have hand := (Go.Lap.bits_nat zn E (by omega) (by omega)).1
      obtain ⟨O, hO⟩ : ∃ O, zn &&& E = O := ⟨_, rfl⟩
      have hOE : O ≤ E := by rw [← hO]; exact Nat.and_le_right
      rw [hO] at hand
      clear hO
      have hOi : (O : Int) ≤ (E : Int) := by omega
      have hE' := hid hE
      have HC := hid (fun (S : Nat) (x : Bool) (hx : (!r.canB S) = x) (hS : S ≤ E) (Si : Int) (hSi : Si = (S : Int)) => clashes_as hv hE hx hS hSi)
      cases hc : r.canB r.every
      · obtain ⟨C, hC, hC1, hCE, hC2, hCc, hCm, hCl⟩ := clash_law hv hc
        have H26 := hid (fun W h => Clash_as hn6 hC (.slice sa r.stints.length scap) W h)
        rw [hE] at hCE hCl hc
        have hC1i : (1 : Int) ≤ (C : Int) := by omega
        have hCEi : (C : Int) ≤ (E : Int) := by omega
        have hc' := hid hc
        have hCc' := hid hCc
        have hCm' := hid hCm
        have hCl' := hid hCl
        have hCE' := hid hCE
        have hOE' := hid hOE
        clear hv hc hC hCc hCm hCl hE hn6 hC1 hCE hOE
        clear hn hfar hS
        go_enter Try.func9, Try.ntmps9
        go_upto_region 1 with fail
        generalize w.alloc (.cells #[.int .i64 r.rest, .slice sa r.stints.length scap] 24) = w0 at hx ⊢
        have lx := (cells_of hx.out.m).1
        have cx := (cells_of hx.out.m).2
        go_upto_region 7 with (first | (go_at_call 12; with_reducible refine (H12.out _ hx.out.s).mono ?_; rintro e w1 ⟨rfl, hb⟩; replace hx := hid (hx.out.below hb); have lx := (cells_of hx.out.m).1; have cx := (cells_of hx.out.m).2; clear hb) | (go_at_call 26; with_reducible refine (H26.out _ hx.out.s).mono ?_; rintro e w2 ⟨rfl, hb⟩; replace hx := hid (hx.out.below hb); have lx := (cells_of hx.out.m).1; have cx := (cells_of hx.out.m).2; clear hb) | (go_at_call 32; with_reducible refine (H32.out _ hx.out.s).mono ?_; rintro e w3 ⟨rfl, hb⟩; replace hx := hid (hx.out.below hb); have lx := (cells_of hx.out.m).1; have cx := (cells_of hx.out.m).2; clear hb) | (go_at_call 36; with_reducible refine (H36.out _).mono ?_; rintro e w4 ⟨rfl, hb⟩; replace hx := hid (hx.out.below hb); have lx := (cells_of hx.out.m).1; have cx := (cells_of hx.out.m).2; clear hb))
        have hev := alloc_at (w := w4) (o := .cells #[.int .i64 E] 3) rfl
        replace hx := hid (hx.out.below (below_alloc (Below.refl _ _) (.cells #[.int .i64 E] 3)))
        generalize w4.alloc (.cells #[.int .i64 E] 3) = w5 at hx hev ⊢
        generalize w4.heap.size = ev at hev ⊢
        replace hev := hid hev
        clear lx cx H12 H26 H32 H36
        have HCC := hid (HC.out C true (by rw [hCc'.out]; rfl) hCE'.out C rfl)
        have HCE := hid (HC.out E true (by rw [hc'.out]; rfl) (Nat.le_refl _) E rfl)
        obtain ⟨y, hy⟩ : ∃ y, (!r.canB O) = y := ⟨_, rfl⟩
        have HCO := hid (HC.out O y hy hOE'.out O rfl)
        replace hy := hid hy
        obtain ⟨p, hp⟩ : ∃ p, popc C = p := ⟨_, rfl⟩
        obtain ⟨q, hq⟩ : ∃ q, popc O = q := ⟨_, rfl⟩
        have HP := hid (refSize_as2 hp (Nat.le_trans hCE'.out (Nat.le_trans hEl.out (by decide))))
        have HQ := hid (refSize_as2 hq (Nat.le_trans hOE'.out (Nat.le_trans hEl.out (by decide))))
        have hCk := hid (show C ≤ 1048575 from Nat.le_trans hCE'.out hEl.out)
        have hp2 : (p : Int) ≤ 2 := by omega
        replace hp := hid hp
        replace hq := hid hq
        clear hC2
        have hmf := hmf
        have lx := (cells_of hx.out.m).1
        have cx := (cells_of hx.out.m).2
        have le := (cells_of hev.out).1
        have ce := (cells_of hev.out).2
        go_upto_region 14 with (first | (go_at_call 37; with_reducible refine (HCC.out w.heap.size ev _ hN'.out _ hx.out.s hx.out.m hev.out).mono ?_; rintro e y1 ⟨rfl, hb⟩; replace hx := hid (hx.out.below hb); replace hev := hid ((hb.block _ (cells_of hev.out).1).trans hev.out); have lx := (cells_of hx.out.m).1; have cx := (cells_of hx.out.m).2; have le := (cells_of hev.out).1; have ce := (cells_of hev.out).2; clear hb) | (go_at_call 37; with_reducible refine (HCE.out w.heap.size ev _ hN'.out _ hx.out.s hx.out.m hev.out).mono ?_; rintro e y1 ⟨rfl, hb⟩; replace hx := hid (hx.out.below hb); replace hev := hid ((hb.block _ (cells_of hev.out).1).trans hev.out); have lx := (cells_of hx.out.m).1; have cx := (cells_of hx.out.m).2; have le := (cells_of hev.out).1; have ce := (cells_of hev.out).2; clear hb) | (go_at_call 39; with_reducible refine (HP.out _).mono ?_; rintro e y2 ⟨rfl, rfl⟩))
        have hni : (r.stints.length : Int) ≤ 5 := by have := hn5.out; have : r.stints.length = r.n := rfl; omega
        go_wp2
        clear lx cx le ce HCC HCE hC1i hCEi hp2 hOi
        generalize decide ((C : Int) < 1) = e1
        generalize decide (E < C) = e2
        generalize decide ((2 : Int) < (p : Int)) = e3
        go_loopw [4, 11, 91] (fun _ _ i wr => ∃ k : Nat, k ≤ 4 * r.stints.length ∧ i = .int .i64 k ∧ Hid (KeepM w r (.slice sa r.stints.length scap) wr) ∧ Hid (wr.heap[ev]? = some (.cells #[.int .i64 E] 3 (0, 0)))) (fun _ _ i _ => 4 * r.stints.length - (intOf i).toNat)
        case atStart => exact ⟨0, by omega, rfl, hx, hev⟩
        case round =>
          obtain ⟨k, hk, rfl, hx1, hev1⟩ := hrel
          clear hx hev
          have hx := hx1
          have hev := hev1
          clear hx1 hev1
          have lx := (cells_of hx.out.m).1
          have cx := (cells_of hx.out.m).2
          have le := (cells_of hev.out).1
          have ce := (cells_of hev.out).2
          by_cases hlt : k < 4 * r.stints.length
          · have hki : (k : Int) < 4 * (r.stints.length : Int) := by omega
            have hk20 : k < 20 := by omega
            have hbz := bit_one C k
            cases hbt : C.testBit k
            · rw [hbt] at hbz
              clear hbt
              go_wp2
              clear hbz lx cx le ce
              go_roundw
              case rel => exact ⟨k + 1, by omega, by go_num, hx, hev⟩
              case measure => simp [intOf]; omega
            · rw [hbt] at hbz
              obtain ⟨D, pw, hwr, han, hDC, hDk⟩ := shl_drop hCk.out hk20 (C := C)
              have HCN := hid (HC.out D false (by rw [hDk, hCm'.out k hbt]; rfl) (Nat.le_trans hDC hCE'.out) D rfl)
              clear hbt hDk hDC
              go_wp2_with (go_at_call 37; with_reducible refine (HCN.out w.heap.size ev _ hN'.out _ hx.out.s hx.out.m hev.out).mono ?_; rintro e y1 ⟨rfl, hb⟩; replace hx := hid (hx.out.below hb); replace hev := hid ((hb.block _ (cells_of hev.out).1).trans hev.out); have lx := (cells_of hx.out.m).1; have cx := (cells_of hx.out.m).2; have le := (cells_of hev.out).1; have ce := (cells_of hev.out).2; clear hb)
              clear hbz lx cx le ce
              go_roundw
              case rel => exact ⟨k + 1, by omega, by go_num, hx, hev⟩
              case measure => simp [intOf]; omega
          · obtain rfl : k = 4 * r.stints.length := by omega
            have hle := hid (fun (h : r.canB O = false) => le_test (hCl'.out O hOE'.out h))
            have hpq := hid (show y = true → (p : Int) < (q : Int) ∨ ((q : Int) = (p : Int) ∧ (C : Int) ≤ (O : Int)) from fun h => by
              have h2 := hle.out (by have := hy.out; rw [h] at this; simpa using this)
              rw [hp.out, hq.out] at h2
              omega)
            clear hle
            cases y
            · clear hpq
              go_wp2_with (first | (go_at_call 37; with_reducible refine (HCO.out w.heap.size ev _ hN'.out _ hx.out.s hx.out.m hev.out).mono ?_; rintro e y1 ⟨rfl, hb⟩; replace hx := hid (hx.out.below hb); replace hev := hid ((hb.block _ (cells_of hev.out).1).trans hev.out); have lx := (cells_of hx.out.m).1; have cx := (cells_of hx.out.m).2; have le := (cells_of hev.out).1; have ce := (cells_of hev.out).2; clear hb) | (go_at_call 39; with_reducible refine (HP.out _).mono ?_; rintro e y2 ⟨rfl, rfl⟩) | (go_at_call 39; with_reducible refine (HQ.out _).mono ?_; rintro e y2 ⟨rfl, rfl⟩) | (go_at_call 13; with_reducible refine (awake_any _).mono ?_; rintro e z9 ⟨rfl, hb⟩; replace hx := hid (hx.out.below hb); clear hb))
              go_ret
              exact ⟨rfl, hx.out.bel⟩
            · rcases hpq.out rfl with h1 | ⟨h1, h2⟩
              · clear hpq
                go_wp2_with (first | (go_at_call 37; with_reducible refine (HCO.out w.heap.size ev _ hN'.out _ hx.out.s hx.out.m hev.out).mono ?_; rintro e y1 ⟨rfl, hb⟩; replace hx := hid (hx.out.below hb); replace hev := hid ((hb.block _ (cells_of hev.out).1).trans hev.out); have lx := (cells_of hx.out.m).1; have cx := (cells_of hx.out.m).2; have le := (cells_of hev.out).1; have ce := (cells_of hev.out).2; clear hb) | (go_at_call 39; with_reducible refine (HP.out _).mono ?_; rintro e y2 ⟨rfl, rfl⟩) | (go_at_call 39; with_reducible refine (HQ.out _).mono ?_; rintro e y2 ⟨rfl, rfl⟩) | (go_at_call 13; with_reducible refine (awake_any _).mono ?_; rintro e z9 ⟨rfl, hb⟩; replace hx := hid (hx.out.below hb); clear hb))
                go_ret
                exact ⟨rfl, hx.out.bel⟩
              · have h3 : ¬ (p : Int) < (q : Int) := by omega
                have h4 : ((q : Int) == (p : Int)) = true := by rw [beq_iff_eq]; exact h1
                clear hpq h1
                go_wp2_with (first | (go_at_call 37; with_reducible refine (HCO.out w.heap.size ev _ hN'.out _ hx.out.s hx.out.m hev.out).mono ?_; rintro e y1 ⟨rfl, hb⟩; replace hx := hid (hx.out.below hb); replace hev := hid ((hb.block _ (cells_of hev.out).1).trans hev.out); have lx := (cells_of hx.out.m).1; have cx := (cells_of hx.out.m).2; have le := (cells_of hev.out).1; have ce := (cells_of hev.out).2; clear hb) | (go_at_call 39; with_reducible refine (HP.out _).mono ?_; rintro e y2 ⟨rfl, rfl⟩) | (go_at_call 39; with_reducible refine (HQ.out _).mono ?_; rintro e y2 ⟨rfl, rfl⟩) | (go_at_call 13; with_reducible refine (awake_any _).mono ?_; rintro e z9 ⟨rfl, hb⟩; replace hx := hid (hx.out.below hb); clear hb))
                go_ret
                exact ⟨rfl, hx.out.bel⟩
      · have H26 := hid (fun W h => Clash_as hn6 (show clashOf r = (0, 4) by simp [clashOf, hv, Rel.clashIn, hc]) (.slice sa r.stints.length scap) W h)
        have hO2 : r.canB O = true := Rel.canB_sub hv (fun n hn _ => by rw [Rel.every_bit]; exact decide_eq_true hn) hc
        rw [hE] at hc
        have hc' := hid hc
        have hO3 := hid hO2
        have hOE' := hid hOE
        clear hv hc hO2 hE hn6 hOE
        clear hn hfar hS
        go_enter Try.func9, Try.ntmps9
        go_upto_region 1 with fail
        generalize w.alloc (.cells #[.int .i64 r.rest, .slice sa r.stints.length scap] 24) = w0 at hx ⊢
        have lx := (cells_of hx.out.m).1
        have cx := (cells_of hx.out.m).2
        go_upto_region 7 with (first | (go_at_call 12; with_reducible refine (H12.out _ hx.out.s).mono ?_; rintro e w1 ⟨rfl, hb⟩; replace hx := hid (hx.out.below hb); have lx := (cells_of hx.out.m).1; have cx := (cells_of hx.out.m).2; clear hb) | (go_at_call 26; with_reducible refine (H26.out _ hx.out.s).mono ?_; rintro e w2 ⟨rfl, hb⟩; replace hx := hid (hx.out.below hb); have lx := (cells_of hx.out.m).1; have cx := (cells_of hx.out.m).2; clear hb) | (go_at_call 32; with_reducible refine (H32.out _ hx.out.s).mono ?_; rintro e w3 ⟨rfl, hb⟩; replace hx := hid (hx.out.below hb); have lx := (cells_of hx.out.m).1; have cx := (cells_of hx.out.m).2; clear hb) | (go_at_call 36; with_reducible refine (H36.out _).mono ?_; rintro e w4 ⟨rfl, hb⟩; replace hx := hid (hx.out.below hb); have lx := (cells_of hx.out.m).1; have cx := (cells_of hx.out.m).2; clear hb))
        have hev := alloc_at (w := w4) (o := .cells #[.int .i64 E] 3) rfl
        replace hx := hid (hx.out.below (below_alloc (Below.refl _ _) (.cells #[.int .i64 E] 3)))
        generalize w4.alloc (.cells #[.int .i64 E] 3) = w5 at hx hev ⊢
        generalize w4.heap.size = ev at hev ⊢
        replace hev := hid hev
        clear lx cx H12 H26 H32 H36
        have HCE := hid (HC.out E false (by rw [hc'.out]; rfl) (Nat.le_refl _) E rfl)
        have HCO := hid (HC.out O false (by rw [hO3.out]; rfl) hOE'.out O rfl)
        have hmf := hmf
        have lx := (cells_of hx.out.m).1
        have cx := (cells_of hx.out.m).2
        have le := (cells_of hev.out).1
        have ce := (cells_of hev.out).2
        go_wp2_with (first | (go_at_call 37; with_reducible refine (HCE.out w.heap.size ev _ hN'.out _ hx.out.s hx.out.m hev.out).mono ?_; rintro e y1 ⟨rfl, hb⟩; replace hx := hid (hx.out.below hb); replace hev := hid ((hb.block _ (cells_of hev.out).1).trans hev.out); have lx := (cells_of hx.out.m).1; have cx := (cells_of hx.out.m).2; have le := (cells_of hev.out).1; have ce := (cells_of hev.out).2; clear hb) | (go_at_call 37; with_reducible refine (HCO.out w.heap.size ev _ hN'.out _ hx.out.s hx.out.m hev.out).mono ?_; rintro e y1 ⟨rfl, hb⟩; replace hx := hid (hx.out.below hb); replace hev := hid ((hb.block _ (cells_of hev.out).1).trans hev.out); have lx := (cells_of hx.out.m).1; have cx := (cells_of hx.out.m).2; have le := (cells_of hev.out).1; have ce := (cells_of hev.out).2; clear hb) | (go_at_call 13; with_reducible refine (awake_any _).mono ?_; rintro e z9 ⟨rfl, hb⟩; replace hx := hid (hx.out.below hb); clear hb))
        go_ret
        exact ⟨rfl, hx.out.bel⟩
  · have H12 := hid (fun W h => far_as (M := 5) hfar rfl hn (by decide) (.slice sa r.stints.length scap) W h)
    clear hn hfar hS
    go_enter Try.func9, Try.ntmps9
    go_upto_region 1 with fail
    generalize w.alloc (.cells #[.int .i64 r.rest, .slice sa r.stints.length scap] 24) = w0 at hx ⊢
    have lx := (cells_of hx.out.m).1
    have cx := (cells_of hx.out.m).2
    go_wp2_with (first | (go_at_call 12; with_reducible refine (H12.out _ hx.out.s).mono ?_; rintro e w1 ⟨rfl, hb⟩; replace hx := hid (hx.out.below hb); have lx := (cells_of hx.out.m).1; have cx := (cells_of hx.out.m).2; clear hb) | (go_at_call 13; with_reducible refine (awake_any _).mono ?_; rintro e z9 ⟨rfl, hb⟩; replace hx := hid (hx.out.below hb); clear hb))
    go_ret
    exact ⟨rfl, hx.out.bel⟩

end Go.Proofs.Ytccgakdaiaigoaa
