/- The walk of 'RestUntil', where no hour helps. -/
import Derived.Test.YtkgdejhooghknaaR1
namespace Go.Proofs.Ytkgdejhooghknaa
open Go.RowKit Go.Lap Go.Shelf

set_option maxRecDepth 100000 in
set_option maxHeartbeats 8000000 in
theorem restUntil_none (R : Rest) (hv : R.valid = true) (n : Int) (h0 : 0 ≤ n) (h1 : n < R.hours) (hu : untilR R = (n, 0)) (hn0 : ∀ j, 0 ≤ j → j < R.hours → frees R 0 j = false) (hn1 : ∀ j, 0 ≤ j → j < R.hours → frees R 1 j = false) (hf : freeR R = (0, 0, 4)) (a : Int) (ha : 0 < a) (hc : countR (firstR R n) = (a, 0)) (hc2 : countR (firstR R (n + 1)) = (0, 0)) (w : World) : Calls Try.prog 10 #[restV R] w fun e w' => e = .returned (.bool true) ∧ Below w.heap.size w w' := by
  have hh := Rest.valid_hours hv
  have ho := Rest.valid_ok hv
  have hr0 := ho.1
  have hr1 := ho.2
  have d1 : decide (n < 0) = false := by simp; omega
  have d2 : decide (a < 1) = false := by simp; omega
  have d3 : decide (R.hours < n) = false := by simp; omega
  have d4 : (n == R.hours) = false := by simp; omega
  have hw1 : IntKind.i64.wrap (n + 1) = n + 1 := IntWalk.i64_in _ (by omega)
  have c32 := hid (fun w => refRest_any R w)
  have c19 := hid (fun w => Until_any R w)
  have c30 := hid (fun w => Free_any R w)
  have c41 := hid (fun w => first_any R n h0 (by omega) ho.1 ho.2 w)
  have c41b := hid (fun w => first_any R (n + 1) (by omega) (by omega) ho.1 ho.2 w)
  have c17 := hid (fun w => Count_any (firstR R n) w)
  have c17b := hid (fun w => Count_any (firstR R (n + 1)) w)
  have c14 := hid awake_any
  have hv' := hid hv
  have hu' := hid hu
  have hf' := hid hf
  have hc' := hid hc
  have hc2' := hid hc2
  have hno0' := hid hn0
  have hno1' := hid hn1
  clear hn0 hn1
  clear hv hu hf hc hc2
  have hX := hid (show (w.alloc (.cells #[.int .i64 R.hours, .int .i64 R.r0.out, .int .i64 R.r0.total, .int .i64 R.r0.run, .int .i64 R.r0.off, .int .i64 R.r1.out, .int .i64 R.r1.total, .int .i64 R.r1.run, .int .i64 R.r1.off] 26)).heap[w.heap.size]? = some (.cells #[.int .i64 R.hours, .int .i64 R.r0.out, .int .i64 R.r0.total, .int .i64 R.r0.run, .int .i64 R.r0.off, .int .i64 R.r1.out, .int .i64 R.r1.total, .int .i64 R.r1.run, .int .i64 R.r1.off] 26 (0, 0)) from alloc_at rfl)
  have hbx : Below (w.alloc (.cells #[.int .i64 R.hours, .int .i64 R.r0.out, .int .i64 R.r0.total, .int .i64 R.r0.run, .int .i64 R.r0.off, .int .i64 R.r1.out, .int .i64 R.r1.total, .int .i64 R.r1.run, .int .i64 R.r1.off] 26)).heap.size (w.alloc (.cells #[.int .i64 R.hours, .int .i64 R.r0.out, .int .i64 R.r0.total, .int .i64 R.r0.run, .int .i64 R.r0.off, .int .i64 R.r1.out, .int .i64 R.r1.total, .int .i64 R.r1.run, .int .i64 R.r1.off] 26)) (w.alloc (.cells #[.int .i64 R.hours, .int .i64 R.r0.out, .int .i64 R.r0.total, .int .i64 R.r0.run, .int .i64 R.r0.off, .int .i64 R.r1.out, .int .i64 R.r1.total, .int .i64 R.r1.run, .int .i64 R.r1.off] 26)) := Below.refl _ _
  have hX' := hX
  go_enter Try.func10, Try.ntmps10
  go_wp2_with (first | (go_at_call 32; with_reducible refine (c32.out _).mono ?_; rw [hv'.out]; rintro e w1 ⟨rfl, hb1⟩; have hbx : Below (w.alloc (.cells #[.int .i64 R.hours, .int .i64 R.r0.out, .int .i64 R.r0.total, .int .i64 R.r0.run, .int .i64 R.r0.off, .int .i64 R.r1.out, .int .i64 R.r1.total, .int .i64 R.r1.run, .int .i64 R.r1.off] 26)).heap.size (w.alloc (.cells #[.int .i64 R.hours, .int .i64 R.r0.out, .int .i64 R.r0.total, .int .i64 R.r0.run, .int .i64 R.r0.off, .int .i64 R.r1.out, .int .i64 R.r1.total, .int .i64 R.r1.run, .int .i64 R.r1.off] 26)) _ := below_via hb1 hbx; have hX := hid ((hb1.block _ (cells_of hX.out).1).trans hX.out); obtain ⟨lx, cx⟩ := cells_of hX.out) | (go_at_call 19; with_reducible refine (c19.out _).mono ?_; rw [hu'.out]; rintro e w1 ⟨rfl, hb1⟩; have hbx : Below (w.alloc (.cells #[.int .i64 R.hours, .int .i64 R.r0.out, .int .i64 R.r0.total, .int .i64 R.r0.run, .int .i64 R.r0.off, .int .i64 R.r1.out, .int .i64 R.r1.total, .int .i64 R.r1.run, .int .i64 R.r1.off] 26)).heap.size (w.alloc (.cells #[.int .i64 R.hours, .int .i64 R.r0.out, .int .i64 R.r0.total, .int .i64 R.r0.run, .int .i64 R.r0.off, .int .i64 R.r1.out, .int .i64 R.r1.total, .int .i64 R.r1.run, .int .i64 R.r1.off] 26)) _ := below_via hb1 hbx; have hX := hid ((hb1.block _ (cells_of hX.out).1).trans hX.out); obtain ⟨lx, cx⟩ := cells_of hX.out) | (go_at_call 30; with_reducible refine (c30.out _).mono ?_; rw [hf'.out]; rintro e w1 ⟨rfl, hb1⟩; have hbx : Below (w.alloc (.cells #[.int .i64 R.hours, .int .i64 R.r0.out, .int .i64 R.r0.total, .int .i64 R.r0.run, .int .i64 R.r0.off, .int .i64 R.r1.out, .int .i64 R.r1.total, .int .i64 R.r1.run, .int .i64 R.r1.off] 26)).heap.size (w.alloc (.cells #[.int .i64 R.hours, .int .i64 R.r0.out, .int .i64 R.r0.total, .int .i64 R.r0.run, .int .i64 R.r0.off, .int .i64 R.r1.out, .int .i64 R.r1.total, .int .i64 R.r1.run, .int .i64 R.r1.off] 26)) _ := below_via hb1 hbx; have hX := hid ((hb1.block _ (cells_of hX.out).1).trans hX.out); obtain ⟨lx, cx⟩ := cells_of hX.out) | (go_at_call 41; with_reducible refine (c41.out _).mono ?_; rintro e w1 ⟨rfl, hb1⟩; have hbx : Below (w.alloc (.cells #[.int .i64 R.hours, .int .i64 R.r0.out, .int .i64 R.r0.total, .int .i64 R.r0.run, .int .i64 R.r0.off, .int .i64 R.r1.out, .int .i64 R.r1.total, .int .i64 R.r1.run, .int .i64 R.r1.off] 26)).heap.size (w.alloc (.cells #[.int .i64 R.hours, .int .i64 R.r0.out, .int .i64 R.r0.total, .int .i64 R.r0.run, .int .i64 R.r0.off, .int .i64 R.r1.out, .int .i64 R.r1.total, .int .i64 R.r1.run, .int .i64 R.r1.off] 26)) _ := below_via hb1 hbx; have hX := hid ((hb1.block _ (cells_of hX.out).1).trans hX.out); obtain ⟨lx, cx⟩ := cells_of hX.out) | (go_at_call 41; with_reducible refine (c41b.out _).mono ?_; rintro e w1 ⟨rfl, hb1⟩; have hbx : Below (w.alloc (.cells #[.int .i64 R.hours, .int .i64 R.r0.out, .int .i64 R.r0.total, .int .i64 R.r0.run, .int .i64 R.r0.off, .int .i64 R.r1.out, .int .i64 R.r1.total, .int .i64 R.r1.run, .int .i64 R.r1.off] 26)).heap.size (w.alloc (.cells #[.int .i64 R.hours, .int .i64 R.r0.out, .int .i64 R.r0.total, .int .i64 R.r0.run, .int .i64 R.r0.off, .int .i64 R.r1.out, .int .i64 R.r1.total, .int .i64 R.r1.run, .int .i64 R.r1.off] 26)) _ := below_via hb1 hbx; have hX := hid ((hb1.block _ (cells_of hX.out).1).trans hX.out); obtain ⟨lx, cx⟩ := cells_of hX.out) | (go_at_call 17; with_reducible refine (c17.out _).mono ?_; rw [hc'.out]; rintro e w1 ⟨rfl, hb1⟩; have hbx : Below (w.alloc (.cells #[.int .i64 R.hours, .int .i64 R.r0.out, .int .i64 R.r0.total, .int .i64 R.r0.run, .int .i64 R.r0.off, .int .i64 R.r1.out, .int .i64 R.r1.total, .int .i64 R.r1.run, .int .i64 R.r1.off] 26)).heap.size (w.alloc (.cells #[.int .i64 R.hours, .int .i64 R.r0.out, .int .i64 R.r0.total, .int .i64 R.r0.run, .int .i64 R.r0.off, .int .i64 R.r1.out, .int .i64 R.r1.total, .int .i64 R.r1.run, .int .i64 R.r1.off] 26)) _ := below_via hb1 hbx; have hX := hid ((hb1.block _ (cells_of hX.out).1).trans hX.out); obtain ⟨lx, cx⟩ := cells_of hX.out) | (go_at_call 17; with_reducible refine (c17b.out _).mono ?_; rw [hc2'.out]; rintro e w1 ⟨rfl, hb1⟩; have hbx : Below (w.alloc (.cells #[.int .i64 R.hours, .int .i64 R.r0.out, .int .i64 R.r0.total, .int .i64 R.r0.run, .int .i64 R.r0.off, .int .i64 R.r1.out, .int .i64 R.r1.total, .int .i64 R.r1.run, .int .i64 R.r1.off] 26)).heap.size (w.alloc (.cells #[.int .i64 R.hours, .int .i64 R.r0.out, .int .i64 R.r0.total, .int .i64 R.r0.run, .int .i64 R.r0.off, .int .i64 R.r1.out, .int .i64 R.r1.total, .int .i64 R.r1.run, .int .i64 R.r1.off] 26)) _ := below_via hb1 hbx; have hX := hid ((hb1.block _ (cells_of hX.out).1).trans hX.out); obtain ⟨lx, cx⟩ := cells_of hX.out))
  go_loopw [162] (fun x wr => ∃ k : Int, x = .int .i64 k ∧ (k = 0 ∨ k = 1 ∨ k = 2) ∧ Below (w.alloc (.cells #[.int .i64 R.hours, .int .i64 R.r0.out, .int .i64 R.r0.total, .int .i64 R.r0.run, .int .i64 R.r0.off, .int .i64 R.r1.out, .int .i64 R.r1.total, .int .i64 R.r1.run, .int .i64 R.r1.off] 26)).heap.size (w.alloc (.cells #[.int .i64 R.hours, .int .i64 R.r0.out, .int .i64 R.r0.total, .int .i64 R.r0.run, .int .i64 R.r0.off, .int .i64 R.r1.out, .int .i64 R.r1.total, .int .i64 R.r1.run, .int .i64 R.r1.off] 26)) wr) (fun x _ => 2 - (intOf x).toNat)
  case atStart => exact ⟨0, rfl, .inl rfl, hbx⟩
  case round =>
    obtain ⟨k, rfl, hk, hbr⟩ := hrel
    have hXr := (hbr.block _ (cells_of hX'.out).1).trans hX'.out
    obtain ⟨lx, cx⟩ := cells_of hXr
    have hbr' := hid hbr
    clear hXr hbr
    obtain rfl | rfl | rfl := hk
    · go_wp2
      go_loopw [167] (fun x wr2 => ∃ k2 : Int, x = .int .i64 k2 ∧ 0 ≤ k2 ∧ k2 ≤ R.hours ∧ Below (w.alloc (.cells #[.int .i64 R.hours, .int .i64 R.r0.out, .int .i64 R.r0.total, .int .i64 R.r0.run, .int .i64 R.r0.off, .int .i64 R.r1.out, .int .i64 R.r1.total, .int .i64 R.r1.run, .int .i64 R.r1.off] 26)).heap.size (w.alloc (.cells #[.int .i64 R.hours, .int .i64 R.r0.out, .int .i64 R.r0.total, .int .i64 R.r0.run, .int .i64 R.r0.off, .int .i64 R.r1.out, .int .i64 R.r1.total, .int .i64 R.r1.run, .int .i64 R.r1.off] 26)) wr2) (fun x _ => R.hours.toNat - (intOf x).toNat)
      case atStart => exact ⟨0, rfl, by omega, by omega, hbr'.out⟩
      case round =>
        obtain ⟨k2, rfl, hk0, hk1, hbq⟩ := hrel
        have hXq := (hbq.block _ (cells_of hX'.out).1).trans hX'.out
        obtain ⟨lx2, cx2⟩ := cells_of hXq
        have hbq' := hid hbq
        have hXq' := hid hXq
        clear hbq hXq cx
        by_cases hlt : k2 < R.hours
        · cases hbit : hasBit R.r0.out k2
          · have hb0 : (R.r0.out / 2 ^ k2.toNat % 2 == 0) = true := by
              have h1 : (R.r0.out >>> k2.toNat % 2 == 1) = false := hbit
              rw [Int.shiftRight_eq_div_pow] at h1
              simp at h1 ⊢
              omega
            have hbit' := hid hbit
            clear hbit
            go_wp2
            go_roundw
            case rel => exact ⟨k2 + 1, by go_num, by omega, by omega, hbq'.out⟩
            case measure => simp [intOf]; omega
          · have hb0 : (R.r0.out / 2 ^ k2.toNat % 2 == 0) = false := by
              have h1 : (R.r0.out >>> k2.toNat % 2 == 1) = true := hbit
              rw [Int.shiftRight_eq_div_pow] at h1
              simp at h1 ⊢
              omega
            have hout : bits .andNot .i64 R.r0.out (wrap64 (2 ^ k2.toNat)) = clr R.r0.out k2 := by
              have h2 := two_pow_le (n := k2.toNat) (m := 15) (by omega)
              have h3 : (0 : Int) < 2 ^ k2.toNat := Int.pow_pos (by decide)
              rw [IntWalk.wrap64_in _ (by omega)]
              have h4 := andNot_nat R.r0.out.toNat k2.toNat (by have := hr0.out1; omega) (by omega)
              rw [Int.toNat_of_nonneg hr0.out0, Int.toNat_of_nonneg hk0] at h4
              exact h4
            have hQ : R.clear 0 k2 = ⟨R.hours, ⟨clr R.r0.out k2, R.r0.total, R.r0.run, R.r0.off⟩, R.r1⟩ := by simp [Rest.clear]
            have hfr : frees R 0 k2 = canB (R.clear 0 k2) R.hours := by simp [frees, Rest.rider, hbit]
            obtain ⟨c, hcn, hc0, hcp⟩ := count_clear (i := 0) hv'.out hk0
            rw [← hfr] at hcp
            rw [hQ] at hcn
            have hcn' := hid hcn
            clear hcn hfr hQ
            have hc1 : c = 0 := by
              rw [hno0'.out k2 hk0 hlt] at hcp
              have : ¬ 0 < c := by simpa using hcp
              omega
            subst hc1
            clear hcp
            have hbit' := hid hbit
            clear hbit
            go_wp2
            go_region
            have hbc : Below (w.alloc (.cells #[.int .i64 R.hours, .int .i64 R.r0.out, .int .i64 R.r0.total, .int .i64 R.r0.run, .int .i64 R.r0.off, .int .i64 R.r1.out, .int .i64 R.r1.total, .int .i64 R.r1.run, .int .i64 R.r1.off] 26)).heap.size (w.alloc (.cells #[.int .i64 R.hours, .int .i64 R.r0.out, .int .i64 R.r0.total, .int .i64 R.r0.run, .int .i64 R.r0.off, .int .i64 R.r1.out, .int .i64 R.r1.total, .int .i64 R.r1.run, .int .i64 R.r1.off] 26)) (wr.alloc (.cells #[.int .i64 R.hours, .int .i64 (clr R.r0.out k2), .int .i64 R.r0.total, .int .i64 R.r0.run, .int .i64 R.r0.off, .int .i64 R.r1.out, .int .i64 R.r1.total, .int .i64 R.r1.run, .int .i64 R.r1.off] 26)).drew := (below_alloc hbq'.out _).drew
            have hOc : (wr.alloc (.cells #[.int .i64 R.hours, .int .i64 (clr R.r0.out k2), .int .i64 R.r0.total, .int .i64 R.r0.run, .int .i64 R.r0.off, .int .i64 R.r1.out, .int .i64 R.r1.total, .int .i64 R.r1.run, .int .i64 R.r1.off] 26)).drew.heap[wr.heap.size]? = some (.cells #[.int .i64 R.hours, .int .i64 (clr R.r0.out k2), .int .i64 R.r0.total, .int .i64 R.r0.run, .int .i64 R.r0.off, .int .i64 R.r1.out, .int .i64 R.r1.total, .int .i64 R.r1.run, .int .i64 R.r1.off] 26 (0, 0)) := alloc_at rfl
            have hXc : (wr.alloc (.cells #[.int .i64 R.hours, .int .i64 (clr R.r0.out k2), .int .i64 R.r0.total, .int .i64 R.r0.run, .int .i64 R.r0.off, .int .i64 R.r1.out, .int .i64 R.r1.total, .int .i64 R.r1.run, .int .i64 R.r1.off] 26)).drew.heap[w.heap.size]? = some (.cells #[.int .i64 R.hours, .int .i64 R.r0.out, .int .i64 R.r0.total, .int .i64 R.r0.run, .int .i64 R.r0.off, .int .i64 R.r1.out, .int .i64 R.r1.total, .int .i64 R.r1.run, .int .i64 R.r1.off] 26 (0, 0)) := alloc_old lx2 hXq'.out
            generalize hWc : (wr.alloc (.cells #[.int .i64 R.hours, .int .i64 (clr R.r0.out k2), .int .i64 R.r0.total, .int .i64 R.r0.run, .int .i64 R.r0.off, .int .i64 R.r1.out, .int .i64 R.r1.total, .int .i64 R.r1.run, .int .i64 R.r1.off] 26)).drew = Wc at *
            clear hWc cx2 lx2
            obtain ⟨lx2, cx2⟩ := cells_of hXc
            obtain ⟨lo2, co2⟩ := cells_of hOc
            have hXc' := hid hXc
            have hOc' := hid hOc
            have hbc' := hid hbc
            clear hXc hOc hbc
            go_wp2_with (go_at_call 17; refine (Count_any ⟨R.hours, ⟨clr R.r0.out k2, R.r0.total, R.r0.run, R.r0.off⟩, R.r1⟩ _).mono ?_; rw [hcn'.out]; rintro e w1 ⟨rfl, hb1⟩; have hbx2 : Below (w.alloc (.cells #[.int .i64 R.hours, .int .i64 R.r0.out, .int .i64 R.r0.total, .int .i64 R.r0.run, .int .i64 R.r0.off, .int .i64 R.r1.out, .int .i64 R.r1.total, .int .i64 R.r1.run, .int .i64 R.r1.off] 26)).heap.size (w.alloc (.cells #[.int .i64 R.hours, .int .i64 R.r0.out, .int .i64 R.r0.total, .int .i64 R.r0.run, .int .i64 R.r0.off, .int .i64 R.r1.out, .int .i64 R.r1.total, .int .i64 R.r1.run, .int .i64 R.r1.off] 26)) _ := below_via hb1 hbc'.out; have hX2 := hid ((hb1.block _ (cells_of hXc'.out).1).trans hXc'.out); obtain ⟨lx3, cx3⟩ := cells_of hX2.out)
            go_roundw
            case rel => exact ⟨k2 + 1, by go_num, by omega, by omega, hbx2⟩
            case measure => simp [intOf]; omega
        · obtain rfl : k2 = R.hours := by omega
          go_wp2
          go_roundw
          case rel => exact ⟨1, rfl, .inr (.inl rfl), hbq'.out⟩
          case measure => simp [intOf]
    · go_wp2
      go_loopw [167] (fun x wr2 => ∃ k2 : Int, x = .int .i64 k2 ∧ 0 ≤ k2 ∧ k2 ≤ R.hours ∧ Below (w.alloc (.cells #[.int .i64 R.hours, .int .i64 R.r0.out, .int .i64 R.r0.total, .int .i64 R.r0.run, .int .i64 R.r0.off, .int .i64 R.r1.out, .int .i64 R.r1.total, .int .i64 R.r1.run, .int .i64 R.r1.off] 26)).heap.size (w.alloc (.cells #[.int .i64 R.hours, .int .i64 R.r0.out, .int .i64 R.r0.total, .int .i64 R.r0.run, .int .i64 R.r0.off, .int .i64 R.r1.out, .int .i64 R.r1.total, .int .i64 R.r1.run, .int .i64 R.r1.off] 26)) wr2) (fun x _ => R.hours.toNat - (intOf x).toNat)
      case atStart => exact ⟨0, rfl, by omega, by omega, hbr'.out⟩
      case round =>
        obtain ⟨k2, rfl, hk0, hk1, hbq⟩ := hrel
        have hXq := (hbq.block _ (cells_of hX'.out).1).trans hX'.out
        obtain ⟨lx2, cx2⟩ := cells_of hXq
        have hbq' := hid hbq
        have hXq' := hid hXq
        clear hbq hXq cx
        by_cases hlt : k2 < R.hours
        · cases hbit : hasBit R.r1.out k2
          · have hb0 : (R.r1.out / 2 ^ k2.toNat % 2 == 0) = true := by
              have h1 : (R.r1.out >>> k2.toNat % 2 == 1) = false := hbit
              rw [Int.shiftRight_eq_div_pow] at h1
              simp at h1 ⊢
              omega
            have hbit' := hid hbit
            clear hbit
            go_wp2
            go_roundw
            case rel => exact ⟨k2 + 1, by go_num, by omega, by omega, hbq'.out⟩
            case measure => simp [intOf]; omega
          · have hb0 : (R.r1.out / 2 ^ k2.toNat % 2 == 0) = false := by
              have h1 : (R.r1.out >>> k2.toNat % 2 == 1) = true := hbit
              rw [Int.shiftRight_eq_div_pow] at h1
              simp at h1 ⊢
              omega
            have hout : bits .andNot .i64 R.r1.out (wrap64 (2 ^ k2.toNat)) = clr R.r1.out k2 := by
              have h2 := two_pow_le (n := k2.toNat) (m := 15) (by omega)
              have h3 : (0 : Int) < 2 ^ k2.toNat := Int.pow_pos (by decide)
              rw [IntWalk.wrap64_in _ (by omega)]
              have h4 := andNot_nat R.r1.out.toNat k2.toNat (by have := hr1.out1; omega) (by omega)
              rw [Int.toNat_of_nonneg hr1.out0, Int.toNat_of_nonneg hk0] at h4
              exact h4
            have hQ : R.clear 1 k2 = ⟨R.hours, R.r0, ⟨clr R.r1.out k2, R.r1.total, R.r1.run, R.r1.off⟩⟩ := by simp [Rest.clear]
            have hfr : frees R 1 k2 = canB (R.clear 1 k2) R.hours := by simp [frees, Rest.rider, hbit]
            obtain ⟨c, hcn, hc0, hcp⟩ := count_clear (i := 1) hv'.out hk0
            rw [← hfr] at hcp
            rw [hQ] at hcn
            have hcn' := hid hcn
            clear hcn hfr hQ
            have hc1 : c = 0 := by
              rw [hno1'.out k2 hk0 hlt] at hcp
              have : ¬ 0 < c := by simpa using hcp
              omega
            subst hc1
            clear hcp
            have hbit' := hid hbit
            clear hbit
            go_wp2
            go_region
            have hbc : Below (w.alloc (.cells #[.int .i64 R.hours, .int .i64 R.r0.out, .int .i64 R.r0.total, .int .i64 R.r0.run, .int .i64 R.r0.off, .int .i64 R.r1.out, .int .i64 R.r1.total, .int .i64 R.r1.run, .int .i64 R.r1.off] 26)).heap.size (w.alloc (.cells #[.int .i64 R.hours, .int .i64 R.r0.out, .int .i64 R.r0.total, .int .i64 R.r0.run, .int .i64 R.r0.off, .int .i64 R.r1.out, .int .i64 R.r1.total, .int .i64 R.r1.run, .int .i64 R.r1.off] 26)) (wr.alloc (.cells #[.int .i64 R.hours, .int .i64 R.r0.out, .int .i64 R.r0.total, .int .i64 R.r0.run, .int .i64 R.r0.off, .int .i64 (clr R.r1.out k2), .int .i64 R.r1.total, .int .i64 R.r1.run, .int .i64 R.r1.off] 26)).drew := (below_alloc hbq'.out _).drew
            have hOc : (wr.alloc (.cells #[.int .i64 R.hours, .int .i64 R.r0.out, .int .i64 R.r0.total, .int .i64 R.r0.run, .int .i64 R.r0.off, .int .i64 (clr R.r1.out k2), .int .i64 R.r1.total, .int .i64 R.r1.run, .int .i64 R.r1.off] 26)).drew.heap[wr.heap.size]? = some (.cells #[.int .i64 R.hours, .int .i64 R.r0.out, .int .i64 R.r0.total, .int .i64 R.r0.run, .int .i64 R.r0.off, .int .i64 (clr R.r1.out k2), .int .i64 R.r1.total, .int .i64 R.r1.run, .int .i64 R.r1.off] 26 (0, 0)) := alloc_at rfl
            have hXc : (wr.alloc (.cells #[.int .i64 R.hours, .int .i64 R.r0.out, .int .i64 R.r0.total, .int .i64 R.r0.run, .int .i64 R.r0.off, .int .i64 (clr R.r1.out k2), .int .i64 R.r1.total, .int .i64 R.r1.run, .int .i64 R.r1.off] 26)).drew.heap[w.heap.size]? = some (.cells #[.int .i64 R.hours, .int .i64 R.r0.out, .int .i64 R.r0.total, .int .i64 R.r0.run, .int .i64 R.r0.off, .int .i64 R.r1.out, .int .i64 R.r1.total, .int .i64 R.r1.run, .int .i64 R.r1.off] 26 (0, 0)) := alloc_old lx2 hXq'.out
            generalize hWc : (wr.alloc (.cells #[.int .i64 R.hours, .int .i64 R.r0.out, .int .i64 R.r0.total, .int .i64 R.r0.run, .int .i64 R.r0.off, .int .i64 (clr R.r1.out k2), .int .i64 R.r1.total, .int .i64 R.r1.run, .int .i64 R.r1.off] 26)).drew = Wc at *
            clear hWc cx2 lx2
            obtain ⟨lx2, cx2⟩ := cells_of hXc
            obtain ⟨lo2, co2⟩ := cells_of hOc
            have hXc' := hid hXc
            have hOc' := hid hOc
            have hbc' := hid hbc
            clear hXc hOc hbc
            go_wp2_with (go_at_call 17; refine (Count_any ⟨R.hours, R.r0, ⟨clr R.r1.out k2, R.r1.total, R.r1.run, R.r1.off⟩⟩ _).mono ?_; rw [hcn'.out]; rintro e w1 ⟨rfl, hb1⟩; have hbx2 : Below (w.alloc (.cells #[.int .i64 R.hours, .int .i64 R.r0.out, .int .i64 R.r0.total, .int .i64 R.r0.run, .int .i64 R.r0.off, .int .i64 R.r1.out, .int .i64 R.r1.total, .int .i64 R.r1.run, .int .i64 R.r1.off] 26)).heap.size (w.alloc (.cells #[.int .i64 R.hours, .int .i64 R.r0.out, .int .i64 R.r0.total, .int .i64 R.r0.run, .int .i64 R.r0.off, .int .i64 R.r1.out, .int .i64 R.r1.total, .int .i64 R.r1.run, .int .i64 R.r1.off] 26)) _ := below_via hb1 hbc'.out; have hX2 := hid ((hb1.block _ (cells_of hXc'.out).1).trans hXc'.out); obtain ⟨lx3, cx3⟩ := cells_of hX2.out)
            go_roundw
            case rel => exact ⟨k2 + 1, by go_num, by omega, by omega, hbx2⟩
            case measure => simp [intOf]; omega
        · obtain rfl : k2 = R.hours := by omega
          go_wp2
          go_roundw
          case rel => exact ⟨2, rfl, .inr (.inr rfl), hbq'.out⟩
          case measure => simp [intOf]
    · go_wp2_with (go_at_call 14; refine (awake_any _).mono ?_; rintro e w1 ⟨rfl, hb1⟩; have hbx2 : Below (w.alloc (.cells #[.int .i64 R.hours, .int .i64 R.r0.out, .int .i64 R.r0.total, .int .i64 R.r0.run, .int .i64 R.r0.off, .int .i64 R.r1.out, .int .i64 R.r1.total, .int .i64 R.r1.run, .int .i64 R.r1.off] 26)).heap.size (w.alloc (.cells #[.int .i64 R.hours, .int .i64 R.r0.out, .int .i64 R.r0.total, .int .i64 R.r0.run, .int .i64 R.r0.off, .int .i64 R.r1.out, .int .i64 R.r1.total, .int .i64 R.r1.run, .int .i64 R.r1.off] 26)) _ := below_via hb1 hbr'.out)
      go_ret
      exact ⟨rfl, below_via hbx2 (below_alloc (Below.refl _ _) _)⟩

end Go.Proofs.Ytkgdejhooghknaa
