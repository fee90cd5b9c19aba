/- The walks of the reference's 'in', 'power' and 'Rest'. -/
import Derived.Test.YtkgdejhooghknaaN3
namespace Go.Proofs.Ytkgdejhooghknaa
open Go.RowKit Go.Lap Go.Shelf

set_option maxHeartbeats 400000 in
theorem in_any (n lo hi : Int) (w : World) :
    Calls Try.prog 73 #[.int .i64 n, .int .i64 lo, .int .i64 hi] w fun e w' => e = .returned (.bool (inB n lo hi)) ∧ w' = w := by
  by_cases h1 : lo ≤ n
  · go_enter Try.func73, Try.ntmps73
    go_wp2
    go_ret
    exact ⟨by simp [inB, h1], rfl⟩
  · go_enter Try.func73, Try.ntmps73
    go_wp2
    go_ret
    exact ⟨by have h2 : ¬ lo ≤ n := by omega
              simp [inB, h2], rfl⟩

theorem in_as {n lo hi : Int} {b : Bool} (h : inB n lo hi = b) (w : World) :
    Calls Try.prog 73 #[.int .i64 n, .int .i64 lo, .int .i64 hi] w fun e w' => e = .returned (.bool b) ∧ w' = w := by
  subst h; exact in_any n lo hi w

set_option maxHeartbeats 1000000 in
theorem power_any (n : Int) (h0 : 0 ≤ n) (h1 : n ≤ 62) (w : World) : Calls Try.prog 78 #[.int .i64 n] w fun e w' => e = .returned (.int .i64 (2 ^ n.toNat)) ∧ w' = w := by
  go_enter Try.func78, Try.ntmps78
  go_wp2
  go_loopw [3, 4] (fun x i wr => ∃ k : Nat, (k : Int) ≤ n ∧ i = .int .i64 k ∧ x = .int .i64 (2 ^ k) ∧ Hid (wr = w)) (fun _ i _ => n.toNat - (intOf i).toNat)
  case atStart => exact ⟨0, by simpa using h0, rfl, rfl, hid rfl⟩
  case round =>
    obtain ⟨k, hk, rfl, rfl, hw⟩ := hrel
    have h4 : (2 : Int) ^ (k + 1) ≤ 2 ^ 62 ∨ ¬ (k : Int) < n := by
      by_cases hlt : (k : Int) < n
      · exact .inl (two_pow_le (by omega))
      · exact .inr hlt
    have h5 : (0 : Int) < 2 ^ k := Int.pow_pos (by decide)
    by_cases hlt : (k : Int) < n
    · have h6 : (2 : Int) * 2 ^ k ≤ 4611686018427387904 := by
        rcases h4 with h | h
        · rw [Int.pow_succ] at h; omega
        · exact (h hlt).elim
      have h7 : IntKind.i64.wrap (2 * 2 ^ k) = 2 * 2 ^ k := IntWalk.i64_in _ (by omega)
      generalize hp : (2 : Int) ^ k = p at *
      have hp' := hid hp
      clear hp h4 h5
      go_wp2
      go_roundw
      case rel =>
        refine ⟨k + 1, by omega, by go_num, ?_, hw⟩
        rw [Int.pow_succ, hp'.out, Int.mul_comm]
      case measure => simp [intOf]; omega
    · obtain rfl : (k : Int) = n := by omega
      clear h4 h5
      go_wp2
      go_ret
      exact ⟨by simp, hw.out⟩

set_option maxRecDepth 100000 in
set_option maxHeartbeats 2000000 in
theorem refRest_any (R : Rest) (w : World) : Calls Try.prog 32 #[restV R] w fun e w' => e = .returned (.bool R.valid) ∧ Below w.heap.size w w' := by
  cases hH : inB R.hours 0 16
  · have hH' := hid hH
    clear hH
    go_enter Try.func32, Try.ntmps32
    go_wp2_with (go_at_call 73; refine (in_as hH'.out _).mono ?_; rintro e w' ⟨rfl, rfl⟩)
    go_ret
    exact ⟨by simp [Rest.valid, hH'.out], below_alloc (Below.refl _ _) _⟩
  · have hh0 : 0 ≤ R.hours := by simp [inB] at hH; omega
    have hh16 : R.hours ≤ 16 := by simp [inB] at hH; omega
    have hh62 : R.hours ≤ 62 := by omega
    have hp : (2 : Int) ^ R.hours.toNat ≤ 2 ^ 16 := two_pow_le (by omega)
    have hp0 : (0 : Int) < 2 ^ R.hours.toNat := Int.pow_pos (by decide)
    have hwr : IntKind.i64.wrap (2 ^ R.hours.toNat - 1) = 2 ^ R.hours.toNat - 1 := IntWalk.i64_in _ (by omega)
    have hH' := hid hH
    have hX : (w.alloc (.cells #[.int .i64 R.hours, .int .i64 R.r0.out, .int .i64 R.r0.total, .int .i64 R.r0.run, .int .i64 R.r0.off, .int .i64 R.r1.out, .int .i64 R.r1.total, .int .i64 R.r1.run, .int .i64 R.r1.off] 26)).heap[w.heap.size]? = some (.cells #[.int .i64 R.hours, .int .i64 R.r0.out, .int .i64 R.r0.total, .int .i64 R.r0.run, .int .i64 R.r0.off, .int .i64 R.r1.out, .int .i64 R.r1.total, .int .i64 R.r1.run, .int .i64 R.r1.off] 26 (0, 0)) := alloc_at rfl
    have hb0 : Below w.heap.size w (w.alloc (.cells #[.int .i64 R.hours, .int .i64 R.r0.out, .int .i64 R.r0.total, .int .i64 R.r0.run, .int .i64 R.r0.off, .int .i64 R.r1.out, .int .i64 R.r1.total, .int .i64 R.r1.run, .int .i64 R.r1.off] 26)) := below_alloc (Below.refl _ _) _
    have hX' := hid hX
    have hb0' := hid hb0
    clear hH hX hb0 hp hp0
    go_enter Try.func32, Try.ntmps32
    go_wp2_with (go_at_call 73; refine (in_as hH'.out _).mono ?_; rintro e w' ⟨rfl, rfl⟩)
    go_loopw [3] (fun i wr => ∃ k : Int, i = .int .i64 k ∧ ((k = 0) ∨ (k = 1 ∧ Hid (riderOk R.r0 R.hours = true)) ∨ (k = 2 ∧ Hid (riderOk R.r0 R.hours = true) ∧ Hid (riderOk R.r1 R.hours = true))) ∧ Below (w.alloc (.cells #[.int .i64 R.hours, .int .i64 R.r0.out, .int .i64 R.r0.total, .int .i64 R.r0.run, .int .i64 R.r0.off, .int .i64 R.r1.out, .int .i64 R.r1.total, .int .i64 R.r1.run, .int .i64 R.r1.off] 26)).heap.size (w.alloc (.cells #[.int .i64 R.hours, .int .i64 R.r0.out, .int .i64 R.r0.total, .int .i64 R.r0.run, .int .i64 R.r0.off, .int .i64 R.r1.out, .int .i64 R.r1.total, .int .i64 R.r1.run, .int .i64 R.r1.off] 26)) wr) (fun i _ => 2 - (intOf i).toNat)
    case atStart => exact ⟨0, rfl, .inl rfl, Below.refl _ _⟩
    case round =>
      obtain ⟨k, rfl, hk, hbz⟩ := hrel
      have hXr := (hbz.block _ (cells_of hX'.out).1).trans hX'.out
      obtain ⟨lx, cx⟩ := cells_of hXr
      have hbr' := hid hbz
      clear hXr hbz
      obtain rfl | ⟨rfl, hk0⟩ | ⟨rfl, hk0, hk1⟩ := hk
      · -- the first rider
        cases h0 : inB R.r0.out 0 (2 ^ R.hours.toNat - 1)
        · have h0' := hid h0
          clear h0
          go_wp2
          go_quiet ((first | (go_at_call 78; with_reducible exact Calls.quiet_of_same (power_any _ hh0 hh62 _)) | (go_at_call 73; with_reducible exact Calls.quiet_of_same (in_as h0'.out _))))
          go_wp2
          go_ret
          refine ⟨?_, below_drewN (below_alloc (below_via hbr'.out hb0'.out) _) _⟩
          rw [Rest.valid_no 0 (riderOk_no h0'.out)]; rfl
        · have h0' := hid h0
          clear h0
          cases h1 : inB R.r0.total 0 16
          · have h1' := hid h1
            clear h1
            go_wp2
            go_quiet ((first | (go_at_call 78; with_reducible exact Calls.quiet_of_same (power_any _ hh0 hh62 _)) | (go_at_call 73; with_reducible exact Calls.quiet_of_same (in_as h0'.out _)) | (go_at_call 73; with_reducible exact Calls.quiet_of_same (in_as h1'.out _))))
            go_wp2
            go_ret
            refine ⟨?_, below_drewN (below_alloc (below_via hbr'.out hb0'.out) _) _⟩
            rw [Rest.valid_no 0 (riderOk_no' (r := R.r0) 0 h1'.out)]; rfl
          · have h1' := hid h1
            clear h1
            cases h2 : inB R.r0.run 0 16
            · have h2' := hid h2
              clear h2
              go_wp2
              go_quiet ((first | (go_at_call 78; with_reducible exact Calls.quiet_of_same (power_any _ hh0 hh62 _)) | (go_at_call 73; with_reducible exact Calls.quiet_of_same (in_as h0'.out _)) | (go_at_call 73; with_reducible exact Calls.quiet_of_same (in_as h1'.out _)) | (go_at_call 73; with_reducible exact Calls.quiet_of_same (in_as h2'.out _))))
              go_wp2
              go_ret
              refine ⟨?_, below_drewN (below_alloc (below_via hbr'.out hb0'.out) _) _⟩
              rw [Rest.valid_no 0 (riderOk_no' (r := R.r0) 1 h2'.out)]; rfl
            · have h2' := hid h2
              clear h2
              cases h3 : inB R.r0.off 0 16
              · have h3' := hid h3
                clear h3
                go_wp2
                go_quiet ((first | (go_at_call 78; with_reducible exact Calls.quiet_of_same (power_any _ hh0 hh62 _)) | (go_at_call 73; with_reducible exact Calls.quiet_of_same (in_as h0'.out _)) | (go_at_call 73; with_reducible exact Calls.quiet_of_same (in_as h1'.out _)) | (go_at_call 73; with_reducible exact Calls.quiet_of_same (in_as h2'.out _)) | (go_at_call 73; with_reducible exact Calls.quiet_of_same (in_as h3'.out _))))
                go_wp2
                go_ret
                refine ⟨?_, below_drewN (below_alloc (below_via hbr'.out hb0'.out) _) _⟩
                rw [Rest.valid_no 0 (riderOk_no' (r := R.r0) 2 h3'.out)]; rfl
              · have h3' := hid h3
                clear h3
                go_wp2
                go_quiet ((first | (go_at_call 78; with_reducible exact Calls.quiet_of_same (power_any _ hh0 hh62 _)) | (go_at_call 73; with_reducible exact Calls.quiet_of_same (in_as h0'.out _)) | (go_at_call 73; with_reducible exact Calls.quiet_of_same (in_as h1'.out _)) | (go_at_call 73; with_reducible exact Calls.quiet_of_same (in_as h2'.out _)) | (go_at_call 73; with_reducible exact Calls.quiet_of_same (in_as h3'.out _))))
                go_wp2
                go_roundw
                case rel => exact ⟨1, rfl, .inr (.inl ⟨rfl, hid (by simp only [riderOk, Bool.and_eq_true]; exact ⟨h0'.out, h1'.out, h2'.out, h3'.out⟩)⟩), below_drewN (below_alloc hbr'.out _) _⟩
                case measure => simp [intOf]
      · -- the second one
        cases h0 : inB R.r1.out 0 (2 ^ R.hours.toNat - 1)
        · have h0' := hid h0
          clear h0
          go_wp2
          go_quiet ((first | (go_at_call 78; with_reducible exact Calls.quiet_of_same (power_any _ hh0 hh62 _)) | (go_at_call 73; with_reducible exact Calls.quiet_of_same (in_as h0'.out _))))
          go_wp2
          go_ret
          refine ⟨?_, below_drewN (below_alloc (below_via hbr'.out hb0'.out) _) _⟩
          rw [Rest.valid_no 1 (riderOk_no h0'.out)]; rfl
        · have h0' := hid h0
          clear h0
          cases h1 : inB R.r1.total 0 16
          · have h1' := hid h1
            clear h1
            go_wp2
            go_quiet ((first | (go_at_call 78; with_reducible exact Calls.quiet_of_same (power_any _ hh0 hh62 _)) | (go_at_call 73; with_reducible exact Calls.quiet_of_same (in_as h0'.out _)) | (go_at_call 73; with_reducible exact Calls.quiet_of_same (in_as h1'.out _))))
            go_wp2
            go_ret
            refine ⟨?_, below_drewN (below_alloc (below_via hbr'.out hb0'.out) _) _⟩
            rw [Rest.valid_no 1 (riderOk_no' (r := R.r1) 0 h1'.out)]; rfl
          · have h1' := hid h1
            clear h1
            cases h2 : inB R.r1.run 0 16
            · have h2' := hid h2
              clear h2
              go_wp2
              go_quiet ((first | (go_at_call 78; with_reducible exact Calls.quiet_of_same (power_any _ hh0 hh62 _)) | (go_at_call 73; with_reducible exact Calls.quiet_of_same (in_as h0'.out _)) | (go_at_call 73; with_reducible exact Calls.quiet_of_same (in_as h1'.out _)) | (go_at_call 73; with_reducible exact Calls.quiet_of_same (in_as h2'.out _))))
              go_wp2
              go_ret
              refine ⟨?_, below_drewN (below_alloc (below_via hbr'.out hb0'.out) _) _⟩
              rw [Rest.valid_no 1 (riderOk_no' (r := R.r1) 1 h2'.out)]; rfl
            · have h2' := hid h2
              clear h2
              cases h3 : inB R.r1.off 0 16
              · have h3' := hid h3
                clear h3
                go_wp2
                go_quiet ((first | (go_at_call 78; with_reducible exact Calls.quiet_of_same (power_any _ hh0 hh62 _)) | (go_at_call 73; with_reducible exact Calls.quiet_of_same (in_as h0'.out _)) | (go_at_call 73; with_reducible exact Calls.quiet_of_same (in_as h1'.out _)) | (go_at_call 73; with_reducible exact Calls.quiet_of_same (in_as h2'.out _)) | (go_at_call 73; with_reducible exact Calls.quiet_of_same (in_as h3'.out _))))
                go_wp2
                go_ret
                refine ⟨?_, below_drewN (below_alloc (below_via hbr'.out hb0'.out) _) _⟩
                rw [Rest.valid_no 1 (riderOk_no' (r := R.r1) 2 h3'.out)]; rfl
              · have h3' := hid h3
                clear h3
                go_wp2
                go_quiet ((first | (go_at_call 78; with_reducible exact Calls.quiet_of_same (power_any _ hh0 hh62 _)) | (go_at_call 73; with_reducible exact Calls.quiet_of_same (in_as h0'.out _)) | (go_at_call 73; with_reducible exact Calls.quiet_of_same (in_as h1'.out _)) | (go_at_call 73; with_reducible exact Calls.quiet_of_same (in_as h2'.out _)) | (go_at_call 73; with_reducible exact Calls.quiet_of_same (in_as h3'.out _))))
                go_wp2
                go_roundw
                case rel => exact ⟨2, rfl, .inr (.inr ⟨rfl, hk0, hid (by simp only [riderOk, Bool.and_eq_true]; exact ⟨h0'.out, h1'.out, h2'.out, h3'.out⟩)⟩), below_drewN (below_alloc hbr'.out _) _⟩
                case measure => simp [intOf]
      · go_wp2
        go_ret
        exact ⟨by simp [Rest.valid, hH'.out, hk0.out, hk1.out], below_via hbr'.out hb0'.out⟩

end Go.Proofs.Ytkgdejhooghknaa
