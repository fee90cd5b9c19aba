/- The law's clashes (of RelayClash) and can (of RelayWrong), walked. -/
import Derived.Test.YtccgakdaiaigoaaE4
import Derived.Test.YtccgakdaiaigoaaGG
namespace Go.Proofs.Ytccgakdaiaigoaa
open Go.RowKit Go.Lap Go.Shelf

theorem andNot_i (a b : Nat) (ha : a < 9223372036854775808) (hb : b < 9223372036854775808) : bits .andNot .i64 (a : Int) (b : Int) = ((Go.Lap.andN a b : Nat) : Int) := by
  have ea : (BitVec.ofInt 64 (a : Int)).toNat = a := by rw [BitVec.toNat_ofInt]; omega
  have eb : (BitVec.ofInt 64 (b : Int)).toNat = b := by rw [BitVec.toNat_ofInt]; omega
  have h3 := Nat.lt_of_le_of_lt (Go.Lap.andN_le a b) ha
  show IntKind.i64.wrap ((BitVec.ofInt 64 a &&& ~~~BitVec.ofInt 64 b).toNat : Nat) = _
  have e : (BitVec.ofInt 64 a &&& ~~~BitVec.ofInt 64 b).toNat = Go.Lap.andN a b := by
    apply Nat.eq_of_testBit_eq
    intro k
    rw [Go.Lap.andN_bit (by omega), BitVec.testBit_toNat, BitVec.getLsbD_and, BitVec.getLsbD_not, ← BitVec.testBit_toNat, ← BitVec.testBit_toNat, ea, eb]
    by_cases hk : k < 64
    · simp [hk]
    · have : a.testBit k = false := Nat.testBit_lt_two_pow (Nat.lt_of_lt_of_le (show a < 2 ^ 64 by omega) (by
        have := Nat.pow_le_pow_right (n := 2) (by decide) (Nat.le_of_not_lt hk)
        simpa using this))
      simp [this]
  rw [e, IntKind.wrap_i64]; omega
theorem Rel.every_le5 {r : Rel} (hn : r.n ≤ 5) : r.every ≤ 1048575 := by
  have : 2 ^ (4 * r.n) ≤ 2 ^ 20 := Nat.pow_le_pow_right (by decide) (by omega)
  rw [Rel.every]; omega

set_option maxRecDepth 100000 in
set_option maxHeartbeats 4000000 in
theorem clashes_any (r : Rel) (hv : r.valid = true) (S : Nat) (hS : S ≤ r.every) (b ev : Nat) (sv : Value) (hN : NilOk sv) (w : World) (hSt : StintsAt w sv r.stints) (hbx : w.heap[b]? = some (.cells #[.int .i64 r.rest, sv] 24 (0, 0))) (hev : w.heap[ev]? = some (.cells #[.int .i64 (r.every : Nat)] 3 (0, 0))) : Calls Try.prog 37 #[.int .i64 S, .pointer (some ⟨b, 0, none⟩), .pointer (some ⟨ev, 0, none⟩)] w fun e w' => e = .returned (.bool (!r.canB S)) ∧ Below w.heap.size w w' := by
  obtain ⟨sa, scap, rfl, hs0⟩ := id hSt
  clear hs0
  have hv' := hid hv
  have hS' := hid hS
  have hSt' := hid hSt
  have hN' := hid hN
  have hbx' := hid hbx
  have hev' := hid hev
  have hn5 := hid (r.ok_of hv).2.2.1
  have hE := hid (Rel.every_le5 hn5.out)
  clear hv hS hSt hN
  have l1 := (cells_of hbx).1
  have c1 := (cells_of hbx).2
  have l2 := (cells_of hev).1
  have c2 := (cells_of hev).2
  clear hbx hev
  have hEi : (r.every : Int) ≤ 1048575 := by have := hE.out; omega
  have hSi : (S : Int) ≤ (r.every : Int) := by have := hS'.out; omega
  by_cases h0 : r.stints.length = 0
  · have h0i : ((r.stints.length : Int) == 0) = true := by rw [beq_iff_eq]; omega
    go_enter Try.func37, Try.ntmps37
    have hc := hid (show r.canB S = true from (Rel.canB_iff hv'.out).2 ⟨fun _ => 0, ⟨fun i hi => by have : r.stints.length = r.n := rfl; omega, fun i hi => by have : r.stints.length = r.n := rfl; omega, fun i _ hi => by have : r.stints.length = r.n := rfl; omega, fun i hi => by have : r.stints.length = r.n := rfl; omega⟩⟩)
    go_wp2
    go_ret
    exact ⟨by rw [hc.out]; rfl, Below.refl _ _⟩
  · have h0i : ((r.stints.length : Int) == 0) = false := by rw [beq_eq_false_iff_ne]; omega
    have hE62 : r.every < 2 ^ 62 := Nat.lt_of_le_of_lt hE.out (by decide)
    have hand := andNot_i r.every S (Nat.lt_of_le_of_lt hE.out (by decide)) (Nat.lt_of_le_of_lt hS'.out (Nat.lt_of_le_of_lt hE.out (by decide)))
    have hcan := hid (wide_can hv'.out (set := Go.Lap.andN r.every S) (S := S) (fun k hk => by
      rw [Go.Lap.andN_bit (Nat.lt_of_le_of_lt hE.out (by decide)), Rel.every_bit, decide_eq_true hk]; simp))
    have hDle : Go.Lap.andN r.every S < 2 ^ 62 := Nat.lt_of_le_of_lt (Go.Lap.andN_le _ _) hE62
    clear hE62
    obtain ⟨D, hD⟩ : ∃ D, Go.Lap.andN r.every S = D := ⟨_, rfl⟩
    rw [hD] at hand hcan hDle
    clear hD
    replace hDle := hid hDle
    have hvw := hid (Rel.wide_valid hv'.out D)
    have hnw := hid (r.wide_sim D).n
    obtain ⟨⟨⟨lo, hi⟩, c⟩, hz⟩ : ∃ z, onOf (r.wide D) 0 = z := ⟨_, rfl⟩
    have hc := hid (show (c == 10) = !r.canB S by
      have h0n : 0 < (r.wide D).n := by rw [hnw.out]; exact Nat.pos_of_ne_zero h0
      cases hcb : r.canB S with
      | true =>
        rw [hcb] at hcan
        obtain ⟨a, b, h, _⟩ := on_spec hvw.out hcan.out h0n
        rw [show ((0 : Nat) : Int) = 0 from rfl, hz] at h
        cases h; rfl
      | false =>
        rw [hcb] at hcan
        have h := on_no (panics_clash hvw.out (isStint_of h0n) hcan.out)
        rw [show ((0 : Nat) : Int) = 0 from rfl, hz] at h
        cases h; rfl)
    have hOn := hid (fun sv W (h : StintsAt W sv (r.wide D).stints) => (show Calls Try.prog 14 #[relV (r.wide D) sv, .int .i64 0] W fun e w' => e = .returned (.tuple #[.agg #[.int .i64 lo, .int .i64 hi], .int .i64 c]) ∧ Below W.heap.size W w' from by
      have h2 := On_any (r.wide D) (by have := hnw.out; have := hn5.out; omega) 0 sv W h
      rw [hz] at h2; exact h2))
    have hW := hid (wide_any r hn5.out D hDle.out (.slice sa r.stints.length scap) hN'.out w hSt'.out)
    clear hz h0
    go_enter Try.func37, Try.ntmps37
    go_wp2_with (first
      | (go_at_call 38; with_reducible refine hW.out.mono ?_; rintro e w1 ⟨sv', rfl, hS2, hN2, hb⟩; replace hb := hid hb; have hO := hid (hOn.out sv' w1 hS2); clear hN2 hS2)
      | (go_at_call 14; with_reducible refine hO.out.mono ?_; rintro e w2 ⟨rfl, hb2⟩; replace hb := hid (hb.out.trans (hb2.mono hb.out.size)); clear hb2))
    go_ret
    exact ⟨by rw [← hc.out]; rfl, below_alloc hb.out _⟩

set_option maxRecDepth 100000 in
set_option maxHeartbeats 4000000 in
theorem can40_any (r : Rel) (hv : r.valid = true) (S : Nat) (hS : S ≤ r.every) (b : Nat) (sv : Value) (hN : NilOk sv) (w : World) (hSt : StintsAt w sv r.stints) (hbx : w.heap[b]? = some (.cells #[.int .i64 r.rest, sv] 24 (0, 0))) : Calls Try.prog 40 #[.int .i64 S, .pointer (some ⟨b, 0, none⟩)] w fun e w' => e = .returned (.bool (r.canB (r.every - S))) ∧ Below w.heap.size w w' := by
  obtain ⟨sa, scap, rfl, hs0⟩ := id hSt
  clear hs0
  have hv' := hid hv
  have hS' := hid hS
  have hSt' := hid hSt
  have hN' := hid hN
  have hn5 := hid (r.ok_of hv).2.2.1
  have hE := hid (Rel.every_le5 hn5.out)
  clear hv hS hSt hN
  have l1 := (cells_of hbx).1
  have c1 := (cells_of hbx).2
  clear hbx
  have hSle := hid (show S < 2 ^ 62 from Nat.lt_of_le_of_lt (Nat.le_trans hS'.out hE.out) (by decide))
  have hcan := hid (wide_can hv'.out (set := S) (S := r.every - S) (fun k hk => by
    rw [← every_xor hS'.out, Nat.testBit_xor, Rel.every_bit, decide_eq_true hk]; simp))
  have hvw := hid (Rel.wide_valid hv'.out S)
  have hnw := hid (r.wide_sim S).n
  obtain ⟨⟨z, c⟩, hz⟩ : ∃ z, clashOf (r.wide S) = z := ⟨_, rfl⟩
  have hc := hid (show (c == 4) = r.canB (r.every - S) by
    cases hcb : r.canB (r.every - S) with
    | true =>
      rw [hcb] at hcan
      have h : clashOf (r.wide S) = (0, 4) := by simp [clashOf, hvw.out, Rel.clashIn, hcan.out]
      rw [hz] at h; cases h; rfl
    | false =>
      rw [hcb] at hcan
      rw [clash_tried hvw.out hcan.out] at hz
      cases hz; rfl)
  have hOn := hid (fun sv W (h : StintsAt W sv (r.wide S).stints) => (show Calls Try.prog 26 #[relV (r.wide S) sv] W fun e w' => e = .returned (.tuple #[.int .i64 z, .int .i64 c]) ∧ Below W.heap.size W w' from by
    have h2 := Clash_any (r.wide S) (by have := hnw.out; have := hn5.out; omega) sv W h
    rw [hz] at h2; exact h2))
  have hW := hid (wide_any r hn5.out S hSle.out (.slice sa r.stints.length scap) hN'.out w hSt'.out)
  clear hz
  go_enter Try.func40, Try.ntmps40
  go_wp2_with (first
    | (go_at_call 38; with_reducible refine hW.out.mono ?_; rintro e w1 ⟨sv', rfl, hS2, hN2, hb⟩; replace hb := hid hb; have hO := hid (hOn.out sv' w1 hS2); clear hN2 hS2)
    | (go_at_call 26; with_reducible refine hO.out.mono ?_; rintro e w2 ⟨rfl, hb2⟩; replace hb := hid (hb.out.trans (hb2.mono hb.out.size)); clear hb2))
  go_ret
  exact ⟨by rw [← hc.out]; rfl, hb.out⟩
end Go.Proofs.Ytccgakdaiaigoaa
