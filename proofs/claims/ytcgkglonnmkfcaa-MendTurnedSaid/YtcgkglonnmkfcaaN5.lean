/- The walks of 'isOrder' of package mend, and of what it returns. -/
import Derived.Test.YtcgkglonnmkfcaaN4
namespace Go.Proofs.Ytcgkglonnmkfcaa
open Go.RowKit Go.Lap

set_option maxHeartbeats 1000000 in
theorem isOrder_any (mv lv : Value) (sv jv : Value) (hmv : mv = .agg #[sv, jv]) (lp : Option Addr) (ln lcap : Nat) (hlv : lv = .slice lp ln lcap) (w : World) : Calls Try.prog 48 #[mv, lv] w fun e w' => e = .returned (.func (.func 77) #[] #[.pointer (some ⟨w.heap.size + 1, 0, none⟩), .pointer (some ⟨w.heap.size, 0, none⟩)]) ∧
    w'.heap[w.heap.size]? = some (.cells #[sv, jv] 25 (0, 0)) ∧ w'.heap[w.heap.size + 1]? = some (.cells #[lv] 22 (0, 0)) ∧ Below w.heap.size w w' := by
  subst hmv hlv
  have hmf := hmf
  go_enter Try.func48, Try.ntmps48
  go_wp2
  go_ret
  refine ⟨rfl, ?_, ?_, below_alloc (below_alloc (Below.refl _ _) _) _⟩
  · exact alloc_old (by simp) (alloc_at rfl)
  · exact alloc_at (by simp)

theorem drop_int {l : List Int} {k : Nat} (hk : k < l.length) : l.drop k = l.getD k 0 :: l.drop (k + 1) := by
  rw [List.drop_eq_getElem_cons hk]; simp [hk]
theorem pow_small {q : Nat} (h : q ≤ 62) : 2 ^ q < 9223372036854775808 := Nat.lt_of_le_of_lt (Nat.pow_le_pow_right (by decide) h) (by decide)

set_option maxRecDepth 100000 in
set_option maxHeartbeats 2000000 in
theorem isOrder1_any (n : Nat) (hn : n ≤ 6) (sv ja : Value) (jp : Option Addr) (jcap : Nat) (hja : ja = .slice jp n jcap) (l : List Int) (hl : l.length ≤ 1000) (lv : Value) (lb mb : Nat) (w : World) (hlv : IntsAt w lv l)
    (h1 : w.heap[lb]? = some (.cells #[lv] 22 (0, 0))) (h2 : w.heap[mb]? = some (.cells #[sv, ja] 25 (0, 0))) :
    Calls Try.prog 77 #[.pointer (some ⟨lb, 0, none⟩), .pointer (some ⟨mb, 0, none⟩)] w fun e w' => e = .returned (.bool (ordB n l)) ∧ w = w' := by
  subst hja
  obtain ⟨l1, c1⟩ := cells_of h1
  obtain ⟨l2, c2⟩ := cells_of h2
  obtain ⟨la, lcap, rfl, hls⟩ := hlv
  have hls' := hid hls
  clear hls
  have e1 : IntKind.i64.wrap ((n : Int) - 1) = (n : Int) - 1 := IntWalk.i64_in _ (by omega)
  go_enter Try.func77, Try.ntmps77
  go_wp2
  go_loopw [2, 3, 5, 8] (fun _ s _ i wr => ∃ (k q : Nat), k ≤ l.length ∧ i = .int .i64 k ∧ s = .int .u64 q ∧ q < 64 ∧ Hid (ordFrom n 0 l = ordFrom n q (l.drop k)) ∧ w = wr) (fun _ _ _ i _ => l.length - (intOf i).toNat)
  case atStart => exact ⟨0, 0, by omega, rfl, rfl, by omega, hid rfl, rfl⟩
  case round =>
    obtain ⟨k, q, hk, rfl, rfl, hq, ho, rfl⟩ := hrel
    by_cases hlt : k < l.length
    · obtain ⟨b1, bo, rfl, hc⟩ := hls'.out (fun h => by rw [h] at hlt; simp at hlt)
      have hck := hc k hlt
      have lb1 := cell_lt hck
      have hd := drop_int hlt
      clear hc
      obtain ⟨x, hx⟩ : ∃ x, l.getD k 0 = x := ⟨_, rfl⟩
      rw [hx] at hck hd
      clear hx
      have hd' := hid hd
      clear hd
      have hki : (k : Int) < (l.length : Int) := by omega
      cases hN : inB x 0 ((n : Int) - 1)
      · have hN' := hid hN
        clear hN
        go_wp2_with (go_at_call 76; with_reducible refine (within_any _ _ _ _).mono ?_; rw [hN'.out]; rintro e w' ⟨rfl, rfl⟩)
        go_ret
        refine ⟨ret_bool ?_, rfl⟩
        rw [ordB, ho.out, hd'.out, ordFrom, hN'.out]
        rfl
      · have hx := inB_iff.1 hN
        obtain ⟨y, rfl⟩ := Int.eq_ofNat_of_zero_le hx.1
        have hy : y ≤ 5 := by omega
        have hN' := hid hN
        clear hN hx
        have hb := u64_bit q y (by omega)
        have hset := u64_set q y (by omega) (by omega)
        have hq2 : q ||| 2 ^ y < 64 := Nat.or_lt_two_pow (n := 6) (by omega) (Nat.lt_of_le_of_lt (Nat.pow_le_pow_right (by decide) hy) (by decide))
        obtain ⟨q2, hqq⟩ : ∃ q2, q ||| 2 ^ y = q2 := ⟨_, rfl⟩
        rw [hqq] at hset hq2
        have hqq' := hid hqq
        clear hqq
        cases hT : q.testBit y
        all_goals
          have hT' := hid hT
          rw [hT] at hb
          simp only [if_true, if_false, Bool.false_eq_true] at hb
          clear hT
          go_wp2_with (go_at_call 76; with_reducible refine (within_any _ _ _ _).mono ?_; rw [hN'.out]; rintro e w' ⟨rfl, rfl⟩)
        · go_roundw
          case rel =>
            refine ⟨k + 1, q2, by omega, by go_num, by simp, hq2, hid ?_, by simp⟩
            rw [ho.out, hd'.out, ordFrom, hN'.out, Int.toNat_natCast, hT'.out, hqq'.out]
            rfl
          case measure => simp [intOf]; omega
        · go_ret
          refine ⟨ret_bool ?_, rfl⟩
          rw [ordB, ho.out, hd'.out, ordFrom, hN'.out, Int.toNat_natCast, hT'.out]
          rfl
    · obtain rfl : k = l.length := by omega
      have hfin : Hid (ordB n l = decide (l.length = n)) := hid (by rw [ordB, ho.out]; simp [ordFrom])
      go_wp2
      go_ret
      refine ⟨ret_bool ?_, rfl⟩
      rw [hfin.out]
      by_cases h : l.length = n
      · simp [h]
      · have : ¬ (l.length : Int) = n := by omega
        simp [h, this]

end Go.Proofs.Ytcgkglonnmkfcaa
