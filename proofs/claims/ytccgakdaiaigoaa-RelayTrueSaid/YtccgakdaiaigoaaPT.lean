/- The laws RelayClash and RelayWrong in plain mathematics. -/
import Derived.Test.YtccgakdaiaigoaaPS
import Derived.Test.YtccgakdaiaigoaaGG
namespace Go.Proofs.Ytccgakdaiaigoaa

theorem andN_self {C k : Nat} (hC : C < 2 ^ 62) (j : Nat) : (Go.Lap.andN C (2 ^ k)).testBit j = (C.testBit j && !decide (k = j)) := by
  rw [Go.Lap.andN_bit (Nat.lt_trans hC (by decide)), Nat.testBit_two_pow]
theorem andN_less {C k : Nat} (hC : C < 2 ^ 62) (hk : C.testBit k = true) : popc (Go.Lap.andN C (2 ^ k)) < popc C := by
  refine Sub.lt (fun j hj => ?_) (Nat.lt_trans hC (by decide)) (fun e => ?_)
  · rw [andN_self hC, Bool.and_eq_true] at hj; exact hj.1
  · have := andN_self (k := k) hC k
    rw [e, hk] at this
    simp at this
theorem every_lt20 {r : Rel} (hv : r.valid = true) : r.every < 1048576 := by
  have h5 := (r.ok_of hv).2.2.1
  have : 2 ^ (4 * r.n) ≤ 2 ^ 20 := Nat.pow_le_pow_right (by decide) (by omega)
  have := Nat.two_pow_pos (4 * r.n)
  rw [Rel.every]; omega
theorem popc_two (i k : Nat) : popc (two i k) ≤ 2 := by
  have h : ∀ l : List Nat, l.Nodup → l.countP (fun j => (two i k).testBit j) ≤ 2 := by
    intro l hl
    have h1 : l.countP (fun j => (two i k).testBit j) ≤ l.countP (fun j => decide (j = i)) + l.countP (fun j => decide (j = k)) := by
      clear hl
      induction l with
      | nil => simp
      | cons x l ih =>
        simp only [List.countP_cons]
        have : (if (two i k).testBit x = true then 1 else 0) ≤ (if decide (x = i) = true then 1 else 0) + (if decide (x = k) = true then 1 else 0) := by
          by_cases h : (two i k).testBit x = true
          · rw [if_pos h]; rcases two_bit.1 h with rfl | rfl <;> simp <;> (first | omega | (split <;> omega))
          · simp [h]
        omega
    have h2 : ∀ a : Nat, l.countP (fun j => decide (j = a)) ≤ 1 := by
      intro a
      have := (List.nodup_iff_count.1 hl) a
      rw [List.count] at this
      refine Nat.le_trans (Nat.le_of_eq ?_) this
      apply List.countP_congr
      intro j _
      simp
    have := h2 i
    have := h2 k
    omega
  exact h _ List.nodup_range
/-- What Clash tells, if there is no truth. -/
theorem clash_law {r : Rel} (hv : r.valid = true) (hc : r.canB r.every = false) : ∃ C : Nat, clashOf r = ((C : Int), 0) ∧ 1 ≤ C ∧ C ≤ r.every ∧ popc C ≤ 2 ∧ r.canB C = false ∧ (∀ k, C.testBit k = true → r.canB (Go.Lap.andN C (2 ^ k)) = true) ∧ ∀ S, S ≤ r.every → r.canB S = false → Le C S := by
  obtain ⟨C, hC⟩ : ∃ C, r.clashIn r.every = some C := ⟨_, by rw [Rel.clashIn, hc]; rfl⟩
  obtain ⟨_, ⟨i, k, _, _, hik⟩, h1, h2, h3⟩ := Rel.clashIn_some hv hC
  have h62 : C < 2 ^ 62 := Nat.lt_of_le_of_lt h1.le (Nat.lt_trans (every_lt20 hv) (by decide))
  refine ⟨C, by simp [clashOf, hv, hC], ?_, h1.le, by rw [hik]; exact popc_two i k, h2, fun k hk => ?_, fun S hS hb => h3 S (sub_every hS) hb⟩
  · rcases Nat.eq_zero_or_pos C with e | e
    · subst e
      have := (Rel.canB_iff hv (set := 0)).2 ⟨_, Rel.free hv⟩
      rw [this] at h2; cases h2
    · exact e
  · cases hb : r.canB (Go.Lap.andN C (2 ^ k)) with
    | true => rfl
    | false =>
      have a := h3 _ (fun j hj => h1 j (by rw [andN_self h62, Bool.and_eq_true] at hj; exact hj.1)) hb
      have b := andN_less h62 hk
      rw [Le, lesser_not] at a
      omega
theorem le_test {C S : Nat} (h : Le C S) : popc C < popc S ∨ (popc S = popc C ∧ C ≤ S) := by
  rw [Le, lesser_not] at h; omega
/-- What Wrong tells, if there is no truth. -/
theorem wrong_law {r : Rel} (hv : r.valid = true) (hc : r.canB r.every = false) : ∃ W : Nat, r.wrongOf = ((W : Int), 0) ∧ 1 ≤ W ∧ W ≤ r.every ∧ r.canB (r.every - W) = true ∧ (∀ C : Nat, C ≤ r.every → r.canB C = false → W &&& C ≠ 0) ∧ (∀ k, W.testBit k = true → r.canB (r.every - Go.Lap.andN W (2 ^ k)) = false) ∧ ∀ S, S ≤ r.every → r.canB (r.every - S) = true → Le W S := by
  have hr := Rel.less_right hv
  have hs := Rel.less_spec hv (4 * r.n + 1) 0 allOnes (fun i hi => by simp at hi) (by omega) (.inl rfl)
  obtain ⟨W, hW⟩ : ∃ W, r.less (4 * r.n + 1) 0 allOnes = W := ⟨_, rfl⟩
  rw [hW] at hr hs
  have h1 := hr.1.le
  have h2 : r.canB (r.every - W) = true := by rw [← every_xor h1]; exact hr.2
  have h62 : W < 2 ^ 62 := Nat.lt_of_le_of_lt h1 (Nat.lt_trans (every_lt20 hv) (by decide))
  have hle : ∀ S, S ≤ r.every → r.canB (r.every - S) = true → Le W S := fun S hS hb => hs.2.2 S ⟨sub_every hS, by rw [every_xor hS]; exact hb⟩ (fun i hi => by simp at hi)
  refine ⟨W, by simp [Rel.wrongOf, hv, hc, hW], ?_, h1, h2, fun C hC hb e => ?_, fun k hk => ?_, hle⟩
  · rcases Nat.eq_zero_or_pos W with e | e
    · subst e; rw [Nat.sub_zero, hc] at h2; cases h2
    · exact e
  · have : r.canB C = true := Rel.canB_sub hv (fun n hn hb => by
      rw [← every_xor h1, Nat.testBit_xor, Rel.every_bit, decide_eq_true hn]
      have h3 : (W &&& C).testBit n = false := by rw [e]; simp
      rw [Nat.testBit_and, hb, Bool.and_true] at h3
      rw [h3]; rfl) h2
    rw [this] at hb; cases hb
  · have hsub : Go.Lap.andN W (2 ^ k) ≤ r.every := Nat.le_trans (Go.Lap.andN_le _ _) h1
    cases hb : r.canB (r.every - Go.Lap.andN W (2 ^ k)) with
    | false => rfl
    | true =>
      have a := hle _ hsub hb
      have b := andN_less h62 hk
      rw [Le, lesser_not] at a
      omega
end Go.Proofs.Ytccgakdaiaigoaa
