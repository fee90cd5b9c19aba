/- The plain mathematics of MendBest. -/
import Derived.Test.YtcgkglonnmkfcaaPX
namespace Go.Proofs.Ytcgkglonnmkfcaa
open Go.RowKit

/-- An order is right just if it is one of the right orders. -/
theorem right_mem {M : Mend} (hv : M.valid = true) {p : List Nat} : (ordB M.jobs.length (ints p) = true ∧ rightB M (ints p) = true) ↔ p ∈ ordersL M 0 := by
  have key : ordB M.jobs.length (ints p) = true → (rightB M (ints p) = true ↔ goodB M 0 Bench.begin p = true) := fun h => by
    rw [rightB_eq hv h, ints_toNat, decide_eq_true_eq, badOf_zero, firstBad_none]
  unfold ordersL
  rw [mem_rightL]
  have hf : restN M 0 = M.jobs.length := free_none _
  rw [hf]
  constructor
  · rintro ⟨h1, h2⟩
    obtain ⟨q, e, h3, h4⟩ := ordB_ints.1 h1
    obtain rfl := ints_inj e
    exact ⟨⟨h4, h3⟩, (key h1).1 h2⟩
  · rintro ⟨⟨h1, h2⟩, h3⟩
    have h4 : ordB M.jobs.length (ints p) = true := ordB_ints.2 ⟨p, rfl, h2, h1⟩
    exact ⟨h4, (key h4).2 h3⟩

def sumHi (M : Mend) (p : List Nat) : Int := p.foldr (fun i z => (M.job i).hi + z) 0
theorem sumHi_snoc (M : Mend) (i : Nat) : ∀ p, sumHi M (p ++ [i]) = sumHi M p + (M.job i).hi
  | [] => by simp [sumHi]
  | j :: p => by
    have := sumHi_snoc M i p
    simp only [sumHi, List.cons_append, List.foldr_cons] at this ⊢
    omega
theorem sumHi_perm (M : Mend) {p q : List Nat} (h : p.Perm q) : sumHi M p = sumHi M q :=
  List.Perm.foldr_eq' h (fun x _ y _ z => by omega) 0
def sumTo (M : Mend) : Nat → Int
  | 0 => 0
  | k + 1 => sumTo M k + (M.job k).hi
theorem sumTo_range (M : Mend) : ∀ n, sumHi M (List.range n) = sumTo M n
  | 0 => rfl
  | n + 1 => by rw [List.range_succ, sumHi_snoc, sumTo_range M n, sumTo]
def firstTo (M : Mend) : Nat → Int
  | 0 => 0
  | k + 1 => if k = 0 ∨ M.set (M.job k).kind < firstTo M k then M.set (M.job k).kind else firstTo M k
theorem firstTo_le (M : Mend) : ∀ n k, k < n → firstTo M n ≤ M.set (M.job k).kind
  | 0, _, h => by omega
  | n + 1, k, h => by
    rw [firstTo]
    rcases Nat.lt_or_ge k n with h1 | h1
    · have := firstTo_le M n k h1
      split <;> omega
    · obtain rfl : k = n := by omega
      split <;> omega
theorem late_grows (M : Mend) : ∀ (p : List Nat) (b : Bench), (∀ i, i ∈ p → 0 ≤ M.set (M.job i).kind) → b.late + sumHi M p ≤ (p.foldl M.next b).late
  | [], b, _ => by simp [sumHi]
  | i :: p, b, h => by
    have h1 := late_grows M p (M.next b i) (fun j hj => h j (by simp [hj]))
    have h2 := h i (by simp)
    have h3 : b.late + (M.job i).hi ≤ (M.next b i).late := by
      simp only [Mend.next, Mend.ends]
      split <;> omega
    simp only [sumHi, List.foldr_cons, List.foldl_cons] at h1 ⊢
    omega
theorem late_least {M : Mend} (hv : M.valid = true) {p : List Nat} (hp : p ∈ ordersL M 0) : sumTo M M.jobs.length + firstTo M M.jobs.length ≤ (benchOf M p).late := by
  have hM := Mend.valid_ok hv
  obtain ⟨h1, h2, h3, _⟩ := rightL_in hp
  have hset : ∀ i, i ∈ p → 0 ≤ M.set (M.job i).kind := fun i _ => (set_in hM _).1
  have hl : p.length = M.jobs.length := by rw [h3]; exact free_none _
  have hperm : p.Perm (List.range M.jobs.length) := by
    rw [List.perm_ext_iff_of_nodup h2 List.nodup_range]
    intro i
    rw [List.mem_range]
    refine ⟨h1 i, fun hi => ?_⟩
    have ho := ((right_mem hv).2 hp).1
    have := (ordB_all.1 ho).1 i hi
    exact mem_ints.1 this
  have hs := sumHi_perm M hperm
  rw [sumTo_range] at hs
  cases p with
  | nil =>
    have h0 : M.jobs.length = 0 := by simpa using hl.symm
    rw [h0]
    simp [sumTo, firstTo, benchOf, Bench.begin]
  | cons i q =>
    have hi := h1 i (by simp)
    have h5 := late_grows M q (M.next Bench.begin i) (fun j hj => hset j (by simp [hj]))
    have h6 := firstTo_le M M.jobs.length i hi
    have h7 := (hM.kind i hi).1
    have h8 : M.set (M.job i).kind + (M.job i).hi ≤ (M.next Bench.begin i).late := by
      have hk : ¬ Bench.begin.kind = (M.job i).kind := by show ¬ (-1 : Int) = _; omega
      have hb : Bench.begin.late = 0 := rfl
      simp only [Mend.next, Mend.ends, if_neg hk]
      omega
    rw [← hs]
    simp only [sumHi, List.foldr_cons] at h5 ⊢
    simp only [benchOf, List.foldl_cons]
    omega

theorem best_law {M : Mend} (hv : M.valid = true) :
    (bestOf M = (0, [], 4) ∧ untilOf M = (0, 4) ∧ countOf M = (0, 0) ∧ ∀ q, ordB M.jobs.length (ints q) = true → rightB M (ints q) = false) ∨
    (∃ (v u : Int) (p : List Nat) (many : Int), bestOf M = (v, p, 0) ∧ untilOf M = (u, 0) ∧ countOf M = (many, 0) ∧ 0 < many ∧ ordB M.jobs.length (ints p) = true ∧ rightB M (ints p) = true ∧ costFrom M Bench.begin p = v ∧
      sumTo M M.jobs.length + firstTo M M.jobs.length ≤ u ∧ u ≤ (benchOf M p).late ∧
      ∀ q, ordB M.jobs.length (ints q) = true → rightB M (ints q) = true → v ≤ costFrom M Bench.begin q ∧ u ≤ (benchOf M q).late ∧ (costFrom M Bench.begin q = v → ∀ i, (∀ j, j < i → p.getD j 0 = q.getD j 0) → p.getD i 0 ≠ q.getD i 0 → p.getD i 0 < q.getD i 0)) := by
  have hM := Mend.valid_ok hv
  rcases cost_best hM with ⟨h1, h2, h3⟩ | ⟨v, u, p, h1, h2, h3, h4, h5, h6, ⟨x, hx, hxu⟩, h8⟩
  · left
    refine ⟨by unfold bestOf; rw [if_pos hv, h2], by unfold untilOf; rw [if_pos hv, h3], by unfold countOf; rw [if_pos hv, h1]; rfl, fun q hl => ?_⟩
    cases h : rightB M (ints q)
    · rfl
    · have := (right_mem hv).1 ⟨hl, h⟩; rw [h1] at this; cases this
  · right
    obtain ⟨ho, hrp⟩ := (right_mem hv).2 h4
    refine ⟨v, u, p, ((ordersL M 0).length : Nat), by unfold bestOf; rw [if_pos hv, h1]; simp only; rw [h3], by unfold untilOf; rw [if_pos hv, h2], by unfold countOf; rw [if_pos hv], ?_, ho, hrp, h5, ?_, h8 p h4, fun q hl h => ?_⟩
    · have : 0 < (ordersL M 0).length := List.length_pos_of_mem h4
      omega
    · rw [← hxu]; exact late_least hv hx
    · have hq := (right_mem hv).1 ⟨hl, h⟩
      refine ⟨(h6 q hq).1, h8 q hq, fun e i hj hne => ?_⟩
      rcases (h6 q hq).2 e with rfl | hlt
      · exact (hne rfl).elim
      · exact lexLt_get hlt i hj hne
theorem sumTo_small {M : Mend} (hv : M.valid = true) : ∀ k, k ≤ M.jobs.length → 0 ≤ sumTo M k ∧ sumTo M k ≤ 30 * k
  | 0, _ => by simp [sumTo]
  | k + 1, hk => by
    have h1 := sumTo_small hv k (by omega)
    have h2 := valid_lo hv (i := k) (by omega)
    rw [sumTo]; omega
theorem firstTo_small {M : Mend} (hv : M.valid = true) : ∀ k, 0 ≤ firstTo M k ∧ firstTo M k ≤ 1000
  | 0 => by simp [firstTo]
  | k + 1 => by
    have h1 := firstTo_small hv k
    have h2 := set_in (Mend.valid_ok hv) (M.job k).kind
    rw [firstTo]
    split <;> omega
end Go.Proofs.Ytcgkglonnmkfcaa
