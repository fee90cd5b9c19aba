/- Appends of integers to a row of the call's own, as one law. -/
import Derived.Test.YtkgdejhooghknaaX0
import Derived.Test.YtkgdejhooghknaaY1
namespace Go.Proofs.Ytkgdejhooghknaa
open Go.RowKit Go.Lap Go.Shelf

theorem wpList_append_ints {w : World} {ops : Array Oper} {rest : List Oper} {o : Oper} {a : Act} {Q : Exit → Act → World → Prop} (hgd : o.guard = none) (s x : Operand)
    (ho : o.op = .call { callee := .builtin .append, args := #[s, x], argTypes := #[27, 27] }) (B : Nat) (v : Value) (xs ys : List Int) (hs : a.eval s = v) (hown : OwnRow B w v xs)
    (ad : Addr) (m c : Nat) (hx : a.eval x = .slice (some ad) m c) (hm : ys.length = m) (hys : ∀ j, j < ys.length → w.cell? (ad.add j) = some (.int .i64 (ys.getD j 0))) (hlen : xs.length + ys.length ≤ 1000) (hB : B ≤ w.heap.size)
    (h : ∀ v' w', OwnRow B w' v' (xs ++ ys) → Below B w w' → (v ≠ .slice none 0 0 → ∃ g cap, v' = .slice (some ⟨g, 0, none⟩) (xs ++ ys).length cap ∧ (xs ++ ys).length ≤ cap) → wpList Try.prog ops Q rest (a.put o.dst v') w') : wpList Try.prog ops Q (o :: rest) a w := by
  obtain ⟨i0, hi3, hz0, hz1, hz2⟩ := info_parts info3
  subst hm
  refine wpList_append_own _ hgd s x 27 ho B 3 i0 (.int .i64 0) 1 8 Try.underlying27 hi3 hz0 hz1 hz2 rfl (by decide) v xs.length (xs.map (Value.int .i64)) hs hown ad ys.length c (ys.map (Value.int .i64)) hx (by simp) ?_ ?_ (by unfold maxLen; omega) (by omega) hB ?_
  · intro j u hj
    have hj2 : j < ys.length := by
      have := (List.getElem?_eq_some_iff.1 hj).1
      simpa using this
    rw [hys j hj2]
    simpa [hj2] using hj
  · intro u hu
    obtain ⟨y, _, rfl⟩ := List.mem_map.1 hu
    rfl
  · intro v' w' hown' hg hv
    have h1 : OwnRow B w' v' (xs ++ ys) := by
      show w'.ownsRow B 3 1 v' (xs ++ ys).length ((xs ++ ys).map (Value.int .i64))
      rw [List.length_append, List.map_append]
      exact hown'
    refine h v' w' h1 (grown_below hown hg hB) (fun hne => ?_)
    rcases h1.2 with ⟨e, _⟩ | ⟨g, cap, _, e, _, _, hc, _⟩
    · exact (hne (hv.1 e).1).elim
    · exact ⟨g, cap, e, hc⟩

theorem ownRow_zero {B : Nat} {w : World} (hB : B ≤ w.heap.size) : OwnRow B (w.alloc (.cells #[] 3)) (.slice (some ⟨w.heap.size, 0, none⟩) 0 0) [] := World.ownsRow_made w #[] 0 hB (by decide) rfl
theorem ownRow_one {B : Nat} {w : World} (x : Int) (hB : B ≤ w.heap.size) : OwnRow B (w.alloc (.cells #[.int .i64 x] 3)) (.slice (some ⟨w.heap.size, 0, none⟩) 1 1) [x] :=
  ⟨rfl, .inr ⟨w.heap.size, 1, _, rfl, hB, alloc_at rfl, Nat.le_refl _, by decide, rfl, rfl⟩⟩
theorem ownRow_trunc {B g n cap m : Nat} {w : World} {xs : List Int} (h : OwnRow B w (.slice (some ⟨g, 0, none⟩) n cap) xs) (hm : m ≤ xs.length) : OwnRow B w (.slice (some ⟨g, 0, none⟩) m cap) (xs.take m) := by
  have e : (xs.take m).length = m := by simp; omega
  rcases h.2 with ⟨e, _⟩ | ⟨g', cap', cur, e', hg0, hg, hc, hc2, hs, ht⟩
  · cases e
  · cases e'
    show w.ownsRow B 3 1 _ _ _
    rw [e]
    refine ⟨by simp; omega, .inr ⟨g, cap, cur, rfl, hg0, hg, by omega, hc2, hs, ?_⟩⟩
    rw [Nat.mul_one] at ht ⊢
    rw [List.map_take, ← ht, List.take_take, Nat.min_eq_left hm]
theorem addr_add (b j : Nat) : (⟨b, 0, none⟩ : Addr).add j = ⟨b, j, none⟩ := by unfold Addr.add; split <;> simp_all
theorem block_src {W : World} {b : Nat} {xs : List Int} (h : W.heap[b]? = some (.cells (intsV xs) 3 (0, 0))) : ∀ j, j < xs.length → W.cell? ((⟨b, 0, none⟩ : Addr).add j) = some (.int .i64 (xs.getD j 0)) := by
  intro j hj
  rw [addr_add, (cells_of h).2]
  simp [intsV, hj]
theorem one_src (w : World) (x : Int) : ∀ j, j < [x].length → (w.alloc (.cells #[.int .i64 x] 3)).cell? ((⟨w.heap.size, 0, none⟩ : Addr).add j) = some (.int .i64 ([x].getD j 0)) := by
  intro j hj
  obtain rfl : j = 0 := by simpa using hj
  rw [addr_add, World.cell?_alloc_at _ _ _ _ rfl]; rfl

theorem check_refuses {R : Rest} (hv : R.valid = true) {xs : List Int} (h : planOk R xs = false) : checkOf R xs = (0, 0, 2) := by simp [checkOf, hv, h]
theorem planOk_long {R : Rest} {xs : List Int} (h : (xs.length : Int) ≠ R.hours) : planOk R xs = false := by simp [planOk, h]
theorem planOk_bad {R : Rest} {xs : List Int} {x : Int} (h : x ∈ xs) (hx : x < 0 ∨ 1 < x) : planOk R xs = false := by
  have : xs.any badB = true := List.any_eq_true.2 ⟨x, h, by simp [badB, inB]; omega⟩
  simp [planOk, this]

end Go.Proofs.Ytkgdejhooghknaa
