/- General laws for the walk, over any program: rows of the call's own, one of whose cells is written. -/
import Derived.Test.YtcgkglonnmkfcaaKit5
namespace Go.Lap
open Go.RowKit
variable {P : Program} {α : Type}

theorem flat_set (K : RowKind P α) : ∀ (xs : List α) (k f : Nat) (x x' : α) (u : Value), xs[k]? = some x → f < K.size → K.enc x' = (K.enc x).set f u → (xs.set k x').flatMap K.enc = (xs.flatMap K.enc).set (k * K.size + f) u
  | [], _, _, _, _, _, h, _, _ => by simp at h
  | y :: xs, 0, f, x, x', u, h, hf, he => by
    obtain rfl : y = x := by simpa using h
    rw [List.set_cons_zero, List.flatMap_cons, List.flatMap_cons, he, List.set_append_left _ _ (by rw [K.henc]; omega)]
    simp
  | y :: xs, k + 1, f, x, x', u, h, hf, he => by
    have h2 : xs[k]? = some x := by simpa using h
    rw [List.set_cons_succ, List.flatMap_cons, List.flatMap_cons, flat_set K xs k f x x' u h2 hf he, List.set_append_right _ _ (by rw [K.henc, Nat.succ_mul]; omega), K.henc]
    rw [show (k + 1) * K.size + f - K.size = k * K.size + f by rw [Nat.succ_mul]; omega]

theorem RowKind.own.block {K : RowKind P α} {B : Nat} {W : World} {v : Value} {xs : List α} (h : K.own B W v xs) (hne : xs ≠ []) : ∃ g cap cur, v = .slice (some ⟨g, 0, none⟩) xs.length cap ∧ B ≤ g ∧ W.heap[g]? = some (.cells cur K.e (0, 0)) ∧ (∀ k x, xs[k]? = some x → ∀ f u, (K.enc x)[f]? = some u → W.cell? ⟨g, k * K.size + f, none⟩ = some u) := by
  rcases h.2 with ⟨rfl, hn⟩ | ⟨g, cap, cur, rfl, hb, hg, _, _, hs, ht⟩
  · exact (hne (List.eq_nil_of_length_eq_zero hn)).elim
  · refine ⟨g, cap, cur, rfl, hb, hg, fun k x hk f u hu => ?_⟩
    have := h.cells (g := g) rfl (k * K.size + f) u (flat_get K xs k x hk f u hu)
    rwa [addr_add0] at this

theorem heap_set_at {W : World} {b o : Nat} {c : Array Value} {t : TypeId} {v : Value} (h : W.heap[b]? = some (.cells c t (0, 0))) : (W.setCell ⟨b, o, none⟩ v).heap[b]? = some (.cells (c.setIfInBounds o v) t (0, 0)) := by
  simp [World.setCell, Array.getElem?_modify, h]

/-- A cell of a row is written. -/
theorem RowKind.own.put {K : RowKind P α} {B g n cap k f : Nat} {W : World} {xs : List α} {x x' : α} {u : Value} (h : K.own B W (.slice (some ⟨g, 0, none⟩) n cap) xs) (hk : xs[k]? = some x) (hf : f < K.size) (he : K.enc x' = (K.enc x).set f u) :
    K.own B (W.setCell ⟨g, k * K.size + f, none⟩ u) (.slice (some ⟨g, 0, none⟩) n cap) (xs.set k x') := by
  refine ⟨by rw [flat_length], ?_⟩
  rcases h.2 with ⟨e, _⟩ | ⟨g', cap', cur, e, hb, hg, h1, h2, h3, ht⟩
  · cases e
  · injection e with e1 e2 e3
    subst e2 e3
    cases e1
    refine .inr ⟨g, cap, cur.setIfInBounds (k * K.size + f) u, by rw [List.length_set], hb, heap_set_at hg, by rw [List.length_set]; exact h1, h2, by simpa using h3, ?_⟩
    rw [flat_set K xs k f x x' u hk hf he, ← ht, List.length_set, Array.toList_setIfInBounds, List.take_set]

/-- An append to a row of the call's own, of what lies anywhere. -/
theorem wpList_append_rows {w : World} {ops : Array Oper} {rest : List Oper} {o : Oper} {a : Act} {Q : Exit → Act → World → Prop} (K : RowKind P α) (hgd : o.guard = none) (s x : Operand)
    (ho : o.op = .call { callee := .builtin .append, args := #[s, x], argTypes := #[K.t, K.t] }) (B : Nat) (v : Value) (xs ys : List α) (hs : a.eval s = v) (hown : K.own B w v xs)
    (ad : Addr) (m c : Nat) (hx : a.eval x = .slice (some ad) m c) (hm : ys.length = m) (hys : ∀ k y, ys[k]? = some y → ∀ f u, (K.enc y)[f]? = some u → w.cell? (ad.add (k * K.size + f)) = some u) (hlen : xs.length + ys.length ≤ 1000) (hB : B ≤ w.heap.size)
    (h : ∀ v' w', K.own B w' v' (xs ++ ys) → Below B w w' → w.grownBy w' v.ownBlock → wpList P ops Q rest (a.put o.dst v') w') : wpList P ops Q (o :: rest) a w := by
  obtain ⟨i0, hi3, hz0, hz1, hz2⟩ := info_parts K.hi
  subst hm
  refine wpList_append_own _ hgd s x K.t ho B K.e i0 K.z K.size K.bytes K.ht hi3 hz0 hz1 hz2 K.hzs K.hsz v xs.length (xs.flatMap K.enc) hs hown ad ys.length c (ys.flatMap K.enc) hx (flat_length K ys) ?_ ?_ (by unfold maxLen; omega) ?_ hB ?_
  · intro j u hj
    obtain ⟨k, y, f, h1, h2, rfl⟩ := flat_inv K ys j u hj
    exact hys k y h1 f u h2
  · intro u hu
    obtain ⟨y, _, hy⟩ := List.mem_flatMap.1 hu
    exact K.hone y u hy
  · have h1 := K.hb
    calc (xs.length + ys.length) * K.bytes ≤ 1000 * 1000 := Nat.mul_le_mul hlen h1
      _ ≤ _ := by decide
  · intro v' w' hown' hg hv
    have h1 : K.own B w' v' (xs ++ ys) := by
      show w'.ownsRow B K.e K.size v' (xs ++ ys).length ((xs ++ ys).flatMap K.enc)
      rw [List.length_append, List.flatMap_append]
      exact hown'
    exact h v' w' h1 (grown_from hown hg hB) hg

end Go.Lap
