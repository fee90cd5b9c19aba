/- General laws for the walk, over any program: rows of any kind that the call grows by append. -/
import Derived.Test.YtcgkglonnmkfcaaKit2
import Derived.Laws.AppendOwn
import Derived.Laws.AppendOwnNone
import Derived.OwnWalk
namespace Go.Lap
open Go.RowKit

theorem info_parts {P : Program} {e : TypeId} {z : Value} {s b : Nat} (h : (P.info? e).map (fun i => (i.zero, i.size, i.bytes)) = some (some z, s, b)) : ∃ i, P.info? e = some i ∧ i.zero = some z ∧ i.size = s ∧ i.bytes = b := by
  obtain ⟨i, hi, he⟩ := Option.map_eq_some_iff.1 h
  simp only [Prod.mk.injEq] at he
  exact ⟨i, hi, he.1, he.2.1, he.2.2⟩

/-- A kind of elements: its slice's type, its own, how many cells and bytes it takes, and which cells. -/
structure RowKind (P : Program) (α : Type) where
  t : TypeId
  e : TypeId
  size : Nat
  bytes : Nat
  z : Value
  enc : α → List Value
  ht : P.underlying t = some (.slice e)
  hi : (P.info? e).map (fun i => (i.zero, i.size, i.bytes)) = some (some z, size, bytes)
  hzs : z.cells.size = size
  hsz : 0 < size
  hb : bytes ≤ 1000
  henc : ∀ x, (enc x).length = size
  hone : ∀ x u, u ∈ enc x → u.oneCell' = true

variable {P : Program} {α : Type}

/-- A row of the call's own, from a block on. -/
def RowKind.own (K : RowKind P α) (B : Nat) (W : World) (v : Value) (xs : List α) : Prop := W.ownsRow B K.e K.size v xs.length (xs.flatMap K.enc)
/-- A row that lies somewhere. -/
def RowKind.at (K : RowKind P α) (W : World) (v : Value) (xs : List α) : Prop :=
  ∃ a cap, v = .slice a xs.length cap ∧ (xs ≠ [] → ∃ b off, a = some ⟨b, off, none⟩ ∧ ∀ k x, xs[k]? = some x → ∀ f u, (K.enc x)[f]? = some u → W.cell? ⟨b, off + k * K.size + f, none⟩ = some u)

theorem flat_length (K : RowKind P α) : ∀ xs : List α, (xs.flatMap K.enc).length = xs.length * K.size
  | [] => by simp
  | x :: xs => by rw [List.flatMap_cons, List.length_append, K.henc, flat_length K xs, List.length_cons, Nat.succ_mul]; omega
theorem flat_get (K : RowKind P α) : ∀ (xs : List α) (k : Nat) (x : α), xs[k]? = some x → ∀ f u, (K.enc x)[f]? = some u → (xs.flatMap K.enc)[k * K.size + f]? = some u
  | [], k, x, h, _, _, _ => by simp at h
  | y :: xs, 0, x, h, f, u, hu => by
    obtain rfl : y = x := by simpa using h
    rw [List.flatMap_cons, List.getElem?_append_left (by have := (List.getElem?_eq_some_iff.1 hu).1; omega)]
    simpa using hu
  | y :: xs, k + 1, x, h, f, u, hu => by
    have h2 : xs[k]? = some x := by simpa using h
    rw [List.flatMap_cons, List.getElem?_append_right (by rw [K.henc, Nat.succ_mul]; omega), K.henc]
    have := flat_get K xs k x h2 f u hu
    rw [show (k + 1) * K.size + f - K.size = k * K.size + f by rw [Nat.succ_mul]; omega]
    exact this
theorem flat_inv (K : RowKind P α) : ∀ (xs : List α) (j : Nat) (u : Value), (xs.flatMap K.enc)[j]? = some u → ∃ k x f, xs[k]? = some x ∧ (K.enc x)[f]? = some u ∧ j = k * K.size + f
  | [], _, _, h => by simp at h
  | x :: xs, j, u, h => by
    rw [List.flatMap_cons] at h
    rcases Nat.lt_or_ge j K.size with hj | hj
    · rw [List.getElem?_append_left (by rw [K.henc]; exact hj)] at h
      exact ⟨0, x, j, rfl, h, by omega⟩
    · rw [List.getElem?_append_right (by rw [K.henc]; exact hj), K.henc] at h
      obtain ⟨k, y, f, h1, h2, h3⟩ := flat_inv K xs _ _ h
      exact ⟨k + 1, y, f, by simpa using h1, h2, by rw [Nat.succ_mul]; omega⟩

theorem addr_add0 (b j : Nat) : (⟨b, 0, none⟩ : Addr).add j = ⟨b, j, none⟩ := by unfold Addr.add; split <;> simp_all
theorem addr_add (b o j : Nat) : (⟨b, o, none⟩ : Addr).add j = ⟨b, o + j, none⟩ := by unfold Addr.add; split <;> simp_all

theorem RowKind.own.at {K : RowKind P α} {B : Nat} {W : World} {v : Value} {xs : List α} (h : K.own B W v xs) : K.at W v xs := by
  rcases h.2 with ⟨rfl, hn⟩ | ⟨g, cap, cur, rfl, hb, hg, _, _, hs, ht⟩
  · have : xs = [] := List.eq_nil_of_length_eq_zero hn
    subst this
    exact ⟨none, 0, rfl, fun h => (h rfl).elim⟩
  · refine ⟨_, cap, rfl, fun _ => ⟨g, 0, rfl, fun k x hk f u hu => ?_⟩⟩
    have := h.cells (g := g) rfl (k * K.size + f) u (flat_get K xs k x hk f u hu)
    rw [addr_add0] at this
    rwa [Nat.zero_add]
theorem RowKind.at.below {K : RowKind P α} {W W' : World} {v : Value} {xs : List α} (h : K.at W v xs) (hb : Below W.heap.size W W') : K.at W' v xs := by
  obtain ⟨a, cap, rfl, hx⟩ := h
  refine ⟨a, cap, rfl, fun hne => ?_⟩
  obtain ⟨b, off, rfl, hc⟩ := hx hne
  exact ⟨b, off, rfl, fun k x hk f u hu => (hb.cell (p := ⟨b, off + k * K.size + f, none⟩) (cell_lt (hc k x hk f u hu))).trans (hc k x hk f u hu)⟩
theorem RowKind.own.below {K : RowKind P α} {B : Nat} {W W' : World} {v : Value} {xs : List α} (h : K.own B W v xs) (hb : Below W.heap.size W W') : K.own B W' v xs := by
  refine ⟨h.1, ?_⟩
  rcases h.2 with hn | ⟨g, cap, cur, rfl, hg0, hg, rest⟩
  · exact .inl hn
  · exact .inr ⟨g, cap, cur, rfl, hg0, (hb.block g (cells_of hg).1).trans hg, rest⟩
theorem RowKind.own.set {K : RowKind P α} {B b o : Nat} {W : World} {v u : Value} {xs : List α} (h : K.own B W v xs) (hb : b < B) : K.own B (W.setCell ⟨b, o, none⟩ u) v xs := by
  refine ⟨h.1, ?_⟩
  rcases h.2 with hn | ⟨g, cap, cur, rfl, hg0, hg, rest⟩
  · exact .inl hn
  · exact .inr ⟨g, cap, cur, rfl, hg0, (Below.heap_setCell _ _ _ _ (by simp only; omega)).trans hg, rest⟩
theorem RowKind.own.low {K : RowKind P α} {B B' : Nat} {W : World} {v : Value} {xs : List α} (h : K.own B W v xs) (hb : B' ≤ B) : K.own B' W v xs := by
  refine ⟨h.1, ?_⟩
  rcases h.2 with hn | ⟨g, cap, cur, rfl, hg0, rest⟩
  · exact .inl hn
  · exact .inr ⟨g, cap, cur, rfl, Nat.le_trans hb hg0, rest⟩
theorem RowKind.own_nil (K : RowKind P α) (B : Nat) (W : World) : K.own B W (.slice none 0 0) [] := World.ownsRow_nil W B K.e K.size
theorem RowKind.own_made (K : RowKind P α) {B : Nat} {w : World} (hB : B ≤ w.heap.size) : K.own B (w.alloc (.cells #[] K.e)) (.slice (some ⟨w.heap.size, 0, none⟩) 0 0) [] :=
  World.ownsRow_made w #[] 0 hB (by decide) (by simp)
theorem grown_from {B : Nat} {w w' : World} {K : RowKind P α} {v : Value} {xs : List α} (h : K.own B w v xs) (hg : w.grownBy w' v.ownBlock) (hB : B ≤ w.heap.size) : Below B w w' :=
  ⟨hg.os, hg.tape, hg.output, hg.size, fun k hk => hg.block k (by omega) (fun e => by have := h.lt k e.symm; omega)⟩

theorem row_one (K : RowKind P α) (w : World) (y : α) (c : Array Value) (e : TypeId) (hc : c = (K.enc y).toArray) : ∀ k y', [y][k]? = some y' → ∀ f u, (K.enc y')[f]? = some u → (w.alloc (.cells c e)).cell? ⟨w.heap.size, 0 + k * K.size + f, none⟩ = some u := by
  subst hc
  intro k y' hk f u hu
  obtain rfl : k = 0 := by
    have := (List.getElem?_eq_some_iff.1 hk).1
    simp at this; omega
  obtain rfl : y = y' := by simpa using hk
  rw [Nat.zero_mul, Nat.zero_add, (cells_of (alloc_at (w := w) (n := w.heap.size) rfl)).2]
  simpa using hu

/-- An append to a row of the call's own. -/
theorem wpList_append_row {w : World} {ops : Array Oper} {rest : List Oper} {o : Oper} {a : Act} {Q : Exit → Act → World → Prop} (K : RowKind P α) (hgd : o.guard = none) (s x : Operand)
    (ho : o.op = .call { callee := .builtin .append, args := #[s, x], argTypes := #[K.t, K.t] }) (B : Nat) (v : Value) (xs ys : List α) (hs : a.eval s = v) (hown : K.own B w v xs)
    (b off m c : Nat) (hx : a.eval x = .slice (some ⟨b, off, none⟩) m c) (hm : ys.length = m) (hys : ∀ k y, ys[k]? = some y → ∀ f u, (K.enc y)[f]? = some u → w.cell? ⟨b, off + k * K.size + f, none⟩ = some u) (hlen : xs.length + ys.length ≤ 1000) (hB : B ≤ w.heap.size)
    (h : ∀ v' w', K.own B w' v' (xs ++ ys) → Below B w w' → w.grownBy w' v.ownBlock → wpList P ops Q rest (a.put o.dst v') w') : wpList P ops Q (o :: rest) a w := by
  obtain ⟨i0, hi3, hz0, hz1, hz2⟩ := info_parts K.hi
  subst hm
  refine wpList_append_own _ hgd s x K.t ho B K.e i0 K.z K.size K.bytes K.ht hi3 hz0 hz1 hz2 K.hzs K.hsz v xs.length (xs.flatMap K.enc) hs hown ⟨b, off, none⟩ ys.length c (ys.flatMap K.enc) hx (flat_length K ys) ?_ ?_ (by unfold maxLen; omega) ?_ hB ?_
  · intro j u hj
    obtain ⟨k, y, f, h1, h2, rfl⟩ := flat_inv K ys j u hj
    rw [addr_add, ← Nat.add_assoc]
    exact hys k y h1 f u h2
  · intro u hu
    obtain ⟨y, _, hy⟩ := List.mem_flatMap.1 hu
    exact K.hone y u hy
  · have h1 := K.hb
    calc (xs.length + ys.length) * K.bytes ≤ 1000 * 1000 := Nat.mul_le_mul hlen h1
      _ ≤ _ := by decide
  · intro v' w' hown' hg hv
    have h1 : K.own B w' v' (xs ++ ys) := by
      show w'.ownsRow B K.e K.size v' (xs ++ ys).length ((xs ++ ys).flatMap K.enc)
      rw [List.length_append, List.flatMap_append]
      exact hown'
    exact h v' w' h1 (grown_from hown hg hB) hg

end Go.Lap
