/- Rows of integers that the call itself grows by append. -/
import Derived.Test.YtkgdejhooghknaaT5
import Derived.Test.YtkgdejhooghknaaV0
import Derived.Test.YtkgdejhooghknaaR1
import Derived.Laws.AppendOwn
import Derived.Laws.AppendOwnNone
import Derived.OwnWalk
namespace Go.Proofs.Ytkgdejhooghknaa
open Go.RowKit Go.Lap Go.Shelf

theorem info3 : (Try.prog.info? 3).map (fun i => (i.zero, i.size, i.bytes)) = some (some (.int .i64 0), 1, 8) := by kernel_rfl

/-- A row of the call's own, from a block on. -/
abbrev OwnRow (B : Nat) (W : World) (v : Value) (xs : List Int) : Prop := W.ownsRow B 3 1 v xs.length (xs.map (Value.int .i64))

theorem grown_below {B : Nat} {w w' : World} {v : Value} {xs : List Int} (h : OwnRow B w v xs) (hg : w.grownBy w' v.ownBlock) (hB : B ≤ w.heap.size) : Below B w w' :=
  ⟨hg.os, hg.tape, hg.output, hg.size, fun k hk => hg.block k (by omega) (fun e => by have := h.lt k e.symm; omega)⟩

theorem grown_made {ww wo : World} (h : (ww.alloc (.cells #[] 3)).grownBy wo (Value.slice (some ⟨ww.heap.size, 0, none⟩) 0 0).ownBlock) : Below ww.heap.size ww wo :=
  ⟨h.os, h.tape, h.output, Nat.le_trans (by simp) h.size, fun k hk => (h.block k (by simp; omega) (by simp [Value.ownBlock]; omega)).trans (alloc_old hk rfl)⟩

theorem nil_ints (W : World) : IntsAt W (.slice none 0 0) [] := ⟨none, 0, rfl, fun h => (h rfl).elim⟩

theorem grown_row {B n : Nat} {w w' : World} {v : Value} {ys : List Value} {o : Obj} (h : w.ownsRow B 3 1 v n ys) (hg : (w.alloc o).grownBy w' v.ownBlock) (hB : B ≤ w.heap.size) : Below B w w' :=
  ⟨hg.os, hg.tape, hg.output, Nat.le_trans (by simp) hg.size, fun k hk => (hg.block k (by simp; omega) (fun e => by have := h.lt k e.symm; omega)).trans (alloc_old (by omega) rfl)⟩

theorem OwnRow.len {B n : Nat} {W : World} {v : Value} {xs : List Int} (h : OwnRow B W v xs) (hn : xs.length = n) : W.ownsRow B 3 1 v n (xs.map (Value.int .i64)) := by subst hn; exact h

theorem OwnRow.snoc {B : Nat} {W : World} {v : Value} {xs : List Int} {y : Int} (h : W.ownsRow B 3 1 v (xs.length + 1) (xs.map (Value.int .i64) ++ [.int .i64 y])) : OwnRow B W v (xs ++ [y]) := by
  show W.ownsRow B 3 1 v (xs ++ [y]).length ((xs ++ [y]).map (Value.int .i64))
  rw [List.length_append, List.map_append]
  exact h

theorem OwnRow.ints {B : Nat} {W : World} {v : Value} {xs : List Int} (h : OwnRow B W v xs) : IntsAt W v xs := by
  rcases h.2 with ⟨rfl, hn⟩ | ⟨g, cap, cur, rfl, hb, hg, _, _, hs, ht⟩
  · have : xs = [] := List.eq_nil_of_length_eq_zero hn
    subst this
    exact ⟨none, 0, rfl, fun h => (h rfl).elim⟩
  · refine ⟨_, cap, rfl, fun _ => ⟨g, 0, rfl, fun k hk => ?_⟩⟩
    have := h.cells (g := g) rfl k (.int .i64 (xs.getD k 0)) (by simp [hk])
    have hadd : (⟨g, 0, none⟩ : Addr).add k = ⟨g, 0 + k, none⟩ := by unfold Addr.add; split <;> simp_all
    rwa [hadd] at this

theorem OwnRow.below {B : Nat} {W W' : World} {v : Value} {xs : List Int} (h : OwnRow B W v xs) (hb : Below W.heap.size W W') : OwnRow B W' v xs := by
  refine ⟨h.1, ?_⟩
  rcases h.2 with hn | ⟨g, cap, cur, rfl, hg0, hg, rest⟩
  · exact .inl hn
  · exact .inr ⟨g, cap, cur, rfl, hg0, (hb.block g (cells_of hg).1).trans hg, rest⟩

theorem OwnRow.set {B b o : Nat} {W : World} {v u : Value} {xs : List Int} (h : OwnRow B W v xs) (hb : b < B) : OwnRow B (W.setCell ⟨b, o, none⟩ u) v xs := by
  refine ⟨h.1, ?_⟩
  rcases h.2 with hn | ⟨g, cap, cur, rfl, hg0, hg, rest⟩
  · exact .inl hn
  · exact .inr ⟨g, cap, cur, rfl, hg0, (Below.heap_setCell _ _ _ _ (by simp only; omega)).trans hg, rest⟩

/-- Two rests lie as they lay. -/
structure KeepX (w : World) (R : Rest) (xb : Nat) (X : Rest) (W : World) : Prop where
  bel : Below w.heap.size w W
  x : W.heap[w.heap.size]? = some (.cells #[.int .i64 R.hours, .int .i64 R.r0.out, .int .i64 R.r0.total, .int .i64 R.r0.run, .int .i64 R.r0.off, .int .i64 R.r1.out, .int .i64 R.r1.total, .int .i64 R.r1.run, .int .i64 R.r1.off] 26 (0, 0))
  y : W.heap[xb]? = some (.cells #[.int .i64 X.hours, .int .i64 X.r0.out, .int .i64 X.r0.total, .int .i64 X.r0.run, .int .i64 X.r0.off, .int .i64 X.r1.out, .int .i64 X.r1.total, .int .i64 X.r1.run, .int .i64 X.r1.off] 26 (0, 0))
  lt : w.heap.size < xb
theorem KeepX.below {w : World} {R X : Rest} {xb : Nat} {W W' : World} (h : KeepX w R xb X W) (hb : Below W.heap.size W W') : KeepX w R xb X W' :=
  ⟨below_via hb h.bel, (hb.block _ (cells_of h.x).1).trans h.x, (hb.block _ (cells_of h.y).1).trans h.y, h.lt⟩
theorem KeepX.set {w : World} {R X : Rest} {xb b o : Nat} {W : World} {u : Value} (h : KeepX w R xb X W) (h1 : w.heap.size < b) (h2 : b ≠ xb) : KeepX w R xb X (W.setCell ⟨b, o, none⟩ u) :=
  ⟨below_set h.bel _ (by simp only; omega), (Below.heap_setCell _ _ _ _ (by simp only; omega)).trans h.x, (Below.heap_setCell _ _ _ _ (by simp only; omega)).trans h.y, h.lt⟩

theorem KeepR.pair {w : World} {R X : Rest} {W W' : World} (h : KeepR w R W) (hb : Below (W.alloc (.cells #[.int .i64 X.hours, .int .i64 X.r0.out, .int .i64 X.r0.total, .int .i64 X.r0.run, .int .i64 X.r0.off, .int .i64 X.r1.out, .int .i64 X.r1.total, .int .i64 X.r1.run, .int .i64 X.r1.off] 26)).drew.heap.size (W.alloc (.cells #[.int .i64 X.hours, .int .i64 X.r0.out, .int .i64 X.r0.total, .int .i64 X.r0.run, .int .i64 X.r0.off, .int .i64 X.r1.out, .int .i64 X.r1.total, .int .i64 X.r1.run, .int .i64 X.r1.off] 26)).drew W') : KeepX w R W.heap.size X W' := by
  have h1 := (cells_of h.x).1
  exact ⟨below_via hb (below_alloc h.bel _).drew, (hb.block _ (by simp; omega)).trans (alloc_old h1 h.x), (hb.block _ (by simp)).trans (alloc_at rfl), h1⟩

theorem alloc_keep {W W' : World} {o : Obj} (hb : Below (W.alloc o).heap.size (W.alloc o) W') : W'.heap[W.heap.size]? = some o ∧ Below W.heap.size W W' :=
  ⟨(hb.block _ (by simp)).trans (alloc_at rfl), below_via hb (below_alloc (Below.refl _ _) _)⟩

theorem fewest_own {R : Rest} {k : Int} {p : List Int} (h : planR R changesG = (k, p, 0)) (w : World) :
    Calls Try.prog 21 #[restV R] w fun e' w' => ∃ b, e' = .returned (.tuple #[.int .i64 k, .slice (some ⟨b, 0, none⟩) p.length p.length, .int .i64 0]) ∧ w.heap.size ≤ b ∧ w'.heap[b]? = some (.cells (intsV p) 3 (0, 0)) ∧ Below w.heap.size w w' := by
  unfold planR at h
  cases hv : R.valid
  · rw [hv] at h; simp at h
  · cases hf : found R changesG R.hours.toNat St.begin with
    | none => rw [hv, hf] at h; simp at h
    | some v =>
      rw [hv, hf] at h
      simp only [if_true, Prod.mk.injEq, and_true] at h
      obtain ⟨rfl, rfl⟩ := h
      exact (Fewest_ok R hv v hf w).mono fun e w' ⟨sv, he, ⟨b, hb, hs, hc⟩, hbl⟩ => ⟨b, by rw [he, hs], hb, hc, hbl⟩
theorem fewest_nil {R : Rest} {k e : Int} {p : List Int} (h : planR R changesG = (k, p, e)) (he : e ≠ 0) (w : World) :
    Calls Try.prog 21 #[restV R] w fun e' w' => e' = .returned (.tuple #[.int .i64 k, .slice none 0 0, .int .i64 e]) ∧ Below w.heap.size w w' := by
  unfold planR at h
  cases hv : R.valid
  · rw [hv] at h
    simp only [Bool.false_eq_true, if_false, Prod.mk.injEq] at h
    obtain ⟨rfl, rfl, rfl⟩ := h
    exact Fewest_bad R hv w
  · cases hf : found R changesG R.hours.toNat St.begin with
    | none =>
      rw [hv, hf] at h
      simp only [if_true, Prod.mk.injEq] at h
      obtain ⟨rfl, rfl, rfl⟩ := h
      exact Fewest_none R hv hf w
    | some v =>
      rw [hv, hf] at h
      simp only [if_true, Prod.mk.injEq] at h
      exact (he h.2.2.symm).elim

theorem by_own {n b : Int} {Q : List Int} (hQ : bitsL n.toNat b = Q) (h0 : 0 ≤ n) (h1 : n ≤ 16) (hb0 : 0 ≤ b) (w : World) :
    Calls Try.prog 33 #[.int .i64 n, .int .u16 b] w fun e w' => ∃ g, e = .returned (.slice (some ⟨g, 0, none⟩) Q.length Q.length) ∧ w.heap.size ≤ g ∧ w'.heap[g]? = some (.cells (intsV Q) 3 (0, 0)) ∧ Below w.heap.size w w' := by
  subst hQ
  exact (by_any n b h0 h1 hb0 w).mono fun e' w' ⟨sv, he, ⟨g, hg, hs, hc⟩, hb⟩ => ⟨g, by rw [he, hs], hg, hc, hb⟩

theorem block_ints {W : World} {b : Nat} {xs : List Int} (h : W.heap[b]? = some (.cells (intsV xs) 3 (0, 0))) {m : Nat} (hm : m ≤ xs.length) (cap : Nat) : IntsAt W (.slice (some ⟨b, 0, none⟩) m cap) (xs.take m) := by
  have e : (xs.take m).length = m := by simp; omega
  refine ⟨some ⟨b, 0, none⟩, cap, by rw [e], fun _ => ⟨b, 0, rfl, fun k hk => ?_⟩⟩
  rw [e] at hk
  have hk2 : k < xs.length := by omega
  rw [(cells_of h).2 (0 + k)]
  simp [intsV, hk, hk2]

theorem first_as {R : Rest} (hv : R.valid = true) {n : Int} (h0 : 0 ≤ n) (h1 : n ≤ 16) (w : World) : Calls Try.prog 41 #[restV R, .int .i64 n] w fun e w' => e = .returned (restV (firstR R n)) ∧ Below w.heap.size w w' :=
  first_any R n h0 h1 (Rest.valid_ok hv).1 (Rest.valid_ok hv).2 w

theorem check_as {R : Rest} {v : Value} {xs : List Int} {a b c : Int} (h : checkOf R xs = (a, b, c)) (hl : xs.length ≤ 1000) (w : World) (hx : IntsAt w v xs) :
    Calls Try.prog 15 #[restV R, v] w fun e' w' => e' = .returned (.tuple #[.int .i64 a, .int .i64 b, .int .i64 c]) ∧ Below w.heap.size w w' := by
  have := Check_any R v xs hl w hx
  rw [h] at this; exact this

theorem eq_span (d : Nat) (a b a' b' : Int) (w : World) : (Op.equalIn (d + 2) 41 (.agg #[.int .i64 a, .int .i64 b]) (.agg #[.int .i64 a', .int .i64 b'])).run Try.prog w = .ok (a == a' && b == b') w := by
  rw [run_equalIn_agg _ _ _ _ _ (by kernel_rfl) (by kernel_rfl)]
  go_simp
  by_cases h1 : a = a' <;> by_cases h2 : b = b' <;> simp [h1, h2]
theorem eq_span_true (a b : Int) (w : World) : (Op.equalIn 10000 41 (.agg #[.int .i64 a, .int .i64 b]) (.agg #[.int .i64 a, .int .i64 b])).run Try.prog w = .ok true w := by
  rw [eq_span 9998]; simp
theorem neq_span_false (a b : Int) (w : World) : (binOp .neq 41 (.agg #[.int .i64 a, .int .i64 b]) (.agg #[.int .i64 a, .int .i64 b])).run Try.prog w = .ok (.bool false) w := by
  have h : (Op.equalIn Op.maxDepth 41 (.agg #[.int .i64 a, .int .i64 b]) (.agg #[.int .i64 a, .int .i64 b])).run Try.prog w = .ok true w := eq_span_true a b w
  simp only [binOp, Op.equal]
  rw [Sem.run_bind, h]
  rfl

end Go.Proofs.Ytkgdejhooghknaa
