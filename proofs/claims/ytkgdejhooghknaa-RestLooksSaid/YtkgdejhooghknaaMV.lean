/- What is kept on the way of a law: the rest's block, and two lists of integers. The walk of 'first' of the law. Rows of integers that the call itself grows by append. What is broken in an hour, by the words of the chapter; and the walk of 'broken' of the law. Appends of integers to a row of the call's own, as one law. -/
import Derived.Test.YtkgdejhooghknaaMT
import Derived.Test.YtkgdejhooghknaaN4
import Derived.Test.YtkgdejhooghknaaP2
import Derived.Test.YtkgdejhooghknaaP3
import Derived.Laws.AppendOwn
import Derived.Laws.AppendOwnNone
import Derived.OwnWalk
namespace Go.Proofs.Ytkgdejhooghknaa
open Go.RowKit Go.Lap Go.Shelf

theorem need_succ (R : Rest) (k : Nat) : need R (k + 1) = if hasBit R.r0.out k = hasBit R.r1.out k then need R k
    else (if hasBit R.r0.out k then 1 else 0, if 0 ≤ (need R k).1 ∧ (if hasBit R.r0.out k then 1 else 0) ≠ (need R k).1 then (need R k).2 + 1 else (need R k).2) := rfl
theorem bit_walk {x : Int} {k : Nat} {b : Bool} (h : hasBit x k = b) : (x / 2 ^ k % 2 == 1) = b := by
  have h1 : (x >>> (k : Int).toNat % 2 == 1) = b := h
  rw [Int.shiftRight_eq_div_pow] at h1
  simpa using h1

theorem newInts_at {B : Nat} {W : World} {sv : Value} {xs : List Int} (h : NewInts B W sv xs) : IntsAt W sv xs := OwnInts.at (.inr h)

theorem intsAt_dest {w : World} {v : Value} {xs : List Int} (h : IntsAt w v xs) : ∃ a cap, v = .slice a xs.length cap ∧ IntsAt w (.slice a xs.length cap) xs := by
  obtain ⟨a, cap, rfl, hx⟩ := h
  exact ⟨a, cap, rfl, a, cap, rfl, hx⟩

theorem intsAt_cell {w : World} {a : Option Addr} {n cap : Nat} {xs : List Int} (h : IntsAt w (.slice a n cap) xs) {k : Nat} (hk : k < xs.length) :
    ∃ b off, a = some ⟨b, off, none⟩ ∧ n = xs.length ∧ ∀ j, j < xs.length → w.cell? ⟨b, off + j, none⟩ = some (.int .i64 (xs.getD j 0)) := by
  obtain ⟨b, off, cap', e, _, hc⟩ := h.some (fun e => by rw [e] at hk; simp at hk)
  cases e
  exact ⟨b, off, rfl, rfl, hc⟩

/-- The rest's block lies as it did. -/
structure KeepR (w : World) (R : Rest) (W : World) : Prop where
  bel : Below w.heap.size w W
  x : W.heap[w.heap.size]? = some (.cells #[.int .i64 R.hours, .int .i64 R.r0.out, .int .i64 R.r0.total, .int .i64 R.r0.run, .int .i64 R.r0.off, .int .i64 R.r1.out, .int .i64 R.r1.total, .int .i64 R.r1.run, .int .i64 R.r1.off] 26 (0, 0))
theorem KeepR.below {w : World} {R : Rest} {W W' : World} (h : KeepR w R W) (hb : Below W.heap.size W W') : KeepR w R W' :=
  ⟨below_via hb h.bel, (hb.block _ (cells_of h.x).1).trans h.x⟩
theorem KeepR.start (w : World) (R : Rest) : KeepR w R (w.alloc (.cells #[.int .i64 R.hours, .int .i64 R.r0.out, .int .i64 R.r0.total, .int .i64 R.r0.run, .int .i64 R.r0.off, .int .i64 R.r1.out, .int .i64 R.r1.total, .int .i64 R.r1.run, .int .i64 R.r1.off] 26)) := ⟨below_alloc (Below.refl _ _) _, alloc_at rfl⟩

/-- And a list, and another one. -/
structure KeepP (w : World) (R : Rest) (pv : Value) (P : List Int) (W : World) : Prop where
  r : KeepR w R W
  p : IntsAt W pv P
theorem KeepP.below {w : World} {R : Rest} {pv : Value} {P : List Int} {W W' : World} (h : KeepP w R pv P W) (hb : Below W.heap.size W W') : KeepP w R pv P W' := ⟨h.r.below hb, h.p.below hb⟩
theorem KeepR.plus {w : World} {R : Rest} {v : Value} {xs : List Int} {W W' : World} (h : KeepR w R W) (hb : Below W.heap.size W W') (hn : IntsAt W' v xs) : KeepP w R v xs W' := ⟨h.below hb, hn⟩
structure KeepQ (w : World) (R : Rest) (pv : Value) (P : List Int) (qv : Value) (Q : List Int) (W : World) : Prop where
  r : KeepR w R W
  p : IntsAt W pv P
  q : IntsAt W qv Q
theorem KeepQ.below {w : World} {R : Rest} {pv qv : Value} {P Q : List Int} {W W' : World} (h : KeepQ w R pv P qv Q W) (hb : Below W.heap.size W W') : KeepQ w R pv P qv Q W' := ⟨h.r.below hb, h.p.below hb, h.q.below hb⟩
theorem KeepP.plus {w : World} {R : Rest} {pv v : Value} {P xs : List Int} {W W' : World} (h : KeepP w R pv P W) (hb : Below W.heap.size W W') (hn : IntsAt W' v xs) : KeepQ w R pv P v xs W' := ⟨h.r.below hb, h.p.below hb, hn⟩

theorem fewest_as {R : Rest} {k e : Int} {p : List Int} (h : planR R changesG = (k, p, e)) (w : World) :
    Calls Try.prog 21 #[restV R] w fun e' w' => ∃ a cap, e' = .returned (.tuple #[.int .i64 k, .slice a p.length cap, .int .i64 e]) ∧ IntsAt w' (.slice a p.length cap) p ∧ Below w.heap.size w w' := by
  have := Fewest_any R w
  rw [h] at this
  exact this.mono fun e' w' ⟨sv, he, hn, hb⟩ => by
    obtain ⟨a, cap, rfl, h2⟩ := intsAt_dest hn.at
    exact ⟨a, cap, he, h2, hb⟩
theorem even_as {R : Rest} {k e : Int} {p : List Int} (h : planR R evenG = (k, p, e)) (w : World) :
    Calls Try.prog 23 #[restV R] w fun e' w' => ∃ a cap, e' = .returned (.tuple #[.int .i64 k, .slice a p.length cap, .int .i64 e]) ∧ IntsAt w' (.slice a p.length cap) p ∧ Below w.heap.size w w' := by
  have := Even_any R w
  rw [h] at this
  exact this.mono fun e' w' ⟨sv, he, hn, hb⟩ => by
    obtain ⟨a, cap, rfl, h2⟩ := intsAt_dest hn.at
    exact ⟨a, cap, he, h2, hb⟩
theorem by_as (n b : Int) (h0 : 0 ≤ n) (h1 : n ≤ 16) (hb0 : 0 ≤ b) (w : World) :
    Calls Try.prog 33 #[.int .i64 n, .int .u16 b] w fun e w' => ∃ a cap, e = .returned (.slice a n.toNat cap) ∧ IntsAt w' (.slice a n.toNat cap) (bitsL n.toNat b) ∧ Below w.heap.size w w' :=
  (by_any n b h0 h1 hb0 w).mono fun e' w' ⟨sv, he, hn, hb⟩ => by
    obtain ⟨a, cap, rfl, h2⟩ := intsAt_dest (newInts_at hn)
    rw [bitsL_length] at h2 he
    exact ⟨a, cap, he, h2, hb⟩
theorem by_list {n b : Int} {Q : List Int} (hQ : bitsL n.toNat b = Q) (h0 : 0 ≤ n) (h1 : n ≤ 16) (hb0 : 0 ≤ b) (w : World) :
    Calls Try.prog 33 #[.int .i64 n, .int .u16 b] w fun e w' => ∃ a cap, e = .returned (.slice a Q.length cap) ∧ IntsAt w' (.slice a Q.length cap) Q ∧ Below w.heap.size w w' :=
  (by_any n b h0 h1 hb0 w).mono fun e' w' ⟨sv, he, hn, hb⟩ => by
    subst hQ
    obtain ⟨a, cap, rfl, h2⟩ := intsAt_dest (newInts_at hn)
    exact ⟨a, cap, he, h2, hb⟩
theorem count_as {R : Rest} {a e : Int} (h : countR R = (a, e)) (w : World) : Calls Try.prog 17 #[restV R] w fun e' w' => e' = .returned (.tuple #[.int .i64 a, .int .i64 e]) ∧ Below w.heap.size w w' := by
  have := Count_any R w
  rw [h] at this; exact this
theorem until_as {R : Rest} {a e : Int} (h : untilR R = (a, e)) (w : World) : Calls Try.prog 19 #[restV R] w fun e' w' => e' = .returned (.tuple #[.int .i64 a, .int .i64 e]) ∧ Below w.heap.size w w' := by
  have := Until_any R w
  rw [h] at this; exact this
theorem must_as {R : Rest} {a b e : Int} (h : mustR R = (a, b, e)) (w : World) : Calls Try.prog 28 #[restV R] w fun e' w' => e' = .returned (.tuple #[.int .i64 a, .int .i64 b, .int .i64 e]) ∧ Below w.heap.size w w' := by
  have := Must_any R w
  rw [h] at this; exact this
theorem hours_as {R : Rest} {r a b e : Int} (h : hoursR R r = ((a, b), e)) (w : World) : Calls Try.prog 26 #[restV R, .int .i64 r] w fun e' w' => e' = .returned (.tuple #[.agg #[.int .i64 a, .int .i64 b], .int .i64 e]) ∧ Below w.heap.size w w' := by
  have := Hours_any R r w
  rw [h] at this; exact this
theorem valid_as {R : Rest} {b : Bool} (h : R.valid = b) (w : World) : Calls Try.prog 32 #[restV R] w fun e' w' => e' = .returned (.bool b) ∧ Below w.heap.size w w' := by
  have := refRest_any R w
  rw [h] at this; exact this
theorem right_as {R : Rest} {v : Value} {xs : List Int} {b : Bool} (h : rightB R xs = b) (hl : xs.length ≤ 1000) (w : World) (hx : IntsAt w v xs) : Calls Try.prog 35 #[restV R, v] w fun e' w' => e' = .returned (.bool b) ∧ Below w.heap.size w w' := by
  have := right_any R v xs hl w hx
  rw [h] at this; exact this
theorem planRef_as {R : Rest} {v : Value} {xs : List Int} {b : Bool} (h : planOk R xs = b) (hl : xs.length ≤ 1000) (w : World) (hx : IntsAt w v xs) : Calls Try.prog 36 #[restV R, v] w fun e' w' => e' = .returned (.bool b) ∧ Below w.heap.size w w' := by
  have := plan_ref R v xs hl w hx
  rw [h] at this; exact this
theorem changes_as {v : Value} {xs : List Int} {k : Int} (h : chg xs = k) (hl : xs.length ≤ 1000) (w : World) (hx : IntsAt w v xs) : Calls Try.prog 37 #[v] w fun e' w' => e' = .returned (.int .i64 k) ∧ Below w.heap.size w w' := by
  have := changes_ref v xs hl w hx
  rw [h] at this; exact this
theorem difference_as {v : Value} {xs : List Int} {k : Int} (h : dif xs = k) (hl : xs.length ≤ 1000) (w : World) (hx : IntsAt w v xs) : Calls Try.prog 38 #[v] w fun e' w' => e' = .returned (.int .i64 k) ∧ Below w.heap.size w w' := by
  have := difference_any v xs hl w hx
  rw [h] at this; exact this
theorem rides_as {v : Value} {xs : List Int} {r k : Int} (h : rid r xs = k) (hl : xs.length ≤ 1000) (w : World) (hx : IntsAt w v xs) : Calls Try.prog 39 #[v, .int .i64 r] w fun e' w' => e' = .returned (.int .i64 k) ∧ Below w.heap.size w w' := by
  have := rides_any v xs r hl w hx
  rw [h] at this; exact this

end Go.Proofs.Ytkgdejhooghknaa

namespace Go.Proofs.Ytkgdejhooghknaa
open Go.RowKit Go.Lap Go.Shelf

theorem firstB_eq {x n : Int} (h0 : 0 ≤ x) (h1 : x ≤ 65535) (h2 : 0 ≤ n) (h3 : n ≤ 16) : bits .and .i64 x (2 ^ n.toNat - 1) = firstB x n := by
  obtain ⟨m, rfl⟩ : ∃ m : Nat, x = m := ⟨x.toNat, by omega⟩
  have hp : 0 < 2 ^ n.toNat := Nat.pow_pos (by decide)
  have hp2 : 2 ^ n.toNat ≤ 2 ^ 16 := Nat.pow_le_pow_right (by decide) (by omega)
  have e : ((2 : Int) ^ n.toNat - 1) = ((2 ^ n.toNat - 1 : Nat) : Int) := by
    have e : ((2 : Int) ^ n.toNat) = ((2 ^ n.toNat : Nat) : Int) := by simp
    rw [e]; omega
  rw [e, band_nat (by omega) (by omega), firstB, Int.toNat_natCast]

set_option maxHeartbeats 2000000 in
theorem first_any (R : Rest) (n : Int) (h0 : 0 ≤ n) (h1 : n ≤ 16) (hr0 : R.r0.Ok) (hr1 : R.r1.Ok) (w : World) :
    Calls Try.prog 41 #[restV R, .int .i64 n] w fun e w' => e = .returned (restV (firstR R n)) ∧ Below w.heap.size w w' := by
  have ho0 := firstB_eq hr0.out0 hr0.out1 h0 h1
  have ho1 := firstB_eq hr1.out0 hr1.out1 h0 h1
  have hp : (2 : Int) ^ n.toNat ≤ 2 ^ 16 := two_pow_le (by omega)
  have hp0 : (0 : Int) < 2 ^ n.toNat := Int.pow_pos (by decide)
  obtain ⟨E, hE⟩ : ∃ E : Int, E = 2 ^ n.toNat := ⟨_, rfl⟩
  have hEa : 0 < E ∧ E ≤ 65536 := by rw [hE]; exact ⟨hp0, hp⟩
  have hw2 : IntKind.i64.wrap (E - 1) = E - 1 := IntWalk.i64_in _ (by omega)
  have hw3 : wrap64 (E - 1) = E - 1 := IntWalk.wrap64_in _ (by omega)
  have hsh : wrap64 (2 ^ n.toNat) = E := by rw [← hE]; exact IntWalk.wrap64_in _ (by omega)
  rw [← hE] at ho0 ho1
  have hE' := hid hE
  clear hp hp0 hEa hE
  go_enter Try.func41, Try.ntmps41
  go_wp2
  refine wp_loop_rounds 3 ?_
  rw [rounds_succ]
  go_wp2
  go_region
  go_wp2
  rw [rounds_succ]
  go_wp2
  go_region
  go_wp2
  rw [rounds_succ]
  go_wp2
  refine bodyPost_ret (v := restV (firstR R n)) (by simp [results, Try.results41, go_sem, firstR]) rfl ⟨rfl, ?_⟩
  repeat (first | exact Below.refl _ _ | refine Below.drew ?_ | refine below_set ?_ _ (by simp) | refine below_alloc ?_ _)

end Go.Proofs.Ytkgdejhooghknaa

namespace Go.Proofs.Ytkgdejhooghknaa
open Go.RowKit Go.Lap Go.Shelf

theorem info3 : (Try.prog.info? 3).map (fun i => (i.zero, i.size, i.bytes)) = some (some (.int .i64 0), 1, 8) := by kernel_rfl

/-- A row of the call's own, from a block on. -/
abbrev OwnRow (B : Nat) (W : World) (v : Value) (xs : List Int) : Prop := W.ownsRow B 3 1 v xs.length (xs.map (Value.int .i64))

theorem grown_below {B : Nat} {w w' : World} {v : Value} {xs : List Int} (h : OwnRow B w v xs) (hg : w.grownBy w' v.ownBlock) (hB : B ≤ w.heap.size) : Below B w w' :=
  ⟨hg.os, hg.tape, hg.output, hg.size, fun k hk => hg.block k (by omega) (fun e => by have := h.lt k e.symm; omega)⟩

theorem grown_made {ww wo : World} (h : (ww.alloc (.cells #[] 3)).grownBy wo (Value.slice (some ⟨ww.heap.size, 0, none⟩) 0 0).ownBlock) : Below ww.heap.size ww wo :=
  ⟨h.os, h.tape, h.output, Nat.le_trans (by simp) h.size, fun k hk => (h.block k (by simp; omega) (by simp [Value.ownBlock]; omega)).trans (alloc_old hk rfl)⟩

theorem nil_ints (W : World) : IntsAt W (.slice none 0 0) [] := ⟨none, 0, rfl, fun h => (h rfl).elim⟩

theorem grown_row {B n : Nat} {w w' : World} {v : Value} {ys : List Value} {o : Obj} (h : w.ownsRow B 3 1 v n ys) (hg : (w.alloc o).grownBy w' v.ownBlock) (hB : B ≤ w.heap.size) : Below B w w' :=
  ⟨hg.os, hg.tape, hg.output, Nat.le_trans (by simp) hg.size, fun k hk => (hg.block k (by simp; omega) (fun e => by have := h.lt k e.symm; omega)).trans (alloc_old (by omega) rfl)⟩

theorem OwnRow.len {B n : Nat} {W : World} {v : Value} {xs : List Int} (h : OwnRow B W v xs) (hn : xs.length = n) : W.ownsRow B 3 1 v n (xs.map (Value.int .i64)) := by subst hn; exact h

theorem OwnRow.snoc {B : Nat} {W : World} {v : Value} {xs : List Int} {y : Int} (h : W.ownsRow B 3 1 v (xs.length + 1) (xs.map (Value.int .i64) ++ [.int .i64 y])) : OwnRow B W v (xs ++ [y]) := by
  show W.ownsRow B 3 1 v (xs ++ [y]).length ((xs ++ [y]).map (Value.int .i64))
  rw [List.length_append, List.map_append]
  exact h

theorem OwnRow.ints {B : Nat} {W : World} {v : Value} {xs : List Int} (h : OwnRow B W v xs) : IntsAt W v xs := by
  rcases h.2 with ⟨rfl, hn⟩ | ⟨g, cap, cur, rfl, hb, hg, _, _, hs, ht⟩
  · have : xs = [] := List.eq_nil_of_length_eq_zero hn
    subst this
    exact ⟨none, 0, rfl, fun h => (h rfl).elim⟩
  · refine ⟨_, cap, rfl, fun _ => ⟨g, 0, rfl, fun k hk => ?_⟩⟩
    have := h.cells (g := g) rfl k (.int .i64 (xs.getD k 0)) (by simp [hk])
    have hadd : (⟨g, 0, none⟩ : Addr).add k = ⟨g, 0 + k, none⟩ := by unfold Addr.add; split <;> simp_all
    rwa [hadd] at this

theorem OwnRow.below {B : Nat} {W W' : World} {v : Value} {xs : List Int} (h : OwnRow B W v xs) (hb : Below W.heap.size W W') : OwnRow B W' v xs := by
  refine ⟨h.1, ?_⟩
  rcases h.2 with hn | ⟨g, cap, cur, rfl, hg0, hg, rest⟩
  · exact .inl hn
  · exact .inr ⟨g, cap, cur, rfl, hg0, (hb.block g (cells_of hg).1).trans hg, rest⟩

theorem OwnRow.set {B b o : Nat} {W : World} {v u : Value} {xs : List Int} (h : OwnRow B W v xs) (hb : b < B) : OwnRow B (W.setCell ⟨b, o, none⟩ u) v xs := by
  refine ⟨h.1, ?_⟩
  rcases h.2 with hn | ⟨g, cap, cur, rfl, hg0, hg, rest⟩
  · exact .inl hn
  · exact .inr ⟨g, cap, cur, rfl, hg0, (Below.heap_setCell _ _ _ _ (by simp only; omega)).trans hg, rest⟩

/-- Two rests lie as they lay. -/
structure KeepX (w : World) (R : Rest) (xb : Nat) (X : Rest) (W : World) : Prop where
  bel : Below w.heap.size w W
  x : W.heap[w.heap.size]? = some (.cells #[.int .i64 R.hours, .int .i64 R.r0.out, .int .i64 R.r0.total, .int .i64 R.r0.run, .int .i64 R.r0.off, .int .i64 R.r1.out, .int .i64 R.r1.total, .int .i64 R.r1.run, .int .i64 R.r1.off] 26 (0, 0))
  y : W.heap[xb]? = some (.cells #[.int .i64 X.hours, .int .i64 X.r0.out, .int .i64 X.r0.total, .int .i64 X.r0.run, .int .i64 X.r0.off, .int .i64 X.r1.out, .int .i64 X.r1.total, .int .i64 X.r1.run, .int .i64 X.r1.off] 26 (0, 0))
  lt : w.heap.size < xb
theorem KeepX.below {w : World} {R X : Rest} {xb : Nat} {W W' : World} (h : KeepX w R xb X W) (hb : Below W.heap.size W W') : KeepX w R xb X W' :=
  ⟨below_via hb h.bel, (hb.block _ (cells_of h.x).1).trans h.x, (hb.block _ (cells_of h.y).1).trans h.y, h.lt⟩
theorem KeepX.set {w : World} {R X : Rest} {xb b o : Nat} {W : World} {u : Value} (h : KeepX w R xb X W) (h1 : w.heap.size < b) (h2 : b ≠ xb) : KeepX w R xb X (W.setCell ⟨b, o, none⟩ u) :=
  ⟨below_set h.bel _ (by simp only; omega), (Below.heap_setCell _ _ _ _ (by simp only; omega)).trans h.x, (Below.heap_setCell _ _ _ _ (by simp only; omega)).trans h.y, h.lt⟩

theorem KeepR.pair {w : World} {R X : Rest} {W W' : World} (h : KeepR w R W) (hb : Below (W.alloc (.cells #[.int .i64 X.hours, .int .i64 X.r0.out, .int .i64 X.r0.total, .int .i64 X.r0.run, .int .i64 X.r0.off, .int .i64 X.r1.out, .int .i64 X.r1.total, .int .i64 X.r1.run, .int .i64 X.r1.off] 26)).drew.heap.size (W.alloc (.cells #[.int .i64 X.hours, .int .i64 X.r0.out, .int .i64 X.r0.total, .int .i64 X.r0.run, .int .i64 X.r0.off, .int .i64 X.r1.out, .int .i64 X.r1.total, .int .i64 X.r1.run, .int .i64 X.r1.off] 26)).drew W') : KeepX w R W.heap.size X W' := by
  have h1 := (cells_of h.x).1
  exact ⟨below_via hb (below_alloc h.bel _).drew, (hb.block _ (by simp; omega)).trans (alloc_old h1 h.x), (hb.block _ (by simp)).trans (alloc_at rfl), h1⟩

theorem alloc_keep {W W' : World} {o : Obj} (hb : Below (W.alloc o).heap.size (W.alloc o) W') : W'.heap[W.heap.size]? = some o ∧ Below W.heap.size W W' :=
  ⟨(hb.block _ (by simp)).trans (alloc_at rfl), below_via hb (below_alloc (Below.refl _ _) _)⟩

theorem fewest_own {R : Rest} {k : Int} {p : List Int} (h : planR R changesG = (k, p, 0)) (w : World) :
    Calls Try.prog 21 #[restV R] w fun e' w' => ∃ b, e' = .returned (.tuple #[.int .i64 k, .slice (some ⟨b, 0, none⟩) p.length p.length, .int .i64 0]) ∧ w.heap.size ≤ b ∧ w'.heap[b]? = some (.cells (intsV p) 3 (0, 0)) ∧ Below w.heap.size w w' := by
  unfold planR at h
  cases hv : R.valid
  · rw [hv] at h; simp at h
  · cases hf : found R changesG R.hours.toNat St.begin with
    | none => rw [hv, hf] at h; simp at h
    | some v =>
      rw [hv, hf] at h
      simp only [if_true, Prod.mk.injEq, and_true] at h
      obtain ⟨rfl, rfl⟩ := h
      exact (Fewest_ok R hv v hf w).mono fun e w' ⟨sv, he, ⟨b, hb, hs, hc⟩, hbl⟩ => ⟨b, by rw [he, hs], hb, hc, hbl⟩
theorem fewest_nil {R : Rest} {k e : Int} {p : List Int} (h : planR R changesG = (k, p, e)) (he : e ≠ 0) (w : World) :
    Calls Try.prog 21 #[restV R] w fun e' w' => e' = .returned (.tuple #[.int .i64 k, .slice none 0 0, .int .i64 e]) ∧ Below w.heap.size w w' := by
  unfold planR at h
  cases hv : R.valid
  · rw [hv] at h
    simp only [Bool.false_eq_true, if_false, Prod.mk.injEq] at h
    obtain ⟨rfl, rfl, rfl⟩ := h
    exact Fewest_bad R hv w
  · cases hf : found R changesG R.hours.toNat St.begin with
    | none =>
      rw [hv, hf] at h
      simp only [if_true, Prod.mk.injEq] at h
      obtain ⟨rfl, rfl, rfl⟩ := h
      exact Fewest_none R hv hf w
    | some v =>
      rw [hv, hf] at h
      simp only [if_true, Prod.mk.injEq] at h
      exact (he h.2.2.symm).elim

theorem by_own {n b : Int} {Q : List Int} (hQ : bitsL n.toNat b = Q) (h0 : 0 ≤ n) (h1 : n ≤ 16) (hb0 : 0 ≤ b) (w : World) :
    Calls Try.prog 33 #[.int .i64 n, .int .u16 b] w fun e w' => ∃ g, e = .returned (.slice (some ⟨g, 0, none⟩) Q.length Q.length) ∧ w.heap.size ≤ g ∧ w'.heap[g]? = some (.cells (intsV Q) 3 (0, 0)) ∧ Below w.heap.size w w' := by
  subst hQ
  exact (by_any n b h0 h1 hb0 w).mono fun e' w' ⟨sv, he, ⟨g, hg, hs, hc⟩, hb⟩ => ⟨g, by rw [he, hs], hg, hc, hb⟩

theorem block_ints {W : World} {b : Nat} {xs : List Int} (h : W.heap[b]? = some (.cells (intsV xs) 3 (0, 0))) {m : Nat} (hm : m ≤ xs.length) (cap : Nat) : IntsAt W (.slice (some ⟨b, 0, none⟩) m cap) (xs.take m) := by
  have e : (xs.take m).length = m := by simp; omega
  refine ⟨some ⟨b, 0, none⟩, cap, by rw [e], fun _ => ⟨b, 0, rfl, fun k hk => ?_⟩⟩
  rw [e] at hk
  have hk2 : k < xs.length := by omega
  rw [(cells_of h).2 (0 + k)]
  simp [intsV, hk, hk2]

theorem first_as {R : Rest} (hv : R.valid = true) {n : Int} (h0 : 0 ≤ n) (h1 : n ≤ 16) (w : World) : Calls Try.prog 41 #[restV R, .int .i64 n] w fun e w' => e = .returned (restV (firstR R n)) ∧ Below w.heap.size w w' :=
  first_any R n h0 h1 (Rest.valid_ok hv).1 (Rest.valid_ok hv).2 w

theorem check_as {R : Rest} {v : Value} {xs : List Int} {a b c : Int} (h : checkOf R xs = (a, b, c)) (hl : xs.length ≤ 1000) (w : World) (hx : IntsAt w v xs) :
    Calls Try.prog 15 #[restV R, v] w fun e' w' => e' = .returned (.tuple #[.int .i64 a, .int .i64 b, .int .i64 c]) ∧ Below w.heap.size w w' := by
  have := Check_any R v xs hl w hx
  rw [h] at this; exact this

theorem eq_span (d : Nat) (a b a' b' : Int) (w : World) : (Op.equalIn (d + 2) 41 (.agg #[.int .i64 a, .int .i64 b]) (.agg #[.int .i64 a', .int .i64 b'])).run Try.prog w = .ok (a == a' && b == b') w := by
  rw [run_equalIn_agg _ _ _ _ _ (by kernel_rfl) (by kernel_rfl)]
  go_simp
  by_cases h1 : a = a' <;> by_cases h2 : b = b' <;> simp [h1, h2]
theorem eq_span_true (a b : Int) (w : World) : (Op.equalIn 10000 41 (.agg #[.int .i64 a, .int .i64 b]) (.agg #[.int .i64 a, .int .i64 b])).run Try.prog w = .ok true w := by
  rw [eq_span 9998]; simp
theorem neq_span_false (a b : Int) (w : World) : (binOp .neq 41 (.agg #[.int .i64 a, .int .i64 b]) (.agg #[.int .i64 a, .int .i64 b])).run Try.prog w = .ok (.bool false) w := by
  have h : (Op.equalIn Op.maxDepth 41 (.agg #[.int .i64 a, .int .i64 b]) (.agg #[.int .i64 a, .int .i64 b])).run Try.prog w = .ok true w := eq_span_true a b w
  simp only [binOp, Op.equal]
  rw [Sem.run_bind, h]
  rfl

end Go.Proofs.Ytkgdejhooghknaa

namespace Go.Proofs.Ytkgdejhooghknaa
open Go.RowKit Go.Lap Go.Shelf

/-- How it is after some hours of a plan. -/
def after (l : List Int) : St := l.foldl St.next St.begin
theorem after_snoc (l : List Int) (x : Int) : after (l ++ [x]) = (after l).next x := by simp [after]

/-- For how many hours a rider rode at the end. -/
def tailRun (r : Int) (l : List Int) : Int := l.foldl (fun n x => if x = r then n + 1 else 0) 0
/-- The last hour in which a rider rode, from an hour on; below 0: none. -/
def lastAt (r : Int) (l : List Int) : Int × Int := l.foldl (fun a x => (a.1 + 1, if x = r then a.1 else a.2)) (0, -1)
theorem tailRun_snoc (r : Int) (l : List Int) (x : Int) : tailRun r (l ++ [x]) = if x = r then tailRun r l + 1 else 0 := by simp [tailRun]
theorem lastAt_snoc (r : Int) (l : List Int) (x : Int) : lastAt r (l ++ [x]) = ((lastAt r l).1 + 1, if x = r then (lastAt r l).1 else (lastAt r l).2) := by simp [lastAt]
theorem lastAt_fst (r : Int) (l : List Int) : (lastAt r l).1 = l.length := by
  induction l using snoc_ind with
  | hn => rfl
  | hs l x ih => rw [lastAt_snoc]; simp [ih]
theorem tailRun_bd (r : Int) (l : List Int) : 0 ≤ tailRun r l ∧ tailRun r l ≤ l.length := by
  induction l using snoc_ind with
  | hn => simp [tailRun]
  | hs l x ih => rw [tailRun_snoc]; simp; split <;> omega
theorem tailRun_rid (r : Int) (l : List Int) : tailRun r l ≤ rid r l := by
  induction l using snoc_ind with
  | hn => simp [tailRun, rid]
  | hs l x ih =>
    have := rid_bound r l
    rw [tailRun_snoc, rid_append]
    simp only [rid]
    split <;> omega
theorem lastAt_bd (r : Int) (l : List Int) : -1 ≤ (lastAt r l).2 ∧ (lastAt r l).2 < l.length := by
  induction l using snoc_ind with
  | hn => simp [lastAt]
  | hs l x ih => rw [lastAt_snoc, lastAt_fst]; simp; split <;> omega

/-- What the state tells of a list of riders. -/
structure Tells (l : List Int) (s : St) : Prop where
  hour : s.hour = l.length
  of : ∀ r, (r = 0 ∨ r = 1) → s.of r = rid r l
  none : l = [] → s.rider = -1 ∧ s.run = 0
  who : l ≠ [] → (s.rider = 0 ∨ s.rider = 1) ∧ 1 ≤ s.run ∧ s.run ≤ l.length
  run : ∀ r, (r = 0 ∨ r = 1) → tailRun r l = if s.rider = r then s.run else 0
  last : ∀ r, (r = 0 ∨ r = 1) → l ≠ [] → (lastAt r l).2 = if s.rider = r then (l.length : Int) - 1 else if 0 < rid r l then (l.length : Int) - 1 - s.run else -1

theorem tells : ∀ (l : List Int), (∀ x, x ∈ l → x = 0 ∨ x = 1) → Tells l (after l) := by
  intro l
  induction l using snoc_ind with
  | hn =>
    intro _
    refine ⟨rfl, fun r hr => ?_, fun _ => ⟨rfl, rfl⟩, fun h => (h rfl).elim, fun r hr => ?_, fun _ _ h => (h rfl).elim⟩
    · rcases hr with rfl | rfl <;> rfl
    · rcases hr with rfl | rfl <;> rfl
  | hs l x ih =>
    intro h
    have hl := ih (fun y hy => h y (by simp [hy]))
    have hx := h x (by simp)
    rw [after_snoc]
    generalize after l = s at *
    have hb := rid_bound
    have e1 : (s.next x).rider = x := rfl
    have e2 : (s.next x).run = if x = s.rider then s.run + 1 else 1 := rfl
    refine ⟨?_, fun r hr => ?_, fun h => by simp at h, fun _ => ?_, fun r hr => ?_, fun r hr _ => ?_⟩
    · show s.hour + 1 = _
      rw [hl.hour]; simp
    · rw [rid_append, ← hl.of r hr]
      rcases hr with rfl | rfl <;> rcases hx with rfl | rfl <;> simp [St.next, St.of, rid]
    · refine ⟨hx, ?_⟩
      rw [e2]
      by_cases hn : l = []
      · obtain ⟨h1, h2⟩ := hl.none hn
        rw [h1, h2]
        split <;> simp <;> omega
      · obtain ⟨_, h2, h3⟩ := hl.who hn
        simp
        split <;> omega
    · rw [tailRun_snoc, e1, e2, hl.run r hr]
      by_cases hxr : x = r
      · subst hxr
        simp only [if_true]
        by_cases hs : s.rider = x
        · rw [if_pos hs, if_pos hs.symm]
        · rw [if_neg hs, if_neg (fun e => hs e.symm)]; rfl
      · rw [if_neg hxr, if_neg hxr]
    · rw [lastAt_snoc, lastAt_fst, e1, e2]
      have hlen : ((l ++ [x]).length : Int) = l.length + 1 := by simp
      rw [hlen, rid_append]
      by_cases hxr : x = r
      · subst hxr
        simp
      · simp only [if_neg hxr]
        have hz : rid r [x] = 0 := by simp [rid, hxr]
        rw [hz, Int.add_zero]
        by_cases hn : l = []
        · subst hn
          simp [lastAt, rid]
        · have hw := (hl.who hn).1
          rw [hl.last r hr hn]
          have hor : x ≠ r := hxr
          by_cases hs : s.rider = r
          · have h1 : x ≠ s.rider := by rw [hs]; exact hxr
            rw [if_pos hs, if_neg h1]
            have hp : 0 < rid r l := by
              have h2 := hl.run r hr
              rw [if_pos hs] at h2
              have h3 := (hl.who hn).2.1
              have key : ∀ l : List Int, 0 < tailRun r l → 0 < rid r l := by
                intro l
                induction l using snoc_ind with
                | hn => simp [tailRun]
                | hs l x ih =>
                  rw [tailRun_snoc, rid_append]
                  intro h
                  have := rid_bound r l
                  split at h
                  · rename_i e; simp [rid, e]; omega
                  · omega
              exact key l (by omega)
            rw [if_pos hp]; omega
          · have h1 : x = s.rider := by omega
            rw [if_neg hs, if_pos h1]
            split <;> omega

/-- The first rule that a plan breaks in an hour, by the words of the chapter. -/
def lawB (R : Rest) (l : List Int) (x : Int) : Int :=
  if hasBit (R.rider x).out l.length then 1
  else if (R.rider x).total < rid x l + 1 then 2
  else if (R.rider x).run < tailRun x l + 1 then 3
  else if 0 ≤ (lastAt x l).2 ∧ (lastAt x l).2 < (l.length : Int) - 1 ∧ (l.length : Int) - 1 - (lastAt x l).2 < (R.rider x).off then 4
  else 0

theorem lawB_eq (R : Rest) {l : List Int} (h : ∀ x, x ∈ l → x = 0 ∨ x = 1) {x : Int} (hx : x = 0 ∨ x = 1) : lawB R l x = broken R ((after l).next x) := by
  have ht := tells l h
  generalize after l = s at *
  have e0 : (s.next x).rider = x := rfl
  have e1 : (s.next x).hour - 1 = l.length := by show s.hour + 1 - 1 = _; rw [ht.hour]; omega
  have e2 : (s.next x).own = rid x l + 1 := by
    rw [← ht.of x hx]
    rcases hx with rfl | rfl <;> simp [St.next, St.own, St.of]
  have e3 : (s.next x).run = tailRun x l + 1 := by
    show (if x = s.rider then s.run + 1 else 1) = _
    rw [ht.run x hx]
    by_cases hs : s.rider = x
    · rw [if_pos hs, if_pos hs.symm]
    · rw [if_neg hs, if_neg (fun e => hs e.symm)]; rfl
  have e4 : (s.next x).before = if x = s.rider then s.before else s.run := rfl
  have hb := rid_bound x l
  have e5 : ((s.next x).again && decide ((s.next x).before < (R.rider x).off)) = decide (0 ≤ (lastAt x l).2 ∧ (lastAt x l).2 < (l.length : Int) - 1 ∧ (l.length : Int) - 1 - (lastAt x l).2 < (R.rider x).off) := by
    rw [Bool.eq_iff_iff]
    simp only [St.again, e2, e3, e4, Bool.and_eq_true, decide_eq_true_eq]
    by_cases hn : l = []
    · subst hn
      obtain ⟨h1, h2⟩ := ht.none rfl
      rw [h1, h2]
      simp [lastAt]
      rcases hx with rfl | rfl <;> simp
    · have hw := ht.who hn
      have hl := ht.last x hx hn
      have hr := ht.run x hx
      rw [hl, hr]
      by_cases hs : s.rider = x
      · rw [if_pos hs, if_pos hs, if_pos hs.symm]
        constructor
        · intro h; omega
        · intro h; omega
      · rw [if_neg hs, if_neg hs, if_neg (fun e => hs e.symm)]
        have h2 := rid_two h
        have hfit : rid x l + s.run ≤ l.length := by
          rcases hw.1 with hr0 | hr0
          · have h3 := ht.run 0 (.inl rfl)
            have h4 := tailRun_rid 0 l
            rw [if_pos hr0] at h3
            have : x = 1 := by omega
            subst this; omega
          · have h3 := ht.run 1 (.inr rfl)
            have h4 := tailRun_rid 1 l
            rw [if_pos hr0] at h3
            have : x = 0 := by omega
            subst this; omega
        by_cases hp : 0 < rid x l
        · rw [if_pos hp]
          constructor
          · intro h; omega
          · intro h; omega
        · rw [if_neg hp]
          constructor
          · intro h; omega
          · intro h; omega
  unfold lawB broken
  rw [e0, e1, e2, e3, e5]
  simp only [decide_eq_true_eq]

/-- What is told of a plan: the first hour in which it breaks a rule, or that there is none. -/
theorem checkFrom_told (R : Rest) : ∀ (l : List Int) (pre : List Int) (h : Int), (pre.length : Int) = h →
    (checkFrom R (after pre) h l = (0, 0, 4) ∧ ∀ j, j < l.length → broken R ((after (pre ++ l.take j)).next (l.getD j 0)) = 0) ∨
    (∃ j : Nat, j < l.length ∧ checkFrom R (after pre) h l = (h + j, broken R ((after (pre ++ l.take j)).next (l.getD j 0)), 0) ∧ broken R ((after (pre ++ l.take j)).next (l.getD j 0)) ≠ 0 ∧ ∀ i, i < j → broken R ((after (pre ++ l.take i)).next (l.getD i 0)) = 0)
  | [], pre, h, _ => .inl ⟨rfl, fun j hj => by simp at hj⟩
  | x :: l, pre, h, hp => by
    unfold checkFrom
    by_cases hb : broken R ((after pre).next x) = 0
    · rw [if_pos hb, ← after_snoc]
      have ih := checkFrom_told R l (pre ++ [x]) (h + 1) (by simp; omega)
      have shift : ∀ j, pre ++ [x] ++ l.take j = pre ++ (x :: l).take (j + 1) := by intro j; simp
      rcases ih with ⟨h1, h2⟩ | ⟨j, hj, h1, h2, h3⟩
      · refine .inl ⟨h1, fun j hj => ?_⟩
        cases j with
        | zero => simpa using hb
        | succ j =>
          have := h2 j (by simpa using hj)
          rw [shift] at this
          simpa using this
      · refine .inr ⟨j + 1, by simpa using hj, ?_, ?_, ?_⟩
        · rw [shift] at h1
          rw [h1]
          simp only [List.getD_cons_succ, Prod.mk.injEq, and_true]
          omega
        · rw [shift] at h2
          simpa using h2
        · intro i hi
          cases i with
          | zero => simpa using hb
          | succ i =>
            have := h3 i (by omega)
            rw [shift] at this
            simpa using this
    · rw [if_neg hb]
      refine .inr ⟨0, by simp, by simp, by simpa using hb, fun i hi => by omega⟩

theorem broken_bd (R : Rest) (s : St) : 0 ≤ broken R s ∧ broken R s ≤ 4 := by
  unfold broken
  split
  · omega
  · split
    · omega
    · split
      · omega
      · split <;> omega

theorem check_told {R : Rest} (hv : R.valid = true) {Q : List Int} (hQ : ∀ x, x ∈ Q → x = 0 ∨ x = 1) (hl : (Q.length : Int) = R.hours) :
    (checkOf R Q = (0, 0, 4) ∧ ∀ j, j < Q.length → lawB R (Q.take j) (Q.getD j 0) = 0) ∨
    (∃ (j : Nat) (n : Int), j < Q.length ∧ checkOf R Q = ((j : Int), n, 0) ∧ 1 ≤ n ∧ n ≤ 4 ∧ lawB R (Q.take j) (Q.getD j 0) = n ∧ ∀ i, i < j → lawB R (Q.take i) (Q.getD i 0) = 0) := by
  have hk : planOk R Q = true := by
    unfold planOk
    have : Q.any badB = false := by
      rw [List.any_eq_false]
      intro x hx
      rcases hQ x hx with rfl | rfl <;> simp [badB, inB]
    rw [this]; simp [hl]
  have hc : checkOf R Q = checkFrom R St.begin 0 Q := by simp [checkOf, hv, hk]
  have e : ∀ j, j < Q.length → lawB R (Q.take j) (Q.getD j 0) = broken R ((after (Q.take j)).next (Q.getD j 0)) := fun j hj =>
    lawB_eq R (fun x hx => hQ x (List.mem_of_mem_take hx)) (getD_two hQ hj)
  rw [hc]
  have := checkFrom_told R Q [] 0 rfl
  simp only [List.nil_append] at this
  rcases this with ⟨h1, h2⟩ | ⟨j, hj, h1, h2, h3⟩
  · exact .inl ⟨h1, fun j hj => by rw [e j hj]; exact h2 j hj⟩
  · have hb := broken_bd R ((after (Q.take j)).next (Q.getD j 0))
    refine .inr ⟨j, _, hj, by rw [show St.begin = after [] from rfl, h1]; simp, by omega, hb.2, e j hj, fun i hi => by rw [e i (by omega)]; exact h3 i hi⟩

set_option maxRecDepth 100000 in
set_option maxHeartbeats 4000000 in
theorem lawBroken_0 (R : Rest) (hv : R.valid = true) (a : Option Addr) (cap : Nat) (Q : List Int) (h : Nat) (hlt : h < Q.length) (hl : Q.length ≤ 16) (hx : Q.getD h 0 = 0) (w : World) (hq : IntsAt w (.slice a Q.length cap) Q) :
    Calls Try.prog 34 #[restV R, .slice a Q.length cap, .int .i64 h] w fun e w' => e = .returned (.int .i64 (lawB R (Q.take h) 0)) ∧ Below w.heap.size w w' := by
  have ho := Rest.valid_ok hv
  obtain ⟨b, off, rfl, _, hc⟩ := intsAt_cell hq hlt
  obtain ⟨q0, q1, q2, q3, q4, q5, q6, q7⟩ := ho.1
  have hch := hc h hlt
  rw [hx] at hch
  have hc' := hid hc
  have lb := cell_lt hch
  have hlt2 : (h : Int) < Q.length := by omega
  have hW0 := hid (show Below w.heap.size w ((w.alloc (.cells #[.int .i64 R.hours, .int .i64 R.r0.out, .int .i64 R.r0.total, .int .i64 R.r0.run, .int .i64 R.r0.off, .int .i64 R.r1.out, .int .i64 R.r1.total, .int .i64 R.r1.run, .int .i64 R.r1.off] 26)).alloc (.cells #[.int .i64 R.r0.out, .int .i64 R.r0.total, .int .i64 R.r0.run, .int .i64 R.r0.off] 23)) from below_alloc (below_alloc (Below.refl _ _) _) _)
  clear hc hq ho hx
  go_enter Try.func34, Try.ntmps34
  go_wp2
  go_loopw [9, 10, 11, 22] (fun al la ru x wr => ∃ k : Nat, k ≤ h ∧ x = .int .i64 k ∧ al = .int .i64 (rid 0 (Q.take k)) ∧ la = .int .i64 (lastAt 0 (Q.take k)).2 ∧ ru = .int .i64 (tailRun 0 (Q.take k)) ∧ Hid (wr = ((w.alloc (.cells #[.int .i64 R.hours, .int .i64 R.r0.out, .int .i64 R.r0.total, .int .i64 R.r0.run, .int .i64 R.r0.off, .int .i64 R.r1.out, .int .i64 R.r1.total, .int .i64 R.r1.run, .int .i64 R.r1.off] 26)).alloc (.cells #[.int .i64 R.r0.out, .int .i64 R.r0.total, .int .i64 R.r0.run, .int .i64 R.r0.off] 23)))) (fun _ _ _ x _ => h - (intOf x).toNat)
  case atStart => exact ⟨0, by omega, rfl, rfl, rfl, rfl, hid rfl⟩
  case round =>
    obtain ⟨k, hk, rfl, rfl, rfl, rfl, hwr⟩ := hrel
    have hlen : (Q.take k).length = k := by simp; omega
    have b1 := rid_bound 0 (Q.take k)
    have b2 := lastAt_bd 0 (Q.take k)
    have b3 := tailRun_bd 0 (Q.take k)
    by_cases hlt3 : k < h
    · have s0 := take_one (xs := Q) (k := k) (by omega)
      have s1 := rid_append 0 (Q.take k) [Q.getD k 0]
      have s2 := lastAt_snoc 0 (Q.take k) (Q.getD k 0)
      have s3 := tailRun_snoc 0 (Q.take k) (Q.getD k 0)
      have s4 := lastAt_fst 0 (Q.take k)
      rw [← s0] at s1 s2 s3
      rw [hlen] at b1 b2 b3 s4
      have hck : wr.cell? ⟨b, off + k, none⟩ = some (.int .i64 (Q.getD k 0)) := by rw [hwr.out]; exact (hW0.out.cell (p := ⟨b, off + k, none⟩) lb).trans (hc'.out k (by omega))
      have hkq : (k : Int) < Q.length := by omega
      rw [s4] at s2
      generalize hr1 : rid 0 (Q.take k) = n1 at *
      generalize hr2 : (lastAt 0 (Q.take k)).2 = n2 at *
      generalize hr3 : tailRun 0 (Q.take k) = n3 at *
      generalize Q.getD k 0 = y at *
      have s1' := hid s1
      have s2' := hid s2
      have s3' := hid s3
      clear s0 s1 s2 s3 s4 hr1 hr2 hr3 hlen hch
      by_cases hy : y = 0
      · subst hy
        go_wp2
        go_roundw
        case rel => exact ⟨k + 1, by omega, by go_num, by rw [s1'.out]; simp [rid], by rw [s2'.out]; simp, by rw [s3'.out]; simp, hwr⟩
        case measure => simp [intOf]; omega
      · have hy2 : (y == 0) = false := by simpa using hy
        have hy' := hid hy
        clear hy
        go_wp2
        go_roundw
        case rel => exact ⟨k + 1, by omega, by go_num, by rw [s1'.out]; simp [rid, hy'.out], by rw [s2'.out]; simp [hy'.out], by rw [s3'.out]; simp [hy'.out], hwr⟩
        case measure => simp [intOf]; omega
    · obtain rfl : k = h := by omega
      rw [hlen] at b1 b2 b3
      have hL : lawB R (Q.take k) 0 = if hasBit R.r0.out k then 1 else if R.r0.total < rid 0 (Q.take k) + 1 then 2 else if R.r0.run < tailRun 0 (Q.take k) + 1 then 3 else if 0 ≤ (lastAt 0 (Q.take k)).2 ∧ (lastAt 0 (Q.take k)).2 < (k : Int) - 1 ∧ (k : Int) - 1 - (lastAt 0 (Q.take k)).2 < R.r0.off then 4 else 0 := by
        unfold lawB
        rw [hlen]
        rfl
      have hL' := hid hL
      have hcx := hid (cells_of (show wr.heap[w.heap.size + 1]? = some (.cells #[.int .i64 R.r0.out, .int .i64 R.r0.total, .int .i64 R.r0.run, .int .i64 R.r0.off] 23 (0, 0)) by rw [hwr.out]; exact alloc_at (by simp)))
      obtain ⟨lz, cz⟩ := hcx.out
      have hbel := hid (show Below w.heap.size w wr by rw [hwr.out]; exact hW0.out)
      clear hL hlen hch hcx
      generalize rid 0 (Q.take k) = n1 at *
      generalize (lastAt 0 (Q.take k)).2 = n2 at *
      generalize tailRun 0 (Q.take k) = n3 at *
      cases hA : hasBit R.r0.out k
      · have hA2 := bit_walk hA
        have hA' := hid hA
        clear hA
        by_cases h2 : R.r0.total < n1 + 1
        · have h2' := hid h2
          have hval := hid (show lawB R (Q.take k) 0 = 2 by rw [hL'.out, hA'.out]; simp [h2'.out])
          go_wp2
          go_ret
          exact ⟨ret_int hval.out.symm, hbel.out⟩
        · by_cases h3 : R.r0.run < n3 + 1
          · have h3' := hid h3
            have h2' := hid h2
            have hval := hid (show lawB R (Q.take k) 0 = 3 by rw [hL'.out, hA'.out]; simp [h2'.out, h3'.out])
            go_wp2
            go_ret
            exact ⟨ret_int hval.out.symm, hbel.out⟩
          · have h2' := hid h2
            have h3' := hid h3
            by_cases h4 : 0 ≤ n2
            · by_cases h5 : n2 < (k : Int) - 1
              · by_cases h6 : (k : Int) - 1 - n2 < R.r0.off
                · have h6' := hid (show 0 ≤ n2 ∧ n2 < (k : Int) - 1 ∧ (k : Int) - 1 - n2 < R.r0.off from ⟨h4, h5, h6⟩)
                  have hval := hid (show lawB R (Q.take k) 0 = 4 by rw [hL'.out, hA'.out, if_neg (by simp), if_neg h2'.out, if_neg h3'.out, if_pos h6'.out])
                  go_wp2
                  go_ret
                  exact ⟨ret_int hval.out.symm, hbel.out⟩
                · have h6' := hid (show ¬ (0 ≤ n2 ∧ n2 < (k : Int) - 1 ∧ (k : Int) - 1 - n2 < R.r0.off) from fun h => h6 h.2.2)
                  have hval := hid (show lawB R (Q.take k) 0 = 0 by rw [hL'.out, hA'.out, if_neg (by simp), if_neg h2'.out, if_neg h3'.out, if_neg h6'.out])
                  go_wp2
                  go_ret
                  exact ⟨ret_int hval.out.symm, hbel.out⟩
              · have h6' := hid (show ¬ (0 ≤ n2 ∧ n2 < (k : Int) - 1 ∧ (k : Int) - 1 - n2 < R.r0.off) from fun h => h5 h.2.1)
                have d5 : decide (n2 < (k : Int) - 1) = false := by simpa using h5
                have hval := hid (show lawB R (Q.take k) 0 = 0 by rw [hL'.out, hA'.out, if_neg (by simp), if_neg h2'.out, if_neg h3'.out, if_neg h6'.out])
                go_wp2
                go_ret
                exact ⟨ret_int hval.out.symm, hbel.out⟩
            · have h6' := hid (show ¬ (0 ≤ n2 ∧ n2 < (k : Int) - 1 ∧ (k : Int) - 1 - n2 < R.r0.off) from fun h => h4 h.1)
              have d4 : decide (0 ≤ n2) = false := by simpa using h4
              have hval := hid (show lawB R (Q.take k) 0 = 0 by rw [hL'.out, hA'.out, if_neg (by simp), if_neg h2'.out, if_neg h3'.out, if_neg h6'.out])
              go_wp2
              go_ret
              exact ⟨ret_int hval.out.symm, hbel.out⟩
      · have hA2 := bit_walk hA
        have hA' := hid hA
        clear hA
        have hval := hid (show lawB R (Q.take k) 0 = 1 by rw [hL'.out, hA'.out]; simp)
        go_wp2
        go_ret
        exact ⟨ret_int hval.out.symm, hbel.out⟩

set_option maxRecDepth 100000 in
set_option maxHeartbeats 4000000 in
theorem lawBroken_1 (R : Rest) (hv : R.valid = true) (a : Option Addr) (cap : Nat) (Q : List Int) (h : Nat) (hlt : h < Q.length) (hl : Q.length ≤ 16) (hx : Q.getD h 0 = 1) (w : World) (hq : IntsAt w (.slice a Q.length cap) Q) :
    Calls Try.prog 34 #[restV R, .slice a Q.length cap, .int .i64 h] w fun e w' => e = .returned (.int .i64 (lawB R (Q.take h) 1)) ∧ Below w.heap.size w w' := by
  have ho := Rest.valid_ok hv
  obtain ⟨b, off, rfl, _, hc⟩ := intsAt_cell hq hlt
  obtain ⟨q0, q1, q2, q3, q4, q5, q6, q7⟩ := ho.2
  have hch := hc h hlt
  rw [hx] at hch
  have hc' := hid hc
  have lb := cell_lt hch
  have hlt2 : (h : Int) < Q.length := by omega
  have hW0 := hid (show Below w.heap.size w ((w.alloc (.cells #[.int .i64 R.hours, .int .i64 R.r0.out, .int .i64 R.r0.total, .int .i64 R.r0.run, .int .i64 R.r0.off, .int .i64 R.r1.out, .int .i64 R.r1.total, .int .i64 R.r1.run, .int .i64 R.r1.off] 26)).alloc (.cells #[.int .i64 R.r1.out, .int .i64 R.r1.total, .int .i64 R.r1.run, .int .i64 R.r1.off] 23)) from below_alloc (below_alloc (Below.refl _ _) _) _)
  clear hc hq ho hx
  go_enter Try.func34, Try.ntmps34
  go_wp2
  go_loopw [9, 10, 11, 22] (fun al la ru x wr => ∃ k : Nat, k ≤ h ∧ x = .int .i64 k ∧ al = .int .i64 (rid 1 (Q.take k)) ∧ la = .int .i64 (lastAt 1 (Q.take k)).2 ∧ ru = .int .i64 (tailRun 1 (Q.take k)) ∧ Hid (wr = ((w.alloc (.cells #[.int .i64 R.hours, .int .i64 R.r0.out, .int .i64 R.r0.total, .int .i64 R.r0.run, .int .i64 R.r0.off, .int .i64 R.r1.out, .int .i64 R.r1.total, .int .i64 R.r1.run, .int .i64 R.r1.off] 26)).alloc (.cells #[.int .i64 R.r1.out, .int .i64 R.r1.total, .int .i64 R.r1.run, .int .i64 R.r1.off] 23)))) (fun _ _ _ x _ => h - (intOf x).toNat)
  case atStart => exact ⟨0, by omega, rfl, rfl, rfl, rfl, hid rfl⟩
  case round =>
    obtain ⟨k, hk, rfl, rfl, rfl, rfl, hwr⟩ := hrel
    have hlen : (Q.take k).length = k := by simp; omega
    have b1 := rid_bound 1 (Q.take k)
    have b2 := lastAt_bd 1 (Q.take k)
    have b3 := tailRun_bd 1 (Q.take k)
    by_cases hlt3 : k < h
    · have s0 := take_one (xs := Q) (k := k) (by omega)
      have s1 := rid_append 1 (Q.take k) [Q.getD k 0]
      have s2 := lastAt_snoc 1 (Q.take k) (Q.getD k 0)
      have s3 := tailRun_snoc 1 (Q.take k) (Q.getD k 0)
      have s4 := lastAt_fst 1 (Q.take k)
      rw [← s0] at s1 s2 s3
      rw [hlen] at b1 b2 b3 s4
      have hck : wr.cell? ⟨b, off + k, none⟩ = some (.int .i64 (Q.getD k 0)) := by rw [hwr.out]; exact (hW0.out.cell (p := ⟨b, off + k, none⟩) lb).trans (hc'.out k (by omega))
      have hkq : (k : Int) < Q.length := by omega
      rw [s4] at s2
      generalize hr1 : rid 1 (Q.take k) = n1 at *
      generalize hr2 : (lastAt 1 (Q.take k)).2 = n2 at *
      generalize hr3 : tailRun 1 (Q.take k) = n3 at *
      generalize Q.getD k 0 = y at *
      have s1' := hid s1
      have s2' := hid s2
      have s3' := hid s3
      clear s0 s1 s2 s3 s4 hr1 hr2 hr3 hlen hch
      by_cases hy : y = 1
      · subst hy
        go_wp2
        go_roundw
        case rel => exact ⟨k + 1, by omega, by go_num, by rw [s1'.out]; simp [rid], by rw [s2'.out]; simp, by rw [s3'.out]; simp, hwr⟩
        case measure => simp [intOf]; omega
      · have hy2 : (y == 1) = false := by simpa using hy
        have hy' := hid hy
        clear hy
        go_wp2
        go_roundw
        case rel => exact ⟨k + 1, by omega, by go_num, by rw [s1'.out]; simp [rid, hy'.out], by rw [s2'.out]; simp [hy'.out], by rw [s3'.out]; simp [hy'.out], hwr⟩
        case measure => simp [intOf]; omega
    · obtain rfl : k = h := by omega
      rw [hlen] at b1 b2 b3
      have hL : lawB R (Q.take k) 1 = if hasBit R.r1.out k then 1 else if R.r1.total < rid 1 (Q.take k) + 1 then 2 else if R.r1.run < tailRun 1 (Q.take k) + 1 then 3 else if 0 ≤ (lastAt 1 (Q.take k)).2 ∧ (lastAt 1 (Q.take k)).2 < (k : Int) - 1 ∧ (k : Int) - 1 - (lastAt 1 (Q.take k)).2 < R.r1.off then 4 else 0 := by
        unfold lawB
        rw [hlen]
        rfl
      have hL' := hid hL
      have hcx := hid (cells_of (show wr.heap[w.heap.size + 1]? = some (.cells #[.int .i64 R.r1.out, .int .i64 R.r1.total, .int .i64 R.r1.run, .int .i64 R.r1.off] 23 (0, 0)) by rw [hwr.out]; exact alloc_at (by simp)))
      obtain ⟨lz, cz⟩ := hcx.out
      have hbel := hid (show Below w.heap.size w wr by rw [hwr.out]; exact hW0.out)
      clear hL hlen hch hcx
      generalize rid 1 (Q.take k) = n1 at *
      generalize (lastAt 1 (Q.take k)).2 = n2 at *
      generalize tailRun 1 (Q.take k) = n3 at *
      cases hA : hasBit R.r1.out k
      · have hA2 := bit_walk hA
        have hA' := hid hA
        clear hA
        by_cases h2 : R.r1.total < n1 + 1
        · have h2' := hid h2
          have hval := hid (show lawB R (Q.take k) 1 = 2 by rw [hL'.out, hA'.out]; simp [h2'.out])
          go_wp2
          go_ret
          exact ⟨ret_int hval.out.symm, hbel.out⟩
        · by_cases h3 : R.r1.run < n3 + 1
          · have h3' := hid h3
            have h2' := hid h2
            have hval := hid (show lawB R (Q.take k) 1 = 3 by rw [hL'.out, hA'.out]; simp [h2'.out, h3'.out])
            go_wp2
            go_ret
            exact ⟨ret_int hval.out.symm, hbel.out⟩
          · have h2' := hid h2
            have h3' := hid h3
            by_cases h4 : 0 ≤ n2
            · by_cases h5 : n2 < (k : Int) - 1
              · by_cases h6 : (k : Int) - 1 - n2 < R.r1.off
                · have h6' := hid (show 0 ≤ n2 ∧ n2 < (k : Int) - 1 ∧ (k : Int) - 1 - n2 < R.r1.off from ⟨h4, h5, h6⟩)
                  have hval := hid (show lawB R (Q.take k) 1 = 4 by rw [hL'.out, hA'.out, if_neg (by simp), if_neg h2'.out, if_neg h3'.out, if_pos h6'.out])
                  go_wp2
                  go_ret
                  exact ⟨ret_int hval.out.symm, hbel.out⟩
                · have h6' := hid (show ¬ (0 ≤ n2 ∧ n2 < (k : Int) - 1 ∧ (k : Int) - 1 - n2 < R.r1.off) from fun h => h6 h.2.2)
                  have hval := hid (show lawB R (Q.take k) 1 = 0 by rw [hL'.out, hA'.out, if_neg (by simp), if_neg h2'.out, if_neg h3'.out, if_neg h6'.out])
                  go_wp2
                  go_ret
                  exact ⟨ret_int hval.out.symm, hbel.out⟩
              · have h6' := hid (show ¬ (0 ≤ n2 ∧ n2 < (k : Int) - 1 ∧ (k : Int) - 1 - n2 < R.r1.off) from fun h => h5 h.2.1)
                have d5 : decide (n2 < (k : Int) - 1) = false := by simpa using h5
                have hval := hid (show lawB R (Q.take k) 1 = 0 by rw [hL'.out, hA'.out, if_neg (by simp), if_neg h2'.out, if_neg h3'.out, if_neg h6'.out])
                go_wp2
                go_ret
                exact ⟨ret_int hval.out.symm, hbel.out⟩
            · have h6' := hid (show ¬ (0 ≤ n2 ∧ n2 < (k : Int) - 1 ∧ (k : Int) - 1 - n2 < R.r1.off) from fun h => h4 h.1)
              have d4 : decide (0 ≤ n2) = false := by simpa using h4
              have hval := hid (show lawB R (Q.take k) 1 = 0 by rw [hL'.out, hA'.out, if_neg (by simp), if_neg h2'.out, if_neg h3'.out, if_neg h6'.out])
              go_wp2
              go_ret
              exact ⟨ret_int hval.out.symm, hbel.out⟩
      · have hA2 := bit_walk hA
        have hA' := hid hA
        clear hA
        have hval := hid (show lawB R (Q.take k) 1 = 1 by rw [hL'.out, hA'.out]; simp)
        go_wp2
        go_ret
        exact ⟨ret_int hval.out.symm, hbel.out⟩

theorem lawBroken_any (R : Rest) (hv : R.valid = true) (a : Option Addr) (cap : Nat) (Q : List Int) (h : Nat) (hlt : h < Q.length) (hl : Q.length ≤ 16) (hQ : ∀ x, x ∈ Q → x = 0 ∨ x = 1) (w : World) (hq : IntsAt w (.slice a Q.length cap) Q) :
    Calls Try.prog 34 #[restV R, .slice a Q.length cap, .int .i64 h] w fun e w' => e = .returned (.int .i64 (lawB R (Q.take h) (Q.getD h 0))) ∧ Below w.heap.size w w' := by
  rcases getD_two hQ hlt with hx | hx
  · rw [hx]; exact lawBroken_0 R hv a cap Q h hlt hl hx w hq
  · rw [hx]; exact lawBroken_1 R hv a cap Q h hlt hl hx w hq

end Go.Proofs.Ytkgdejhooghknaa

namespace Go.Proofs.Ytkgdejhooghknaa
open Go.RowKit Go.Lap Go.Shelf

theorem wpList_append_ints {w : World} {ops : Array Oper} {rest : List Oper} {o : Oper} {a : Act} {Q : Exit → Act → World → Prop} (hgd : o.guard = none) (s x : Operand)
    (ho : o.op = .call { callee := .builtin .append, args := #[s, x], argTypes := #[27, 27] }) (B : Nat) (v : Value) (xs ys : List Int) (hs : a.eval s = v) (hown : OwnRow B w v xs)
    (ad : Addr) (m c : Nat) (hx : a.eval x = .slice (some ad) m c) (hm : ys.length = m) (hys : ∀ j, j < ys.length → w.cell? (ad.add j) = some (.int .i64 (ys.getD j 0))) (hlen : xs.length + ys.length ≤ 1000) (hB : B ≤ w.heap.size)
    (h : ∀ v' w', OwnRow B w' v' (xs ++ ys) → Below B w w' → (v ≠ .slice none 0 0 → ∃ g cap, v' = .slice (some ⟨g, 0, none⟩) (xs ++ ys).length cap ∧ (xs ++ ys).length ≤ cap) → wpList Try.prog ops Q rest (a.put o.dst v') w') : wpList Try.prog ops Q (o :: rest) a w := by
  obtain ⟨i0, hi3, hz0, hz1, hz2⟩ := info_parts info3
  subst hm
  refine wpList_append_own _ hgd s x 27 ho B 3 i0 (.int .i64 0) 1 8 Try.underlying27 hi3 hz0 hz1 hz2 rfl (by decide) v xs.length (xs.map (Value.int .i64)) hs hown ad ys.length c (ys.map (Value.int .i64)) hx (by simp) ?_ ?_ (by unfold maxLen; omega) (by omega) hB ?_
  · intro j u hj
    have hj2 : j < ys.length := by
      have := (List.getElem?_eq_some_iff.1 hj).1
      simpa using this
    rw [hys j hj2]
    simpa [hj2] using hj
  · intro u hu
    obtain ⟨y, _, rfl⟩ := List.mem_map.1 hu
    rfl
  · intro v' w' hown' hg hv
    have h1 : OwnRow B w' v' (xs ++ ys) := by
      show w'.ownsRow B 3 1 v' (xs ++ ys).length ((xs ++ ys).map (Value.int .i64))
      rw [List.length_append, List.map_append]
      exact hown'
    refine h v' w' h1 (grown_below hown hg hB) (fun hne => ?_)
    rcases h1.2 with ⟨e, _⟩ | ⟨g, cap, _, e, _, _, hc, _⟩
    · exact (hne (hv.1 e).1).elim
    · exact ⟨g, cap, e, hc⟩

theorem ownRow_zero {B : Nat} {w : World} (hB : B ≤ w.heap.size) : OwnRow B (w.alloc (.cells #[] 3)) (.slice (some ⟨w.heap.size, 0, none⟩) 0 0) [] := World.ownsRow_made w #[] 0 hB (by decide) rfl
theorem ownRow_one {B : Nat} {w : World} (x : Int) (hB : B ≤ w.heap.size) : OwnRow B (w.alloc (.cells #[.int .i64 x] 3)) (.slice (some ⟨w.heap.size, 0, none⟩) 1 1) [x] :=
  ⟨rfl, .inr ⟨w.heap.size, 1, _, rfl, hB, alloc_at rfl, Nat.le_refl _, by decide, rfl, rfl⟩⟩
theorem ownRow_trunc {B g n cap m : Nat} {w : World} {xs : List Int} (h : OwnRow B w (.slice (some ⟨g, 0, none⟩) n cap) xs) (hm : m ≤ xs.length) : OwnRow B w (.slice (some ⟨g, 0, none⟩) m cap) (xs.take m) := by
  have e : (xs.take m).length = m := by simp; omega
  rcases h.2 with ⟨e, _⟩ | ⟨g', cap', cur, e', hg0, hg, hc, hc2, hs, ht⟩
  · cases e
  · cases e'
    show w.ownsRow B 3 1 _ _ _
    rw [e]
    refine ⟨by simp; omega, .inr ⟨g, cap, cur, rfl, hg0, hg, by omega, hc2, hs, ?_⟩⟩
    rw [Nat.mul_one] at ht ⊢
    rw [List.map_take, ← ht, List.take_take, Nat.min_eq_left hm]
theorem addr_add (b j : Nat) : (⟨b, 0, none⟩ : Addr).add j = ⟨b, j, none⟩ := by unfold Addr.add; split <;> simp_all
theorem block_src {W : World} {b : Nat} {xs : List Int} (h : W.heap[b]? = some (.cells (intsV xs) 3 (0, 0))) : ∀ j, j < xs.length → W.cell? ((⟨b, 0, none⟩ : Addr).add j) = some (.int .i64 (xs.getD j 0)) := by
  intro j hj
  rw [addr_add, (cells_of h).2]
  simp [intsV, hj]
theorem one_src (w : World) (x : Int) : ∀ j, j < [x].length → (w.alloc (.cells #[.int .i64 x] 3)).cell? ((⟨w.heap.size, 0, none⟩ : Addr).add j) = some (.int .i64 ([x].getD j 0)) := by
  intro j hj
  obtain rfl : j = 0 := by simpa using hj
  rw [addr_add, World.cell?_alloc_at _ _ _ _ rfl]; rfl

theorem check_refuses {R : Rest} (hv : R.valid = true) {xs : List Int} (h : planOk R xs = false) : checkOf R xs = (0, 0, 2) := by simp [checkOf, hv, h]
theorem planOk_long {R : Rest} {xs : List Int} (h : (xs.length : Int) ≠ R.hours) : planOk R xs = false := by simp [planOk, h]
theorem planOk_bad {R : Rest} {xs : List Int} {x : Int} (h : x ∈ xs) (hx : x < 0 ∨ 1 < x) : planOk R xs = false := by
  have : xs.any badB = true := List.any_eq_true.2 ⟨x, h, by simp [badB, inB]; omega⟩
  simp [planOk, this]

end Go.Proofs.Ytkgdejhooghknaa
