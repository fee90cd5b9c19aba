/- What is kept on the way of a law: the rest's block, and two lists of integers. -/
import Derived.Test.YtkgdejhooghknaaT3
namespace Go.Proofs.Ytkgdejhooghknaa
open Go.RowKit Go.Lap Go.Shelf

theorem need_succ (R : Rest) (k : Nat) : need R (k + 1) = if hasBit R.r0.out k = hasBit R.r1.out k then need R k
    else (if hasBit R.r0.out k then 1 else 0, if 0 ≤ (need R k).1 ∧ (if hasBit R.r0.out k then 1 else 0) ≠ (need R k).1 then (need R k).2 + 1 else (need R k).2) := rfl
theorem bit_walk {x : Int} {k : Nat} {b : Bool} (h : hasBit x k = b) : (x / 2 ^ k % 2 == 1) = b := by
  have h1 : (x >>> (k : Int).toNat % 2 == 1) = b := h
  rw [Int.shiftRight_eq_div_pow] at h1
  simpa using h1

theorem newInts_at {B : Nat} {W : World} {sv : Value} {xs : List Int} (h : NewInts B W sv xs) : IntsAt W sv xs := OwnInts.at (.inr h)

theorem intsAt_dest {w : World} {v : Value} {xs : List Int} (h : IntsAt w v xs) : ∃ a cap, v = .slice a xs.length cap ∧ IntsAt w (.slice a xs.length cap) xs := by
  obtain ⟨a, cap, rfl, hx⟩ := h
  exact ⟨a, cap, rfl, a, cap, rfl, hx⟩

theorem intsAt_cell {w : World} {a : Option Addr} {n cap : Nat} {xs : List Int} (h : IntsAt w (.slice a n cap) xs) {k : Nat} (hk : k < xs.length) :
    ∃ b off, a = some ⟨b, off, none⟩ ∧ n = xs.length ∧ ∀ j, j < xs.length → w.cell? ⟨b, off + j, none⟩ = some (.int .i64 (xs.getD j 0)) := by
  obtain ⟨b, off, cap', e, _, hc⟩ := h.some (fun e => by rw [e] at hk; simp at hk)
  cases e
  exact ⟨b, off, rfl, rfl, hc⟩

/-- The rest's block lies as it did. -/
structure KeepR (w : World) (R : Rest) (W : World) : Prop where
  bel : Below w.heap.size w W
  x : W.heap[w.heap.size]? = some (.cells #[.int .i64 R.hours, .int .i64 R.r0.out, .int .i64 R.r0.total, .int .i64 R.r0.run, .int .i64 R.r0.off, .int .i64 R.r1.out, .int .i64 R.r1.total, .int .i64 R.r1.run, .int .i64 R.r1.off] 26 (0, 0))
theorem KeepR.below {w : World} {R : Rest} {W W' : World} (h : KeepR w R W) (hb : Below W.heap.size W W') : KeepR w R W' :=
  ⟨below_via hb h.bel, (hb.block _ (cells_of h.x).1).trans h.x⟩
theorem KeepR.start (w : World) (R : Rest) : KeepR w R (w.alloc (.cells #[.int .i64 R.hours, .int .i64 R.r0.out, .int .i64 R.r0.total, .int .i64 R.r0.run, .int .i64 R.r0.off, .int .i64 R.r1.out, .int .i64 R.r1.total, .int .i64 R.r1.run, .int .i64 R.r1.off] 26)) := ⟨below_alloc (Below.refl _ _) _, alloc_at rfl⟩

/-- And a list, and another one. -/
structure KeepP (w : World) (R : Rest) (pv : Value) (P : List Int) (W : World) : Prop where
  r : KeepR w R W
  p : IntsAt W pv P
theorem KeepP.below {w : World} {R : Rest} {pv : Value} {P : List Int} {W W' : World} (h : KeepP w R pv P W) (hb : Below W.heap.size W W') : KeepP w R pv P W' := ⟨h.r.below hb, h.p.below hb⟩
theorem KeepR.plus {w : World} {R : Rest} {v : Value} {xs : List Int} {W W' : World} (h : KeepR w R W) (hb : Below W.heap.size W W') (hn : IntsAt W' v xs) : KeepP w R v xs W' := ⟨h.below hb, hn⟩
structure KeepQ (w : World) (R : Rest) (pv : Value) (P : List Int) (qv : Value) (Q : List Int) (W : World) : Prop where
  r : KeepR w R W
  p : IntsAt W pv P
  q : IntsAt W qv Q
theorem KeepQ.below {w : World} {R : Rest} {pv qv : Value} {P Q : List Int} {W W' : World} (h : KeepQ w R pv P qv Q W) (hb : Below W.heap.size W W') : KeepQ w R pv P qv Q W' := ⟨h.r.below hb, h.p.below hb, h.q.below hb⟩
theorem KeepP.plus {w : World} {R : Rest} {pv v : Value} {P xs : List Int} {W W' : World} (h : KeepP w R pv P W) (hb : Below W.heap.size W W') (hn : IntsAt W' v xs) : KeepQ w R pv P v xs W' := ⟨h.r.below hb, h.p.below hb, hn⟩

theorem fewest_as {R : Rest} {k e : Int} {p : List Int} (h : planR R changesG = (k, p, e)) (w : World) :
    Calls Try.prog 21 #[restV R] w fun e' w' => ∃ a cap, e' = .returned (.tuple #[.int .i64 k, .slice a p.length cap, .int .i64 e]) ∧ IntsAt w' (.slice a p.length cap) p ∧ Below w.heap.size w w' := by
  have := Fewest_any R w
  rw [h] at this
  exact this.mono fun e' w' ⟨sv, he, hn, hb⟩ => by
    obtain ⟨a, cap, rfl, h2⟩ := intsAt_dest hn.at
    exact ⟨a, cap, he, h2, hb⟩
theorem even_as {R : Rest} {k e : Int} {p : List Int} (h : planR R evenG = (k, p, e)) (w : World) :
    Calls Try.prog 23 #[restV R] w fun e' w' => ∃ a cap, e' = .returned (.tuple #[.int .i64 k, .slice a p.length cap, .int .i64 e]) ∧ IntsAt w' (.slice a p.length cap) p ∧ Below w.heap.size w w' := by
  have := Even_any R w
  rw [h] at this
  exact this.mono fun e' w' ⟨sv, he, hn, hb⟩ => by
    obtain ⟨a, cap, rfl, h2⟩ := intsAt_dest hn.at
    exact ⟨a, cap, he, h2, hb⟩
theorem by_as (n b : Int) (h0 : 0 ≤ n) (h1 : n ≤ 16) (hb0 : 0 ≤ b) (w : World) :
    Calls Try.prog 33 #[.int .i64 n, .int .u16 b] w fun e w' => ∃ a cap, e = .returned (.slice a n.toNat cap) ∧ IntsAt w' (.slice a n.toNat cap) (bitsL n.toNat b) ∧ Below w.heap.size w w' :=
  (by_any n b h0 h1 hb0 w).mono fun e' w' ⟨sv, he, hn, hb⟩ => by
    obtain ⟨a, cap, rfl, h2⟩ := intsAt_dest (newInts_at hn)
    rw [bitsL_length] at h2 he
    exact ⟨a, cap, he, h2, hb⟩
theorem by_list {n b : Int} {Q : List Int} (hQ : bitsL n.toNat b = Q) (h0 : 0 ≤ n) (h1 : n ≤ 16) (hb0 : 0 ≤ b) (w : World) :
    Calls Try.prog 33 #[.int .i64 n, .int .u16 b] w fun e w' => ∃ a cap, e = .returned (.slice a Q.length cap) ∧ IntsAt w' (.slice a Q.length cap) Q ∧ Below w.heap.size w w' :=
  (by_any n b h0 h1 hb0 w).mono fun e' w' ⟨sv, he, hn, hb⟩ => by
    subst hQ
    obtain ⟨a, cap, rfl, h2⟩ := intsAt_dest (newInts_at hn)
    exact ⟨a, cap, he, h2, hb⟩
theorem count_as {R : Rest} {a e : Int} (h : countR R = (a, e)) (w : World) : Calls Try.prog 17 #[restV R] w fun e' w' => e' = .returned (.tuple #[.int .i64 a, .int .i64 e]) ∧ Below w.heap.size w w' := by
  have := Count_any R w
  rw [h] at this; exact this
theorem until_as {R : Rest} {a e : Int} (h : untilR R = (a, e)) (w : World) : Calls Try.prog 19 #[restV R] w fun e' w' => e' = .returned (.tuple #[.int .i64 a, .int .i64 e]) ∧ Below w.heap.size w w' := by
  have := Until_any R w
  rw [h] at this; exact this
theorem must_as {R : Rest} {a b e : Int} (h : mustR R = (a, b, e)) (w : World) : Calls Try.prog 28 #[restV R] w fun e' w' => e' = .returned (.tuple #[.int .i64 a, .int .i64 b, .int .i64 e]) ∧ Below w.heap.size w w' := by
  have := Must_any R w
  rw [h] at this; exact this
theorem hours_as {R : Rest} {r a b e : Int} (h : hoursR R r = ((a, b), e)) (w : World) : Calls Try.prog 26 #[restV R, .int .i64 r] w fun e' w' => e' = .returned (.tuple #[.agg #[.int .i64 a, .int .i64 b], .int .i64 e]) ∧ Below w.heap.size w w' := by
  have := Hours_any R r w
  rw [h] at this; exact this
theorem valid_as {R : Rest} {b : Bool} (h : R.valid = b) (w : World) : Calls Try.prog 32 #[restV R] w fun e' w' => e' = .returned (.bool b) ∧ Below w.heap.size w w' := by
  have := refRest_any R w
  rw [h] at this; exact this
theorem right_as {R : Rest} {v : Value} {xs : List Int} {b : Bool} (h : rightB R xs = b) (hl : xs.length ≤ 1000) (w : World) (hx : IntsAt w v xs) : Calls Try.prog 35 #[restV R, v] w fun e' w' => e' = .returned (.bool b) ∧ Below w.heap.size w w' := by
  have := right_any R v xs hl w hx
  rw [h] at this; exact this
theorem planRef_as {R : Rest} {v : Value} {xs : List Int} {b : Bool} (h : planOk R xs = b) (hl : xs.length ≤ 1000) (w : World) (hx : IntsAt w v xs) : Calls Try.prog 36 #[restV R, v] w fun e' w' => e' = .returned (.bool b) ∧ Below w.heap.size w w' := by
  have := plan_ref R v xs hl w hx
  rw [h] at this; exact this
theorem changes_as {v : Value} {xs : List Int} {k : Int} (h : chg xs = k) (hl : xs.length ≤ 1000) (w : World) (hx : IntsAt w v xs) : Calls Try.prog 37 #[v] w fun e' w' => e' = .returned (.int .i64 k) ∧ Below w.heap.size w w' := by
  have := changes_ref v xs hl w hx
  rw [h] at this; exact this
theorem difference_as {v : Value} {xs : List Int} {k : Int} (h : dif xs = k) (hl : xs.length ≤ 1000) (w : World) (hx : IntsAt w v xs) : Calls Try.prog 38 #[v] w fun e' w' => e' = .returned (.int .i64 k) ∧ Below w.heap.size w w' := by
  have := difference_any v xs hl w hx
  rw [h] at this; exact this
theorem rides_as {v : Value} {xs : List Int} {r k : Int} (h : rid r xs = k) (hl : xs.length ≤ 1000) (w : World) (hx : IntsAt w v xs) : Calls Try.prog 39 #[v, .int .i64 r] w fun e' w' => e' = .returned (.int .i64 k) ∧ Below w.heap.size w w' := by
  have := rides_any v xs r hl w hx
  rw [h] at this; exact this

end Go.Proofs.Ytkgdejhooghknaa
