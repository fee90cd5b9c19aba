/- A region in which calls, boxes and stores come in any order: one operation at a time, with a frame that is a variable. What is kept while the laws of layer 10 run. Two mends that two calls make, laid into two boxes, in whatever order. -/
import Derived.Test.YtcgkglonnmkfcaaR5
import Derived.OrdersHeld
import Derived.Test.YtcgkglonnmkfcaaGK
namespace Go.Proofs.Ytcgkglonnmkfcaa
open Go.RowKit Go.Lap Go.Shelf

section
variable {ops : Array Oper} {Q : Exit → Act → World → Prop} {K : Act → World → Prop} {S : World → Prop} {a : Act} {w : World} {ty : TypeId} {pos : String} {af : Array Edge}

theorem wpOp_of {i : Nat} {o : Oper} (hi : ops[i]? = some o) (hg : o.guard = none) (h : o.wp Try.prog a w K Q) : wpOp Try.prog ops Q i K a w := by
  unfold wpOp
  rw [hi]
  simp only [Region.wanted, hg, if_true]
  exact Or.inl h

theorem op_box {d : Nat} (h : K (a.put (some d) (.pointer (some ⟨w.heap.size, 0, none⟩))) (w.alloc (.cells #[.slice none 0 0, .slice none 0 0] 25))) :
    ({ dst := some d, op := .alloc 25, type := ty, pos := pos, after := af, guard := none } : Oper).wp Try.prog a w K Q := by
  unfold Oper.wp
  go_simp
  exact h
theorem op_call2 {d f : Nat} {x y : Operand} {ts : Array TypeId} {u v : Value} (hf : ∀ args w, (callFunc f args).run Try.prog w = .ok (.enter f args) w) (hx : a.eval x = u) (hy : a.eval y = v) {R : Ending → World → Prop} (h : Calls Try.prog f #[u, v] w R) (hR : ∀ e w', R e w' → ∃ r, e = .returned r ∧ K (a.put (some d) r) w') :
    ({ dst := some d, op := .call { callee := .value (.func f), args := #[x, y], argTypes := ts }, type := ty, pos := pos, after := af, guard := none } : Oper).wp Try.prog a w K Q := by
  have hr : (execOp a.eval { dst := some d, op := .call { callee := .value (.func f), args := #[x, y], argTypes := ts }, type := ty, pos := pos, after := af, guard := none }).run Try.prog w = .ok (.enter f #[u, v]) w := by
    rw [← hx, ← hy]
    simp [Act.eval, go_sem, hf]
  unfold Oper.wp
  rw [hr]
  simp only [Oper.upon]
  refine h.mono fun e w' he => ?_
  obtain ⟨r, rfl, hk⟩ := hR e w' he
  exact hk
theorem op_put25 {x y b n1 n2 k1 k2 : Nat} {a1 a2 : Option Addr} {z1 z2 : Value} (hx : a.eval (.tmp x) = .pointer (some ⟨b, 0, none⟩)) (hy : a.eval (.tmp y) = .agg #[.slice a1 n1 k1, .slice a2 n2 k2]) (hb : w.heap[b]? = some (.cells #[z1, z2] 25 (0, 0)))
    (h : K a ((w.setCell ⟨b, 0, none⟩ (.slice a1 n1 k1)).setCell ⟨b, 1, none⟩ (.slice a2 n2 k2))) :
    ({ dst := none, op := .store 25 (.tmp x) (.tmp y), type := ty, pos := pos, after := af, guard := none } : Oper).wp Try.prog a w K Q := by
  have hr : (Instr.storeAt 25 (.pointer (some ⟨b, 0, none⟩)) (.agg #[.slice a1 n1 k1, .slice a2 n2 k2])).run Try.prog w = .ok () ((w.setCell ⟨b, 0, none⟩ (.slice a1 n1 k1)).setCell ⟨b, 1, none⟩ (.slice a2 n2 k2)) := by
    have l1 := (cells_of hb).1
    have c1 := (cells_of hb).2
    have z1 := free_of hb
    go_simp
  unfold Oper.wp
  simp only [execOp, hx, hy, Sem.run_bind, hr]
  exact h
theorem yields_load25 {d x b : Nat} {v1 v2 : Value} (hx : a.eval (.tmp x) = .pointer (some ⟨b, 0, none⟩)) (hS : ∀ W, S W → W.heap[b]? = some (.cells #[v1, v2] 25 (0, 0))) :
    YieldsIf Try.prog ops S { dst := some d, op := .load 25 (.tmp x), type := ty, pos := pos, after := af, guard := none } (.agg #[v1, v2]) a := by
  refine Or.inl ⟨by simp [Region.wanted], fun W hW => ?_⟩
  have hb := hS W hW
  have hr : (Instr.loadAt 25 (.pointer (some ⟨b, 0, none⟩))).run Try.prog W = .ok (.agg #[v1, v2]) W := by
    have l1 := (cells_of hb).1
    have c1 := (cells_of hb).2
    go_simp
  simp only [execOp, hx, Sem.run_bind, hr]
  rfl
theorem yields_move {d x : Nat} {v : Value} (hx : a.eval (.tmp x) = v) :
    YieldsIf Try.prog ops S { dst := some d, op := .move (.tmp x), type := ty, pos := pos, after := af, guard := none } v a := by
  refine Or.inl ⟨by simp [Region.wanted], fun W hW => ?_⟩
  simp only [execOp, hx]
  rfl
theorem yields_one {d x : Nat} {n : Int} (hx : a.eval (.tmp x) = .int .i64 n) (hn : IntKind.i64.wrap (n + 1) = n + 1) :
    YieldsIf Try.prog ops S { dst := some d, op := .binOp .add 3 (.tmp x) (.const (.int .i64 1)) 3, type := ty, pos := pos, after := af, guard := none } (.int .i64 (n + 1)) a := by
  refine Or.inl ⟨by simp [Region.wanted], fun W hW => ?_⟩
  simp only [execOp, hx]
  go_simp
theorem eval_same {d : Nat} {v : Value} (h : d < a.tmps.size) : (a.put (some d) v).eval (.tmp d) = v := by
  simp [Act.put, Act.eval, h]
theorem eval_other {d t : Nat} {v u : Value} (hne : d ≠ t) (h : a.eval (.tmp t) = u) : (a.put (some d) v).eval (.tmp t) = u := by
  rw [← h]
  exact Act.eval_put (fun e he => by cases he; simp; exact fun e => hne e.symm)
theorem size_put {d : Nat} {v : Value} : (a.put (some d) v).tmps.size = a.tmps.size := by simp [Act.put]
end
/-- A store into a box of two slices leaves rows of jobs as they are. -/
theorem JobsAt.box {W : World} {v u : Value} {L : List Job} {b o n1 n2 k1 k2 : Nat} {a1 a2 : Option Addr} (h : JobsAt W v L) (hb : W.heap[b]? = some (.cells #[.slice a1 n1 k1, .slice a2 n2 k2] 25 (0, 0))) : JobsAt (W.setCell ⟨b, o, none⟩ u) v L := by
  obtain ⟨a, cap, rfl, hx⟩ := h
  refine ⟨a, cap, rfl, fun hne => ?_⟩
  obtain ⟨jb, off, rfl, hc⟩ := hx hne
  refine ⟨jb, off, rfl, fun k hk f hf => ?_⟩
  have h1 := hc k hk f hf
  have hne : jb ≠ b := by
    rintro rfl
    rw [(cells_of hb).2] at h1
    generalize off + k * 8 + f = x at h1
    match x, h1 with
    | 0, h1 => simp at h1
    | 1, h1 => simp at h1
    | x + 2, h1 => simp at h1
  have h2 := Below.heap_setCell W ⟨b, o, none⟩ u jb hne
  rw [World.cell?] at h1 ⊢
  simp only [h2]
  exact h1
theorem JobsAt.box2 {W : World} {v : Value} {L : List Job} {b n1 n2 k1 k2 m1 m2 l1 l2 : Nat} {a1 a2 c1 c2 : Option Addr} (h : JobsAt W v L) (hb : W.heap[b]? = some (.cells #[.slice a1 n1 k1, .slice a2 n2 k2] 25 (0, 0))) : JobsAt ((W.setCell ⟨b, 0, none⟩ (.slice c1 m1 l1)).setCell ⟨b, 1, none⟩ (.slice c2 m2 l2)) v L := by
  have h1 := heap_set_same (o := 0) (v := .slice c1 m1 l1) hb
  exact (h.box hb).box (a1 := c1) (n1 := m1) (k1 := l1) (a2 := a2) (n2 := n2) (k2 := k2) (h1.trans rfl)
/-- A mend in a box. -/
theorem box_put {W : World} {b : Nat} {z1 z2 s1 s2 : Value} (h : W.heap[b]? = some (.cells #[z1, z2] 25 (0, 0))) : ((W.setCell ⟨b, 0, none⟩ s1).setCell ⟨b, 1, none⟩ s2).heap[b]? = some (.cells #[s1, s2] 25 (0, 0)) := by
  simpa using heap_set_same (o := 1) (v := s2) (heap_set_same (o := 0) (v := s1) h)
theorem box_other {W : World} {b c : Nat} {s1 s2 : Value} {p : Option Obj} (hne : c ≠ b) (h : W.heap[c]? = p) : ((W.setCell ⟨b, 0, none⟩ s1).setCell ⟨b, 1, none⟩ s2).heap[c]? = p :=
  (Below.heap_setCell _ _ _ _ hne).trans ((Below.heap_setCell _ _ _ _ hne).trans h)
end Go.Proofs.Ytcgkglonnmkfcaa

namespace Go.Proofs.Ytcgkglonnmkfcaa
open Go.RowKit Go.Lap Go.Shelf

/-- The mend that is an argument lies in a box. -/
structure KeepB (w : World) (sv jv : Value) (W : World) : Prop where
  bel : Below w.heap.size w W
  m : W.heap[w.heap.size]? = some (.cells #[sv, jv] 25 (0, 0))
theorem KeepB.below {w : World} {sv jv : Value} {W W' : World} (h : KeepB w sv jv W) (hb : Below W.heap.size W W') : KeepB w sv jv W' :=
  ⟨below_via hb h.bel, (hb.block _ (heap_lt h.m)).trans h.m⟩
theorem KeepB.start (w : World) (sv jv : Value) : KeepB w sv jv (w.alloc (.cells #[sv, jv] 25)) := ⟨below_alloc (Below.refl _ _) _, alloc_at rfl⟩
theorem KeepB.drew {w : World} {sv jv : Value} {W : World} (h : KeepB w sv jv W) : KeepB w sv jv W.drew := ⟨h.bel.drew, h.m⟩
theorem KeepB.put {w : World} {sv jv : Value} {W : World} (h : KeepB w sv jv W) (p : Addr) (v : Value) (hp : w.heap.size < p.block) : KeepB w sv jv (W.setCell p v) :=
  ⟨below_set h.bel v (by omega), (Below.heap_setCell _ _ _ _ (by omega)).trans h.m⟩

theorem own_nilOk {P : Program} {α : Type} {K : RowKind P α} {B : Nat} {W : World} {v : Value} {xs : List α} (h : K.own B W v xs) : NilOk v := by
  intro n cap e
  rcases h.2 with ⟨rfl, _⟩ | ⟨g, c, cur, rfl, _⟩
  · cases e; exact ⟨rfl, rfl⟩
  · cases e
theorem ints_one {w : World} {x : Int} : intK.own w.heap.size (w.alloc (.cells #[.int .i64 x] 3)) (.slice (some ⟨w.heap.size, 0, none⟩) 1 1) [x] := by
  refine ⟨rfl, .inr ⟨w.heap.size, 1, #[.int .i64 x], rfl, Nat.le_refl _, heap_alloc_new w _, Nat.le_refl _, by decide, rfl, rfl⟩⟩

/-- Besides an order, and two other mends in boxes of their own. -/
structure KeepX (w : World) (sv jv lv : Value) (l : List Int) (b1 b2 : Nat) (v1 v2 : Value) (J1 J2 : List Job) (W : World) : Prop where
  k : KeepB w sv jv W
  x1 : W.heap[b1]? = some (.cells #[sv, v1] 25 (0, 0))
  x2 : W.heap[b2]? = some (.cells #[sv, v2] 25 (0, 0))
  j1 : JobsAt W v1 J1
  j2 : JobsAt W v2 J2
  li : IntsAt W lv l
theorem KeepX.below {w : World} {sv jv lv : Value} {l : List Int} {b1 b2 : Nat} {v1 v2 : Value} {J1 J2 : List Job} {W W' : World} (h : KeepX w sv jv lv l b1 b2 v1 v2 J1 J2 W) (hb : Below W.heap.size W W') : KeepX w sv jv lv l b1 b2 v1 v2 J1 J2 W' :=
  ⟨h.k.below hb, (hb.block _ (heap_lt h.x1)).trans h.x1, (hb.block _ (heap_lt h.x2)).trans h.x2, h.j1.below hb, h.j2.below hb, h.li.below hb⟩
theorem KeepX.drew {w : World} {sv jv lv : Value} {l : List Int} {b1 b2 : Nat} {v1 v2 : Value} {J1 J2 : List Job} {W : World} (h : KeepX w sv jv lv l b1 b2 v1 v2 J1 J2 W) : KeepX w sv jv lv l b1 b2 v1 v2 J1 J2 W.drew :=
  h.below (Below.refl _ _).drew
end Go.Proofs.Ytcgkglonnmkfcaa

namespace Go.Proofs.Ytcgkglonnmkfcaa
open Go.RowKit Go.Lap Go.Shelf

def BoxAt (W : World) (b : Nat) (p q : Value) : Prop := W.heap[b]? = some (.cells #[p, q] 25 (0, 0)) ∧ ∃ a1 n1 k1 a2 n2 k2, p = .slice a1 n1 k1 ∧ q = .slice a2 n2 k2
theorem BoxAt.below {W W' : World} {b : Nat} {p q : Value} (h : BoxAt W b p q) (hb : Below W.heap.size W W') : BoxAt W' b p q := ⟨(hb.block _ (heap_lt h.1)).trans h.1, h.2⟩

structure TwoJ (w w3 : World) (sv jv : Value) (n : Nat) (J1 J2 : List Job) (c1 c2 x1 x2 s1 s2 : Nat) (d : Nat → Bool) (vals : Nat → Value) (W : World) : Prop where
  k : KeepB w sv jv W
  bel : Below w3.heap.size w3 W
  r1 : d c1 = true → ∃ a k, vals c1 = .agg #[sv, .slice a n k] ∧ JobsAt W (.slice a n k) J1
  r2 : d c2 = true → ∃ a k, vals c2 = .agg #[sv, .slice a n k] ∧ JobsAt W (.slice a n k) J2
  b1 : d x1 = true → ∃ b p q, vals x1 = .pointer (some ⟨b, 0, none⟩) ∧ w3.heap.size ≤ b ∧ BoxAt W b p q ∧ (d s1 = true → vals c1 = .agg #[p, q])
  b2 : d x2 = true → ∃ b p q, vals x2 = .pointer (some ⟨b, 0, none⟩) ∧ w3.heap.size ≤ b ∧ BoxAt W b p q ∧ (d s2 = true → vals c2 = .agg #[p, q])
  ne : d x1 = true → d x2 = true → vals x1 ≠ vals x2
  p1 : d s1 = true → d c1 = true ∧ d x1 = true
  p2 : d s2 = true → d c2 = true ∧ d x2 = true

section
variable {w w3 : World} {sv jv : Value} {n : Nat} {J1 J2 : List Job} {c1 c2 x1 x2 s1 s2 : Nat} {d : Nat → Bool} {vals : Nat → Value} {W W' : World}
theorem TwoJ.swap (h : TwoJ w w3 sv jv n J1 J2 c1 c2 x1 x2 s1 s2 d vals W) : TwoJ w w3 sv jv n J2 J1 c2 c1 x2 x1 s2 s1 d vals W :=
  ⟨h.k, h.bel, h.r2, h.r1, h.b2, h.b1, fun a b e => h.ne b a e.symm, h.p2, h.p1⟩
theorem TwoJ.start (hk : KeepB w sv jv w3.drew) : TwoJ w w3 sv jv n J1 J2 c1 c2 x1 x2 s1 s2 (fun _ => false) vals w3.drew :=
  ⟨hk, (Below.refl _ _).drew, by simp, by simp, by simp, by simp, by simp, by simp, by simp⟩
/-- What makes memory alone, or nothing. -/
theorem TwoJ.grow {d' : Nat → Bool} {vals' : Nat → Value} (h : TwoJ w w3 sv jv n J1 J2 c1 c2 x1 x2 s1 s2 d vals W) (hb : Below W.heap.size W W')
    (hs : ∀ i, i ∈ [c1, c2, x1, x2, s1, s2] → d' i = d i ∧ vals' i = vals i) : TwoJ w w3 sv jv n J1 J2 c1 c2 x1 x2 s1 s2 d' vals' W' := by
  obtain ⟨e1, f1⟩ := hs c1 (by simp)
  obtain ⟨e2, f2⟩ := hs c2 (by simp)
  obtain ⟨e3, f3⟩ := hs x1 (by simp)
  obtain ⟨e4, f4⟩ := hs x2 (by simp)
  obtain ⟨e5, f5⟩ := hs s1 (by simp)
  obtain ⟨e6, f6⟩ := hs s2 (by simp)
  refine ⟨h.k.below hb, below_via hb h.bel, ?_, ?_, ?_, ?_, ?_, ?_, ?_⟩
  · rw [e1, f1]; intro hd; obtain ⟨a, k, h1, h2⟩ := h.r1 hd; exact ⟨a, k, h1, h2.below hb⟩
  · rw [e2, f2]; intro hd; obtain ⟨a, k, h1, h2⟩ := h.r2 hd; exact ⟨a, k, h1, h2.below hb⟩
  · rw [e3, f3, e5, f1]; intro hd; obtain ⟨b, p, q, h1, h2, h3, h4⟩ := h.b1 hd; exact ⟨b, p, q, h1, h2, h3.below hb, h4⟩
  · rw [e4, f4, e6, f2]; intro hd; obtain ⟨b, p, q, h1, h2, h3, h4⟩ := h.b2 hd; exact ⟨b, p, q, h1, h2, h3.below hb, h4⟩
  · rw [e3, e4, f3, f4]; exact h.ne
  · rw [e5, e1, e3]; exact h.p1
  · rw [e6, e2, e4]; exact h.p2
theorem TwoJ.pure {i : Nat} {v : Value} (h : TwoJ w w3 sv jv n J1 J2 c1 c2 x1 x2 s1 s2 d vals W) (hi : i ∉ [c1, c2, x1, x2, s1, s2]) : TwoJ w w3 sv jv n J1 J2 c1 c2 x1 x2 s1 s2 (dset d i) (vset vals i v) W :=
  h.grow (Below.refl _ _) (fun _j hj => ⟨dset_ne (fun e => hi (e ▸ hj)), vset_ne (fun e => hi (e ▸ hj))⟩)
theorem TwoJ.call (hn : [c1, c2, x1, x2, s1, s2].Nodup) (h : TwoJ w w3 sv jv n J1 J2 c1 c2 x1 x2 s1 s2 d vals W) (hd : d c1 = false) (hb : Below W.heap.size W W') {a : Option Addr} {k : Nat} (hj : JobsAt W' (.slice a n k) J1) :
    TwoJ w w3 sv jv n J1 J2 c1 c2 x1 x2 s1 s2 (dset d c1) (vset vals c1 (.agg #[sv, .slice a n k])) W' := by
  simp only [List.nodup_cons, List.mem_cons, not_or, List.not_mem_nil, not_false_eq_true, and_true] at hn
  have hg := h.grow (d' := d) (vals' := vals) hb (fun _ _ => ⟨rfl, rfl⟩)
  have e2 : c2 ≠ c1 := fun e => hn.1.1 e.symm
  have e3 : x1 ≠ c1 := fun e => hn.1.2.1 e.symm
  have e4 : x2 ≠ c1 := fun e => hn.1.2.2.1 e.symm
  have e5 : s1 ≠ c1 := fun e => hn.1.2.2.2.1 e.symm
  have e6 : s2 ≠ c1 := fun e => hn.1.2.2.2.2 e.symm
  refine ⟨hg.k, hg.bel, ?_, ?_, ?_, ?_, ?_, ?_, ?_⟩
  · intro _; exact ⟨a, k, vset_same _ _ _, hj⟩
  · rw [dset_ne e2, vset_ne e2]; exact hg.r2
  · rw [dset_ne e3, vset_ne e3, dset_ne e5]
    intro hx
    obtain ⟨b, p, q, h1, h2, h3, h4⟩ := hg.b1 hx
    exact ⟨b, p, q, h1, h2, h3, fun hs => by have := (h.p1 hs).1; rw [hd] at this; cases this⟩
  · rw [dset_ne e4, vset_ne e4, dset_ne e6, vset_ne e2]; exact hg.b2
  · rw [dset_ne e3, dset_ne e4, vset_ne e3, vset_ne e4]; exact hg.ne
  · rw [dset_ne e5, dset_same, dset_ne e3]; intro hs; exact ⟨rfl, (h.p1 hs).2⟩
  · rw [dset_ne e6, dset_ne e2, dset_ne e4]; exact h.p2
theorem TwoJ.box (hn : [c1, c2, x1, x2, s1, s2].Nodup) (h : TwoJ w w3 sv jv n J1 J2 c1 c2 x1 x2 s1 s2 d vals W) (hd : d x1 = false) :
    TwoJ w w3 sv jv n J1 J2 c1 c2 x1 x2 s1 s2 (dset d x1) (vset vals x1 (.pointer (some ⟨W.heap.size, 0, none⟩))) (W.alloc (.cells #[.slice none 0 0, .slice none 0 0] 25)) := by
  simp only [List.nodup_cons, List.mem_cons, not_or, List.not_mem_nil, not_false_eq_true, and_true] at hn
  have hg := h.grow (d' := d) (vals' := vals) (below_alloc (Below.refl _ W) (.cells #[.slice none 0 0, .slice none 0 0] 25)) (fun _ _ => ⟨rfl, rfl⟩)
  have e1 : c1 ≠ x1 := hn.1.2.1
  have e2 : c2 ≠ x1 := hn.2.1.1
  have e4 : x2 ≠ x1 := fun e => hn.2.2.1.1 e.symm
  have e5 : s1 ≠ x1 := fun e => hn.2.2.1.2.1 e.symm
  have e6 : s2 ≠ x1 := fun e => hn.2.2.1.2.2 e.symm
  refine ⟨hg.k, hg.bel, ?_, ?_, ?_, ?_, ?_, ?_, ?_⟩
  · rw [dset_ne e1, vset_ne e1]; exact hg.r1
  · rw [dset_ne e2, vset_ne e2]; exact hg.r2
  · intro _
    refine ⟨W.heap.size, _, _, vset_same _ _ _, h.bel.size, ⟨alloc_at rfl, _, _, _, _, _, _, rfl, rfl⟩, fun hs => ?_⟩
    rw [dset_ne e5] at hs
    have := (h.p1 hs).2
    rw [hd] at this; cases this
  · rw [dset_ne e4, vset_ne e4, dset_ne e6, vset_ne e2]; exact hg.b2
  · intro _
    rw [dset_ne e4, vset_same, vset_ne e4]
    intro hx e
    obtain ⟨b, p, q, h1, _, h3, _⟩ := h.b2 hx
    rw [h1] at e
    injection e with e
    injection e with e
    injection e with e
    have := heap_lt h3.1
    omega
  · rw [dset_ne e5, dset_same, dset_ne e1]; intro hs; exact ⟨(h.p1 hs).1, rfl⟩
  · rw [dset_ne e6, dset_ne e2, dset_ne e4]; exact h.p2
theorem TwoJ.store (hn : [c1, c2, x1, x2, s1, s2].Nodup) (h : TwoJ w w3 sv jv n J1 J2 c1 c2 x1 x2 s1 s2 d vals W) (_hd : d s1 = false) (hc : d c1 = true) (hx : d x1 = true) (h3 : w.heap.size < w3.heap.size) {b : Nat} {a1 a2 : Option Addr} {n1 n2 k1 k2 : Nat} {v : Value}
    (hv : vals c1 = .agg #[.slice a1 n1 k1, .slice a2 n2 k2]) (hp : vals x1 = .pointer (some ⟨b, 0, none⟩)) :
    TwoJ w w3 sv jv n J1 J2 c1 c2 x1 x2 s1 s2 (dset d s1) (vset vals s1 v) ((W.setCell ⟨b, 0, none⟩ (.slice a1 n1 k1)).setCell ⟨b, 1, none⟩ (.slice a2 n2 k2)) := by
  simp only [List.nodup_cons, List.mem_cons, not_or, List.not_mem_nil, not_false_eq_true, and_true] at hn
  have e1 : c1 ≠ s1 := hn.1.2.2.2.1
  have e2 : c2 ≠ s1 := hn.2.1.2.2.1
  have e3 : x1 ≠ s1 := hn.2.2.1.2.1
  have e4 : x2 ≠ s1 := hn.2.2.2.1.1
  have e6 : s2 ≠ s1 := fun e => hn.2.2.2.2.1 e.symm
  obtain ⟨b', p, q, h1, hge, hbox, _⟩ := h.b1 hx
  rw [hp] at h1
  injection h1 with h1
  injection h1 with h1
  injection h1 with h1
  subst h1
  obtain ⟨hbox, y1, y2, y3, y4, y5, y6, rfl, rfl⟩ := hbox
  have hlb : w.heap.size < b := by omega
  refine ⟨(h.k.put _ _ hlb).put _ _ hlb, below_set (below_set h.bel _ hge) _ hge, ?_, ?_, ?_, ?_, ?_, ?_, ?_⟩
  · rw [dset_ne e1, vset_ne e1]; intro hdc; obtain ⟨a, k, h4, h5⟩ := h.r1 hdc; exact ⟨a, k, h4, h5.box2 hbox⟩
  · rw [dset_ne e2, vset_ne e2]; intro hdc; obtain ⟨a, k, h4, h5⟩ := h.r2 hdc; exact ⟨a, k, h4, h5.box2 hbox⟩
  · rw [dset_ne e3, vset_ne e3, vset_ne e1]
    intro _
    exact ⟨b, _, _, hp, hge, ⟨box_put hbox, _, _, _, _, _, _, rfl, rfl⟩, fun _ => hv⟩
  · rw [dset_ne e4, vset_ne e4, dset_ne e6, vset_ne e2]
    intro hd2
    obtain ⟨b2, p2, q2, h6, h7, h8, h9⟩ := h.b2 hd2
    refine ⟨b2, p2, q2, h6, h7, ⟨box_other (fun e => ?_) h8.1, h8.2⟩, h9⟩
    have := h.ne hx hd2
    rw [hp, h6, e] at this
    exact this rfl
  · rw [dset_ne e3, dset_ne e4, vset_ne e3, vset_ne e4]; exact h.ne
  · intro _; rw [dset_ne e1, dset_ne e3]; exact ⟨hc, hx⟩
  · rw [dset_ne e6, dset_ne e2, dset_ne e4]; exact h.p2
end
/-- All is done. -/
theorem TwoJ.fin {w w3 : World} {sv jv : Value} {n : Nat} {J1 J2 : List Job} {c1 c2 x1 x2 s1 s2 : Nat} {d : Nat → Bool} {vals : Nat → Value} {W : World} (h : TwoJ w w3 sv jv n J1 J2 c1 c2 x1 x2 s1 s2 d vals W)
    (hall : ∀ i, i ∈ [c1, c2, x1, x2, s1, s2] → d i = true) : ∃ b1 b2 a1 a2 k1 k2, vals c1 = .agg #[sv, .slice a1 n k1] ∧ vals c2 = .agg #[sv, .slice a2 n k2] ∧ vals x1 = .pointer (some ⟨b1, 0, none⟩) ∧ vals x2 = .pointer (some ⟨b2, 0, none⟩) ∧
      W.heap[b1]? = some (.cells #[sv, .slice a1 n k1] 25 (0, 0)) ∧ W.heap[b2]? = some (.cells #[sv, .slice a2 n k2] 25 (0, 0)) ∧ JobsAt W (.slice a1 n k1) J1 ∧ JobsAt W (.slice a2 n k2) J2 := by
  obtain ⟨a1, k1, h1, h2⟩ := h.r1 (hall _ (by simp))
  obtain ⟨a2, k2, h3, h4⟩ := h.r2 (hall _ (by simp))
  obtain ⟨b1, p1, q1, h5, _, h6, h7⟩ := h.b1 (hall _ (by simp))
  obtain ⟨b2, p2, q2, h8, _, h9, h10⟩ := h.b2 (hall _ (by simp))
  have e1 := h7 (hall _ (by simp))
  have e2 := h10 (hall _ (by simp))
  rw [h1] at e1
  rw [h3] at e2
  injection e1 with e1
  injection e2 with e2
  simp at e1 e2
  obtain ⟨rfl, rfl⟩ := e1
  obtain ⟨rfl, rfl⟩ := e2
  exact ⟨b1, b2, a1, a2, k1, k2, h1, h3, h5, h8, h6.1, h9.1, h2, h4⟩
end Go.Proofs.Ytcgkglonnmkfcaa
