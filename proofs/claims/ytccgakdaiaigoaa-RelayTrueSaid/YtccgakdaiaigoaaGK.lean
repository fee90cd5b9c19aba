/- General laws for the walk, over any program. General laws for the walk, over any program: a region that draws its order, walked part by part between operations that nothing passes. Regions that draw their order, within a round of a range over a function. General laws for the walk, over any program: words without a sign. General laws for the walk, over any program: rows of any kind that the call grows by append. General laws for the walk, over any program: rows of the call's own, one of whose cells is written. General laws for the walk, over any program: a region that draws its order, in a round of a range over a function, walked as outside it. General laws for the walk, over any program: one operation of a region that draws its order, at a time, as it would be met in a list. General laws over any program: arguments that are rows of any kind, opened; how a call that lays new blocks alone ends. General laws for the walk, over any program: a region that draws its order, by what is so when some of its operations are done, whichever they are. General laws for the walk, over any program: rows of rows that the call grows by append. General laws for the walk, over any program: a region that draws its order, by what is so when some of its operations are done; operations that are not done have laid nothing, and those that others wait for are done. General laws for the walk, over any program: single operations, at any frame and world. General laws for the walk, over any program: maps, by what they tell of each key. General laws for the walk, over any program: a range over an iterator that itself ranges over an iterator. General laws for the walk, over any program: an append of a row that lies anywhere, nil or not, to a row of the call's own. General laws over any program: rows of the call's own that do not share a block; an append tells which block the row lies in. General laws over any program: a region that draws its order, in which something is so (S) until one operation m is done: what others only read of it may be taken first, if m waits for them. -/
import Derived.WalkKit
import Derived.WalkSpells
import Derived.WalkLawsBesides
import Derived.BigQuiet
import Derived.Deep.QuietTactic
import Derived.Deep.RegionWith
import Derived.Lib.Hide
import Derived.WalkSmall
import Derived.StillTail
import Derived.OrdersIn
import Derived.RangeFuncCalls
import Derived.Laws.AppendOwn
import Derived.Laws.AppendOwnNone
import Derived.OwnWalk
import Derived.OrdersHeld
import Derived.ProofKit
import Derived.OpenShut
import Derived.Deep.Slices
import Derived.ChangeSame
import Derived.Deep.AppendLies
import Derived.RangeFuncRecord
import Derived.RangeFuncNested
import Derived.RangeFuncBound
import Derived.RangeFuncLeaves
namespace Go.Lap
open Go.RowKit

theorem hid {p : Prop} (h : p) : Hid p := h

theorem bcell {W w1 : World} (hb : Below W.heap.size W w1) : (∀ b o, b < W.heap.size → w1.cell? ⟨b, o, none⟩ = W.cell? ⟨b, o, none⟩) ∧ (∀ b o, b < W.heap.size → w1.frozen? ⟨b, o, none⟩ = W.frozen? ⟨b, o, none⟩) :=
  ⟨fun b o h => hb.cell (p := ⟨b, o, none⟩) h, fun b o h => hb.frozen (p := ⟨b, o, none⟩) h⟩

theorem ret_int {k : IntKind} {a b : Int} (h : a = b) : Ending.returned (.int k a) = .returned (.int k b) := by rw [h]
theorem cells_of {w : World} {b : Nat} {c : Array Value} {t : TypeId} {fr : Nat × Nat} (h : w.heap[b]? = some (.cells c t fr)) : b < w.heap.size ∧ ∀ o, w.cell? ⟨b, o, none⟩ = c[o]? :=
  ⟨(Array.getElem?_eq_some_iff.1 h).1, fun o => by simp [World.cell?, h]⟩
theorem free_of {w : World} {b : Nat} {c : Array Value} {t : TypeId} (h : w.heap[b]? = some (.cells c t (0, 0))) : ∀ o, w.frozen? ⟨b, o, none⟩ = false :=
  fun o => by simp [World.frozen?, h]
theorem alloc_at {w : World} {o : Obj} {n : Nat} (h : n = w.heap.size) : (w.alloc o).heap[n]? = some o := by subst h; exact (MapKept.heap_alloc w o).1
theorem alloc_old {w : World} {o : Obj} {n : Nat} {p : Option Obj} (h : n < w.heap.size) (hp : w.heap[n]? = p) : (w.alloc o).heap[n]? = p := (Below.heap_alloc w o n h).trans hp
theorem below_via {a X w1 : World} (h : Below X.heap.size X w1) (ha : Below a.heap.size a X) : Below a.heap.size a w1 := ha.trans (h.mono ha.size)
theorem below_alloc {a X : World} (ha : Below a.heap.size a X) (o : Obj) : Below a.heap.size a (X.alloc o) := ha.alloc ha.size o
theorem below_set {a X : World} (ha : Below a.heap.size a X) {p : Addr} (u : Value) (hp : a.heap.size ≤ p.block) : Below a.heap.size a (X.setCell p u) := ha.setCell hp u

/-- The worlds in which all that lay in W lies as it lay. -/
def Later (W : World) : Type := { w' : World // Below W.heap.size W w' }
instance later_nonempty (W : World) : Nonempty (Later W) := ⟨⟨W, Below.refl _ _⟩⟩
def Later.w {W : World} (x : Later W) : World := x.1
theorem Later.below {W : World} (x : Later W) : Below W.heap.size W x.w := x.2
theorem Later.cell {W : World} (x : Later W) (b o : Nat) (h : b < W.heap.size) : x.w.cell? ⟨b, o, none⟩ = W.cell? ⟨b, o, none⟩ := x.2.cell (p := ⟨b, o, none⟩) h
theorem wp_region_later {P : Program} {id : Nat} {Q : Exit → Act → World → Prop} {a : Act} {W : World} {l : List Oper} (hm : P.follows .mixedOrders = true) (hB : Region.lexB .any l.toArray = true)
    (h : (∀ (x : Later W) b o, b < W.heap.size → x.w.cell? ⟨b, o, none⟩ = W.cell? ⟨b, o, none⟩) → wpQuiet P l.toArray (fun w' => ∃ x : Later W, w' = x.w) (fun a' => ∀ w', (∃ x : Later W, w' = x.w) → Q .normal a' w') l a) : (Code.region id l.toArray true).wp P Q a W :=
  wp_region_quiet (C := fun w' => ∃ x : Later W, w' = x.w) hm hB ⟨⟨_, (Below.refl _ _).drew⟩, rfl⟩ (by simpa using h Later.cell)
/-- A callee that lays blocks alone, met in a later world. -/
theorem Calls.later {P : Program} {f : FuncId} {args : Array Value} {W : World} {x : Later W} {v : Value}
    (h : Calls P f args x.w fun e w' => e = .returned v ∧ Below x.w.heap.size x.w w') : Calls P f args x.w fun e w'' => e = .returned v ∧ ∃ y : Later W, w'' = y.w :=
  h.mono fun _ w'' ⟨he, hm⟩ => ⟨he, ⟨w'', x.2.trans (hm.mono x.2.size)⟩, rfl⟩
theorem Calls.later_as {P : Program} {f : FuncId} {args : Array Value} {W : World} {x : Later W} {u v : Value} (huv : u = v)
    (h : Calls P f args x.w fun e w' => e = .returned u ∧ Below x.w.heap.size x.w w') : Calls P f args x.w fun e w'' => e = .returned v ∧ ∃ y : Later W, w'' = y.w := by
  subst huv; exact Calls.later h
theorem Calls.later_same {P : Program} {f : FuncId} {args : Array Value} {W : World} {x : Later W} {v : Value}
    (h : Calls P f args x.w fun e w' => e = .returned v ∧ x.w = w') : Calls P f args x.w fun e w'' => e = .returned v ∧ ∃ y : Later W, w'' = y.w :=
  h.mono fun _ _ ⟨he, hm⟩ => ⟨he, x, hm.symm⟩

/-! ### A region that draws its order: operations that are quiet in a class of worlds, then a tail in its own order -/
section tail
variable {P : Program} {ops : Array Oper} {md : Region.Mode} {C : World → Prop}
def wpAnyT (P : Program) (md : Region.Mode) (ops : Array Oper) (C : World → Prop) (n : Nat) (L : Array Bool → Act → Prop) : Nat → Array Bool → Act → Prop
  | 0, listed, a => L listed a
  | f + 1, listed, a =>
    Region.ready md ops listed ≠ [] ∧ ∀ i ∈ Region.ready md ops listed, i < n ∧ qOp P ops C i (wpAnyT P md ops C n L f (listed.setIfInBounds i true)) a
theorem wpAny_of_headT {n g : Nat} {L : Array Bool → Act → Prop} {Q' : Exit → Act → World → Prop} (hL : ∀ listed a w, C w → L listed a → wpAny P md ops Q' g listed a w) :
    ∀ (f : Nat) (listed : Array Bool) (a : Act) (w : World), C w → wpAnyT P md ops C n L f listed a → wpAny P md ops Q' (f + g) listed a w
  | 0, listed, a, w, hw, h => by rw [Nat.zero_add]; exact hL _ _ _ hw h
  | f + 1, listed, a, w, hw, h => by
    rw [show f + 1 + g = (f + g) + 1 by omega]
    exact ⟨fun h0 => absurd h0 h.1, fun i hi => wpOp_of_qOp hw (fun a' w' hw' h' => wpAny_of_headT hL f _ a' w' hw' h') (h.2 i hi).2⟩
theorem wpAnyT_first {n i : Nat} {oi : Oper} {v : Value} {L : Array Bool → Act → Prop} (hi : ops[i]? = some oi) (hsel : ∀ (j : Nat) (o : Oper) cs b, ops[j]? = some o → o.op ≠ .select cs b)
    (hs : Region.sinkB md ops n = true) (hc : Region.chainB md ops n = true) (hn : n < ops.size) (hin : i < n)
    (hdone : ∀ listed a, L listed a → ∀ j ∈ Region.ready md ops listed, n ≤ j) :
    ∀ (f : Nat) (listed : Array Bool) (a : Act), HeadInv md ops n listed →
      (∀ j oj, ops[j]? = some oj → j ≠ i → listed.getD j true = false → (∀ e ∈ oj.after, Region.binds md e = true → e.on ≠ i) → oi.apart ops oj = true) →
      i ∈ Region.ready md ops listed → YieldsIn P ops C oi v a →
      wpAnyT P md ops C n L f (listed.setIfInBounds i true) (a.put oi.dst v) → wpAnyT P md ops C n L (f + 1) listed a := by
  intro f
  induction f with
  | zero =>
    intro listed a inv _ hr hy H
    refine ⟨fun h => (by rw [h] at hr; cases hr), fun j hj => ?_⟩
    have hjn : j < n := by
      rcases Nat.lt_or_ge j n with h | h
      · exact h
      · exact absurd hj (tail_waits hs hc hn inv _ i rfl hin (mem_ready.1 hr).1 j h)
    refine ⟨hjn, ?_⟩
    by_cases hji : j = i
    · subst hji; exact hy.qOp hi H
    · have := hdone _ _ H j (ready_mono hj hji)
      omega
  | succ f ih =>
    intro listed a inv hfree hr hy H
    have hun := (mem_ready.1 hr).1
    refine ⟨fun h => (by rw [h] at hr; cases hr), fun j hj => ?_⟩
    have hjn : j < n := by
      rcases Nat.lt_or_ge j n with h | h
      · exact h
      · exact absurd hj (tail_waits hs hc hn inv _ i rfl hin hun j h)
    refine ⟨hjn, ?_⟩
    by_cases hji : j = i
    · subst hji; exact hy.qOp hi H
    · have h1 := (H.2 j (ready_mono hj hji)).2
      obtain ⟨hjun, oj, hoj, hall⟩ := mem_ready.1 hj
      have hnot : ∀ e ∈ oj.after, Region.binds md e = true → e.on ≠ i := fun e he hb heq => by
        have h1 := hall e he hb
        rw [heq, getD_both hun] at h1
        cases h1
      have h2 := qOp_put hoj (hfree j oj hoj hji hjun hnot) (fun cs b => hsel i oi cs b hi) (fun cs b => hsel j oj cs b hoj) hy h1
      have hfree' : ∀ k ok, ops[k]? = some ok → k ≠ i → (listed.setIfInBounds j true).getD k true = false →
          (∀ e ∈ ok.after, Region.binds md e = true → e.on ≠ i) → oi.apart ops ok = true := fun k ok hk hki hun hno => by
        refine hfree k ok hk hki ?_ hno
        by_cases hjk : j = k
        · subst hjk; exact hjun
        · rw [getD_set_ne true hjk] at hun; exact hun
      refine qOp_mono (fun a' h3 => ih (listed.setIfInBounds j true) a' (inv.set hj hjn) hfree' (ready_mono hr (Ne.symm hji)) h3.1 ?_) h2
      rw [Array.setIfInBounds_comm _ _ hji]
      exact h3.2
theorem wpAnyT_lex {n g : Nat} {Lq : Act → Prop} (hsel : Region.noSelect ops = true) (hs : Region.sinkB md ops n = true) (hc : Region.chainB md ops n = true) (hn : n < ops.size) :
    ∀ (l : List Oper) (k : Nat) (listed : Array Bool) (a : Act), (∀ j, j < l.length → l[j]? = ops[k + j]?) → k + l.length = n → HeadInv md ops n listed →
    Region.lexHead md ops g l.length k listed = true → wpQuiet P ops C Lq l a →
    wpAnyT P md ops C n (fun listed' a' => Region.seqB md ops g n listed' = true ∧ Lq a') l.length listed a
  | [], k, listed, a, _, hk, _, hB, h => by
    have : k = n := by simpa using hk
    subst this
    exact ⟨by simpa [Region.lexHead] using hB, h⟩
  | o :: l, k, listed, a, hl, hk, inv, hB, h => by
    have h0 : ops[k]? = some o := by simpa using (hl 0 (by simp)).symm
    simp only [List.length_cons, Region.lexHead, Bool.and_eq_true] at hB
    obtain ⟨⟨hr, hf⟩, hB'⟩ := hB
    have hkn : k < n := by simp only [List.length_cons] at hk; omega
    have hr' : k ∈ Region.ready md ops listed := by simpa using hr
    have hst : qOp P ops C k (wpQuiet P ops C Lq l) a := by unfold qOp; simp only [h0]; exact h
    obtain ⟨v, hy, hK⟩ := yieldsIn_of_qOp h0 hst
    exact wpAnyT_first h0 (Region.noSelect_spec hsel) hs hc hn hkn (fun listed' a' hL => seqB_ready hL.1) l.length listed a inv (Region.free_spec h0 hf) hr' hy
      (wpAnyT_lex hsel hs hc hn l (k + 1) _ _ (fun j hj => by have := hl (j + 1) (by simp; omega); simpa [Nat.add_assoc, Nat.add_comm 1 j] using this) (by simp only [List.length_cons] at hk; omega) (inv.set hr' hkn) hB' hK)
/-- The first n operations, quiet in the class, in the text's order; then the others, in the text's order, in whatever world of the class. -/
theorem wp_region_tail {id : Nat} {Q : Exit → Act → World → Prop} {a : Act} {w : World} {l : List Oper} (n : Nat) (hm : P.follows .mixedOrders = true) (hB : Region.lexTailB .any l.toArray n = true) (hC : C { w with drawn := w.drawn + 1 })
    (h : wpQuiet P l.toArray C (fun a' => ∀ w', C w' → wpList P l.toArray Q (l.drop n) a' w') (l.take n) a) : (Code.region id l.toArray true).wp P Q a w := by
  simp only [Region.lexTailB, Bool.and_eq_true, decide_eq_true_eq] at hB
  obtain ⟨⟨⟨⟨hsel, hn⟩, hs⟩, hc⟩, hlex⟩ := hB
  have hn' : n < l.length := by simpa using hn
  have htl : (l.take n).length = n := by simp; omega
  have hdl : (l.drop n).length = l.toArray.size - n := by simp
  have inv0 : HeadInv .any l.toArray n (Array.replicate l.toArray.size false) :=
    ⟨by simp, fun j oj _ hl => (by rw [getD_replicate_false] at hl; cases hl), fun t _ ht => getD_in (by simpa using ht) (getD_replicate_false _ _)⟩
  have H := wpAnyT_lex (md := .any) (g := l.toArray.size - n) hsel hs hc hn (l.take n) 0 _ a (fun j hj => by
    have hj' : j < n := by rw [htl] at hj; exact hj
    simp [hj']) (by simpa using htl) inv0 (by rw [htl]; exact hlex) h
  refine wp_region_any hm ?_
  have := wpAny_of_headT (Q' := Q) (g := l.toArray.size - n) (fun listed a' w' hw' hL => by
    have := wpAny_of_seq (md := .any) (Q' := Q) (l.drop n) n listed a' w' (fun j => by simp [List.getElem?_drop]) (by rw [hdl]; exact hL.1) (hL.2 w' hw')
    rwa [hdl] at this) _ _ _ _ hC H
  rw [htl, show n + (l.toArray.size - n) = l.toArray.size by omega] at this
  exact this
end tail
theorem wp_region_later_tail {P : Program} {id : Nat} {Q : Exit → Act → World → Prop} {a : Act} {W : World} {l : List Oper} (n : Nat) (hm : P.follows .mixedOrders = true) (hB : Region.lexTailB .any l.toArray n = true)
    (h : (∀ (x : Later W) b o, b < W.heap.size → x.w.cell? ⟨b, o, none⟩ = W.cell? ⟨b, o, none⟩) → wpQuiet P l.toArray (fun w' => ∃ x : Later W, w' = x.w) (fun a' => ∀ w', (∃ x : Later W, w' = x.w) → wpList P l.toArray Q (l.drop n) a' w') (l.take n) a) : (Code.region id l.toArray true).wp P Q a W :=
  wp_region_tail (C := fun w' => ∃ x : Later W, w' = x.w) n hm hB ⟨⟨_, (Below.refl _ _).drew⟩, rfl⟩ (h Later.cell)

@[go_sem] theorem i64_and1 (n : Int) : bits .and .i64 n 1 = n % 2 := by
  have h1 : (BitVec.ofInt 64 1).toNat = 2 ^ 1 - 1 := by decide
  have key : (BitVec.ofInt 64 n &&& BitVec.ofInt 64 1).toNat = (n % ((2 ^ 64 : Nat) : Int)).toNat % 2 ^ 1 := by
    rw [BitVec.toNat_and, BitVec.toNat_ofInt, h1, Nat.and_two_pow_sub_one_eq_mod]
  show IntKind.i64.wrap ((BitVec.ofInt 64 n &&& BitVec.ofInt 64 1).toNat : Nat) = n % 2
  rw [key, IntKind.wrap_i64]
  omega
theorem bits_nat (a b : Nat) (ha : a < 9223372036854775808) (hb : b < 9223372036854775808) :
    bits .and .i64 (a : Int) (b : Int) = ((a &&& b : Nat) : Int) ∧ bits .or .i64 (a : Int) (b : Int) = ((a ||| b : Nat) : Int) ∧ bits .xor .i64 (a : Int) (b : Int) = ((a ^^^ b : Nat) : Int) := by
  have ea : (BitVec.ofInt 64 (a : Int)).toNat = a := by rw [BitVec.toNat_ofInt]; omega
  have eb : (BitVec.ofInt 64 (b : Int)).toNat = b := by rw [BitVec.toNat_ofInt]; omega
  have h1 : a &&& b < 9223372036854775808 := Nat.lt_of_le_of_lt Nat.and_le_left ha
  have h2 : a ||| b < 2 ^ 63 := Nat.or_lt_two_pow (by simpa using ha) (by simpa using hb)
  have h3 : a ^^^ b < 2 ^ 63 := Nat.xor_lt_two_pow (by simpa using ha) (by simpa using hb)
  refine ⟨?_, ?_, ?_⟩
  · show IntKind.i64.wrap ((BitVec.ofInt 64 a &&& BitVec.ofInt 64 b).toNat : Nat) = _
    rw [BitVec.toNat_and, ea, eb, IntKind.wrap_i64]; omega
  · show IntKind.i64.wrap ((BitVec.ofInt 64 a ||| BitVec.ofInt 64 b).toNat : Nat) = _
    rw [BitVec.toNat_or, ea, eb, IntKind.wrap_i64]; omega
  · show IntKind.i64.wrap ((BitVec.ofInt 64 a ^^^ BitVec.ofInt 64 b).toNat : Nat) = _
    rw [BitVec.toNat_xor, ea, eb, IntKind.wrap_i64]; omega
theorem shr_run {P : Program} (x c : Int) (h0 : 0 ≤ c) (h1 : c ≤ 63) (w : World) : (Op.shift .shr .i64 x .i64 c).run P w = .ok (.int .i64 (x >>> c.toNat)) w := by
  have h : ¬ c < 0 := by omega
  have h3 : min c.toNat 64 = c.toNat := by omega
  simp only [Op.shift, h, if_false, IntKind.bits, h3]
  show Result.ok (Value.int IntKind.i64 (x.fdiv (2 ^ c.toNat))) w = _
  rw [Int.fdiv_eq_ediv_of_nonneg _ (Int.le_of_lt (Int.pow_pos (by decide))), Int.shiftRight_eq_div_pow]
  simp

theorem two_pow_le {n m : Nat} (h : n ≤ m) : (2 : Int) ^ n ≤ 2 ^ m := by
  have := Nat.pow_le_pow_right (n := 2) (by decide) h
  have e : ∀ k : Nat, (2 : Int) ^ k = ((2 ^ k : Nat) : Int) := fun k => by simp
  rw [e, e]; exact Int.ofNat_le.2 this

theorem shl_one {P : Program} (c : Int) (h0 : 0 ≤ c) (h1 : c ≤ 62) (w : World) : (Op.shift .shl .i64 1 .i64 c).run P w = .ok (.int .i64 (2 ^ c.toNat)) w := by
  have h : ¬ c < 0 := by omega
  have h3 : min c.toNat 64 = c.toNat := by omega
  have h4 : (2 : Int) ^ c.toNat ≤ 2 ^ 62 := two_pow_le (by omega)
  have h5 : (0 : Int) < 2 ^ c.toNat := Int.pow_pos (by decide)
  simp only [Op.shift, h, if_false, IntKind.bits, h3]
  show Result.ok (Value.int IntKind.i64 (IntKind.i64.wrap (1 * 2 ^ c.toNat))) w = _
  rw [IntWalk.i64_in _ (by omega), Int.one_mul]

end Go.Lap

namespace Go.Lap
open Go.RowKit

section seg
variable {P : Program} {ops : Array Oper} {md : Region.Mode} {C : World → Prop}

/-- The first k operations are done. -/
def firstK (n k : Nat) : Array Bool := ((List.range n).map fun i => decide (i < k)).toArray

theorem firstK_getD (n k i : Nat) (d : Bool) (h : i < n) : (firstK n k).getD i d = decide (i < k) := by
  simp [firstK, h]
theorem firstK_size (n k : Nat) : (firstK n k).size = n := by simp [firstK]
theorem firstK_zero (n : Nat) : Array.replicate n false = firstK n 0 := by
  apply Array.ext
  · simp [firstK]
  · intro i h1 h2; simp [firstK]
theorem firstK_set (n k : Nat) : (firstK n k).setIfInBounds k true = firstK n (k + 1) := by
  apply Array.ext
  · simp [firstK]
  · intro i h1 h2
    have hi : i < n := by simpa [firstK] using h2
    rw [Array.getElem_setIfInBounds (by simpa [firstK] using hi)]
    by_cases e : k = i
    · rw [if_pos e]; simp [firstK]; omega
    · rw [if_neg e]; simp only [firstK, List.getElem_toArray, List.getElem_map, List.getElem_range]
      by_cases h : i < k
      · simp [h]; omega
      · simp [h]; omega

/-- Each operation behind p waits for one from p on. -/
def sourceB (md : Region.Mode) (ops : Array Oper) (p : Nat) : Bool :=
  (List.range ops.size).all fun t => decide (t ≤ p) || (List.range t).any fun j => decide (p ≤ j) && Region.waitsFor md ops t j

theorem source_waits {p t : Nat} {listed : Array Bool} (hs : sourceB md ops p = true) (hp : p < t) (ht : t < ops.size) (htail : ∀ j, p ≤ j → j < ops.size → listed.getD j true = false) : t ∉ Region.ready md ops listed := by
  intro hr
  obtain ⟨_, ot, hot, hall⟩ := mem_ready.1 hr
  have h1 := List.all_eq_true.1 hs t (List.mem_range.2 ht)
  simp only [Bool.or_eq_true, decide_eq_true_eq] at h1
  rcases h1 with h1 | h1
  · omega
  · obtain ⟨j, hj, hj2⟩ := List.any_eq_true.1 h1
    simp only [Bool.and_eq_true, decide_eq_true_eq] at hj2
    obtain ⟨o', ho', e, he, hb, hon⟩ := Region.waitsFor_spec hj2.2
    have : o' = ot := Option.some.inj (ho'.symm.trans hot)
    subst this
    have h2 := hall e he hb
    have hjt := List.mem_range.1 hj
    rw [hon, getD_both (htail j hj2.1 (by omega))] at h2
    cases h2

theorem head_waits {n : Nat} {listed : Array Bool} (hs : Region.sinkB md ops n = true) (hc : sourceB md ops n = true) (hn : n < ops.size) (inv : HeadInv md ops n listed) :
    ∀ (d i : Nat), n - i = d → i < n → listed.getD i true = false → ∀ t, n ≤ t → t ∉ Region.ready md ops listed := by
  intro d
  induction d using Nat.strongRecOn with
  | _ d ih =>
    intro i hd hi hun t ht hr
    obtain ⟨_, ot, hot, hall⟩ := mem_ready.1 hr
    have htlt : t < ops.size := (Array.getElem?_eq_some_iff.1 hot).1
    by_cases htn : t = n
    · subst htn
      have h1 := List.all_eq_true.1 hs i (List.mem_range.2 hi)
      obtain ⟨j, hj, hj2⟩ := List.any_eq_true.1 h1
      simp only [Bool.and_eq_true, decide_eq_true_eq] at hj2
      obtain ⟨oj, hoj, e, he, hb, hon⟩ := Region.waitsFor_spec hj2.2
      have hjle : j ≤ t := by have := List.mem_range.1 hj; omega
      by_cases hjt : j = t
      · subst hjt
        have : oj = ot := Option.some.inj (hoj.symm.trans hot)
        subst this
        have h2 := hall e he hb
        rw [hon, getD_both hun] at h2
        cases h2
      · cases hl : listed.getD j false with
        | true =>
          have h2 := inv.closed j oj hoj hl e he hb
          rw [hon, getD_both hun] at h2
          cases h2
        | false =>
          have hjs : j < listed.size := by rw [inv.size]; omega
          exact ih (t - j) (by omega) j rfl (by omega) (getD_in hjs hl) t (Nat.le_refl _) hr
    · exact source_waits hc (by omega) htlt (fun j h1 h2 => inv.tail j h1 h2) hr

theorem wpAnyS_first {n i : Nat} {oi : Oper} {v : Value} {L : Array Bool → Act → Prop} (hi : ops[i]? = some oi) (hsel : ∀ (j : Nat) (o : Oper) cs b, ops[j]? = some o → o.op ≠ .select cs b)
    (hs : Region.sinkB md ops n = true) (hc : sourceB md ops n = true) (hn : n < ops.size) (hin : i < n)
    (hdone : ∀ listed a, L listed a → ∀ j ∈ Region.ready md ops listed, n ≤ j) :
    ∀ (f : Nat) (listed : Array Bool) (a : Act), HeadInv md ops n listed →
      (∀ j oj, ops[j]? = some oj → j ≠ i → listed.getD j true = false → (∀ e ∈ oj.after, Region.binds md e = true → e.on ≠ i) → oi.apart ops oj = true) →
      i ∈ Region.ready md ops listed → YieldsIn P ops C oi v a →
      wpAnyT P md ops C n L f (listed.setIfInBounds i true) (a.put oi.dst v) → wpAnyT P md ops C n L (f + 1) listed a := by
  intro f
  induction f with
  | zero =>
    intro listed a inv _ hr hy H
    refine ⟨fun h => (by rw [h] at hr; cases hr), fun j hj => ?_⟩
    have hjn : j < n := by
      rcases Nat.lt_or_ge j n with h | h
      · exact h
      · exact absurd hj (head_waits hs hc hn inv _ i rfl hin (mem_ready.1 hr).1 j h)
    refine ⟨hjn, ?_⟩
    by_cases hji : j = i
    · subst hji; exact hy.qOp hi H
    · have := hdone _ _ H j (ready_mono hj hji)
      omega
  | succ f ih =>
    intro listed a inv hfree hr hy H
    have hun := (mem_ready.1 hr).1
    refine ⟨fun h => (by rw [h] at hr; cases hr), fun j hj => ?_⟩
    have hjn : j < n := by
      rcases Nat.lt_or_ge j n with h | h
      · exact h
      · exact absurd hj (head_waits hs hc hn inv _ i rfl hin hun j h)
    refine ⟨hjn, ?_⟩
    by_cases hji : j = i
    · subst hji; exact hy.qOp hi H
    · have h1 := (H.2 j (ready_mono hj hji)).2
      obtain ⟨hjun, oj, hoj, hall⟩ := mem_ready.1 hj
      have hnot : ∀ e ∈ oj.after, Region.binds md e = true → e.on ≠ i := fun e he hb heq => by
        have h1 := hall e he hb
        rw [heq, getD_both hun] at h1
        cases h1
      have h2 := qOp_put hoj (hfree j oj hoj hji hjun hnot) (fun cs b => hsel i oi cs b hi) (fun cs b => hsel j oj cs b hoj) hy h1
      have hfree' : ∀ k ok, ops[k]? = some ok → k ≠ i → (listed.setIfInBounds j true).getD k true = false →
          (∀ e ∈ ok.after, Region.binds md e = true → e.on ≠ i) → oi.apart ops ok = true := fun k ok hk hki hun hno => by
        refine hfree k ok hk hki ?_ hno
        by_cases hjk : j = k
        · subst hjk; exact hjun
        · rw [getD_set_ne true hjk] at hun; exact hun
      refine qOp_mono (fun a' h3 => ih (listed.setIfInBounds j true) a' (inv.set hj hjn) hfree' (ready_mono hr (Ne.symm hji)) h3.1 ?_) h2
      rw [Array.setIfInBounds_comm _ _ hji]
      exact h3.2

/-- From k on each operation up to p can come next, and is free. -/
def headB (md : Region.Mode) (ops : Array Oper) : Nat → Nat → Bool
  | 0, _ => true
  | f + 1, k => (Region.ready md ops (firstK ops.size k)).contains k && Region.free md ops (firstK ops.size k) k && headB md ops f (k + 1)

theorem ready_first {p : Nat} (hc : sourceB md ops p = true) : ∀ j ∈ Region.ready md ops (firstK ops.size p), j = p := by
  intro j hj
  obtain ⟨hun, oj, hoj, _⟩ := mem_ready.1 hj
  have hlt := (Array.getElem?_eq_some_iff.1 hoj).1
  rw [firstK_getD _ _ _ _ hlt] at hun
  have h1 : p ≤ j := by simpa using hun
  rcases Nat.lt_or_ge p j with h | h
  · exact absurd hj (source_waits hc h hlt (fun i h1 h2 => by rw [firstK_getD _ _ _ _ h2]; simp; omega))
  · omega

theorem wpAnyS_lex {n : Nat} {Lq : Act → Prop} (hsel : Region.noSelect ops = true) (hs : Region.sinkB md ops n = true) (hc : sourceB md ops n = true) (hn : n < ops.size) :
    ∀ (l : List Oper) (k : Nat) (a : Act), (∀ j, j < l.length → l[j]? = ops[k + j]?) → k + l.length = n → HeadInv md ops n (firstK ops.size k) →
    headB md ops l.length k = true → wpQuiet P ops C Lq l a →
    wpAnyT P md ops C n (fun listed' a' => listed' = firstK ops.size n ∧ Lq a') l.length (firstK ops.size k) a
  | [], k, a, _, hk, _, _, h => by
    have : k = n := by simpa using hk
    subst this
    exact ⟨rfl, h⟩
  | o :: l, k, a, hl, hk, inv, hB, h => by
    have h0 : ops[k]? = some o := by simpa using (hl 0 (by simp)).symm
    simp only [List.length_cons, headB, Bool.and_eq_true] at hB
    obtain ⟨⟨hr, hf⟩, hB'⟩ := hB
    have hkn : k < n := by simp only [List.length_cons] at hk; omega
    have hr' : k ∈ Region.ready md ops (firstK ops.size k) := by simpa using hr
    have hst : qOp P ops C k (wpQuiet P ops C Lq l) a := by unfold qOp; simp only [h0]; exact h
    obtain ⟨v, hy, hK⟩ := yieldsIn_of_qOp h0 hst
    have inv' := inv.set hr' hkn
    rw [firstK_set] at inv'
    have hrec := wpAnyS_lex hsel hs hc hn l (k + 1) (a.put o.dst v) (fun j hj => by have := hl (j + 1) (by simp; omega); simpa [Nat.add_assoc, Nat.add_comm 1 j] using this) (by simp only [List.length_cons] at hk; omega) inv' hB' hK
    refine wpAnyS_first h0 (Region.noSelect_spec hsel) hs hc hn hkn (fun listed' a' hL j hj => ?_) l.length _ a inv (Region.free_spec h0 hf) hr' hy (by rw [firstK_set]; exact hrec)
    rw [hL.1] at hj
    exact Nat.le_of_eq (ready_first hc j hj).symm

/-- The first k operations are done; whatever order is picked for the others. -/
def wpSeg (P : Program) (ops : Array Oper) (Q : Exit → Act → World → Prop) (k : Nat) (a : Act) (w : World) : Prop := wpAny P .any ops Q (ops.size - k) (firstK ops.size k) a w

theorem wp_region_seg {id : Nat} {Q : Exit → Act → World → Prop} {a : Act} {w : World} (hm : P.follows .mixedOrders = true) (h : ∀ w', Below w.heap.size w w' → wpSeg P ops Q 0 a w') : (Code.region id ops true).wp P Q a w := by
  refine wp_region_any hm ?_
  rw [firstK_zero]
  exact h _ (Below.refl _ _).drew

def closedB (md : Region.Mode) (ops : Array Oper) (k : Nat) : Bool :=
  (List.range ops.size).all fun j => decide (k ≤ j) || (match ops[j]? with | some oj => oj.after.all fun e => !Region.binds md e || decide (e.on < k) | none => true)

def barrierB (ops : Array Oper) (k p : Nat) : Bool :=
  Region.noSelect ops && decide (p < ops.size) && decide (k ≤ p) && Region.sinkB .any ops p && sourceB .any ops p && (Region.ready .any ops (firstK ops.size p)).contains p && headB .any ops (p - k) k && closedB .any ops k

theorem headInv_first {n k : Nat} (hk : k ≤ n) (hn : n < ops.size) (h : closedB md ops k = true) : HeadInv md ops n (firstK ops.size k) := by
  refine ⟨firstK_size _ _, fun j oj hj hl e he hb => ?_, fun t ht ht' => by rw [firstK_getD _ _ _ _ ht']; simp; omega⟩
  have hlt := (Array.getElem?_eq_some_iff.1 hj).1
  rw [firstK_getD _ _ _ _ hlt] at hl
  have hjk : j < k := by simpa using hl
  have h1 := List.all_eq_true.1 h j (List.mem_range.2 hlt)
  rw [hj] at h1
  simp only [Bool.or_eq_true, decide_eq_true_eq] at h1
  rcases h1 with h1 | h1
  · omega
  · have h2 := Array.all_eq_true'.1 h1 e he
    simp only [hb, Bool.not_true, Bool.false_or, decide_eq_true_eq] at h2
    by_cases hs : e.on < ops.size
    · rw [firstK_getD _ _ _ _ hs]; simpa using h2
    · omega

theorem upon_then {o : Oper} {a : Act} {K : Act → World → Prop} {Q : Exit → Act → World → Prop} {r : Result Next} (h : o.upon P a (fun a w => Exit.then K Q .normal a w) (Exit.then K Q) r) : o.upon P a K Q r := by
  cases r with
  | ok x w =>
    cases x with
    | enter f args =>
      refine Calls.mono (show Calls P f args w _ from h) fun e w' he => ?_
      cases e with
      | returned v => exact he
      | panicked chain => exact he
      | outgrown => exact he
    | row row args => exact h
    | _ => exact h
  | halt x w =>
    cases x <;> exact h

/-- Up to an operation that nothing passes: the operations before it, quiet in a class of worlds, in the text's order; then that one. -/
theorem wpSeg_barrier {Q : Exit → Act → World → Prop} {a : Act} {w : World} (k p : Nat) (o : Oper) (ho : ops[p]? = some o) (hB : barrierB ops k p = true) (hC : C w)
    (h : wpQuiet P ops C (fun a' => ∀ w', C w' → wpList P ops (Exit.then (wpSeg P ops Q (p + 1)) Q) [o] a' w') ((ops.toList.drop k).take (p - k)) a) : wpSeg P ops Q k a w := by
  simp only [barrierB, Bool.and_eq_true, decide_eq_true_eq] at hB
  obtain ⟨⟨⟨⟨⟨⟨⟨hsel, hn⟩, hk⟩, hs⟩, hc⟩, hrp⟩, hh⟩, hcl⟩ := hB
  have hlen : ((ops.toList.drop k).take (p - k)).length = p - k := by simp; omega
  have H := wpAnyS_lex (md := .any) hsel hs hc hn ((ops.toList.drop k).take (p - k)) k a (fun j hj => by
    rw [hlen] at hj
    simp [hj, List.getElem?_drop]) (by rw [hlen]; omega) (headInv_first hk hn hcl) (by rw [hlen]; exact hh) h
  have := wpAny_of_headT (Q' := Q) (g := ops.size - p) (fun listed a' w' hw' hL => by
    obtain ⟨rfl, hq⟩ := hL
    have hq' := hq w' hw'
    rw [show ops.size - p = (ops.size - (p + 1)) + 1 by omega]
    refine ⟨fun h0 => ?_, fun i hi => ?_⟩
    · rw [h0] at hrp; cases hrp
    · obtain rfl := ready_first hc i hi
      rw [firstK_set]
      unfold wpOp
      rw [ho]
      simp only [wpList] at hq'
      by_cases hw : Region.wanted o (yielded ops a'.tmps) = true
      · rw [if_pos hw] at hq'
        simp only [hw, if_true]
        rcases hq' with hq' | hq'
        · exact .inl (upon_then hq')
        · exact .inr ⟨hq'.1, hq'.2⟩
      · rw [if_neg hw] at hq'
        simp only [hw, if_false, Bool.false_eq_true]
        exact hq') _ _ _ _ hC H
  rw [hlen, show p - k + (ops.size - p) = ops.size - k by omega] at this
  exact this

/-- The operations that are left are quiet in a class of worlds. -/
theorem wpSeg_end {Q : Exit → Act → World → Prop} {a : Act} {w : World} (k : Nat) (hB : (Region.noSelect ops && Region.lexFrom .any ops (ops.size - k) k (firstK ops.size k)) = true) (hC : C w)
    (h : wpQuiet P ops C (fun a' => ∀ w', C w' → Q .normal a' w') (ops.toList.drop k) a) : wpSeg P ops Q k a w := by
  simp only [Bool.and_eq_true] at hB
  have hl : (ops.toList.drop k).length = ops.size - k := by simp
  have := wpAnyQ_lex (C := C) (md := .any) hB.1 (ops.toList.drop k) k (firstK ops.size k) a (fun j => by simp [List.getElem?_drop]) (by rw [hl]; exact hB.2) h
  unfold wpSeg
  rw [← hl]
  exact wpAny_of_quiet (fun _ w' hw' h => h w' hw') _ _ _ _ hC this

theorem wpSeg_barrier_later {Q : Exit → Act → World → Prop} {a : Act} {w : World} {l : List Oper} (k p : Nat) (o : Oper) (ho : l.toArray[p]? = some o) (hB : barrierB l.toArray k p = true)
    (h : (∀ (x : Later w) b o, b < w.heap.size → x.w.cell? ⟨b, o, none⟩ = w.cell? ⟨b, o, none⟩) → wpQuiet P l.toArray (fun w' => ∃ x : Later w, w' = x.w) (fun a' => ∀ w', (∃ x : Later w, w' = x.w) → wpList P l.toArray (Exit.then (wpSeg P l.toArray Q (p + 1)) Q) [o] a' w') ((l.drop k).take (p - k)) a) : wpSeg P l.toArray Q k a w :=
  wpSeg_barrier (C := fun w' => ∃ x : Later w, w' = x.w) k p o ho hB ⟨⟨_, Below.refl _ _⟩, rfl⟩ (h Later.cell)

theorem wpSeg_end_later {Q : Exit → Act → World → Prop} {a : Act} {w : World} {l : List Oper} (k : Nat) (hB : (Region.noSelect l.toArray && Region.lexFrom .any l.toArray (l.toArray.size - k) k (firstK l.toArray.size k)) = true)
    (h : (∀ (x : Later w) b o, b < w.heap.size → x.w.cell? ⟨b, o, none⟩ = w.cell? ⟨b, o, none⟩) → wpQuiet P l.toArray (fun w' => ∃ x : Later w, w' = x.w) (fun a' => ∀ w', (∃ x : Later w, w' = x.w) → Q .normal a' w') (l.drop k) a) : wpSeg P l.toArray Q k a w :=
  wpSeg_end (C := fun w' => ∃ x : Later w, w' = x.w) k hB ⟨⟨_, Below.refl _ _⟩, rfl⟩ (h Later.cell)

end seg
/-- A slice value whose elements read as a list of integers. -/
def IntsAt (w : World) (v : Value) (xs : List Int) : Prop :=
  ∃ a cap, v = .slice a xs.length cap ∧ (xs ≠ [] → ∃ b off, a = some ⟨b, off, none⟩ ∧ ∀ k, k < xs.length → w.cell? ⟨b, off + k, none⟩ = some (.int .i64 (xs.getD k 0)))
theorem cell_lt {w : World} {b o : Nat} {v : Value} (h : w.cell? ⟨b, o, none⟩ = some v) : b < w.heap.size := by
  rcases Nat.lt_or_ge b w.heap.size with h1 | h1
  · exact h1
  · simp [World.cell?, Array.getElem?_eq_none h1] at h
theorem IntsAt.below {w w' : World} {v : Value} {xs : List Int} (h : IntsAt w v xs) (hb : Below w.heap.size w w') : IntsAt w' v xs := by
  obtain ⟨a, cap, hv, hx⟩ := h
  refine ⟨a, cap, hv, fun hne => ?_⟩
  obtain ⟨b, off, ha, hc⟩ := hx hne
  exact ⟨b, off, ha, fun k hk => (hb.cell (p := ⟨b, off + k, none⟩) (cell_lt (hc k hk))).trans (hc k hk)⟩
theorem IntsAt.nil {w : World} {v : Value} (h : IntsAt w v []) : ∃ a cap, v = .slice a 0 cap := by
  obtain ⟨a, cap, hv, _⟩ := h
  exact ⟨a, cap, hv⟩
theorem IntsAt.some {w : World} {v : Value} {xs : List Int} (h : IntsAt w v xs) (hne : xs ≠ []) : ∃ b off cap, v = .slice (some ⟨b, off, none⟩) xs.length cap ∧ b < w.heap.size ∧ ∀ k, k < xs.length → w.cell? ⟨b, off + k, none⟩ = some (.int .i64 (xs.getD k 0)) := by
  obtain ⟨a, cap, hv, hx⟩ := h
  obtain ⟨b, off, rfl, hc⟩ := hx hne
  have h0 : 0 < xs.length := List.length_pos_iff.2 hne
  exact ⟨b, off, cap, hv, cell_lt (hc 0 h0), hc⟩
end Go.Lap

namespace Go.Lap
open Go.RowKit
section
variable {P : Program} {ops : Array Oper} {md : Region.Mode} {C : World → Prop} {n l : Nat}

theorem wpIn_of_quiet_round {o : Oper} {a : Act} {K : Act → Prop} {K' : Act → World → Prop} {Q' : Exit → Act → World → Prop} {w : World} (hd : ∀ c, o.op ≠ .defer c) (hw : C w) (h : ∀ a w', C w' → K a → K' a w')
    (hh : o.quiet P a C K) : o.wpIn (Fence.wide.inRound l) n P a w K' Q' := by
  obtain ⟨v, h1, h2⟩ := hh
  have h3 := h1 w hw
  unfold Oper.quietAt at h3
  refine ⟨fun _ _ => trivial, ?_⟩
  rw [Oper.semAt_eq _ _ _ hd]
  generalize (execOp a.eval o).run P w = r at *
  cases r with
  | ok x w' =>
    cases x <;> simp only [Oper.quietUpon] at h3 <;> simp only [Oper.uponIn]
    case value u =>
      obtain ⟨e1, e2⟩ := h3
      rw [e1, e2]
      exact h _ _ hw h2
    case skip =>
      obtain ⟨e1, e2⟩ := h3
      rw [e1, ← e2]
      exact h _ _ hw h2
    case enter f args =>
      obtain ⟨e1, hc⟩ := h3
      rw [e1]
      exact ⟨fun h => (by cases h), CallsIn.inRound l (((callsIn_wide (n := n - 1)).2 hc).mono fun e w'' ⟨he, hw''⟩ => by subst he; exact h _ _ hw'' h2)⟩
  | halt x w' => simp only [Oper.quietUpon] at h3

/-- No operation defers. -/
def noDeferB (ops : Array Oper) : Bool := ops.toList.all fun o => match o.op with
  | .defer _ => false
  | _ => true

theorem noDefer_spec (h : noDeferB ops = true) {i : Nat} {o : Oper} (ho : ops[i]? = some o) : ∀ c, o.op ≠ .defer c := by
  intro c hc
  have := List.all_eq_true.1 h o (by rw [← Array.getElem?_toList] at ho; exact List.mem_of_getElem? ho)
  rw [hc] at this
  cases this

theorem wpOpIn_of_qOp_round {i : Nat} {a : Act} {K : Act → Prop} {K' : Act → World → Prop} {Q' : Exit → Act → World → Prop} {w : World} (hd : noDeferB ops = true) (hC : C w) (h : ∀ a w', C w' → K a → K' a w')
    (hh : qOp P ops C i K a) : wpOpIn (Fence.wide.inRound l) n P ops Q' i K' a w := by
  unfold qOp at hh
  unfold wpOpIn
  split
  · rename_i ho; simp only [ho] at hh; exact h _ _ hC hh
  · rename_i o ho
    simp only [ho] at hh
    split
    · rename_i hw; simp only [hw, if_true] at hh; exact wpIn_of_quiet_round (noDefer_spec hd ho) hC h hh
    · rename_i hw; simp only [hw] at hh; exact ⟨fun _ _ => trivial, h _ _ hC hh⟩

theorem wpAnyIn_of_quiet_round {Q : Act → Prop} {Q' : Exit → Act → World → Prop} (hd : noDeferB ops = true) (hQ : ∀ a w, C w → Q a → Q' .normal a w) : ∀ (fuel : Nat) (listed : Array Bool) (a : Act) (w : World), C w →
    wpAnyQ P md ops C Q fuel listed a → wpAnyIn (Fence.wide.inRound l) n P md ops Q' fuel listed a w
  | 0, _, _, _, hw, h => ⟨h.1, hQ _ _ hw h.2⟩
  | fuel + 1, _, _, _, hw, h => ⟨fun h0 => hQ _ _ hw (h.1 h0), fun i hi => wpOpIn_of_qOp_round hd hw (fun a' w' hw' => wpAnyIn_of_quiet_round hd hQ fuel _ a' w' hw') (h.2 i hi)⟩

theorem wpIn_region_quiet_round {id : Nat} {Q : Exit → Act → World → Prop} {a : Act} {w : World} (hm : P.follows .mixedOrders = true) (hd : noDeferB ops = true) (hB : Region.lexB .any ops = true) (hC : C { w with drawn := w.drawn + 1 })
    (h : wpQuiet P ops C (fun a' => ∀ w', C w' → Q .normal a' w') ops.toList a) : (Code.region id ops true).wpIn (Fence.wide.inRound l) n P Q a w := by
  simp only [Region.lexB, Bool.and_eq_true] at hB
  refine wpIn_region_any hm (wpAnyIn_of_quiet_round (Q := fun a' => ∀ w', C w' → Q .normal a' w') hd (fun _ w' hw' h => h w' hw') _ _ _ _ hC ?_)
  have := wpAnyQ_lex (C := C) (md := .any) hB.1 ops.toList 0 (Array.replicate ops.size false) a (by simp) (by simpa using hB.2) h
  simpa using this

theorem wpIn_region_later_round {id : Nat} {Q : Exit → Act → World → Prop} {a : Act} {W : World} {l' : List Oper} (hm : P.follows .mixedOrders = true) (hd : noDeferB l'.toArray = true) (hB : Region.lexB .any l'.toArray = true)
    (h : (∀ (x : Later W) b o, b < W.heap.size → x.w.cell? ⟨b, o, none⟩ = W.cell? ⟨b, o, none⟩) → wpQuiet P l'.toArray (fun w' => ∃ x : Later W, w' = x.w) (fun a' => ∀ w', (∃ x : Later W, w' = x.w) → Q .normal a' w') l' a) :
    (Code.region id l'.toArray true).wpIn (Fence.wide.inRound l) n P Q a W :=
  wpIn_region_quiet_round (C := fun w' => ∃ x : Later W, w' = x.w) hm hd hB ⟨⟨_, (Below.refl _ _).drew⟩, rfl⟩ (by simpa using h Later.cell)
end
end Go.Lap

namespace Go.Lap
open Go.RowKit

/-- What is in one set, and not in another one. -/
def andN (a b : Nat) : Nat := a &&& (b ^^^ (2 ^ 64 - 1))
theorem andN_bit {a b : Nat} (ha : a < 18446744073709551616) (k : Nat) : (andN a b).testBit k = (a.testBit k && !b.testBit k) := by
  unfold andN
  rw [Nat.testBit_and, Nat.testBit_xor, Nat.testBit_two_pow_sub_one]
  by_cases hk : k < 64
  · simp [hk]
  · have : a.testBit k = false := Nat.testBit_lt_two_pow (Nat.lt_of_lt_of_le ha (by
      have := Nat.pow_le_pow_right (n := 2) (by decide) (Nat.le_of_not_lt hk)
      simpa using this))
    simp [this]
theorem andN_le (a b : Nat) : andN a b ≤ a := Nat.and_le_left

theorem toNat_u (a : Nat) (ha : a < 18446744073709551616) : (BitVec.ofInt 64 (a : Int)).toNat = a := by rw [BitVec.toNat_ofInt]; omega
theorem bits_u (a b : Nat) (ha : a < 18446744073709551616) (hb : b < 18446744073709551616) :
    bits .and .u64 (a : Int) (b : Int) = ((a &&& b : Nat) : Int) ∧ bits .or .u64 (a : Int) (b : Int) = ((a ||| b : Nat) : Int) ∧ bits .andNot .u64 (a : Int) (b : Int) = ((andN a b : Nat) : Int) := by
  have ea := toNat_u a ha
  have eb := toNat_u b hb
  have h1 : a &&& b < 18446744073709551616 := Nat.lt_of_le_of_lt Nat.and_le_left ha
  have h2 : a ||| b < 2 ^ 64 := Nat.or_lt_two_pow (by simpa using ha) (by simpa using hb)
  have h3 := Nat.lt_of_le_of_lt (andN_le a b) ha
  refine ⟨?_, ?_, ?_⟩
  · show IntKind.u64.wrap ((BitVec.ofInt 64 a &&& BitVec.ofInt 64 b).toNat : Nat) = _
    rw [BitVec.toNat_and, ea, eb, IntKind.wrap_u64]; omega
  · show IntKind.u64.wrap ((BitVec.ofInt 64 a ||| BitVec.ofInt 64 b).toNat : Nat) = _
    rw [BitVec.toNat_or, ea, eb, IntKind.wrap_u64]; omega
  · show IntKind.u64.wrap ((BitVec.ofInt 64 a &&& ~~~BitVec.ofInt 64 b).toNat : Nat) = _
    have e : (BitVec.ofInt 64 a &&& ~~~BitVec.ofInt 64 b).toNat = andN a b := by
      apply Nat.eq_of_testBit_eq
      intro k
      rw [andN_bit ha, BitVec.testBit_toNat, BitVec.getLsbD_and, BitVec.getLsbD_not, ← BitVec.testBit_toNat, ← BitVec.testBit_toNat, ea, eb]
      by_cases hk : k < 64
      · simp [hk]
      · have : a.testBit k = false := Nat.testBit_lt_two_pow (Nat.lt_of_lt_of_le ha (by
          have := Nat.pow_le_pow_right (n := 2) (by decide) (Nat.le_of_not_lt hk)
          simpa using this))
        simp [this]
    rw [e, IntKind.wrap_u64]; omega
theorem shl_one_u {P : Program} (c : Nat) (h1 : c ≤ 63) (w : World) : (Op.shift .shl .u64 1 .i64 (c : Int)).run P w = .ok (.int .u64 ((2 ^ c : Nat) : Int)) w := by
  have h : ¬ (c : Int) < 0 := by omega
  have h3 : min (c : Int).toNat 64 = c := by omega
  have h4 : 2 ^ c ≤ 2 ^ 63 := Nat.pow_le_pow_right (by decide) h1
  simp only [Op.shift, h, if_false, IntKind.bits, h3]
  show Result.ok (Value.int IntKind.u64 (IntKind.u64.wrap (1 * 2 ^ c))) w = _
  have e : (1 : Int) * 2 ^ c = ((2 ^ c : Nat) : Int) := by simp
  rw [e, IntKind.wrap_u64]
  congr 2
  generalize 2 ^ c = t at h4 ⊢
  omega
theorem shr_u {P : Program} (x c : Nat) (h1 : c ≤ 63) (w : World) : (Op.shift .shr .u64 (x : Int) .i64 (c : Int)).run P w = .ok (.int .u64 ((x >>> c : Nat) : Int)) w := by
  have h : ¬ (c : Int) < 0 := by omega
  have h3 : min (c : Int).toNat 64 = c := by omega
  simp only [Op.shift, h, if_false, IntKind.bits, h3]
  show Result.ok (Value.int IntKind.u64 ((x : Int).fdiv (2 ^ c))) w = _
  rw [Int.fdiv_eq_ediv_of_nonneg _ (Int.le_of_lt (Int.pow_pos (by decide))), Nat.shiftRight_eq_div_pow]
  simp
theorem u64_and1 (x c : Nat) (hx : x < 18446744073709551616) : bits .and .u64 ((x >>> c : Nat) : Int) 1 = if x.testBit c then 1 else 0 := by
  have hy : x >>> c < 18446744073709551616 := by
    rw [Nat.shiftRight_eq_div_pow]
    exact Nat.lt_of_le_of_lt (Nat.div_le_self _ _) hx
  have h := (bits_u (x >>> c) 1 hy (by decide)).1
  rw [show ((1 : Nat) : Int) = 1 from rfl] at h
  rw [h, Nat.and_one_is_mod, Nat.testBit, Nat.and_comm, Nat.and_one_is_mod]
  rcases Nat.mod_two_eq_zero_or_one (x >>> c) with h | h <;> simp [h]
theorem u64_bit (x c : Nat) (hx : x < 18446744073709551616) : bits .and .u64 ((x : Int) / 2 ^ c) 1 = if x.testBit c then 1 else 0 := by
  rw [← u64_and1 x c hx, Nat.shiftRight_eq_div_pow]; simp
theorem pow_u {c : Nat} (hc : c ≤ 63) : 2 ^ c < 18446744073709551616 ∧ IntKind.u64.wrap ((2 : Int) ^ c) = ((2 ^ c : Nat) : Int) := by
  have h2 : 2 ^ c ≤ 2 ^ 63 := Nat.pow_le_pow_right (by decide) hc
  rw [show (2 : Int) ^ c = ((2 ^ c : Nat) : Int) by simp, IntKind.wrap_u64]
  generalize 2 ^ c = t at h2 ⊢
  omega
theorem u64_set (x c : Nat) (hx : x < 18446744073709551616) (hc : c ≤ 63) : bits .or .u64 (x : Int) (IntKind.u64.wrap (2 ^ c)) = ((x ||| 2 ^ c : Nat) : Int) := by
  rw [(pow_u hc).2, (bits_u x (2 ^ c) hx (pow_u hc).1).2.1]

end Go.Lap

namespace Go.Lap
open Go.RowKit

theorem info_parts {P : Program} {e : TypeId} {z : Value} {s b : Nat} (h : (P.info? e).map (fun i => (i.zero, i.size, i.bytes)) = some (some z, s, b)) : ∃ i, P.info? e = some i ∧ i.zero = some z ∧ i.size = s ∧ i.bytes = b := by
  obtain ⟨i, hi, he⟩ := Option.map_eq_some_iff.1 h
  simp only [Prod.mk.injEq] at he
  exact ⟨i, hi, he.1, he.2.1, he.2.2⟩

/-- A kind of elements: its slice's type, its own, how many cells and bytes it takes, and which cells. -/
structure RowKind (P : Program) (α : Type) where
  t : TypeId
  e : TypeId
  size : Nat
  bytes : Nat
  z : Value
  enc : α → List Value
  ht : P.underlying t = some (.slice e)
  hi : (P.info? e).map (fun i => (i.zero, i.size, i.bytes)) = some (some z, size, bytes)
  hzs : z.cells.size = size
  hsz : 0 < size
  hb : bytes ≤ 1000
  henc : ∀ x, (enc x).length = size
  hone : ∀ x u, u ∈ enc x → u.oneCell' = true

variable {P : Program} {α : Type}

/-- A row of the call's own, from a block on. -/
def RowKind.own (K : RowKind P α) (B : Nat) (W : World) (v : Value) (xs : List α) : Prop := W.ownsRow B K.e K.size v xs.length (xs.flatMap K.enc)
/-- A row that lies somewhere. -/
def RowKind.at (K : RowKind P α) (W : World) (v : Value) (xs : List α) : Prop :=
  ∃ a cap, v = .slice a xs.length cap ∧ (xs ≠ [] → ∃ b off, a = some ⟨b, off, none⟩ ∧ ∀ k x, xs[k]? = some x → ∀ f u, (K.enc x)[f]? = some u → W.cell? ⟨b, off + k * K.size + f, none⟩ = some u)

theorem flat_length (K : RowKind P α) : ∀ xs : List α, (xs.flatMap K.enc).length = xs.length * K.size
  | [] => by simp
  | x :: xs => by rw [List.flatMap_cons, List.length_append, K.henc, flat_length K xs, List.length_cons, Nat.succ_mul]; omega
theorem flat_get (K : RowKind P α) : ∀ (xs : List α) (k : Nat) (x : α), xs[k]? = some x → ∀ f u, (K.enc x)[f]? = some u → (xs.flatMap K.enc)[k * K.size + f]? = some u
  | [], k, x, h, _, _, _ => by simp at h
  | y :: xs, 0, x, h, f, u, hu => by
    obtain rfl : y = x := by simpa using h
    rw [List.flatMap_cons, List.getElem?_append_left (by have := (List.getElem?_eq_some_iff.1 hu).1; omega)]
    simpa using hu
  | y :: xs, k + 1, x, h, f, u, hu => by
    have h2 : xs[k]? = some x := by simpa using h
    rw [List.flatMap_cons, List.getElem?_append_right (by rw [K.henc, Nat.succ_mul]; omega), K.henc]
    have := flat_get K xs k x h2 f u hu
    rw [show (k + 1) * K.size + f - K.size = k * K.size + f by rw [Nat.succ_mul]; omega]
    exact this
theorem flat_inv (K : RowKind P α) : ∀ (xs : List α) (j : Nat) (u : Value), (xs.flatMap K.enc)[j]? = some u → ∃ k x f, xs[k]? = some x ∧ (K.enc x)[f]? = some u ∧ j = k * K.size + f
  | [], _, _, h => by simp at h
  | x :: xs, j, u, h => by
    rw [List.flatMap_cons] at h
    rcases Nat.lt_or_ge j K.size with hj | hj
    · rw [List.getElem?_append_left (by rw [K.henc]; exact hj)] at h
      exact ⟨0, x, j, rfl, h, by omega⟩
    · rw [List.getElem?_append_right (by rw [K.henc]; exact hj), K.henc] at h
      obtain ⟨k, y, f, h1, h2, h3⟩ := flat_inv K xs _ _ h
      exact ⟨k + 1, y, f, by simpa using h1, h2, by rw [Nat.succ_mul]; omega⟩

theorem addr_add0 (b j : Nat) : (⟨b, 0, none⟩ : Addr).add j = ⟨b, j, none⟩ := by unfold Addr.add; split <;> simp_all
theorem addr_add (b o j : Nat) : (⟨b, o, none⟩ : Addr).add j = ⟨b, o + j, none⟩ := by unfold Addr.add; split <;> simp_all

theorem RowKind.own.at {K : RowKind P α} {B : Nat} {W : World} {v : Value} {xs : List α} (h : K.own B W v xs) : K.at W v xs := by
  rcases h.2 with ⟨rfl, hn⟩ | ⟨g, cap, cur, rfl, hb, hg, _, _, hs, ht⟩
  · have : xs = [] := List.eq_nil_of_length_eq_zero hn
    subst this
    exact ⟨none, 0, rfl, fun h => (h rfl).elim⟩
  · refine ⟨_, cap, rfl, fun _ => ⟨g, 0, rfl, fun k x hk f u hu => ?_⟩⟩
    have := h.cells (g := g) rfl (k * K.size + f) u (flat_get K xs k x hk f u hu)
    rw [addr_add0] at this
    rwa [Nat.zero_add]
theorem RowKind.at.below {K : RowKind P α} {W W' : World} {v : Value} {xs : List α} (h : K.at W v xs) (hb : Below W.heap.size W W') : K.at W' v xs := by
  obtain ⟨a, cap, rfl, hx⟩ := h
  refine ⟨a, cap, rfl, fun hne => ?_⟩
  obtain ⟨b, off, rfl, hc⟩ := hx hne
  exact ⟨b, off, rfl, fun k x hk f u hu => (hb.cell (p := ⟨b, off + k * K.size + f, none⟩) (cell_lt (hc k x hk f u hu))).trans (hc k x hk f u hu)⟩
theorem RowKind.own.below {K : RowKind P α} {B : Nat} {W W' : World} {v : Value} {xs : List α} (h : K.own B W v xs) (hb : Below W.heap.size W W') : K.own B W' v xs := by
  refine ⟨h.1, ?_⟩
  rcases h.2 with hn | ⟨g, cap, cur, rfl, hg0, hg, rest⟩
  · exact .inl hn
  · exact .inr ⟨g, cap, cur, rfl, hg0, (hb.block g (cells_of hg).1).trans hg, rest⟩
theorem RowKind.own.set {K : RowKind P α} {B b o : Nat} {W : World} {v u : Value} {xs : List α} (h : K.own B W v xs) (hb : b < B) : K.own B (W.setCell ⟨b, o, none⟩ u) v xs := by
  refine ⟨h.1, ?_⟩
  rcases h.2 with hn | ⟨g, cap, cur, rfl, hg0, hg, rest⟩
  · exact .inl hn
  · exact .inr ⟨g, cap, cur, rfl, hg0, (Below.heap_setCell _ _ _ _ (by simp only; omega)).trans hg, rest⟩
theorem RowKind.own.low {K : RowKind P α} {B B' : Nat} {W : World} {v : Value} {xs : List α} (h : K.own B W v xs) (hb : B' ≤ B) : K.own B' W v xs := by
  refine ⟨h.1, ?_⟩
  rcases h.2 with hn | ⟨g, cap, cur, rfl, hg0, rest⟩
  · exact .inl hn
  · exact .inr ⟨g, cap, cur, rfl, Nat.le_trans hb hg0, rest⟩
theorem RowKind.own_nil (K : RowKind P α) (B : Nat) (W : World) : K.own B W (.slice none 0 0) [] := World.ownsRow_nil W B K.e K.size
theorem RowKind.own_made (K : RowKind P α) {B : Nat} {w : World} (hB : B ≤ w.heap.size) : K.own B (w.alloc (.cells #[] K.e)) (.slice (some ⟨w.heap.size, 0, none⟩) 0 0) [] :=
  World.ownsRow_made w #[] 0 hB (by decide) (by simp)
theorem grown_from {B : Nat} {w w' : World} {K : RowKind P α} {v : Value} {xs : List α} (h : K.own B w v xs) (hg : w.grownBy w' v.ownBlock) (hB : B ≤ w.heap.size) : Below B w w' :=
  ⟨hg.os, hg.tape, hg.output, hg.size, fun k hk => hg.block k (by omega) (fun e => by have := h.lt k e.symm; omega)⟩

theorem row_one (K : RowKind P α) (w : World) (y : α) (c : Array Value) (e : TypeId) (hc : c = (K.enc y).toArray) : ∀ k y', [y][k]? = some y' → ∀ f u, (K.enc y')[f]? = some u → (w.alloc (.cells c e)).cell? ⟨w.heap.size, 0 + k * K.size + f, none⟩ = some u := by
  subst hc
  intro k y' hk f u hu
  obtain rfl : k = 0 := by
    have := (List.getElem?_eq_some_iff.1 hk).1
    simp at this; omega
  obtain rfl : y = y' := by simpa using hk
  rw [Nat.zero_mul, Nat.zero_add, (cells_of (alloc_at (w := w) (n := w.heap.size) rfl)).2]
  simpa using hu

/-- An append to a row of the call's own. -/
theorem wpList_append_row {w : World} {ops : Array Oper} {rest : List Oper} {o : Oper} {a : Act} {Q : Exit → Act → World → Prop} (K : RowKind P α) (hgd : o.guard = none) (s x : Operand)
    (ho : o.op = .call { callee := .builtin .append, args := #[s, x], argTypes := #[K.t, K.t] }) (B : Nat) (v : Value) (xs ys : List α) (hs : a.eval s = v) (hown : K.own B w v xs)
    (b off m c : Nat) (hx : a.eval x = .slice (some ⟨b, off, none⟩) m c) (hm : ys.length = m) (hys : ∀ k y, ys[k]? = some y → ∀ f u, (K.enc y)[f]? = some u → w.cell? ⟨b, off + k * K.size + f, none⟩ = some u) (hlen : xs.length + ys.length ≤ 1000) (hB : B ≤ w.heap.size)
    (h : ∀ v' w', K.own B w' v' (xs ++ ys) → Below B w w' → w.grownBy w' v.ownBlock → wpList P ops Q rest (a.put o.dst v') w') : wpList P ops Q (o :: rest) a w := by
  obtain ⟨i0, hi3, hz0, hz1, hz2⟩ := info_parts K.hi
  subst hm
  refine wpList_append_own _ hgd s x K.t ho B K.e i0 K.z K.size K.bytes K.ht hi3 hz0 hz1 hz2 K.hzs K.hsz v xs.length (xs.flatMap K.enc) hs hown ⟨b, off, none⟩ ys.length c (ys.flatMap K.enc) hx (flat_length K ys) ?_ ?_ (by unfold maxLen; omega) ?_ hB ?_
  · intro j u hj
    obtain ⟨k, y, f, h1, h2, rfl⟩ := flat_inv K ys j u hj
    rw [addr_add, ← Nat.add_assoc]
    exact hys k y h1 f u h2
  · intro u hu
    obtain ⟨y, _, hy⟩ := List.mem_flatMap.1 hu
    exact K.hone y u hy
  · have h1 := K.hb
    calc (xs.length + ys.length) * K.bytes ≤ 1000 * 1000 := Nat.mul_le_mul hlen h1
      _ ≤ _ := by decide
  · intro v' w' hown' hg hv
    have h1 : K.own B w' v' (xs ++ ys) := by
      show w'.ownsRow B K.e K.size v' (xs ++ ys).length ((xs ++ ys).flatMap K.enc)
      rw [List.length_append, List.flatMap_append]
      exact hown'
    exact h v' w' h1 (grown_from hown hg hB) hg

end Go.Lap

namespace Go.Lap
open Go.RowKit
variable {P : Program} {α : Type}

theorem flat_set (K : RowKind P α) : ∀ (xs : List α) (k f : Nat) (x x' : α) (u : Value), xs[k]? = some x → f < K.size → K.enc x' = (K.enc x).set f u → (xs.set k x').flatMap K.enc = (xs.flatMap K.enc).set (k * K.size + f) u
  | [], _, _, _, _, _, h, _, _ => by simp at h
  | y :: xs, 0, f, x, x', u, h, hf, he => by
    obtain rfl : y = x := by simpa using h
    rw [List.set_cons_zero, List.flatMap_cons, List.flatMap_cons, he, List.set_append_left _ _ (by rw [K.henc]; omega)]
    simp
  | y :: xs, k + 1, f, x, x', u, h, hf, he => by
    have h2 : xs[k]? = some x := by simpa using h
    rw [List.set_cons_succ, List.flatMap_cons, List.flatMap_cons, flat_set K xs k f x x' u h2 hf he, List.set_append_right _ _ (by rw [K.henc, Nat.succ_mul]; omega), K.henc]
    rw [show (k + 1) * K.size + f - K.size = k * K.size + f by rw [Nat.succ_mul]; omega]

theorem RowKind.own.block {K : RowKind P α} {B : Nat} {W : World} {v : Value} {xs : List α} (h : K.own B W v xs) (hne : xs ≠ []) : ∃ g cap cur, v = .slice (some ⟨g, 0, none⟩) xs.length cap ∧ B ≤ g ∧ W.heap[g]? = some (.cells cur K.e (0, 0)) ∧ (∀ k x, xs[k]? = some x → ∀ f u, (K.enc x)[f]? = some u → W.cell? ⟨g, k * K.size + f, none⟩ = some u) := by
  rcases h.2 with ⟨rfl, hn⟩ | ⟨g, cap, cur, rfl, hb, hg, _, _, hs, ht⟩
  · exact (hne (List.eq_nil_of_length_eq_zero hn)).elim
  · refine ⟨g, cap, cur, rfl, hb, hg, fun k x hk f u hu => ?_⟩
    have := h.cells (g := g) rfl (k * K.size + f) u (flat_get K xs k x hk f u hu)
    rwa [addr_add0] at this

theorem heap_set_at {W : World} {b o : Nat} {c : Array Value} {t : TypeId} {v : Value} (h : W.heap[b]? = some (.cells c t (0, 0))) : (W.setCell ⟨b, o, none⟩ v).heap[b]? = some (.cells (c.setIfInBounds o v) t (0, 0)) := by
  simp [World.setCell, Array.getElem?_modify, h]

/-- A cell of a row is written. -/
theorem RowKind.own.put {K : RowKind P α} {B g n cap k f : Nat} {W : World} {xs : List α} {x x' : α} {u : Value} (h : K.own B W (.slice (some ⟨g, 0, none⟩) n cap) xs) (hk : xs[k]? = some x) (hf : f < K.size) (he : K.enc x' = (K.enc x).set f u) :
    K.own B (W.setCell ⟨g, k * K.size + f, none⟩ u) (.slice (some ⟨g, 0, none⟩) n cap) (xs.set k x') := by
  refine ⟨by rw [flat_length], ?_⟩
  rcases h.2 with ⟨e, _⟩ | ⟨g', cap', cur, e, hb, hg, h1, h2, h3, ht⟩
  · cases e
  · injection e with e1 e2 e3
    subst e2 e3
    cases e1
    refine .inr ⟨g, cap, cur.setIfInBounds (k * K.size + f) u, by rw [List.length_set], hb, heap_set_at hg, by rw [List.length_set]; exact h1, h2, by simpa using h3, ?_⟩
    rw [flat_set K xs k f x x' u hk hf he, ← ht, List.length_set, Array.toList_setIfInBounds, List.take_set]

/-- An append to a row of the call's own, of what lies anywhere. -/
theorem wpList_append_rows {w : World} {ops : Array Oper} {rest : List Oper} {o : Oper} {a : Act} {Q : Exit → Act → World → Prop} (K : RowKind P α) (hgd : o.guard = none) (s x : Operand)
    (ho : o.op = .call { callee := .builtin .append, args := #[s, x], argTypes := #[K.t, K.t] }) (B : Nat) (v : Value) (xs ys : List α) (hs : a.eval s = v) (hown : K.own B w v xs)
    (ad : Addr) (m c : Nat) (hx : a.eval x = .slice (some ad) m c) (hm : ys.length = m) (hys : ∀ k y, ys[k]? = some y → ∀ f u, (K.enc y)[f]? = some u → w.cell? (ad.add (k * K.size + f)) = some u) (hlen : xs.length + ys.length ≤ 1000) (hB : B ≤ w.heap.size)
    (h : ∀ v' w', K.own B w' v' (xs ++ ys) → Below B w w' → w.grownBy w' v.ownBlock → wpList P ops Q rest (a.put o.dst v') w') : wpList P ops Q (o :: rest) a w := by
  obtain ⟨i0, hi3, hz0, hz1, hz2⟩ := info_parts K.hi
  subst hm
  refine wpList_append_own _ hgd s x K.t ho B K.e i0 K.z K.size K.bytes K.ht hi3 hz0 hz1 hz2 K.hzs K.hsz v xs.length (xs.flatMap K.enc) hs hown ad ys.length c (ys.flatMap K.enc) hx (flat_length K ys) ?_ ?_ (by unfold maxLen; omega) ?_ hB ?_
  · intro j u hj
    obtain ⟨k, y, f, h1, h2, rfl⟩ := flat_inv K ys j u hj
    exact hys k y h1 f u h2
  · intro u hu
    obtain ⟨y, _, hy⟩ := List.mem_flatMap.1 hu
    exact K.hone y u hy
  · have h1 := K.hb
    calc (xs.length + ys.length) * K.bytes ≤ 1000 * 1000 := Nat.mul_le_mul hlen h1
      _ ≤ _ := by decide
  · intro v' w' hown' hg hv
    have h1 : K.own B w' v' (xs ++ ys) := by
      show w'.ownsRow B K.e K.size v' (xs ++ ys).length ((xs ++ ys).flatMap K.enc)
      rw [List.length_append, List.flatMap_append]
      exact hown'
    exact h v' w' h1 (grown_from hown hg hB) hg

end Go.Lap

namespace Go.Lap
open Go.RowKit
section
variable {P : Program} {ops : Array Oper} {md : Region.Mode} {n l : Nat}

theorem wpIn_of_wp_round {o : Oper} {a : Act} {K K' : Act → World → Prop} {Q : Exit → Act → World → Prop} {w : World} (hd : ∀ c, o.op ≠ .defer c) (hK : ∀ a w, K a w → K' a w) (h : o.wp P a w K Q) : o.wpIn (Fence.wide.inRound l) n P a w K' Q := by
  refine ⟨fun _ _ => trivial, ?_⟩
  rw [Oper.semAt_eq _ _ _ hd]
  unfold Oper.wp at h
  revert h
  generalize (execOp a.eval o).run P w = r
  intro h
  cases r with
  | ok x w' =>
    cases x <;> simp only [Oper.uponIn] <;> simp only [Oper.upon] at h
    case value v => exact hK _ _ h
    case skip => exact hK _ _ h
    case defer d => exact hK _ _ h
    case enter f args =>
      refine ⟨fun h => (by cases h), CallsIn.inRound l (((callsIn_wide (n := n - 1)).2 h).mono fun e w'' he => ?_)⟩
      cases e with
      | returned v => exact hK _ _ he
      | panicked c => exact he
      | outgrown => exact he
    case row row args => exact ⟨fun h => (by cases h), fun c cs _ => let ⟨v, w2, hr, hs⟩ := h c cs; ⟨v, w2, hK _ _ hr, stepsIn_wide.2 hs⟩⟩
  | halt x w' =>
    cases x <;> exact h

theorem wpOpIn_of_wpOp_round {i : Nat} {a : Act} {K K' : Act → World → Prop} {Q : Exit → Act → World → Prop} {w : World} (hL : ¬ LetsOut Q) (hd : noDeferB ops = true) (hK : ∀ a w, K a w → K' a w) (h : wpOp P ops Q i K a w) : wpOpIn (Fence.wide.inRound l) n P ops Q i K' a w := by
  unfold wpOp at h
  unfold wpOpIn
  split
  · rename_i ho; simp only [ho] at h; exact hK _ _ h
  · rename_i o ho
    simp only [ho] at h
    split
    · rename_i hw
      simp only [hw, if_true] at h
      rcases h with h | h
      · exact wpIn_of_wp_round (noDefer_spec hd ho) hK h
      · exact (hL h.2).elim
    · rename_i hw
      simp only [hw] at h
      exact ⟨fun _ _ => trivial, hK _ _ h⟩

theorem wpAnyIn_of_wpAny_round {Q : Exit → Act → World → Prop} (hL : ¬ LetsOut Q) (hd : noDeferB ops = true) : ∀ (fuel : Nat) (listed : Array Bool) (a : Act) (w : World), wpAny P md ops Q fuel listed a w → wpAnyIn (Fence.wide.inRound l) n P md ops Q fuel listed a w
  | 0, _, _, _, h => h
  | fuel + 1, _, _, _, h => ⟨h.1, fun i hi => wpOpIn_of_wpOp_round hL hd (fun a w => wpAnyIn_of_wpAny_round hL hd fuel _ a w) (h.2 i hi)⟩

theorem wpIn_region_round {id : Nat} {Q : Exit → Act → World → Prop} {a : Act} {w : World} (hm : P.follows .mixedOrders = true) (hd : noDeferB ops = true) (hL : ¬ LetsOut Q) (h : wpAny P .any ops Q ops.size (Array.replicate ops.size false) a w.drew) : (Code.region id ops true).wpIn (Fence.wide.inRound l) n P Q a w :=
  wpIn_region_any hm (wpAnyIn_of_wpAny_round hL hd _ _ _ _ h)
end
end Go.Lap

namespace Go.Lap
open Go.RowKit
variable {P : Program} {ops : Array Oper} {md : Region.Mode} {Q : Exit → Act → World → Prop} {S : World → Prop}

theorem wpAnyH_step {i : Nat} {o : Oper} {fuel : Nat} {listed : Array Bool} {a : Act} {w : World} (hr : Region.ready md ops listed = [i]) (ho : ops[i]? = some o)
    (h : wpList P ops (Exit.then (fun a w => S w ∧ wpAnyH P md ops Q S fuel (listed.setIfInBounds i true) a w) Q) [o] a w) : wpAnyH P md ops Q S (fuel + 1) listed a w := by
  refine wpAnyH_all hr (by simp) fun j hj => ?_
  obtain rfl : j = i := by simpa using hj
  unfold wpOp
  rw [ho]
  simp only [wpList] at h
  by_cases hw : Region.wanted o (yielded ops a.tmps) = true
  · rw [if_pos hw] at h
    simp only [hw, if_true]
    rcases h with h | h
    · exact .inl (upon_then h)
    · exact .inr ⟨h.1, h.2⟩
  · rw [if_neg hw] at h
    simp only [hw, if_false, Bool.false_eq_true]
    exact h
/-- An operation that only computes, or only reads what S tells of. -/
theorem wpAnyH_quiet {i : Nat} {o : Oper} {v : Value} {fuel : Nat} {listed : Array Bool} {a : Act} {w : World} (ho : ops[i]? = some o)
    (hs : Region.noSelect ops = true) (hf : Region.free md ops listed i = true) (hr : (Region.ready md ops listed).contains i = true)
    (hQ : ∀ c a w, Q (.panic c) (a.put o.dst v) w → Q (.panic c) a w) (hg : o.guard = none) (hy : ∀ W, S W → (execOp a.eval o).run P W = .ok (.value v) W) (hS : S w)
    (h : wpAnyH P md ops Q S fuel (listed.setIfInBounds i true) (a.put o.dst v) w) : wpAnyH P md ops Q S (fuel + 1) listed a w :=
  wpAnyH_take ho hs hf hr hQ (.inl ⟨by simp [Region.wanted, hg], hy⟩) hS h
end Go.Lap

namespace Go.Lap
open Go.RowKit Go.ChangeShapes Go.WideShapes Go.ChangeAt Go.Deep

/-- A nil slice holds nothing. -/
def NilOk (v : Value) : Prop := ∀ n cap, v = .slice none n cap → n = 0 ∧ cap = 0

section
variable {H : Type} {enc : TypeId × Value → H} {P : Program}
theorem post_of_below {f : Func} {s : ChangeSpec} {apart fresh handsOn again : Bool} {W W' : World} {args : Array Value} {v : Value} {ds gs : List (DataW H)} {before pa pv : List MemPlace}
    (hW : DataW.Whole enc P f.params.toList s.vars apart W args.toList ds gs before)
    (hres : ∀ (b : Nat) (sp : Nat → Bool) (hd : Bool), DataW.TrodAll enc P W' b sp hd f.resultTypes.toList (v.resultList f.resultTypes.size) (s.fn H (ds ++ gs)).results [])
    (hargs : ∀ sp : Nat → Bool, (∀ p ∈ before, sp p.block = true) → DataW.TrodAll enc P W' 0 sp true f.params.toList args.toList (s.fn H (ds ++ gs)).args pa)
    (hvars : ∀ sp : Nat → Bool, (∀ p ∈ before, sp p.block = true) → DataW.TrodVars enc P W' sp s.vars (s.fn H (ds ++ gs)).vars pv)
    (hps : before = pa ++ pv) (hb : Below W.heap.size W W')
    (hok : ∀ (j : Nat) (t : TypeId) (r : Value), f.resultTypes[j]? = some t → (v.resultList f.resultTypes.size)[j]? = some r → Value.okWide P W' .any 0 t r) :
    s.post enc P f apart fresh handsOn again W args v W' := by
  have hlt : ∀ p ∈ before, p.block < W.heap.size := fun p hp => hW.lt p hp
  have hold : ∀ p ∈ before, (fun b => decide (b < W.heap.size)) p.block = true := fun p hp => by simpa using hlt p hp
  refine ⟨ds, gs, before, [], pa, pv, hW, hres _ _ _, hargs _ hold, hvars _ hold, World.keptBut_mono (fun p hp => ⟨hp, ?_⟩) (hb.frame (· ∈ before)), fun _ => ?_⟩
  · rw [hps, List.mem_append] at hp
    exact Or.inr hp
  · obtain ⟨_, _, _, _, _, hz, hn⟩ := hW
    refine ⟨hok, _, _, ([] ++ pa) ++ pv, ⟨[] ++ pa, pv, trodAll_append (hargs _ (fun _ _ => rfl)) (hres _ _ _), hvars _ (fun _ _ => rfl), rfl, ?_, ?_⟩, ?_⟩
    · intro b off hp
      have hin : MemPlace.cell b off ∈ before := by rw [hps]; simpa using hp
      rw [hb.frozen (hlt _ hin)]
      exact hz b off hin
    · intro ha
      have := hn ha
      rw [hps] at this
      simpa using this
    · intro p hp _
      rw [hps]
      simpa using hp

/-- An argument reads behind the call as it did. -/
theorem trod_kept {t : TypeId} {W W' : World} {v : Value} {d : DataW H} {ps : List MemPlace} (hl : laidOutB P = true) (hr : P.readableRec t = true) (hrow : t < P.types.size) (h : DataW.Trod enc P W 0 (fun _ => true) true t v d ps)
    (hb : Below W.heap.size W W') (hlt : ∀ p ∈ ps, p.block < W.heap.size) {sp : Nat → Bool} (hsp : ∀ p ∈ ps, sp p.block = true) : DataW.Trod enc P W' 0 sp true t v d ps :=
  WideElems.Trod_stays hl hr hrow h (fun x hx => hb.same (hlt x hx)) hsp

/-- An argument that is a row of any kind. -/
theorem open_row {α : Type} (K : RowKind P α) {W : World} {fuel : Nat} {c : Value} {x : DataW H × List MemPlace} (hC : P.cellsOf K.e = K.size) (wf : α → Prop)
    (hopen : ∀ (n : Nat) (cs : List Value) (y : DataW H × List MemPlace), DataW.trod enc P W 0 (fun _ => true) true n K.e cs = some y → ∃ a, cs = K.enc a ∧ wf a)
    (h : DataW.trod enc P W 0 (fun _ => true) true fuel K.t [c] = some x) : ∃ xs, K.at W c xs ∧ NilOk c ∧ (∀ a, a ∈ xs → wf a) ∧ xs.length ≤ maxLen := by
  rcases open_slice K.ht h with ⟨e, _⟩ | ⟨a, len, cap, m, n, D, Pl, e, _, hl, hm, hmm, _, hi⟩
  · obtain rfl : c = .slice none 0 0 := by simpa using e
    exact ⟨[], ⟨none, 0, rfl, fun h => (h rfl).elim⟩, fun n cap e => by cases e; exact ⟨rfl, rfl⟩, by simp, by simp⟩
  · obtain rfl : c = .slice (some a) len cap := by simpa using e
    simp only [if_true] at hmm
    have key : ∀ k, k ≤ len → ∃ xs : List α, xs.length = k ∧ ∀ i y, xs[i]? = some y → wf y ∧ W.cells? 0 (a.add (i * K.size)) K.size = some (K.enc y) := by
      intro k
      induction k with
      | zero => intro _; exact ⟨[], rfl, fun i y h => by simp at h⟩
      | succ k ih =>
        intro hk
        obtain ⟨xs, hl, hx⟩ := ih (by omega)
        obtain ⟨cs, h1, h2⟩ := hi k (by omega)
        obtain ⟨y, rfl, hy⟩ := hopen _ _ _ h2
        rw [hC] at h1
        refine ⟨xs ++ [y], by simp [hl], fun i z hz => ?_⟩
        rcases Nat.lt_or_ge i xs.length with hlt | hge
        · rw [List.getElem?_append_left hlt] at hz
          exact hx i z hz
        · rw [List.getElem?_append_right hge] at hz
          have h0 : i - xs.length = 0 := by
            have := (List.getElem?_eq_some_iff.1 hz).1
            simp at this; omega
          rw [h0] at hz
          obtain rfl : y = z := by simpa using hz
          obtain rfl : i = k := by omega
          exact ⟨hy, h1⟩
    obtain ⟨xs, hxl, hx⟩ := key len (Nat.le_refl _)
    subst hxl
    refine ⟨xs, ⟨some a, cap, rfl, fun hne => ?_⟩, (fun n cap e => by cases e), (fun y hy => ?_), by omega⟩
    · obtain ⟨y, hy⟩ : ∃ y, xs[0]? = some y := by
        cases xs with
        | nil => exact (hne rfl).elim
        | cons y l => exact ⟨y, rfl⟩
      have h1 := (World.cells?_some (hx 0 y hy).2).2.2 0 K.hsz
      have h2 : ∃ u, (K.enc y)[0]? = some u := ⟨_, List.getElem?_eq_getElem (by rw [K.henc]; exact K.hsz)⟩
      obtain ⟨u, hu⟩ := h2
      rw [hu] at h1
      obtain ⟨b, off, spot⟩ := a
      have hspot : spot = none := by
        have := World.cell?_spot h1
        simpa [Addr.add] using this
      subst hspot
      refine ⟨b, off, rfl, fun k y hk f u hu => ?_⟩
      have hf : f < K.size := by
        have := (List.getElem?_eq_some_iff.1 hu).1
        rwa [K.henc] at this
      have h3 := (World.cells?_some (hx k y hk).2).2.2 f hf
      rw [hu, addr_add, addr_add] at h3
      exact h3
    · obtain ⟨k, hk⟩ := List.getElem?_of_mem hy
      exact (hx k y hk).1
end
end Go.Lap

namespace Go.Lap
open Go.RowKit
variable {P : Program} {ops : Array Oper} {md : Region.Mode} {Q : Exit → Act → World → Prop}

/-- Each operation waits for earlier ones alone. -/
def backB (md : Region.Mode) (ops : Array Oper) : Bool :=
  (List.range ops.size).all fun i => ((ops[i]?).map fun o => o.after.all fun e => !Region.binds md e || decide (e.on < i)).getD true
def dset (d : Nat → Bool) (i : Nat) : Nat → Bool := fun j => decide (j = i) || d j
def vset (f : Nat → Value) (i : Nat) (v : Value) : Nat → Value := fun j => if j = i then v else f j
theorem dset_same (d : Nat → Bool) (i : Nat) : dset d i i = true := by simp [dset]
theorem vset_same (f : Nat → Value) (i : Nat) (v : Value) : vset f i v i = v := by simp [vset]
theorem dset_ne {d : Nat → Bool} {i j : Nat} (h : j ≠ i) : dset d i j = d j := by simp [dset, h]
theorem vset_ne {f : Nat → Value} {i j : Nat} {v : Value} (h : j ≠ i) : vset f i v j = f j := by simp [vset, h]

theorem countP_less {p p' : Nat → Bool} {k : Nat} (hk : p k = true) (hk' : p' k = false) (h : ∀ x, p' x = true → p x = true) : ∀ l : List Nat, k ∈ l → l.countP p' + 1 ≤ l.countP p
  | [], hm => by cases hm
  | x :: l, hm => by
    have hle : ∀ l : List Nat, l.countP p' ≤ l.countP p := fun l => List.countP_mono_left (fun x _ hx => h x hx)
    rw [List.countP_cons, List.countP_cons]
    by_cases e : x = k
    · subst e
      have := hle l
      rw [if_pos hk, if_neg (by rw [hk']; simp)]
      omega
    · have := countP_less hk hk' h l (by
        rcases List.mem_cons.1 hm with rfl | hm
        · exact (e rfl).elim
        · exact hm)
      cases h1 : p' x
      · simp; omega
      · rw [if_pos (h x h1)]; simp; omega

theorem wpAny_inv (I : (Nat → Bool) → Act → World → Prop) (hb : backB md ops = true)
    (step : ∀ i o d a w, ops[i]? = some o → d i = false → (∀ e ∈ o.after, Region.binds md e = true → d e.on = true) → I d a w → wpOp P ops Q i (fun a' w' => I (dset d i) a' w') a w)
    (fin : ∀ d a w, (∀ i, i < ops.size → d i = true) → I d a w → Q .normal a w) :
    ∀ (fuel : Nat) (listed : Array Bool) (a : Act) (w : World), listed.size = ops.size → (List.range ops.size).countP (fun i => !listed.getD i true) ≤ fuel → I (fun i => listed.getD i false) a w → wpAny P md ops Q fuel listed a w := by
  have hall : ∀ (listed : Array Bool), listed.size = ops.size → Region.ready md ops listed = [] → ∀ i, i < ops.size → listed.getD i false = true := by
    intro listed hs h0 i
    induction i using Nat.strongRecOn with
    | _ i ih =>
      intro hi
      cases hl : listed.getD i false
      · exfalso
        obtain ⟨o, ho⟩ : ∃ o, ops[i]? = some o := ⟨_, Array.getElem?_eq_getElem hi⟩
        have hr : i ∈ Region.ready md ops listed := by
          refine mem_ready.2 ⟨?_, o, ho, fun e he hbd => ?_⟩
          · have hi' : i < listed.size := by omega
            simp [Array.getD, hi'] at hl ⊢
            exact hl
          · have h1 := List.all_eq_true.1 hb i (List.mem_range.2 hi)
            rw [ho] at h1
            simp only [Option.map_some, Option.getD_some] at h1
            have h2 := Array.all_eq_true'.1 h1 e he
            rw [hbd] at h2
            simp at h2
            exact ih _ h2 (by omega)
        rw [h0] at hr; cases hr
      · rfl
  intro fuel
  induction fuel with
  | zero =>
    intro listed a w hs hc hI
    have h0 : Region.ready md ops listed = [] := by
      rw [List.eq_nil_iff_forall_not_mem]
      intro i hi
      obtain ⟨h1, o, ho, _⟩ := mem_ready.1 hi
      have hi' := (Array.getElem?_eq_some_iff.1 ho).1
      have := List.countP_eq_zero.1 (Nat.le_zero.1 hc) i (List.mem_range.2 hi')
      rw [h1] at this; simp at this
    exact ⟨h0, fin _ a w (hall listed hs h0) hI⟩
  | succ fuel ih =>
    intro listed a w hs hc hI
    refine ⟨fun h0 => fin _ a w (hall listed hs h0) hI, fun i hi => ?_⟩
    obtain ⟨h1, o, ho, hall'⟩ := mem_ready.1 hi
    have hi' := (Array.getElem?_eq_some_iff.1 ho).1
    have hi2 : i < listed.size := by omega
    have h1' : listed.getD i false = false := by
      simp [Array.getD, hi2] at h1 ⊢
      exact h1
    refine wpOp_mono (fun a' w' h' => ih _ a' w' (by simpa using hs) ?_ ?_) (step i o _ a w ho h1' hall' hI)
    · have := countP_less (p := fun j => !listed.getD j true) (p' := fun j => !(listed.setIfInBounds i true).getD j true) (k := i) (by show (!listed.getD i true) = true; rw [h1]; rfl) (by simp [Array.getD, hi2]) (fun x hx => by
        by_cases e : i = x
        · subst e; simp [Array.getD, hi2] at hx
        · have hx' : (!(listed.setIfInBounds i true).getD x true) = true := hx
          rw [getD_set_ne true e] at hx'; exact hx') (List.range ops.size) (List.mem_range.2 hi')
      omega
    · have e : (fun j => (listed.setIfInBounds i true).getD j false) = dset (fun j => listed.getD j false) i := by
        funext j
        by_cases e : i = j
        · subst e; simp [dset, Array.getD, hi2]
        · rw [dset_ne (Ne.symm e)]
          by_cases hj : j < listed.size
          · simp [Array.getD, hj, e]
          · simp [Array.getD, hj]
      rw [e]; exact h'

/-- Where an operation lays its value. -/
def dstOf (ops : Array Oper) (i : Nat) : Option Tmp := (ops[i]?).bind (·.dst)
/-- A frame in which some operations' values lie. -/
def puts (ops : Array Oper) (d : Nat → Bool) (vals : Nat → Value) : List Nat → Act → Act
  | [], a => a
  | i :: l, a => puts ops d vals l (if d i then a.put (dstOf ops i) (vals i) else a)
def apartD (ops : Array Oper) (i j : Nat) : Prop := ∀ t, dstOf ops i = some t → dstOf ops j ≠ some t
theorem puts_put {d : Nat → Bool} {vals : Nat → Value} {x : Option Tmp} {v : Value} : ∀ (l : List Nat) (a : Act), (∀ j, j ∈ l → ∀ t, x = some t → dstOf ops j ≠ some t) → puts ops d vals l (a.put x v) = (puts ops d vals l a).put x v
  | [], _, _ => rfl
  | i :: l, a, h => by
    simp only [puts]
    by_cases hd : d i = true
    · rw [if_pos hd, if_pos hd, Act.put_comm a v (vals i) (h i (by simp)), puts_put l _ (fun j hj => h j (by simp [hj]))]
    · rw [if_neg hd, if_neg hd, puts_put l _ (fun j hj => h j (by simp [hj]))]
theorem puts_congr {d d' : Nat → Bool} {vals vals' : Nat → Value} : ∀ (l : List Nat) (a : Act), (∀ j, j ∈ l → d' j = d j ∧ vals' j = vals j) → puts ops d' vals' l a = puts ops d vals l a
  | [], _, _ => rfl
  | i :: l, a, h => by
    simp only [puts]
    rw [(h i (by simp)).1, (h i (by simp)).2, puts_congr l _ (fun j hj => h j (by simp [hj]))]
theorem puts_set {d : Nat → Bool} {vals : Nat → Value} {i : Nat} {v : Value} (hd : d i = false) : ∀ (l : List Nat) (a : Act), l.Nodup → i ∈ l → (∀ j, j ∈ l → j ≠ i → apartD ops i j) → puts ops (dset d i) (vset vals i v) l a = (puts ops d vals l a).put (dstOf ops i) v
  | [], _, _, hm, _ => by cases hm
  | k :: l, a, hn, hm, ha => by
    rw [List.nodup_cons] at hn
    simp only [puts]
    by_cases e : k = i
    · subst e
      rw [dset_same, vset_same, hd]
      simp only [if_true, Bool.false_eq_true, if_false]
      rw [puts_congr (d := d) (vals := vals) l _ (fun j hj => by
        have hne : j ≠ k := fun e => hn.1 (e ▸ hj)
        exact ⟨dset_ne hne, vset_ne hne⟩)]
      exact puts_put l a (fun j hj => ha j (by simp [hj]) (fun e => hn.1 (e ▸ hj)))
    · rw [dset_ne e, vset_ne e]
      exact puts_set hd l _ hn.2 (by
        rcases List.mem_cons.1 hm with rfl | h
        · exact (e rfl).elim
        · exact h) (fun j hj => ha j (by simp [hj]))
theorem puts_size {d : Nat → Bool} {vals : Nat → Value} : ∀ (l : List Nat) (a : Act), (puts ops d vals l a).tmps.size = a.tmps.size
  | [], _ => rfl
  | i :: l, a => by
    simp only [puts]
    rw [puts_size l]
    split
    · cases h : dstOf ops i <;> simp [Act.put]
    · rfl
theorem puts_other {d : Nat → Bool} {vals : Nat → Value} {t : Tmp} : ∀ (l : List Nat) (a : Act), (∀ j, j ∈ l → dstOf ops j ≠ some t) → (puts ops d vals l a).eval (.tmp t) = a.eval (.tmp t)
  | [], _, _ => rfl
  | i :: l, a, h => by
    simp only [puts]
    rw [puts_other l _ (fun j hj => h j (by simp [hj]))]
    split
    · exact Act.eval_put (fun e he => by
        have := h i (by simp)
        rw [he] at this
        intro e2
        injection e2 with e2
        exact this (by rw [e2]))
    · rfl
theorem puts_own {d : Nat → Bool} {vals : Nat → Value} {i : Nat} {t : Tmp} (hd : d i = true) (ht : dstOf ops i = some t) : ∀ (l : List Nat) (a : Act), l.Nodup → i ∈ l → t < a.tmps.size → (∀ j, j ∈ l → j ≠ i → apartD ops i j) → (puts ops d vals l a).eval (.tmp t) = vals i
  | [], _, _, hm, _, _ => by cases hm
  | k :: l, a, hn, hm, hs, ha => by
    rw [List.nodup_cons] at hn
    simp only [puts]
    by_cases e : k = i
    · subst e
      rw [if_pos hd, puts_other l _ (fun j hj => ha j (by simp [hj]) (fun e => hn.1 (e ▸ hj)) t ht), ht]
      simp [Act.put, Act.eval, hs]
    · refine puts_own hd ht l _ hn.2 ?_ ?_ (fun j hj => ha j (by simp [hj]))
      · rcases List.mem_cons.1 hm with rfl | h
        · exact (e rfl).elim
        · exact h
      · split
        · cases h : dstOf ops k <;> simp [Act.put, hs]
        · exact hs

/-- No operation lays its value into this slot. -/
def freshB (ops : Array Oper) (t : Tmp) : Bool := (List.range ops.size).all fun k => !(dstOf ops k == some t)
theorem keepF {d : Nat → Bool} {vals : Nat → Value} {i j : Nat} {v x : Value} (h : d j = true → vals j = x) (hne : j ≠ i) : dset d i j = true → vset vals i v j = x := by
  rw [dset_ne hne, vset_ne hne]; exact h
theorem ownF {d : Nat → Bool} {vals : Nat → Value} {i : Nat} {v : Value} : dset d i i = true → vset vals i v i = v := fun _ => vset_same _ _ _
/-- No two operations lay their values into one slot; all slots are of the frame. -/
def slotsB (ops : Array Oper) (n : Nat) : Bool :=
  (List.range ops.size).all fun i => (match dstOf ops i with
    | none => true
    | some t => decide (t < n) && (List.range ops.size).all fun j => decide (j = i) || !(dstOf ops j == some t))
theorem slotsB_spec {n : Nat} (h : slotsB ops n = true) {i : Nat} (hi : i < ops.size) : (∀ t, dstOf ops i = some t → t < n) ∧ ∀ j, j < ops.size → j ≠ i → apartD ops i j := by
  have h1 := List.all_eq_true.1 h i (List.mem_range.2 hi)
  cases hd : dstOf ops i with
  | none => exact ⟨(fun t ht => by cases ht), (fun j _ _ t ht => by rw [hd] at ht; cases ht)⟩
  | some t =>
    simp only [hd, Bool.and_eq_true, decide_eq_true_eq] at h1
    refine ⟨fun u hu => by cases hu; exact h1.1, fun j hj hne u hu => ?_⟩
    rw [hd] at hu
    cases hu
    have h2 := List.all_eq_true.1 h1.2 j (List.mem_range.2 hj)
    simp only [hne, decide_false, Bool.false_or, Bool.not_eq_true', beq_eq_false_iff_ne, ne_eq] at h2
    exact h2

/-- Whatever order is picked: J tells what is so when some operations are done, by their values. -/
theorem wp_region_inv {id : Nat} {a0 : Act} {w0 : World} (J : (Nat → Bool) → (Nat → Value) → World → Prop) (hm : P.follows .mixedOrders = true) (hb : backB .any ops = true) (hd : slotsB ops a0.tmps.size = true)
    (start : J (fun _ => false) (fun _ => undef) w0.drew)
    (step : ∀ i o d vals a w, ops[i]? = some o → d i = false → (∀ e ∈ o.after, Region.binds .any e = true → d e.on = true) →
      (∀ k t, dstOf ops k = some t → d k = true → a.eval (.tmp t) = vals k) → (∀ t, freshB ops t = true → a.eval (.tmp t) = a0.eval (.tmp t)) →
      J d vals w → wpOp P ops Q i (fun a' w' => ∃ v, a' = a.put o.dst v ∧ J (dset d i) (vset vals i v) w') a w)
    (fin : ∀ d vals w, (∀ i, i < ops.size → d i = true) → J d vals w → Q .normal (puts ops (fun _ => true) vals (List.range ops.size) a0) w) : (Code.region id ops true).wp P Q a0 w0 := by
  refine wp_region_any hm ?_
  refine wpAny_inv (fun d a w => ∃ vals, a = puts ops d vals (List.range ops.size) a0 ∧ J d vals w) hb ?_ ?_ _ _ _ _ (by simp) ?_ ?_
  · rintro i o d a w ho hdi hdep ⟨vals, rfl, hJ⟩
    have hi := (Array.getElem?_eq_some_iff.1 ho).1
    have hs := slotsB_spec hd hi
    refine wpOp_mono ?_ (step i o d vals _ w ho hdi hdep ?_ ?_ hJ)
    · rintro a' w' ⟨v, rfl, hJ'⟩
      refine ⟨vset vals i v, ?_, hJ'⟩
      rw [puts_set hdi _ _ List.nodup_range (List.mem_range.2 hi) (fun j hj hne => hs.2 j (List.mem_range.1 hj) hne)]
      unfold dstOf
      rw [ho]
      rfl
    · intro k t ht hdk
      have hk : k < ops.size := by
        unfold dstOf at ht
        cases h : ops[k]? with
        | none => rw [h] at ht; cases ht
        | some o => exact (Array.getElem?_eq_some_iff.1 h).1
      have hs' := slotsB_spec hd hk
      exact puts_own hdk ht _ _ List.nodup_range (List.mem_range.2 hk) (hs'.1 t ht) (fun j hj hne => hs'.2 j (List.mem_range.1 hj) hne)
    · intro t ht
      exact puts_other _ _ (fun j hj e => by
        have := List.all_eq_true.1 ht j hj
        rw [e] at this
        simp at this)
  · rintro d a w hall ⟨vals, rfl, hJ⟩
    rw [puts_congr (d := fun _ => true) (vals := vals) _ _ (fun j hj => ⟨hall j (List.mem_range.1 hj), rfl⟩)]
    exact fin d vals w hall hJ
  · have := List.countP_le_length (p := fun i => !(Array.replicate ops.size false).getD i true) (l := List.range ops.size)
    simpa using this
  · refine ⟨fun _ => undef, ?_, ?_⟩
    · have : ∀ (l : List Nat) (a : Act), puts ops (fun i => (Array.replicate ops.size false).getD i false) (fun _ => undef) l a = a := by
        intro l
        induction l with
        | nil => intro a; rfl
        | cons i l ih =>
          intro a
          simp only [puts]
          rw [ih, if_neg (by simp [Array.getD])]
      exact (this _ _).symm
    · have e : (fun i => (Array.replicate ops.size false).getD i false) = fun _ => false := by
        funext i; simp [Array.getD]
      rw [e]
      exact start
end Go.Lap

namespace Go.Lap
open Go.RowKit
variable {P : Program} {α : Type}

/-- What lies outside of blocks of one kind lies as it lay. -/
structure KeptBut (e : TypeId) (w w' : World) : Prop where
  size : w.heap.size ≤ w'.heap.size
  blk : ∀ (k : Nat) (o : Obj), w.heap[k]? = some o → (∀ c f, o ≠ Obj.cells c e f) → w'.heap[k]? = some o
theorem KeptBut.refl (e : TypeId) (w : World) : KeptBut e w w := ⟨Nat.le_refl _, fun _ _ h _ => h⟩
theorem KeptBut.trans {e : TypeId} {a b c : World} (h : KeptBut e a b) (k : KeptBut e b c) : KeptBut e a c := ⟨Nat.le_trans h.size k.size, fun i o hi ho => k.blk i o (h.blk i o hi ho) ho⟩
theorem KeptBut.of {e : TypeId} {w w' : World} (h : Below w.heap.size w w') : KeptBut e w w' := ⟨h.size, fun k _ hk _ => (h.block k (Array.getElem?_eq_some_iff.1 hk).1).trans hk⟩
theorem RowKind.own.kept {K : RowKind P α} {e : TypeId} {B : Nat} {w w' : World} {v : Value} {xs : List α} (h : K.own B w v xs) (hk : KeptBut e w w') (he : K.e ≠ e) : K.own B w' v xs := by
  refine ⟨h.1, ?_⟩
  rcases h.2 with hn | ⟨g, cap, cur, rfl, hg0, hg, rest⟩
  · exact .inl hn
  · exact .inr ⟨g, cap, cur, rfl, hg0, hk.blk g _ hg (fun c f e2 => by cases e2; exact he rfl), rest⟩

/-- Rows of rows. -/
structure NestKind (P : Program) (α : Type) where
  K : RowKind P α
  t : TypeId
  ht : P.underlying t = some (.slice K.t)
  hi : (P.info? K.t).map (fun i => (i.zero, i.size, i.bytes)) = some (some (.slice none 0 0), 1, 24)
  hne : K.e ≠ K.t
/-- Rows of rows of the call's own. -/
def NestKind.own (N : NestKind P α) (B : Nat) (w : World) (v : Value) (L : List (List α)) : Prop :=
  ∃ vs : List Value, vs.length = L.length ∧ w.ownsRow B N.K.t 1 v L.length vs ∧ ∀ (i : Nat) (u : Value) (xs : List α), vs[i]? = some u → L[i]? = some xs → N.K.own 0 w u xs
theorem NestKind.own_nil (N : NestKind P α) (B : Nat) (w : World) : N.own B w (.slice none 0 0) [] := ⟨[], rfl, World.ownsRow_nil _ _ _ _, fun i u xs h => by simp at h⟩
theorem ownsRow_below {B e size n : Nat} {W W' : World} {v : Value} {xs : List Value} (h : W.ownsRow B e size v n xs) (hb : Below W.heap.size W W') : W'.ownsRow B e size v n xs := by
  refine ⟨h.1, ?_⟩
  rcases h.2 with hn | ⟨g, cap, cur, rfl, hg0, hg, rest⟩
  · exact .inl hn
  · exact .inr ⟨g, cap, cur, rfl, hg0, (hb.block g (cells_of hg).1).trans hg, rest⟩
theorem NestKind.own.below {N : NestKind P α} {B : Nat} {W W' : World} {v : Value} {L : List (List α)} (h : N.own B W v L) (hb : Below W.heap.size W W') : N.own B W' v L := by
  obtain ⟨vs, h1, h2, h3⟩ := h
  exact ⟨vs, h1, ownsRow_below h2 hb, fun i u xs hu hx => (h3 i u xs hu hx).below hb⟩
theorem NestKind.own.low {N : NestKind P α} {B B' : Nat} {W : World} {v : Value} {L : List (List α)} (h : N.own B W v L) (hb : B' ≤ B) : N.own B' W v L := by
  obtain ⟨vs, h1, h2, h3⟩ := h
  refine ⟨vs, h1, ⟨h2.1, ?_⟩, h3⟩
  rcases h2.2 with hn | ⟨g, cap, cur, rfl, hg0, rest⟩
  · exact .inl hn
  · exact .inr ⟨g, cap, cur, rfl, Nat.le_trans hb hg0, rest⟩
/-- How rows of rows read. -/
theorem NestKind.own.form {N : NestKind P α} {B : Nat} {W : World} {v : Value} {L : List (List α)} (h : N.own B W v L) : ∃ a cap, v = .slice a L.length cap ∧ (L ≠ [] → ∃ g, a = some ⟨g, 0, none⟩ ∧ g < W.heap.size ∧ ∀ (k : Nat) (xs : List α), L[k]? = some xs → ∃ u, W.cell? ⟨g, k, none⟩ = some u ∧ N.K.own 0 W u xs) := by
  obtain ⟨vs, h1, h2, h3⟩ := h
  rcases h2.2 with ⟨rfl, hn⟩ | ⟨g, cap, cur, rfl, hg0, hg, rest⟩
  · have : L = [] := List.eq_nil_of_length_eq_zero hn
    subst this
    exact ⟨none, 0, rfl, fun h => (h rfl).elim⟩
  · refine ⟨_, cap, rfl, fun _ => ⟨g, rfl, (cells_of hg).1, fun k xs hk => ?_⟩⟩
    have hk' : k < vs.length := by rw [h1]; exact (List.getElem?_eq_some_iff.1 hk).1
    have hv := List.getElem?_eq_getElem hk'
    refine ⟨vs[k], ?_, h3 k _ xs hv hk⟩
    have := h2.cells (g := g) rfl k _ hv
    rwa [addr_add0] at this

theorem RowKind.own.one {K : RowKind P α} {B : Nat} {w : World} {v : Value} {xs : List α} (h : K.own B w v xs) : v.oneCell' = true := by
  rcases h.2 with ⟨rfl, _⟩ | ⟨_, _, _, rfl, _⟩ <;> rfl
theorem grown_kept {e : TypeId} {B size n : Nat} {w w' : World} {v : Value} {xs : List Value} (h : w.ownsRow B e size v n xs) (hg : w.grownBy w' v.ownBlock) : KeptBut e w w' := by
  refine ⟨hg.size, fun k p hk hp => ?_⟩
  refine (hg.block k (Array.getElem?_eq_some_iff.1 hk).1 (fun e => ?_)).trans hk
  rcases h.2 with ⟨rfl, _⟩ | ⟨g, cap, cur, rfl, _, hgg, _⟩
  · cases e
  · have : k = g := by simpa [Value.ownBlock] using e
    subst this
    rw [hgg] at hk
    exact hp cur (0, 0) (Option.some.inj hk).symm
theorem grown_low {e : TypeId} {B size n : Nat} {w w' : World} {v : Value} {xs : List Value} (h : w.ownsRow B e size v n xs) (hg : w.grownBy w' v.ownBlock) (hB : B ≤ w.heap.size) : Below B w w' :=
  ⟨hg.os, hg.tape, hg.output, hg.size, fun k hk => hg.block k (by omega) (fun e => by have := h.lt k e.symm; omega)⟩

theorem NestKind.own_snoc (N : NestKind P α) {B : Nat} {w w' : World} {v v' u : Value} {L : List (List α)} {xs : List α} {vs : List Value} (h1 : vs.length = L.length) (h2 : w.ownsRow B N.K.t 1 v L.length vs) (h3 : ∀ (i : Nat) (u : Value) (xs : List α), vs[i]? = some u → L[i]? = some xs → N.K.own 0 w u xs)
    (hu : N.K.own 0 w u xs) (hown' : w'.ownsRow B N.K.t 1 v' (L.length + 1) (vs ++ [u])) (hg : w.grownBy w' v.ownBlock) : N.own B w' v' (L ++ [xs]) := by
  have hkept := grown_kept h2 hg
  refine ⟨vs ++ [u], by simp [h1], by simpa using hown', fun i y ys hy hys => ?_⟩
  rw [List.getElem?_append] at hy hys
  rw [h1] at hy
  split at hys
  · rename_i hlt
    rw [if_pos hlt] at hy
    exact (h3 i y ys hy hys).kept hkept N.hne
  · rename_i hge
    rw [if_neg hge] at hy
    have h0 : i - L.length = 0 := by
      have := (List.getElem?_eq_some_iff.1 hy).1
      simp at this; omega
    rw [h0] at hy hys
    simp at hy hys
    subst hy hys
    exact hu.kept hkept N.hne

/-- One row more behind rows of rows. -/
theorem wpList_append_nest {w : World} {ops : Array Oper} {rest : List Oper} {o : Oper} {a : Act} {Q : Exit → Act → World → Prop} (N : NestKind P α) (hgd : o.guard = none) (s x : Operand)
    (ho : o.op = .call { callee := .builtin .append, args := #[s, x], argTypes := #[N.t, N.t] }) (B : Nat) (v u : Value) (L : List (List α)) (xs : List α) (hs : a.eval s = v) (hrow : N.own B w v L) (hu : N.K.own 0 w u xs)
    (ad : Addr) (c : Nat) (hx : a.eval x = .slice (some ad) 1 c) (hc : w.cell? (ad.add 0) = some u) (hlen : L.length + 1 ≤ 1000000) (hB : B ≤ w.heap.size)
    (h : ∀ v' w', N.own B w' v' (L ++ [xs]) → Below B w w' → KeptBut N.K.t w w' → wpList P ops Q rest (a.put o.dst v') w') : wpList P ops Q (o :: rest) a w := by
  obtain ⟨i0, hi, hz0, hz1, hz2⟩ := info_parts N.hi
  obtain ⟨vs, h1, h2, h3⟩ := hrow
  have hone : u.oneCell' = true := hu.one
  refine wpList_append_own _ hgd s x N.t ho B N.K.t i0 (.slice none 0 0) 1 24 N.ht hi hz0 hz1 hz2 rfl (by decide) v L.length vs hs h2 ad 1 c [u] hx rfl ?_ ?_ (by unfold maxLen; omega) (by omega) hB ?_
  · intro j y hj
    match j, hj with
    | 0, hj =>
      obtain rfl : u = y := by simpa using hj
      exact hc
  · intro y hy
    obtain rfl : y = u := by simpa using hy
    exact hone
  · intro v' w' hown' hg _
    exact h v' w' (N.own_snoc h1 h2 h3 hu hown' hg) (grown_low h2 hg hB) (grown_kept h2 hg)

/-- At an operation: elements behind a row of the call's own. -/
theorem wp_append_row {w : World} {o : Oper} {a : Act} {K' : Act → World → Prop} {Q : Exit → Act → World → Prop} (K : RowKind P α) (s x : Operand)
    (ho : o.op = .call { callee := .builtin .append, args := #[s, x], argTypes := #[K.t, K.t] }) (B : Nat) (v : Value) (xs ys : List α) (hs : a.eval s = v) (hown : K.own B w v xs)
    (b off m c : Nat) (hx : a.eval x = .slice (some ⟨b, off, none⟩) m c) (hm : ys.length = m) (hys : ∀ k y, ys[k]? = some y → ∀ f u, (K.enc y)[f]? = some u → w.cell? ⟨b, off + k * K.size + f, none⟩ = some u) (hpos : 0 < m) (hlen : xs.length + ys.length ≤ 1000) (hB : B ≤ w.heap.size)
    (h : ∀ v' w', K.own B w' v' (xs ++ ys) → w.grownBy w' v.ownBlock → K' (a.put o.dst v') w') : o.wp P a w K' Q := by
  obtain ⟨i0, hi3, hz0, hz1, hz2⟩ := info_parts K.hi
  subst hm
  refine wp_append_lies w s x K.t ho B K.e i0 K.z K.size K.bytes K.ht hi3 hz0 hz1 hz2 K.hzs K.hsz v xs.length (xs.flatMap K.enc) hs hown ⟨b, off, none⟩ ys.length c (ys.flatMap K.enc) hx (flat_length K ys) ?_ ?_ hpos (by unfold maxLen; omega) ?_ hB w.heap.size rfl ?_
  · intro j u hj
    obtain ⟨k, y, f, h1, h2, rfl⟩ := flat_inv K ys j u hj
    rw [addr_add, ← Nat.add_assoc]
    exact hys k y h1 f u h2
  · intro u hu
    obtain ⟨y, _, hy⟩ := List.mem_flatMap.1 hu
    exact K.hone y u hy
  · have h1 := K.hb
    calc (xs.length + ys.length) * K.bytes ≤ 1000 * 1000 := Nat.mul_le_mul hlen h1
      _ ≤ _ := by decide
  · intro g cap w' hown' hg _ _
    refine h _ w' ?_ hg
    show w'.ownsRow B K.e K.size _ (xs ++ ys).length ((xs ++ ys).flatMap K.enc)
    rw [List.length_append, List.flatMap_append]
    exact hown'
/-- At an operation: one row more behind rows of rows. -/
theorem wp_append_nest {w : World} {o : Oper} {a : Act} {K' : Act → World → Prop} {Q : Exit → Act → World → Prop} (N : NestKind P α) (s x : Operand)
    (ho : o.op = .call { callee := .builtin .append, args := #[s, x], argTypes := #[N.t, N.t] }) (B : Nat) (v u : Value) (L : List (List α)) (xs : List α) (hs : a.eval s = v) (hrow : N.own B w v L) (hu : N.K.own 0 w u xs)
    (ad : Addr) (c : Nat) (hx : a.eval x = .slice (some ad) 1 c) (hc : w.cell? (ad.add 0) = some u) (hlen : L.length + 1 ≤ 1000000) (hB : B ≤ w.heap.size)
    (h : ∀ v' w', N.own B w' v' (L ++ [xs]) → w.grownBy w' v.ownBlock → Below B w w' → KeptBut N.K.t w w' → K' (a.put o.dst v') w') : o.wp P a w K' Q := by
  obtain ⟨i0, hi, hz0, hz1, hz2⟩ := info_parts N.hi
  obtain ⟨vs, h1, h2, h3⟩ := hrow
  refine wp_append_lies w s x N.t ho B N.K.t i0 (.slice none 0 0) 1 24 N.ht hi hz0 hz1 hz2 rfl (by decide) v L.length vs hs h2 ad 1 c [u] hx rfl ?_ ?_ (by decide) (by unfold maxLen; omega) (by omega) hB w.heap.size rfl ?_
  · intro j y hj
    match j, hj with
    | 0, hj =>
      obtain rfl : u = y := by simpa using hj
      exact hc
  · intro y hy
    obtain rfl : y = u := by simpa using hy
    exact hu.one
  · intro g cap w' hown' hg _ _
    exact h _ w' (N.own_snoc h1 h2 h3 hu hown' hg) hg (grown_low h2 hg hB) (grown_kept h2 hg)
end Go.Lap

namespace Go.Lap
open Go.RowKit
variable {P : Program} {ops : Array Oper} {md : Region.Mode} {Q : Exit → Act → World → Prop}

theorem puts_undone {d : Nat → Bool} {vals : Nat → Value} {i : Nat} {t : Tmp} (hd : d i = false) (ht : dstOf ops i = some t) : ∀ (l : List Nat) (a : Act), (∀ j, j ∈ l → j ≠ i → apartD ops i j) → (puts ops d vals l a).eval (.tmp t) = a.eval (.tmp t)
  | [], _, _ => rfl
  | k :: l, a, ha => by
    simp only [puts]
    by_cases e : k = i
    · subst e
      rw [hd]
      simp only [Bool.false_eq_true, if_false]
      exact puts_undone hd ht l a (fun j hj => ha j (by simp [hj]))
    · rw [puts_undone hd ht l _ (fun j hj => ha j (by simp [hj]))]
      split
      · exact Act.eval_put (fun x hx => by
          have := ha k (by simp) e t ht
          rw [hx] at this
          intro e2
          injection e2 with e2
          exact this (by rw [e2]))
      · rfl

/-- What operations wait for is done when they are. -/
def ClosedD (md : Region.Mode) (ops : Array Oper) (d : Nat → Bool) : Prop := ∀ j oj, ops[j]? = some oj → d j = true → ∀ e ∈ oj.after, Region.binds md e = true → d e.on = true

/-- Whatever order is picked: J tells what is so when some operations are done, by their values. -/
theorem wp_region_inv2 {id : Nat} {a0 : Act} {w0 : World} (J : (Nat → Bool) → (Nat → Value) → World → Prop) (hm : P.follows .mixedOrders = true) (hb : backB .any ops = true) (hd : slotsB ops a0.tmps.size = true)
    (start : J (fun _ => false) (fun _ => undef) w0.drew)
    (step : ∀ i o d vals a w, ops[i]? = some o → d i = false → (∀ e ∈ o.after, Region.binds .any e = true → d e.on = true) → ClosedD .any ops d →
      (∀ k t, dstOf ops k = some t → d k = true → a.eval (.tmp t) = vals k) → (∀ k t, dstOf ops k = some t → d k = false → a.eval (.tmp t) = a0.eval (.tmp t)) → (∀ t, freshB ops t = true → a.eval (.tmp t) = a0.eval (.tmp t)) →
      J d vals w → wpOp P ops Q i (fun a' w' => ∃ v, a' = a.put o.dst v ∧ J (dset d i) (vset vals i v) w') a w)
    (fin : ∀ d vals w, (∀ i, i < ops.size → d i = true) → J d vals w → Q .normal (puts ops (fun _ => true) vals (List.range ops.size) a0) w) : (Code.region id ops true).wp P Q a0 w0 := by
  refine wp_region_any hm ?_
  refine wpAny_inv (fun d a w => ∃ vals, a = puts ops d vals (List.range ops.size) a0 ∧ ClosedD .any ops d ∧ J d vals w) hb ?_ ?_ _ _ _ _ (by simp) ?_ ?_
  · rintro i o d a w ho hdi hdep ⟨vals, rfl, hcl, hJ⟩
    have hi := (Array.getElem?_eq_some_iff.1 ho).1
    have hs := slotsB_spec hd hi
    have hlt : ∀ k t, dstOf ops k = some t → k < ops.size := by
      intro k t ht
      unfold dstOf at ht
      cases h : ops[k]? with
      | none => rw [h] at ht; cases ht
      | some o => exact (Array.getElem?_eq_some_iff.1 h).1
    refine wpOp_mono ?_ (step i o d vals _ w ho hdi hdep hcl ?_ ?_ ?_ hJ)
    · rintro a' w' ⟨v, rfl, hJ'⟩
      refine ⟨vset vals i v, ?_, ?_, hJ'⟩
      · rw [puts_set hdi _ _ List.nodup_range (List.mem_range.2 hi) (fun j hj hne => hs.2 j (List.mem_range.1 hj) hne)]
        unfold dstOf
        rw [ho]
        rfl
      · intro j oj hj hdj e he hbe
        by_cases hji : j = i
        · subst hji
          rw [ho] at hj
          cases hj
          have := hdep e he hbe
          simp [dset, this]
        · rw [dset_ne hji] at hdj
          have := hcl j oj hj hdj e he hbe
          simp [dset, this]
    · intro k t ht hdk
      have hk := hlt k t ht
      have hs' := slotsB_spec hd hk
      exact puts_own hdk ht _ _ List.nodup_range (List.mem_range.2 hk) (hs'.1 t ht) (fun j hj hne => hs'.2 j (List.mem_range.1 hj) hne)
    · intro k t ht hdk
      have hk := hlt k t ht
      have hs' := slotsB_spec hd hk
      exact puts_undone hdk ht _ _ (fun j hj hne => hs'.2 j (List.mem_range.1 hj) hne)
    · intro t ht
      exact puts_other _ _ (fun j hj e => by
        have := List.all_eq_true.1 ht j hj
        rw [e] at this
        simp at this)
  · rintro d a w hall ⟨vals, rfl, _, hJ⟩
    rw [puts_congr (d := fun _ => true) (vals := vals) _ _ (fun j hj => ⟨hall j (List.mem_range.1 hj), rfl⟩)]
    exact fin d vals w hall hJ
  · have := List.countP_le_length (p := fun i => !(Array.replicate ops.size false).getD i true) (l := List.range ops.size)
    simpa using this
  · refine ⟨fun _ => undef, ?_, ?_, ?_⟩
    · have : ∀ (l : List Nat) (a : Act), puts ops (fun i => (Array.replicate ops.size false).getD i false) (fun _ => undef) l a = a := by
        intro l
        induction l with
        | nil => intro a; rfl
        | cons i l ih =>
          intro a
          simp only [puts]
          rw [ih, if_neg (by simp [Array.getD])]
      exact (this _ _).symm
    · intro j oj hj hdj
      simp [Array.getD] at hdj
    · have e : (fun i => (Array.replicate ops.size false).getD i false) = fun _ => false := by
        funext i; simp [Array.getD]
      rw [e]
      exact start

variable {α : Type}
theorem RowKind.own.form {K : RowKind P α} {B : Nat} {w : World} {v : Value} {xs : List α} (h : K.own B w v xs) : (v = .slice none 0 0 ∧ xs = []) ∨ ∃ g cap, v = .slice (some ⟨g, 0, none⟩) xs.length cap ∧ B ≤ g ∧ g < w.heap.size := by
  rcases h.2 with ⟨rfl, hn⟩ | ⟨g, cap, _, rfl, hb, hg, _⟩
  · exact .inl ⟨rfl, List.eq_nil_of_length_eq_zero hn⟩
  · exact .inr ⟨g, cap, rfl, hb, (cells_of hg).1⟩
theorem grown_refl (w : World) (r : Option Nat) : w.grownBy w r := ⟨rfl, rfl, rfl, Nat.le_refl _, fun _ _ _ => rfl⟩
/-- At an operation: a row of the call's own behind another one; nil, or not. -/
theorem wp_rows_append {w : World} {o : Oper} {a : Act} {K' : Act → World → Prop} {Q : Exit → Act → World → Prop} (K : RowKind P α) (s x : Operand)
    (ho : o.op = .call { callee := .builtin .append, args := #[s, x], argTypes := #[K.t, K.t] }) (B C : Nat) (v u : Value) (xs ys : List α) (hs : a.eval s = v) (hown : K.own B w v xs)
    (hx : a.eval x = u) (hu : K.own C w u ys) (hlen : xs.length + ys.length ≤ 1000) (hB : B ≤ w.heap.size)
    (h : ∀ v' w', K.own B w' v' (xs ++ ys) → w.grownBy w' v.ownBlock → K' (a.put o.dst v') w') : o.wp P a w K' Q := by
  obtain ⟨i0, hi3, _, _, _⟩ := info_parts K.hi
  by_cases hy : ys = []
  · subst hy
    rcases hu.form with ⟨rfl, _⟩ | ⟨g, cap, rfl, hg1, hg2⟩
    · have hrun := run_append_owned_none (P := P) (w := w) B K.t o.type K.e i0 K.size K.ht hi3 v xs.length _ hown
      unfold Oper.wp
      simp [execOp, ho, resolve, invoke, builtin, hs, hx, hrun, Result.andThen]
      exact h v w (by simpa using hown) (grown_refl _ _)
    · obtain ⟨i0, hi3, hz0, hz1, hz2⟩ := info_parts K.hi
      obtain ⟨v', w', hr, h2, h3, _, _⟩ := run_append_own_at (P := P) w B K.t o.type K.e i0 K.z K.size K.bytes K.ht hi3 hz0 hz1 hz2 K.hzs K.hsz v xs.length (xs.flatMap K.enc) hown ⟨g, 0, none⟩ 0 cap [] (by simp) (by simp) (by simp) (by unfold maxLen; simp at hlen; omega) (by
        have h1 := K.hb
        calc (xs.length + 0) * K.bytes ≤ 1000 * 1000 := Nat.mul_le_mul (by simpa using hlen) h1
          _ ≤ _ := by decide) hB
      unfold Oper.wp
      simp only [List.length_nil] at hx
      simp only [execOp, ho, resolve, invoke, builtin, Sem.run_bind, Sem.run_pure, Result.andThen_ok, List.map_toArray, List.map_cons, List.map_nil, hs, hx, hr]
      refine h v' w' ?_ h3
      show w'.ownsRow B K.e K.size _ (xs ++ []).length ((xs ++ []).flatMap K.enc)
      rw [List.append_nil]
      simpa using h2
  · rcases hu.form with ⟨_, e⟩ | ⟨g, cap, rfl, hg1, hg2⟩
    · exact (hy e).elim
    · refine wp_append_row K s x ho B v xs ys hs hown g 0 ys.length cap hx rfl (fun k y hk f u hf => ?_) (List.length_pos_iff.2 hy) hlen hB h
      obtain ⟨a1, c1, e, hc⟩ := hu.at
      cases e
      obtain ⟨b, off, e2, hc2⟩ := hc hy
      cases e2
      exact hc2 k y hk f u hf
end Go.Lap

namespace Go.Lap
open Go.RowKit
variable {P : Program} {ops : Array Oper} {Q : Exit → Act → World → Prop} {K : Act → World → Prop} {a : Act} {w : World} {ty : TypeId} {pos : String} {af : Array Edge}

theorem wpOp_at {i : Nat} {o : Oper} (hi : ops[i]? = some o) (hg : o.guard = none) (h : o.wp P a w K Q) : wpOp P ops Q i K a w := by
  unfold wpOp
  rw [hi]
  simp only [Region.wanted, hg, if_true]
  exact Or.inl h
theorem op_call {d f : Nat} {args : Array Operand} {ts : Array TypeId} {vs : Array Value} (hf : ∀ args w, (callFunc f args).run P w = .ok (.enter f args) w) (hv : args.map a.eval = vs) {R : Ending → World → Prop} (h : Calls P f vs w R) (hR : ∀ e w', R e w' → ∃ r, e = .returned r ∧ K (a.put (some d) r) w') :
    ({ dst := some d, op := .call { callee := .value (.func f), args := args, argTypes := ts }, type := ty, pos := pos, after := af, guard := none } : Oper).wp P a w K Q := by
  have hr : (execOp a.eval { dst := some d, op := .call { callee := .value (.func f), args := args, argTypes := ts }, type := ty, pos := pos, after := af, guard := none }).run P w = .ok (.enter f vs) w := by
    rw [← hv]
    simp [go_sem, hf]
  unfold Oper.wp
  rw [hr]
  simp only [Oper.upon]
  refine h.mono fun e w' he => ?_
  obtain ⟨r, rfl, hk⟩ := hR e w' he
  exact hk
theorem op_move {d : Nat} {x : Operand} {v : Value} (hx : a.eval x = v) (h : K (a.put (some d) v) w) :
    ({ dst := some d, op := .move x, type := ty, pos := pos, after := af, guard := none } : Oper).wp P a w K Q := by
  unfold Oper.wp
  simp only [execOp, hx]
  exact h
theorem op_assign {d : Nat} {x : Operand} {v : Value} (hx : a.eval x = v) (h : K (a.put (some d) v) w) :
    ({ dst := some d, op := .assign x, type := ty, pos := pos, after := af, guard := none } : Oper).wp P a w K Q := by
  unfold Oper.wp
  simp only [execOp, hx]
  exact h
end Go.Lap

namespace Go.Lap
open Go.RowKit

variable {P : Program} {α : Type}

/-- What a search for a key comes to. -/
def FoundK (enc : α → Value) (a : α) (es : List MapEntry) (i0 : Nat) : Option (Nat × Value) → Prop
  | none => ∀ e, e ∈ es → e.key ≠ enc a
  | some (i, v) => ∃ k e, i = i0 + k ∧ es[k]? = some e ∧ e.key = enc a ∧ v = e.val

/-- A type of keys. -/
structure KeyKind (P : Program) (α : Type) where
  k : TypeId
  enc : α → Value
  inj : ∀ a b, enc a = enc b → a = b
  hck : ∀ e a w, (Instr.checkKey e 10000 k (enc a)).run P w = .ok () w
  hbits : ∀ a, Instr.sameBits 10000 (enc a) (enc a) = true
  hfind : ∀ a w es, (∀ e, e ∈ es → ∃ b, e.key = enc b) → ∃ r, (Instr.findKey k (enc a) es).run P w = .ok r w ∧ FoundK enc a es 0 r

theorem find_asking_k {k : TypeId} {enc : α → Value} [DecidableEq α] (inj : ∀ a b, enc a = enc b → a = b) (heq : ∀ a b w, (Op.equal k (enc a) (enc b)).run P w = .ok (decide (a = b)) w) (s : α) (w : World) :
    ∀ (es : List MapEntry) (i : Nat), (∀ e, e ∈ es → ∃ t, e.key = enc t) → ∃ r, (Instr.findAsking k (enc s) es i).run P w = .ok r w ∧ FoundK enc s es i r
  | [], i, _ => ⟨none, rfl, fun _ h => by cases h⟩
  | e :: es, i, h => by
    obtain ⟨t, ht⟩ := h e (by simp)
    by_cases hst : s = t
    · refine ⟨some (i, e.val), ?_, 0, e, rfl, rfl, by rw [ht, hst], rfl⟩
      rw [Instr.findAsking, ht]
      simp [Sem.run_bind, heq, hst]
    · obtain ⟨r, hr, hf⟩ := find_asking_k inj heq s w es (i + 1) (fun e' he' => h e' (by simp [he']))
      refine ⟨r, ?_, ?_⟩
      · rw [Instr.findAsking, ht]
        simp [Sem.run_bind, heq, hst, hr]
      · cases r with
        | none =>
          intro e' he'
          rcases List.mem_cons.1 he' with rfl | he'
          · rw [ht]; exact fun h => hst (inj _ _ h).symm
          · exact hf e' he'
        | some p =>
          obtain ⟨j, v⟩ := p
          obtain ⟨k, e', rfl, he', hk, hv⟩ := hf
          exact ⟨k + 1, e', by omega, by simpa using he', hk, hv⟩
/-- Keys of a struct type. -/
theorem find_struct {k : TypeId} {enc : α → Value} [DecidableEq α] (hs : (match P.underlying k with | some (.struct _) => true | _ => false) = true) (inj : ∀ a b, enc a = enc b → a = b) (heq : ∀ a b w, (Op.equal k (enc a) (enc b)).run P w = .ok (decide (a = b)) w) (a : α) (w : World) (es : List MapEntry) (h : ∀ e, e ∈ es → ∃ b, e.key = enc b) :
    ∃ r, (Instr.findKey k (enc a) es).run P w = .ok r w ∧ FoundK enc a es 0 r := by
  obtain ⟨fs, hu⟩ : ∃ fs, P.underlying k = some (.struct fs) := by
    split at hs
    · next fs e => exact ⟨fs, e⟩
    · cases hs
  unfold Instr.findKey
  rw [Sem.run_bind, run_underlying hu]
  simp only [Result.andThen_ok]
  cases es with
  | nil => exact ⟨none, rfl, fun _ h => by cases h⟩
  | cons e es => exact find_asking_k inj heq a w (e :: es) 0 h
theorem find_now_int {kd : IntKind} (s : Int) : ∀ (es : List MapEntry) (i : Nat), (∀ e, e ∈ es → ∃ t : Int, e.key = .int kd t) → ∃ r, Instr.findNow (.int kd) (.int kd s) es i = some r ∧ FoundK (fun n : Int => Value.int kd n) s es i r
  | [], i, _ => ⟨none, rfl, fun _ h => by cases h⟩
  | e :: es, i, h => by
    obtain ⟨t, ht⟩ := h e (by simp)
    by_cases hst : s = t
    · refine ⟨some (i, e.val), ?_, 0, e, rfl, rfl, by rw [ht, hst], rfl⟩
      rw [Instr.findNow, ht]
      simp [Instr.sameNow, hst]
    · obtain ⟨r, hr, hf⟩ := find_now_int s es (i + 1) (fun e' he' => h e' (by simp [he']))
      refine ⟨r, ?_, ?_⟩
      · rw [Instr.findNow, ht]
        have : (s == t) = false := by simp [hst]
        simp [Instr.sameNow, this, hr]
      · cases r with
        | none =>
          intro e' he'
          rcases List.mem_cons.1 he' with rfl | he'
          · rw [ht]; exact fun h => hst (by injection h with _ h; exact h.symm)
          · exact hf e' he'
        | some p =>
          obtain ⟨j, v⟩ := p
          obtain ⟨k, e', rfl, he', hk, hv⟩ := hf
          exact ⟨k + 1, e', by omega, by simpa using he', hk, hv⟩
/-- Keys of an integer type. -/
theorem find_int {k : TypeId} {kd : IntKind} (hu : P.underlying k = some (.int kd)) (a : Int) (w : World) (es : List MapEntry) (h : ∀ e, e ∈ es → ∃ b : Int, e.key = .int kd b) :
    ∃ r, (Instr.findKey k (.int kd a) es).run P w = .ok r w ∧ FoundK (fun n : Int => Value.int kd n) a es 0 r := by
  obtain ⟨r, hr, hf⟩ := find_now_int a es 0 h
  refine ⟨r, ?_, hf⟩
  unfold Instr.findKey
  rw [Sem.run_bind, run_underlying hu]
  simp only [Result.andThen_ok]
  rw [show Instr.findNow (.int kd) (.int kd a) es 0 = some r from hr]
  rfl
def intKeys (k : TypeId) (kd : IntKind) (hu : P.underlying k = some (.int kd)) : KeyKind P Int where
  k := k
  enc := fun n => .int kd n
  inj := fun a b h => by injection h
  hck := fun e a w => by
    show (Instr.checkKey e (9999 + 1) k (.int kd a)).run P w = _
    rw [Instr.checkKey, Sem.run_bind, run_underlying hu]
    rfl
  hbits := fun a => by
    show Instr.sameBits (9999 + 1) (.int kd a) (.int kd a) = true
    rw [Instr.sameBits]
    simp
  hfind := fun a w es h => find_int hu a w es h

/-- An entry. -/
structure Ent (α : Type) where
  key : α
  val : Value
  born : Nat
def KeyKind.ent (K : KeyKind P α) (x : Ent α) : MapEntry := { key := K.enc x.key, val := x.val, born := x.born }
section
variable [DecidableEq α]
/-- What some entries tell of a key. -/
def getL (l : List (Ent α)) (a : α) : Option Value := (l.find? fun x => decide (x.key = a)).map (·.val)
def upd (f : α → Option Value) (a : α) (v : Value) : α → Option Value := fun b => if b = a then some v else f b
theorem getL_none {l : List (Ent α)} {a : α} (h : ∀ x, x ∈ l → x.key ≠ a) : getL l a = none := by
  simp only [getL]
  rw [List.find?_eq_none.2 (fun x hx => by simpa using h x hx)]
  rfl
theorem getL_at : ∀ {l : List (Ent α)} {i : Nat} {x : Ent α}, (l.map (·.key)).Nodup → l[i]? = some x → getL l x.key = some x.val
  | [], i, x, _, h => by simp at h
  | y :: l, 0, x, _, h => by
    obtain rfl : y = x := by simpa using h
    simp [getL]
  | y :: l, i + 1, x, hn, h => by
    rw [List.map_cons, List.nodup_cons] at hn
    have h' : l[i]? = some x := by simpa using h
    have hm : x.key ∈ l.map (·.key) := List.mem_map.2 ⟨x, List.mem_of_getElem? h', rfl⟩
    have hne : ¬ y.key = x.key := fun e => hn.1 (by rw [e]; exact hm)
    have := getL_at hn.2 h'
    simp only [getL, List.find?_cons, hne, decide_false] at this ⊢
    exact this
theorem getL_snoc {l : List (Ent α)} {x : Ent α} (h : ∀ y, y ∈ l → y.key ≠ x.key) : getL (l ++ [x]) = upd (getL l) x.key x.val := by
  funext b
  simp only [upd]
  by_cases hb : b = x.key
  · subst hb
    simp only [getL, List.find?_append]
    rw [List.find?_eq_none.2 (fun y hy => by simpa using h y hy)]
    simp
  · rw [if_neg hb]
    have hb' : ¬ x.key = b := fun e => hb e.symm
    simp only [getL, List.find?_append]
    cases List.find? (fun x => decide (x.key = b)) l <;> simp [hb']
theorem getL_set : ∀ {l : List (Ent α)} {i : Nat} {x y : Ent α}, (l.map (·.key)).Nodup → l[i]? = some x → y.key = x.key → getL (l.set i y) = upd (getL l) x.key y.val
  | [], i, x, _, _, h, _ => by simp at h
  | z :: l, 0, x, y, _, h, hk => by
    obtain rfl : z = x := by simpa using h
    funext b
    simp only [upd, getL, List.set_cons_zero, List.find?_cons, hk]
    by_cases hb : b = z.key
    · subst hb; simp
    · have hb' : ¬ z.key = b := fun e => hb e.symm
      simp [hb, hb']
  | z :: l, i + 1, x, y, hn, h, hk => by
    rw [List.map_cons, List.nodup_cons] at hn
    have h' : l[i]? = some x := by simpa using h
    have hm : x.key ∈ l.map (·.key) := List.mem_map.2 ⟨x, List.mem_of_getElem? h', rfl⟩
    have hne : ¬ z.key = x.key := fun e => hn.1 (by rw [e]; exact hm)
    have ih := getL_set hn.2 h' hk
    funext b
    have := congrFun ih b
    simp only [upd, getL, List.set_cons_succ, List.find?_cons] at this ⊢
    by_cases hzb : z.key = b
    · have hb : ¬ b = x.key := fun e => hne (hzb.trans e)
      simp [hzb, hb]
    · simp only [hzb, decide_false]
      exact this

/-- Entries tell this of all keys. -/
structure TellsL (K : KeyKind P α) (l : List (Ent α)) (f : α → Option Value) (es : Array MapEntry) (c : Nat) : Prop where
  es : es = (l.map K.ent).toArray
  keys : (l.map (·.key)).Nodup
  born : (l.map (·.born)).Nodup
  lt : ∀ x, x ∈ l → x.born < c
  f : f = getL l
def Tells (K : KeyKind P α) (f : α → Option Value) (es : Array MapEntry) (c : Nat) : Prop := ∃ l, TellsL K l f es c
theorem tells_empty (K : KeyKind P α) : Tells K (fun _ => none) #[] 0 := ⟨[], rfl, List.nodup_nil, List.nodup_nil, (fun x h => by cases h), rfl⟩

theorem TellsL.find {K : KeyKind P α} {l : List (Ent α)} {f : α → Option Value} {es : Array MapEntry} {c : Nat} (h : TellsL K l f es c) (a : α) (w : World) :
    ((Instr.findKey K.k (K.enc a) es.toList).run P w = .ok none w ∧ f a = none ∧ (∀ x, x ∈ l → x.key ≠ a)) ∨ (∃ i x, (Instr.findKey K.k (K.enc a) es.toList).run P w = .ok (some (i, x.val)) w ∧ l[i]? = some x ∧ x.key = a ∧ f a = some x.val) := by
  have hl : es.toList = l.map K.ent := by rw [h.es]
  obtain ⟨r, hr, hf⟩ := K.hfind a w es.toList (fun e he => by
    rw [hl] at he
    obtain ⟨x, _, rfl⟩ := List.mem_map.1 he
    exact ⟨x.key, rfl⟩)
  cases r with
  | none =>
    have hno : ∀ x, x ∈ l → x.key ≠ a := fun x hx e => hf (K.ent x) (by rw [hl]; exact List.mem_map.2 ⟨x, hx, rfl⟩) (by rw [← e]; rfl)
    exact .inl ⟨hr, by rw [h.f]; exact getL_none hno, hno⟩
  | some p =>
    obtain ⟨i, v⟩ := p
    obtain ⟨k, e, rfl, he, hk, rfl⟩ := hf
    rw [hl, List.getElem?_map] at he
    obtain ⟨x, hx, rfl⟩ := Option.map_eq_some_iff.1 he
    have hxa : x.key = a := K.inj _ _ hk
    refine .inr ⟨0 + k, x, hr, by rw [Nat.zero_add]; exact hx, hxa, ?_⟩
    rw [h.f, ← hxa]
    exact getL_at h.keys hx

omit [DecidableEq α] in
theorem set_keys {l : List (Ent α)} {i : Nat} {x y : Ent α} (h : l[i]? = some x) (hk : y.key = x.key) : (l.set i y).map (·.key) = l.map (·.key) := by
  rw [List.map_set]
  apply List.ext_getElem?
  intro j
  rw [List.getElem?_set]
  split
  · next e =>
    subst e
    rw [List.getElem?_map, h]
    simp [hk, (List.getElem?_eq_some_iff.1 h).1]
  · rfl
omit [DecidableEq α] in
theorem set_born {l : List (Ent α)} {i : Nat} {x y : Ent α} (h : l[i]? = some x) (hk : y.born = x.born) : (l.set i y).map (·.born) = l.map (·.born) := by
  rw [List.map_set]
  apply List.ext_getElem?
  intro j
  rw [List.getElem?_set]
  split
  · next e =>
    subst e
    rw [List.getElem?_map, h]
    simp [hk, (List.getElem?_eq_some_iff.1 h).1]
  · rfl
omit [DecidableEq α] in
theorem modify_ent {K : KeyKind P α} {l : List (Ent α)} {i : Nat} {x y : Ent α} {g : MapEntry → MapEntry} (h : l[i]? = some x) (hg : g (K.ent x) = K.ent y) : (l.map K.ent).toArray.modify i g = ((l.set i y).map K.ent).toArray := by
  apply Array.ext_getElem?
  intro j
  rw [Array.getElem?_modify, List.map_set]
  simp only [List.getElem?_toArray, List.getElem?_set]
  split
  · next e =>
    subst e
    rw [List.getElem?_map, h]
    simp [hg, (List.getElem?_eq_some_iff.1 h).1]
  · rfl
theorem TellsL.put {K : KeyKind P α} {l : List (Ent α)} {f : α → Option Value} {es : Array MapEntry} {c : Nat} (h : TellsL K l f es c) {i : Nat} {x : Ent α} (hx : l[i]? = some x) (v : Value) {g : MapEntry → MapEntry} (hg : g (K.ent x) = K.ent { x with val := v }) :
    TellsL K (l.set i { x with val := v }) (upd f x.key v) (es.modify i g) c := by
  refine ⟨by rw [h.es]; exact modify_ent hx hg, by rw [set_keys (y := { x with val := v }) hx rfl]; exact h.keys, by rw [set_born (y := { x with val := v }) hx rfl]; exact h.born, fun y hy => ?_, ?_⟩
  · rcases List.mem_or_eq_of_mem_set hy with hy | rfl
    · exact h.lt y hy
    · exact h.lt x (List.mem_of_getElem? hx)
  · rw [h.f]; exact (getL_set (y := { x with val := v }) h.keys hx rfl).symm
theorem nodup_snoc {β : Type} {l : List β} {x : β} (h : l.Nodup) (hx : x ∉ l) : (l ++ [x]).Nodup := by
  rw [List.nodup_append]
  exact ⟨h, by simp, fun a ha b hb e => by simp at hb; subst hb; subst e; exact hx ha⟩
theorem TellsL.push {K : KeyKind P α} {l : List (Ent α)} {f : α → Option Value} {es : Array MapEntry} {c : Nat} (h : TellsL K l f es c) {a : α} (hno : ∀ x, x ∈ l → x.key ≠ a) (v : Value) :
    TellsL K (l ++ [⟨a, v, c⟩]) (upd f a v) (es.push { key := K.enc a, val := v, born := c }) (c + 1) := by
  refine ⟨by rw [h.es]; simp [KeyKind.ent], ?_, ?_, fun y hy => ?_, ?_⟩
  · rw [List.map_append]
    exact nodup_snoc h.keys (fun hm => by obtain ⟨x, hx, e⟩ := List.mem_map.1 hm; exact hno x hx e)
  · rw [List.map_append]
    exact nodup_snoc h.born (fun hm => by obtain ⟨x, hx, e⟩ := List.mem_map.1 hm; have := h.lt x hx; simp only at e; omega)
  · rcases List.mem_append.1 hy with hy | hy
    · have := h.lt y hy; omega
    · obtain rfl : y = ⟨a, v, c⟩ := by simpa using hy
      simp
  · rw [h.f]; exact (getL_snoc (x := ⟨a, v, c⟩) hno).symm

theorem run_getMap {w : World} {m : Nat} {es : Array MapEntry} {c : Nat} (hm : w.heap[m]? = some (.map es c)) : (getObj m).run P w = .ok (.map es c) w := by simp [getObj, Sem.run, hm]
theorem run_setMap {w : World} {m : Nat} {es : Array MapEntry} {c : Nat} (hm : w.heap[m]? = some (.map es c)) (o : Obj) : (setObj m o).run P w = .ok () (w.putObj m o) := by simp [setObj, Sem.run, hm, World.putObj]

theorem lookup_tells (K : KeyKind P α) {T E : TypeId} (hu : P.underlying T = some (.map K.k E)) {z : Value} (hz : ∀ w, (zeroValue E).run P w = .ok z w) {f : α → Option Value} {w : World} {m : Nat} {es : Array MapEntry} {c : Nat}
    (hm : w.heap[m]? = some (.map es c)) (hes : Tells K f es c) (a : α) :
    (Instr.lookup T (.map (some m)) (K.enc a) true).run P w = .ok (.tuple #[(f a).getD z, .bool (f a).isSome]) w ∧ (Instr.lookup T (.map (some m)) (K.enc a) false).run P w = .ok ((f a).getD z) w := by
  obtain ⟨l, hl⟩ := hes
  have hk := K.hck es.isEmpty a w
  rcases hl.find a w with ⟨hr, hf, _⟩ | ⟨i, x, hr, _, _, hf⟩
  · rw [hf]
    exact ⟨by simp [Instr.lookup, Sem.run_bind, run_underlying hu, run_getMap hm, hk, hr, hz], by simp [Instr.lookup, Sem.run_bind, run_underlying hu, run_getMap hm, hk, hr, hz]⟩
  · rw [hf]
    exact ⟨by simp [Instr.lookup, Sem.run_bind, run_underlying hu, run_getMap hm, hk, hr], by simp [Instr.lookup, Sem.run_bind, run_underlying hu, run_getMap hm, hk, hr]⟩

theorem update_tells (K : KeyKind P α) {T E : TypeId} (hu : P.underlying T = some (.map K.k E)) {f : α → Option Value} {w : World} {m : Nat} {es : Array MapEntry} {c : Nat}
    (hm : w.heap[m]? = some (.map es c)) (hes : Tells K f es c) (a : α) (v : Value) :
    ∃ es' c', (Instr.mapUpdate T (.map (some m)) (K.enc a) v).run P w = .ok () (w.putObj m (.map es' c')) ∧ Tells K (upd f a v) es' c' := by
  obtain ⟨l, hl⟩ := hes
  have hk := K.hck false a w
  rcases hl.find a w with ⟨hr, hf, hno⟩ | ⟨i, x, hr, hx, hxa, hf⟩
  · refine ⟨es.push { key := K.enc a, val := v, born := c }, c + 1, ?_, _, hl.push hno v⟩
    simp [Instr.mapUpdate, Sem.run_bind, run_underlying hu, run_getMap hm, hk, hr, run_setMap hm]
  · have hee : es[i]? = some (K.ent x) := by rw [hl.es]; simp [hx]
    subst hxa
    refine ⟨es.modify i fun e => { e with key := K.enc x.key, val := v }, c, ?_, _, hl.put hx v rfl⟩
    simp only [Instr.mapUpdate, Sem.run_bind, run_underlying hu, Result.andThen_ok, run_getMap hm, hk, hr, hee, Option.map_some, Option.getD_some, KeyKind.ent, Instr.keyThatStays, K.hbits, if_true, Sem.run_pure, run_setMap hm]

omit [DecidableEq α] in
theorem find_born {K : KeyKind P α} {l : List (Ent α)} {i : Nat} {x : Ent α} (hb : (l.map (·.born)).Nodup) (hx : l[i]? = some x) : (l.map K.ent).toArray.findIdx? (fun e => (e.born : Int) == (x.born : Int)) = some i := by
  rw [List.findIdx?_toArray, List.findIdx?_eq_some_iff_getElem]
  have hi := (List.getElem?_eq_some_iff.1 hx).1
  refine ⟨by simpa using hi, ?_, fun j hj => ?_⟩
  · have := (List.getElem?_eq_some_iff.1 hx).2
    simp [KeyKind.ent, this]
  · have hj' : j < l.length := by omega
    have e1 := (List.getElem?_eq_some_iff.1 hx).2
    simp only [List.getElem_map, KeyKind.ent]
    have hne : (l[j]).born ≠ x.born := fun e => by
      have h1 : (l.map (·.born))[j]'(by simpa using hj') = (l.map (·.born))[i]'(by simpa using hi) := by
        simp only [List.getElem_map]; rw [e, e1]
      have := (List.getElem_inj hb).1 h1
      omega
    simp only [Bool.not_eq_true, beq_eq_false_iff_ne, ne_eq]
    omega
theorem entry_tells (K : KeyKind P α) {T E : TypeId} (hu : P.underlying T = some (.map K.k E)) {z : Value} (hz : ∀ w, (zeroValue E).run P w = .ok z w) {f : α → Option Value} {w : World} {m : Nat} {es : Array MapEntry} {c : Nat}
    (hm : w.heap[m]? = some (.map es c)) (hes : Tells K f es c) (a : α) :
    ∃ (b : Nat) (es' : Array MapEntry) (c' : Nat), (Instr.mapEntry T (.map (some m)) (K.enc a)).run P w = .ok (.tuple #[(f a).getD z, .int .i64 b]) (w.putObj m (.map es' c')) ∧ Tells K (upd f a ((f a).getD z)) es' c' ∧
      ∀ v w', w'.heap[m]? = some (.map es' c') → ∃ es'', (Instr.entryStore T (.map (some m)) (.int .i64 b) v).run P w' = .ok () (w'.putObj m (.map es'' c')) ∧ Tells K (upd f a v) es'' c' := by
  have twice : ∀ u v, upd (upd f a u) a v = upd f a v := fun u v => by
    funext x
    simp only [upd]
    split <;> rfl
  obtain ⟨l, hl⟩ := hes
  have hk := K.hck false a w
  have store : ∀ (l' : List (Ent α)) (g : α → Option Value) (es' : Array MapEntry) (c' i : Nat) (x : Ent α), TellsL K l' g es' c' → l'[i]? = some x → x.key = a → ∀ v w', w'.heap[m]? = some (.map es' c') → ∃ es'', (Instr.entryStore T (.map (some m)) (.int .i64 x.born) v).run P w' = .ok () (w'.putObj m (.map es'' c')) ∧ Tells K (upd g a v) es'' c' := by
    intro l' g es' c' i x hl' hx hxa v w' hw'
    subst hxa
    refine ⟨es'.modify i fun e => { e with val := v }, ?_, _, hl'.put hx v rfl⟩
    have hfi := find_born (K := K) hl'.born hx
    rw [← hl'.es] at hfi
    have ha : (asInt (.int .i64 (x.born : Int))).run P w' = .ok (x.born : Int) w' := rfl
    simp [Instr.entryStore, Sem.run_bind, run_getMap hw', ha, hfi, run_setMap hw']
  rcases hl.find a w with ⟨hr, hf, hno⟩ | ⟨i, x, hr, hx, hxa, hf⟩
  · have hl2 := hl.push hno z
    refine ⟨c, es.push { key := K.enc a, val := z, born := c }, c + 1, ?_, ?_, ?_⟩
    · rw [hf]
      simp [Instr.mapEntry, Sem.run_bind, run_underlying hu, run_getMap hm, hk, hr, hz, run_setMap hm, goInt]
    · rw [hf]; exact ⟨_, hl2⟩
    · intro v w' hw'
      have := store _ _ _ _ l.length ⟨a, z, c⟩ hl2 (by simp) rfl v w' hw'
      rw [twice] at this
      exact this
  · have hee : es[i]? = some (K.ent x) := by rw [hl.es]; simp [hx]
    subst hxa
    have hl2 := hl.put (g := fun e => { e with key := K.enc x.key }) hx x.val rfl
    refine ⟨x.born, es.modify i fun e => { e with key := K.enc x.key }, c, ?_, ?_, ?_⟩
    · rw [hf]
      simp only [Instr.mapEntry, Sem.run_bind, run_underlying hu, Result.andThen_ok, run_getMap hm, hk, hr, hee, Option.map_some, Option.getD_some, KeyKind.ent, Instr.keyThatStays, K.hbits, if_true, Sem.run_pure, run_setMap hm, goInt]
    · rw [hf]; exact ⟨_, hl2⟩
    · intro v w' hw'
      have := store _ _ _ _ i { x with val := x.val } hl2 (by simp [(List.getElem?_eq_some_iff.1 hx).1]) rfl v w' hw'
      rw [twice] at this
      exact this
end
end Go.Lap

namespace Go.Lap
open Go.RowKit

/-- An iterator's contract, where the rounds' word speaks of no block above the start but of cells. -/
def SeqO {α : Type} (n : Nat) (P : Program) (g : Nat) (lb : Array Value) (encs : α → Array Value) (Kp : World → World → Prop) (S : List α → Prop) (N : Nat) (w : World) : Prop :=
  ∀ (l : Nat) (J Jx : List α → World → Prop) (W : World), Below w.heap.size w W → OwnFrom W.heap.size J → OwnFrom W.heap.size Jx →
    (∀ pre x W1, J pre W1 → pre.length < N → YieldAt Fence.wide (n - 1) P l (encs x) W1 fun e W' =>
      (e = .returned (.bool true) ∧ J (pre ++ [x]) W' ∧ Kp W1 W' ∧ KeepsFrom W.heap.size W1 W') ∨ (e = .returned (.bool false) ∧ Jx (pre ++ [x]) W' ∧ KeepsFrom W.heap.size W1 W')) →
    J [] W →
    CallsIn Fence.wide n P g (#[.func (.yield l) #[] #[]] ++ lb) W fun e W' => (∃ v, e = .returned v) ∧ ((∃ xs, S xs ∧ J xs W') ∨ (∃ pre, Jx pre W'))

/-- Two blocks lie as they lay, and the heap has grown. -/
structure Keeps2 (b : Nat) (W W' : World) : Prop where
  size : W.heap.size ≤ W'.heap.size
  one : W'.heap[b]? = W.heap[b]?
  two : W'.heap[b + 1]? = W.heap[b + 1]?
  up : KeepsFrom (b + 2) W W'
theorem Keeps2.refl (b : Nat) (W : World) : Keeps2 b W W := ⟨Nat.le_refl _, rfl, rfl, KeepsFrom.refl _ _⟩
theorem Keeps2.trans {b : Nat} {A C D : World} (h : Keeps2 b A C) (k : Keeps2 b C D) : Keeps2 b A D := ⟨Nat.le_trans h.size k.size, k.one.trans h.one, k.two.trans h.two, h.up.trans k.up⟩
theorem Keeps2.below {b : Nat} {W W' : World} (h : Below W.heap.size W W') (hb : b + 1 < W.heap.size) : Keeps2 b W W' := ⟨h.size, h.block b (by omega), h.block _ hb, ⟨h.size, fun k _ _ hk _ => (h.block k (Array.getElem?_eq_some_iff.1 hk).1).trans hk⟩⟩
theorem Keeps2.grown {b r : Nat} {W W' : World} (h : W.grownBy W' (some r)) (hb : b + 1 < W.heap.size) (hr : r < b) : Keeps2 b W W' := ⟨h.size, h.block b (by omega) (fun e => by cases e; omega), h.block _ hb (fun e => by cases e; omega), KeepsFrom.of_grownBy h (fun j e => by cases e; omega)⟩

variable {P : Program} {n : Nat} {w : World}

/-- A range over such an iterator, whose body never leaves the loop. -/
theorem wpIn_range_whole {α : Type} {g : Operand} {ps : Array Tmp} {assign body : Code} {Q : Exit → Act → World → Prop} {a : Act}
    (h1 : 1 ≤ n) {gf : Nat} {lb : Array Value} (hg : a.eval g = .func (.func gf) #[] lb) (eg : ∀ args w, (callFunc gf args).run P w = .ok (.enter gf args) w)
    {encs : α → Array Value} {Kp : World → World → Prop} {S : List α → Prop} {N : Nat} {w0 : World} (hseq : SeqO (n - 1) P gf lb encs Kp S N w0)
    (hKt : ∀ {A B C : World}, Kp A B → Kp B C → Kp A C) (hKb : ∀ (W : World) (l : Nat) (o o' : Obj), w.heap.size ≤ l → W.heap[l]? = some o → o.isCells = false → o.isWalk = false → Kp W (W.putObj l o')) (hb0 : Below w0.heap.size w0 w) (hps : ∀ x, (encs x).size = ps.size)
    (I : List α → World → Prop) (hI : OwnFrom w.heap.size I) (h0 : I [] w) (Ax : α → Act → World → Prop) (hAx : ∀ x a', OwnFrom w.heap.size (fun (_ : Unit) W => Ax x a' W))
    (hassign : ∀ (l : Nat) (pre : List α) (x : α) (W : World) (K : Act → World → Prop), w.heap.size + 1 < W.heap.size → I pre W → (∀ a' W', Keeps2 w.heap.size W W' → Kp W W' → I pre W' → Ax x a' W' → K a' W') →
      assign.wpIn (Fence.wide.inRound l) (n - 1 - 1) P (Exit.then K (fun _ _ _ => False)) { tmps := (ps.zip (encs x)).foldl (fun t (p, v) => t.setIfInBounds p v) a.tmps, defers := [] } W)
    (hbody : ∀ (l : Nat) (pre : List α) (x : α) (a' : Act) (W : World), w.heap.size + 1 < W.heap.size → I pre W → Ax x a' W → pre.length < N → body.wpIn (Fence.wide.inRound l) (n - 1 - 1) P (fun e _ W' => e = .normal ∧ Keeps2 w.heap.size W W' ∧ Kp W W' ∧ I (pre ++ [x]) W') a' W)
    (hdone : ∀ (D : Nat) (xs : List α) (W : World), w.heap.size ≤ D → S xs → I xs W → W.heap[D]? = some (.deferred (some [])) → Q .normal { a with defers := { target := .collected D, args := #[] } :: a.defers } W) :
    (Code.rangeFunc g ps assign body).wpIn Fence.wide n P Q a w := by
  refine wpIn_rangeFunc fun fn hfn => ?_
  obtain ⟨rec, hrec⟩ : ∃ rec : LoopState → Option Code → Loop, rec = fun st pe => { state := st, pending := pe, fn, tmps := a.tmps, params := ps, assign, body, defers := w.heap.size } := ⟨_, rfl⟩
  have hs0 : (w.alloc (.deferred (some []))).heap.size = w.heap.size + 1 := World.size_alloc _ _
  obtain ⟨V, hV⟩ : ∃ V, V = (w.alloc (.deferred (some []))).alloc (.loop (rec .ready none)) := ⟨_, rfl⟩
  have hVs : V.heap.size = w.heap.size + 2 := by rw [hV, World.size_alloc, hs0]
  have hVd : V.heap[w.heap.size]? = some (.deferred (some [])) := by rw [hV]; exact alloc_old (by rw [hs0]; omega) (alloc_at rfl)
  have hVl : V.heap[w.heap.size + 1]? = some (.loop (rec .ready none)) := by rw [hV]; exact alloc_at hs0.symm
  have hVI : I [] V := by rw [hV]; exact hI.alloc _ (hI.alloc _ h0)
  have hVb : Below w0.heap.size w0 V := by rw [hV]; exact below_alloc (below_alloc hb0 _) _
  have books : ∀ {W W' : World} {row : Option Nat} {o : Obj} {k : Nat}, W.grownBy W' row → (∀ r, row = some r → V.heap.size ≤ r ∧ ∃ o : Obj, W.heap[r]? = some o ∧ o.isCells = false) → k < w.heap.size + 2 → W.heap[k]? = some o → W'.heap[k]? = some o :=
    fun hgr hr hk ho => (hgr.block _ (Array.getElem?_eq_some_iff.1 ho).1 (fun e => by have := (hr _ e.symm).1; omega)).trans ho
  refine ⟨w.heap.size + 1, [{ target := .collected w.heap.size, args := #[] }], V, { target := .fn (.func gf) lb, args := #[.func (.yield (w.heap.size + 1)) #[] #[]] }, V, gf,
    #[.func (.yield (w.heap.size + 1)) #[] #[]] ++ lb, V, ?_, ?_, ?_, ?_, fun _ => h1, ?_⟩
  · rw [hV, hrec]; exact run_enterLoop_outer _ _ _ _ _
  · simp only [resolve, hg]; simp [go_sem]
  · intro f' hf'; trivial
  · simp [invoke, go_sem, eg]
  refine (hseq (w.heap.size + 1) (fun pre W => I pre W ∧ W.heap[w.heap.size + 1]? = some (.loop (rec .ready none)) ∧ W.heap[w.heap.size]? = some (.deferred (some []))) (fun _ _ => False) V hVb ?_ (fun _ _ _ _ h _ _ => h) ?_ ⟨hVI, hVl, hVd⟩).mono ?_
  · rintro s A B row ⟨i1, i2, i3⟩ hgr hr
    exact ⟨hI s A B row i1 hgr (fun r e => ⟨by have := (hr r e).1; omega, (hr r e).2⟩), books hgr hr (by omega) i2, books hgr hr (by omega) i3⟩
  · rintro pre x W ⟨hi, hl, hd⟩ hlen
    have hlt := (Array.getElem?_eq_some_iff.1 hl).1
    have hy := run_yield (P := P) (args := encs x) hl (by rw [hrec]; exact hps x)
    refine ⟨_, _, _, _, hy, ?_⟩
    have e1 : (rec .ready none).fn = fn := by rw [hrec]
    have e2 : (rec .ready none).assign = assign := by rw [hrec]
    have e3 : (rec .ready none).body = body := by rw [hrec]
    have e4 : (rec .ready none).params = ps := by rw [hrec]
    have e5 : (rec .ready none).tmps = a.tmps := by rw [hrec]
    have e6 : { rec .ready none with state := .busy } = rec .busy none := by rw [hrec]
    have e7 : ∀ st, { rec .busy none with state := st, pending := none } = rec st none := fun st => by rw [hrec]
    rw [e1, e2, e3, e4, e5]
    refine roundIn_of_wpIn hfn (hassign _ pre x W _ (by omega) hi ?_)
    intro a' W1 hk1 hp1 hi1 hax
    have hl1 := hk1.two.trans hl
    have hd1 := hk1.one.trans hd
    have hlt1 := (Array.getElem?_eq_some_iff.1 hl1).1
    refine ⟨_, run_beginRound hl1 (by rw [hrec]), ?_⟩
    rw [e6]
    have hl2 := World.putObj_heap_same (o := .loop (rec .busy none)) hlt1
    have hd2 : (W1.putObj (w.heap.size + 1) (.loop (rec .busy none))).heap[w.heap.size]? = some (.deferred (some [])) := (World.putObj_heap_other (by omega)).trans hd1
    have hi2 := hI.putObj (.loop (rec .busy none)) hi1 (Nat.le_succ w.heap.size) hl1 rfl
    have hp2 := hKb W1 _ _ (.loop (rec .busy none)) (Nat.le_succ w.heap.size) hl1 rfl rfl
    have hax2 := (hAx x a').putObj (s := ()) (.loop (rec .busy none)) hax (Nat.le_succ w.heap.size) hl1 rfl
    refine wpIn_mono (hbody _ pre x a' _ (by simpa using hlt1) hi2 hax2 hlen) ?_
    rintro e a3 W3 ⟨rfl, hk3, hp3, hi3⟩
    have hl3 := hk3.two.trans hl2
    have hd3 := hk3.one.trans hd2
    have hend := run_endRound (P := P) none hl3
    rw [show (if (none : Option Code).isNone = true then LoopState.ready else LoopState.done) = LoopState.ready from rfl, e7] at hend
    refine ⟨_, _, hend, .inl ⟨rfl, ⟨hI.putObj _ hi3 (Nat.le_succ w.heap.size) hl3 rfl, World.putObj_heap_same (Array.getElem?_eq_some_iff.1 hl3).1, (World.putObj_heap_other (by omega)).trans hd3⟩, ?_⟩⟩
    have hq : ∀ (X : World) (o : Obj), KeepsFrom V.heap.size X (X.putObj (w.heap.size + 1) o) := fun X o => KeepsFrom.of_grownBy (grownBy_putObj' X _ o) (fun j e => by cases e; omega)
    exact ⟨hKt (hKt (hKt hp1 hp2) hp3) (hKb _ _ _ _ (Nat.le_succ w.heap.size) hl3 rfl rfl), ((((hVs ▸ hk1.up).trans (hq _ _)).trans (hVs ▸ hk3.up)).trans (hq _ _))⟩
  · rintro e W2 ⟨⟨v, rfl⟩, (⟨xs, hS, hi, hl, hd⟩ | ⟨_, h⟩)⟩
    · have hend := run_endLoop (P := P) hl (by rw [hrec]; simp)
      rw [show (rec .ready none).pending = none by rw [hrec]] at hend
      exact ⟨none, _, hend, hdone _ xs _ (Nat.le_refl _) hS (hI.putObj _ hi (Nat.le_succ w.heap.size) hl rfl) ((World.putObj_heap_other (by omega)).trans hd)⟩
    · exact h.elim
end Go.Lap

namespace Go.Lap
open Go.RowKit

theorem wpList_append_row_arg {P : Program} {α : Type} {w : World} {ops : Array Oper} {rest : List Oper} {o : Oper} {a : Act} {Q : Exit → Act → World → Prop} (K : RowKind P α) (hgd : o.guard = none) (s x : Operand)
    (ho : o.op = .call { callee := .builtin .append, args := #[s, x], argTypes := #[K.t, K.t] }) (B : Nat) (v : Value) (xs ys : List α) (hs : a.eval s = v) (hown : K.own B w v xs)
    (u : Value) (hx : a.eval x = u) (hu : K.at w u ys) (hnil : NilOk u) (hlen : xs.length + ys.length ≤ 1000) (hB : B ≤ w.heap.size)
    (h : ∀ v' w', K.own B w' v' (xs ++ ys) → Below B w w' → wpList P ops Q rest (a.put o.dst v') w') : wpList P ops Q (o :: rest) a w := by
  obtain ⟨ad, cap, rfl, hc⟩ := hu
  cases ad with
  | none =>
    have hy : ys = [] := by
      by_cases e : ys = []
      · exact e
      · obtain ⟨_, _, h, _⟩ := hc e; cases h
    subst hy
    obtain ⟨_, rfl⟩ := hnil _ _ rfl
    obtain ⟨i0, hi3, _, _, _⟩ := info_parts K.hi
    refine wpList_append_own_none hgd s x K.t ho B K.e i0 K.size K.ht hi3 v xs.length (xs.flatMap K.enc) hs hown hx ?_
    exact h v w (by simpa using hown) (Below.refl _ _)
  | some ad =>
    refine wpList_append_rows K hgd s x ho B v xs ys hs hown ad ys.length cap hx rfl ?_ hlen hB (fun v' w' h1 h2 _ => h v' w' h1 h2)
    intro k y hk f u hu
    obtain ⟨b, off, e, hq⟩ := hc (fun e => by rw [e] at hk; simp at hk)
    cases e
    rw [addr_add, ← Nat.add_assoc]
    exact hq k y hk f u hu
theorem own_nilOk {P : Program} {α : Type} {K : RowKind P α} {B : Nat} {w : World} {v : Value} {xs : List α} (h : K.own B w v xs) : NilOk v := by
  intro n cap e
  subst e
  rcases h.2 with ⟨e, _⟩ | ⟨g', cap', cur, e, _⟩
  · cases e; exact ⟨rfl, rfl⟩
  · cases e
/-- A row of the call's own, of which some cells are known: what a round reads. -/
theorem own_cells {P : Program} {α : Type} {K : RowKind P α} {B n cap : Nat} {a : Option Addr} {w : World} {xs : List α} (h : K.own B w (.slice a n cap) xs) (hne : xs ≠ []) :
    ∃ g, a = some ⟨g, 0, none⟩ ∧ B ≤ g ∧ g < w.heap.size ∧ (∀ o, w.frozen? ⟨g, o, none⟩ = false) ∧ ∀ k x, xs[k]? = some x → ∀ f u, (K.enc x)[f]? = some u → w.cell? ⟨g, k * K.size + f, none⟩ = some u := by
  obtain ⟨g, cap', cur, e, hB, hg, hc⟩ := h.block hne
  injection e with e1 e2 e3
  exact ⟨g, e1, hB, (cells_of hg).1, free_of hg, hc⟩
end Go.Lap

namespace Go.Lap
open Go.RowKit
variable {P : Program} {α : Type}

/-- Two rows share no block. -/
def Apart (u v : Value) : Prop := ∀ g, u.ownBlock = some g → v.ownBlock ≠ some g
theorem Apart.symm {u v : Value} (h : Apart u v) : Apart v u := fun g hg hv => h g hv hg
theorem apart_nil (v : Value) : Apart (.slice none 0 0) v := fun g h => by simp [Value.ownBlock] at h

theorem RowKind.own.grown {K : RowKind P α} {B : Nat} {w w' : World} {v u : Value} {xs : List α} (h : K.own B w v xs) (hg : w.grownBy w' u.ownBlock) (ha : Apart v u) : K.own B w' v xs :=
  World.ownsRow.kept h hg (by
    cases hv : v.ownBlock with
    | none => exact .inl rfl
    | some g => exact .inr (by rw [← hv]; intro e; exact ha g hv (by rw [← e, hv])))
/-- A row that grows stays apart from another one. -/
theorem Apart.grow {K : RowKind P α} {B : Nat} {w : World} {v v' u : Value} {xs : List α} (ha : Apart v u) (hu : K.own B w u xs) (hv : ∀ g, v'.ownBlock = some g → v.ownBlock = some g ∨ g = w.heap.size) : Apart v' u := fun g hg he => by
  rcases hv g hg with h | rfl
  · exact ha g h he
  · have := World.ownsRow.lt hu _ he; omega

/-- An append to a row of the call's own, with where it lies then. -/
theorem wpList_append_row2 {w : World} {ops : Array Oper} {rest : List Oper} {o : Oper} {a : Act} {Q : Exit → Act → World → Prop} (K : RowKind P α) (hgd : o.guard = none) (s x : Operand)
    (ho : o.op = .call { callee := .builtin .append, args := #[s, x], argTypes := #[K.t, K.t] }) (B : Nat) (v : Value) (xs ys : List α) (hs : a.eval s = v) (hown : K.own B w v xs)
    (b off m c : Nat) (hx : a.eval x = .slice (some ⟨b, off, none⟩) m c) (hm : ys.length = m) (hpos : 0 < m) (hys : ∀ k y, ys[k]? = some y → ∀ f u, (K.enc y)[f]? = some u → w.cell? ⟨b, off + k * K.size + f, none⟩ = some u) (hlen : xs.length + ys.length ≤ 1000) (hB : B ≤ w.heap.size)
    (h : ∀ v' w', K.own B w' v' (xs ++ ys) → Below B w w' → w.grownBy w' v.ownBlock → (∀ g, v'.ownBlock = some g → v.ownBlock = some g ∨ g = w.heap.size) → wpList P ops Q rest (a.put o.dst v') w') : wpList P ops Q (o :: rest) a w := by
  obtain ⟨i0, hi3, hz0, hz1, hz2⟩ := info_parts K.hi
  subst hm
  refine wpList_append_lies _ hgd s x K.t ho B K.e i0 K.z K.size K.bytes K.ht hi3 hz0 hz1 hz2 K.hzs K.hsz v xs.length (xs.flatMap K.enc) hs hown ⟨b, off, none⟩ ys.length c (ys.flatMap K.enc) hx (flat_length K ys) ?_ ?_ hpos (by unfold maxLen; omega) ?_ hB w.heap.size rfl ?_
  · intro j u hj
    obtain ⟨k, y, f, h1, h2, rfl⟩ := flat_inv K ys j u hj
    rw [addr_add, ← Nat.add_assoc]
    exact hys k y h1 f u h2
  · intro u hu
    obtain ⟨y, _, hy⟩ := List.mem_flatMap.1 hu
    exact K.hone y u hy
  · have h1 := K.hb
    calc (xs.length + ys.length) * K.bytes ≤ 1000 * 1000 := Nat.mul_le_mul hlen h1
      _ ≤ _ := by decide
  · intro g cap w' hown' hg hl _
    have h1 : K.own B w' (.slice (some ⟨g, 0, none⟩) (xs.length + ys.length) cap) (xs ++ ys) := by
      show w'.ownsRow B K.e K.size _ (xs ++ ys).length ((xs ++ ys).flatMap K.enc)
      rw [List.length_append, List.flatMap_append]
      exact hown'
    refine h _ w' h1 (grown_from hown hg hB) hg ?_
    intro k hk
    simp only [Value.ownBlock, Option.some.injEq] at hk
    subst hk
    exact hl
end Go.Lap

namespace Go.Lap
open Go.RowKit
variable {P : Program} {ops : Array Oper} {md : Region.Mode} {Q : Exit → Act → World → Prop} {S : World → Prop} {m : Nat}

/-- Whatever order is picked from here on, and S holds behind every operation until m is done. -/
def wpAnyM (P : Program) (md : Region.Mode) (ops : Array Oper) (Q : Exit → Act → World → Prop) (S : World → Prop) (m : Nat) : Nat → Array Bool → Act → World → Prop
  | 0, listed, a, w => Region.ready md ops listed = [] ∧ Q .normal a w
  | fuel + 1, listed, a, w => (Region.ready md ops listed = [] → Q .normal a w) ∧
    ∀ i ∈ Region.ready md ops listed, wpOp P ops Q i (fun a' w' => (S w' ∨ (listed.setIfInBounds i true).getD m false = true) ∧ wpAnyM P md ops Q S m fuel (listed.setIfInBounds i true) a' w') a w

theorem wpAny_of_M : ∀ (fuel : Nat) (listed : Array Bool) (a : Act) (w : World), wpAnyM P md ops Q S m fuel listed a w → wpAny P md ops Q fuel listed a w
  | 0, _, _, _, h => h
  | fuel + 1, _, _, _, h => ⟨h.1, fun i hi => wpOp_mono (fun _ _ h' => wpAny_of_M fuel _ _ _ h'.2) (h.2 i hi)⟩

/-- What is done waited for nothing that is not. -/
def ClosedL (md : Region.Mode) (ops : Array Oper) (listed : Array Bool) : Prop := ∀ j o, ops[j]? = some o → listed.getD j false = true → ∀ e ∈ o.after, Region.binds md e = true → listed.getD e.on false = true
theorem ClosedL.set {listed : Array Bool} (h : ClosedL md ops listed) {i : Nat} (hi : i ∈ Region.ready md ops listed) : ClosedL md ops (listed.setIfInBounds i true) := by
  intro j o hj hl e he hb
  obtain ⟨_, o', ho', hall⟩ := mem_ready.1 hi
  by_cases hij : i = j
  · subst hij
    rw [ho'] at hj
    cases hj
    exact getD_set_true (hall e he hb)
  · rw [getD_set_ne false hij] at hl
    exact getD_set_true (h j o hj hl e he hb)
/-- Does m wait for i? -/
def waitsB (md : Region.Mode) (ops : Array Oper) (i : Nat) : Nat → Nat → Bool
  | 0, m => m == i
  | f + 1, m => m == i || (match ops[m]? with | some o => o.after.any (fun e => Region.binds md e && waitsB md ops i f e.on) | none => false)
theorem ClosedL.waits {listed : Array Bool} (h : ClosedL md ops listed) {i : Nat} : ∀ (f m : Nat), waitsB md ops i f m = true → listed.getD m false = true → listed.getD i false = true
  | 0, m, hw, hm => by
    obtain rfl : m = i := by simpa [waitsB] using hw
    exact hm
  | f + 1, m, hw, hm => by
    simp only [waitsB, Bool.or_eq_true, beq_iff_eq] at hw
    rcases hw with rfl | hw
    · exact hm
    · cases ho : ops[m]? with
      | none => rw [ho] at hw; cases hw
      | some o =>
        rw [ho] at hw
        obtain ⟨e, he, hb⟩ := Array.any_eq_true'.1 hw
        rw [Bool.and_eq_true] at hb
        exact h.waits f e.on hb.2 (h m o ho hm e he hb.1)

theorem wpAnyM_first {i : Nat} {oi : Oper} {v : Value} {f : Nat} (hi : ops[i]? = some oi) (hsel : ∀ (j : Nat) (o : Oper) cs b, ops[j]? = some o → o.op ≠ .select cs b)
    (hQ : ∀ c a w, Q (.panic c) (a.put oi.dst v) w → Q (.panic c) a w) (hw : waitsB md ops i f m = true) (him : i ≠ m) :
    ∀ (fuel : Nat) (listed : Array Bool) (a : Act) (w : World),
      (∀ j oj, ops[j]? = some oj → j ≠ i → listed.getD j true = false → (∀ e ∈ oj.after, Region.binds md e = true → e.on ≠ i) → oi.apart ops oj = true) →
      i ∈ Region.ready md ops listed → ClosedL md ops listed → YieldsIf P ops S oi v a → (S w ∨ listed.getD m false = true) →
      wpAnyM P md ops Q S m fuel (listed.setIfInBounds i true) (a.put oi.dst v) w → wpAnyM P md ops Q S m (fuel + 1) listed a w := by
  have now : ∀ (listed : Array Bool) (w : World), i ∈ Region.ready md ops listed → ClosedL md ops listed → (S w ∨ listed.getD m false = true) → S w := by
    intro listed w hr hcl hS
    refine hS.resolve_right fun hm => ?_
    have h1 := hcl.waits f m hw hm
    have h0 := (mem_ready.1 hr).1
    rcases Nat.lt_or_ge i listed.size with h' | h'
    · simp [h'] at h0 h1; rw [h0] at h1; cases h1
    · simp [Array.getElem?_eq_none h'] at h1
  have up : ∀ (listed : Array Bool) (w : World), S w ∨ listed.getD m false = true → S w ∨ (listed.setIfInBounds i true).getD m false = true := fun _ _ h => h.imp id getD_set_true
  intro fuel
  induction fuel with
  | zero =>
    intro listed a w _ hr hcl hy hS H
    refine ⟨fun h => (by rw [h] at hr; cases hr), fun j hj => ?_⟩
    by_cases hji : j = i
    · subst hji; exact hy.wpOp hi (now _ _ hr hcl hS) ⟨up _ _ hS, H⟩
    · have := ready_mono hj hji
      rw [H.1] at this
      cases this
  | succ fuel ih =>
    intro listed a w hfree hr hcl hy hS H
    refine ⟨fun h => (by rw [h] at hr; cases hr), fun j hj => ?_⟩
    by_cases hji : j = i
    · subst hji; exact hy.wpOp hi (now _ _ hr hcl hS) ⟨up _ _ hS, H⟩
    · have h1 := H.2 j (ready_mono hj hji)
      obtain ⟨hjun, oj, hoj, hall⟩ := mem_ready.1 hj
      have hiun := (mem_ready.1 hr).1
      have hnot : ∀ e ∈ oj.after, Region.binds md e = true → e.on ≠ i := fun e he hb heq => by
        have h2 := hall e he hb
        rw [heq] at h2
        rcases Nat.lt_or_ge i listed.size with h' | h'
        · simp [h'] at hiun h2; rw [hiun] at h2; cases h2
        · simp [Array.getElem?_eq_none h'] at h2
      have h2 := wpOp_putIf hoj (hfree j oj hoj hji hjun hnot) (fun cs b => hsel i oi cs b hi) (fun cs b => hsel j oj cs b hoj) hQ hy h1
      refine wpOp_mono (fun a' w' h3 => ?_) h2
      have hr2 := ready_mono hr (Ne.symm hji)
      have hcl2 := hcl.set hj
      have hm2 : S w' ∨ (listed.setIfInBounds j true).getD m false = true := by
        refine h3.2.1.imp id fun h4 => ?_
        rw [Array.setIfInBounds_comm _ _ (Ne.symm hji)] at h4
        rwa [getD_set_ne false him] at h4
      refine ⟨hm2, ih (listed.setIfInBounds j true) a' w' ?_ hr2 hcl2 h3.1 hm2 ?_⟩
      · intro k ok hk hki hun hno
        refine hfree k ok hk hki ?_ hno
        by_cases hjk : j = k
        · subst hjk; exact hjun
        · rw [getD_set_ne true hjk] at hun; exact hun
      · rw [Array.setIfInBounds_comm _ _ hji]
        exact h3.2.2

/-- The beginning. -/
theorem wp_region_M (m : Nat) {S : World → Prop} {id : Nat} {a : Act} {w : World} (hm : P.follows .mixedOrders = true)
    (h : ∀ v : World, Below w.heap.size w v → (∀ k : Nat, v.heap[k]? = w.heap[k]?) → wpAnyM P .any ops Q S m ops.size (Array.replicate ops.size false) a v) : (Code.region id ops true).wp P Q a w :=
  wp_region_any hm (wpAny_of_M _ _ _ _ (h _ (Below.refl _ _).drew (fun _ => rfl)))
/-- Is what is done closed? -/
def shutDone (md : Region.Mode) (ops : Array Oper) (listed : Array Bool) : Bool :=
  (List.range ops.size).all fun j => !listed.getD j false || match ops[j]? with | some o => o.after.all (fun e => !Region.binds md e || listed.getD e.on false) | none => true
theorem shutDone_spec {listed : Array Bool} (h : shutDone md ops listed = true) : ClosedL md ops listed := by
  intro j o hj hl e he hb
  have h1 := List.all_eq_true.1 h j (List.mem_range.2 (Array.getElem?_eq_some_iff.1 hj).1)
  rw [hl, hj] at h1
  simp only [Bool.not_true, Bool.false_or, Array.all_eq_true_iff_forall_mem, Bool.or_eq_true, Bool.not_eq_true'] at h1
  rcases h1 e he with h2 | h2
  · rw [hb] at h2; cases h2
  · exact h2
/-- An operation that only computes, or only reads what S tells of, for which m waits. -/
theorem wpAnyM_quiet {i : Nat} {o : Oper} {v : Value} {fuel : Nat} {listed : Array Bool} {a : Act} {w : World} (ho : ops[i]? = some o)
    (hs : (Region.noSelect ops && Region.free md ops listed i && (Region.ready md ops listed).contains i && shutDone md ops listed && waitsB md ops i 8 m && !(i == m)) = true)
    (hQ : ∀ c a w, Q (.panic c) (a.put o.dst v) w → Q (.panic c) a w) (hg : o.guard = none) (hy : ∀ W, S W → (execOp a.eval o).run P W = .ok (.value v) W) (hS : S w)
    (h : wpAnyM P md ops Q S m fuel (listed.setIfInBounds i true) (a.put o.dst v) w) : wpAnyM P md ops Q S m (fuel + 1) listed a w := by
  simp only [Bool.and_eq_true, Bool.not_eq_true', beq_eq_false_iff_ne] at hs
  obtain ⟨⟨⟨⟨⟨h1, h2⟩, h3⟩, h4⟩, h5⟩, h6⟩ := hs
  exact wpAnyM_first ho (Region.noSelect_spec h1) hQ h5 h6 fuel listed a w (Region.free_spec ho h2) (by simpa using h3) (shutDone_spec h4) (.inl ⟨by simp [Region.wanted, hg], hy⟩) (.inl hS) h
/-- The only operation that may come up. -/
theorem wpAnyM_step {i : Nat} {o : Oper} {fuel : Nat} {listed : Array Bool} {a : Act} {w : World} (hr : Region.ready md ops listed = [i]) (ho : ops[i]? = some o)
    (h : wpList P ops (Exit.then (fun a w => (S w ∨ (listed.setIfInBounds i true).getD m false = true) ∧ wpAnyM P md ops Q S m fuel (listed.setIfInBounds i true) a w) Q) [o] a w) : wpAnyM P md ops Q S m (fuel + 1) listed a w := by
  refine ⟨fun h0 => absurd (hr ▸ h0) (by simp), fun j hj => ?_⟩
  rw [hr] at hj
  obtain rfl : j = i := by simpa using hj
  unfold wpOp
  rw [ho]
  simp only [wpList] at h
  by_cases hw : Region.wanted o (yielded ops a.tmps) = true
  · rw [if_pos hw] at h
    simp only [hw, if_true]
    rcases h with h | h
    · exact .inl (upon_then h)
    · exact .inr ⟨h.1, h.2⟩
  · rw [if_neg hw] at h
    simp only [hw, if_false, Bool.false_eq_true]
    exact h
theorem wpAnyM_done {listed : Array Bool} {a : Act} {w : World} (hr : Region.ready md ops listed = []) (h : Q .normal a w) : ∀ fuel, wpAnyM P md ops Q S m fuel listed a w
  | 0 => ⟨hr, h⟩
  | _ + 1 => ⟨fun _ => h, by rw [hr]; simp⟩
end Go.Lap
