/- General laws for the walk, over any program: a region that draws its order, walked part by part between operations that nothing passes. -/
import Derived.Test.YtcgkglonnmkfcaaKit
namespace Go.Lap
open Go.RowKit

section seg
variable {P : Program} {ops : Array Oper} {md : Region.Mode} {C : World → Prop}

/-- The first k operations are done. -/
def firstK (n k : Nat) : Array Bool := ((List.range n).map fun i => decide (i < k)).toArray

theorem firstK_getD (n k i : Nat) (d : Bool) (h : i < n) : (firstK n k).getD i d = decide (i < k) := by
  simp [firstK, h]
theorem firstK_size (n k : Nat) : (firstK n k).size = n := by simp [firstK]
theorem firstK_zero (n : Nat) : Array.replicate n false = firstK n 0 := by
  apply Array.ext
  · simp [firstK]
  · intro i h1 h2; simp [firstK]
theorem firstK_set (n k : Nat) : (firstK n k).setIfInBounds k true = firstK n (k + 1) := by
  apply Array.ext
  · simp [firstK]
  · intro i h1 h2
    have hi : i < n := by simpa [firstK] using h2
    rw [Array.getElem_setIfInBounds (by simpa [firstK] using hi)]
    by_cases e : k = i
    · rw [if_pos e]; simp [firstK]; omega
    · rw [if_neg e]; simp only [firstK, List.getElem_toArray, List.getElem_map, List.getElem_range]
      by_cases h : i < k
      · simp [h]; omega
      · simp [h]; omega

/-- Each operation behind p waits for one from p on. -/
def sourceB (md : Region.Mode) (ops : Array Oper) (p : Nat) : Bool :=
  (List.range ops.size).all fun t => decide (t ≤ p) || (List.range t).any fun j => decide (p ≤ j) && Region.waitsFor md ops t j

theorem source_waits {p t : Nat} {listed : Array Bool} (hs : sourceB md ops p = true) (hp : p < t) (ht : t < ops.size) (htail : ∀ j, p ≤ j → j < ops.size → listed.getD j true = false) : t ∉ Region.ready md ops listed := by
  intro hr
  obtain ⟨_, ot, hot, hall⟩ := mem_ready.1 hr
  have h1 := List.all_eq_true.1 hs t (List.mem_range.2 ht)
  simp only [Bool.or_eq_true, decide_eq_true_eq] at h1
  rcases h1 with h1 | h1
  · omega
  · obtain ⟨j, hj, hj2⟩ := List.any_eq_true.1 h1
    simp only [Bool.and_eq_true, decide_eq_true_eq] at hj2
    obtain ⟨o', ho', e, he, hb, hon⟩ := Region.waitsFor_spec hj2.2
    have : o' = ot := Option.some.inj (ho'.symm.trans hot)
    subst this
    have h2 := hall e he hb
    have hjt := List.mem_range.1 hj
    rw [hon, getD_both (htail j hj2.1 (by omega))] at h2
    cases h2

theorem head_waits {n : Nat} {listed : Array Bool} (hs : Region.sinkB md ops n = true) (hc : sourceB md ops n = true) (hn : n < ops.size) (inv : HeadInv md ops n listed) :
    ∀ (d i : Nat), n - i = d → i < n → listed.getD i true = false → ∀ t, n ≤ t → t ∉ Region.ready md ops listed := by
  intro d
  induction d using Nat.strongRecOn with
  | _ d ih =>
    intro i hd hi hun t ht hr
    obtain ⟨_, ot, hot, hall⟩ := mem_ready.1 hr
    have htlt : t < ops.size := (Array.getElem?_eq_some_iff.1 hot).1
    by_cases htn : t = n
    · subst htn
      have h1 := List.all_eq_true.1 hs i (List.mem_range.2 hi)
      obtain ⟨j, hj, hj2⟩ := List.any_eq_true.1 h1
      simp only [Bool.and_eq_true, decide_eq_true_eq] at hj2
      obtain ⟨oj, hoj, e, he, hb, hon⟩ := Region.waitsFor_spec hj2.2
      have hjle : j ≤ t := by have := List.mem_range.1 hj; omega
      by_cases hjt : j = t
      · subst hjt
        have : oj = ot := Option.some.inj (hoj.symm.trans hot)
        subst this
        have h2 := hall e he hb
        rw [hon, getD_both hun] at h2
        cases h2
      · cases hl : listed.getD j false with
        | true =>
          have h2 := inv.closed j oj hoj hl e he hb
          rw [hon, getD_both hun] at h2
          cases h2
        | false =>
          have hjs : j < listed.size := by rw [inv.size]; omega
          exact ih (t - j) (by omega) j rfl (by omega) (getD_in hjs hl) t (Nat.le_refl _) hr
    · exact source_waits hc (by omega) htlt (fun j h1 h2 => inv.tail j h1 h2) hr

theorem wpAnyS_first {n i : Nat} {oi : Oper} {v : Value} {L : Array Bool → Act → Prop} (hi : ops[i]? = some oi) (hsel : ∀ (j : Nat) (o : Oper) cs b, ops[j]? = some o → o.op ≠ .select cs b)
    (hs : Region.sinkB md ops n = true) (hc : sourceB md ops n = true) (hn : n < ops.size) (hin : i < n)
    (hdone : ∀ listed a, L listed a → ∀ j ∈ Region.ready md ops listed, n ≤ j) :
    ∀ (f : Nat) (listed : Array Bool) (a : Act), HeadInv md ops n listed →
      (∀ j oj, ops[j]? = some oj → j ≠ i → listed.getD j true = false → (∀ e ∈ oj.after, Region.binds md e = true → e.on ≠ i) → oi.apart ops oj = true) →
      i ∈ Region.ready md ops listed → YieldsIn P ops C oi v a →
      wpAnyT P md ops C n L f (listed.setIfInBounds i true) (a.put oi.dst v) → wpAnyT P md ops C n L (f + 1) listed a := by
  intro f
  induction f with
  | zero =>
    intro listed a inv _ hr hy H
    refine ⟨fun h => (by rw [h] at hr; cases hr), fun j hj => ?_⟩
    have hjn : j < n := by
      rcases Nat.lt_or_ge j n with h | h
      · exact h
      · exact absurd hj (head_waits hs hc hn inv _ i rfl hin (mem_ready.1 hr).1 j h)
    refine ⟨hjn, ?_⟩
    by_cases hji : j = i
    · subst hji; exact hy.qOp hi H
    · have := hdone _ _ H j (ready_mono hj hji)
      omega
  | succ f ih =>
    intro listed a inv hfree hr hy H
    have hun := (mem_ready.1 hr).1
    refine ⟨fun h => (by rw [h] at hr; cases hr), fun j hj => ?_⟩
    have hjn : j < n := by
      rcases Nat.lt_or_ge j n with h | h
      · exact h
      · exact absurd hj (head_waits hs hc hn inv _ i rfl hin hun j h)
    refine ⟨hjn, ?_⟩
    by_cases hji : j = i
    · subst hji; exact hy.qOp hi H
    · have h1 := (H.2 j (ready_mono hj hji)).2
      obtain ⟨hjun, oj, hoj, hall⟩ := mem_ready.1 hj
      have hnot : ∀ e ∈ oj.after, Region.binds md e = true → e.on ≠ i := fun e he hb heq => by
        have h1 := hall e he hb
        rw [heq, getD_both hun] at h1
        cases h1
      have h2 := qOp_put hoj (hfree j oj hoj hji hjun hnot) (fun cs b => hsel i oi cs b hi) (fun cs b => hsel j oj cs b hoj) hy h1
      have hfree' : ∀ k ok, ops[k]? = some ok → k ≠ i → (listed.setIfInBounds j true).getD k true = false →
          (∀ e ∈ ok.after, Region.binds md e = true → e.on ≠ i) → oi.apart ops ok = true := fun k ok hk hki hun hno => by
        refine hfree k ok hk hki ?_ hno
        by_cases hjk : j = k
        · subst hjk; exact hjun
        · rw [getD_set_ne true hjk] at hun; exact hun
      refine qOp_mono (fun a' h3 => ih (listed.setIfInBounds j true) a' (inv.set hj hjn) hfree' (ready_mono hr (Ne.symm hji)) h3.1 ?_) h2
      rw [Array.setIfInBounds_comm _ _ hji]
      exact h3.2

/-- From k on each operation up to p can come next, and is free. -/
def headB (md : Region.Mode) (ops : Array Oper) : Nat → Nat → Bool
  | 0, _ => true
  | f + 1, k => (Region.ready md ops (firstK ops.size k)).contains k && Region.free md ops (firstK ops.size k) k && headB md ops f (k + 1)

theorem ready_first {p : Nat} (hc : sourceB md ops p = true) : ∀ j ∈ Region.ready md ops (firstK ops.size p), j = p := by
  intro j hj
  obtain ⟨hun, oj, hoj, _⟩ := mem_ready.1 hj
  have hlt := (Array.getElem?_eq_some_iff.1 hoj).1
  rw [firstK_getD _ _ _ _ hlt] at hun
  have h1 : p ≤ j := by simpa using hun
  rcases Nat.lt_or_ge p j with h | h
  · exact absurd hj (source_waits hc h hlt (fun i h1 h2 => by rw [firstK_getD _ _ _ _ h2]; simp; omega))
  · omega

theorem wpAnyS_lex {n : Nat} {Lq : Act → Prop} (hsel : Region.noSelect ops = true) (hs : Region.sinkB md ops n = true) (hc : sourceB md ops n = true) (hn : n < ops.size) :
    ∀ (l : List Oper) (k : Nat) (a : Act), (∀ j, j < l.length → l[j]? = ops[k + j]?) → k + l.length = n → HeadInv md ops n (firstK ops.size k) →
    headB md ops l.length k = true → wpQuiet P ops C Lq l a →
    wpAnyT P md ops C n (fun listed' a' => listed' = firstK ops.size n ∧ Lq a') l.length (firstK ops.size k) a
  | [], k, a, _, hk, _, _, h => by
    have : k = n := by simpa using hk
    subst this
    exact ⟨rfl, h⟩
  | o :: l, k, a, hl, hk, inv, hB, h => by
    have h0 : ops[k]? = some o := by simpa using (hl 0 (by simp)).symm
    simp only [List.length_cons, headB, Bool.and_eq_true] at hB
    obtain ⟨⟨hr, hf⟩, hB'⟩ := hB
    have hkn : k < n := by simp only [List.length_cons] at hk; omega
    have hr' : k ∈ Region.ready md ops (firstK ops.size k) := by simpa using hr
    have hst : qOp P ops C k (wpQuiet P ops C Lq l) a := by unfold qOp; simp only [h0]; exact h
    obtain ⟨v, hy, hK⟩ := yieldsIn_of_qOp h0 hst
    have inv' := inv.set hr' hkn
    rw [firstK_set] at inv'
    have hrec := wpAnyS_lex hsel hs hc hn l (k + 1) (a.put o.dst v) (fun j hj => by have := hl (j + 1) (by simp; omega); simpa [Nat.add_assoc, Nat.add_comm 1 j] using this) (by simp only [List.length_cons] at hk; omega) inv' hB' hK
    refine wpAnyS_first h0 (Region.noSelect_spec hsel) hs hc hn hkn (fun listed' a' hL j hj => ?_) l.length _ a inv (Region.free_spec h0 hf) hr' hy (by rw [firstK_set]; exact hrec)
    rw [hL.1] at hj
    exact Nat.le_of_eq (ready_first hc j hj).symm

/-- The first k operations are done; whatever order is picked for the others. -/
def wpSeg (P : Program) (ops : Array Oper) (Q : Exit → Act → World → Prop) (k : Nat) (a : Act) (w : World) : Prop := wpAny P .any ops Q (ops.size - k) (firstK ops.size k) a w

theorem wp_region_seg {id : Nat} {Q : Exit → Act → World → Prop} {a : Act} {w : World} (hm : P.follows .mixedOrders = true) (h : ∀ w', Below w.heap.size w w' → wpSeg P ops Q 0 a w') : (Code.region id ops true).wp P Q a w := by
  refine wp_region_any hm ?_
  rw [firstK_zero]
  exact h _ (Below.refl _ _).drew

def closedB (md : Region.Mode) (ops : Array Oper) (k : Nat) : Bool :=
  (List.range ops.size).all fun j => decide (k ≤ j) || (match ops[j]? with | some oj => oj.after.all fun e => !Region.binds md e || decide (e.on < k) | none => true)

def barrierB (ops : Array Oper) (k p : Nat) : Bool :=
  Region.noSelect ops && decide (p < ops.size) && decide (k ≤ p) && Region.sinkB .any ops p && sourceB .any ops p && (Region.ready .any ops (firstK ops.size p)).contains p && headB .any ops (p - k) k && closedB .any ops k

theorem headInv_first {n k : Nat} (hk : k ≤ n) (hn : n < ops.size) (h : closedB md ops k = true) : HeadInv md ops n (firstK ops.size k) := by
  refine ⟨firstK_size _ _, fun j oj hj hl e he hb => ?_, fun t ht ht' => by rw [firstK_getD _ _ _ _ ht']; simp; omega⟩
  have hlt := (Array.getElem?_eq_some_iff.1 hj).1
  rw [firstK_getD _ _ _ _ hlt] at hl
  have hjk : j < k := by simpa using hl
  have h1 := List.all_eq_true.1 h j (List.mem_range.2 hlt)
  rw [hj] at h1
  simp only [Bool.or_eq_true, decide_eq_true_eq] at h1
  rcases h1 with h1 | h1
  · omega
  · have h2 := Array.all_eq_true'.1 h1 e he
    simp only [hb, Bool.not_true, Bool.false_or, decide_eq_true_eq] at h2
    by_cases hs : e.on < ops.size
    · rw [firstK_getD _ _ _ _ hs]; simpa using h2
    · omega

theorem upon_then {o : Oper} {a : Act} {K : Act → World → Prop} {Q : Exit → Act → World → Prop} {r : Result Next} (h : o.upon P a (fun a w => Exit.then K Q .normal a w) (Exit.then K Q) r) : o.upon P a K Q r := by
  cases r with
  | ok x w =>
    cases x with
    | enter f args =>
      refine Calls.mono (show Calls P f args w _ from h) fun e w' he => ?_
      cases e with
      | returned v => exact he
      | panicked chain => exact he
      | outgrown => exact he
    | row row args => exact h
    | _ => exact h
  | halt x w =>
    cases x <;> exact h

/-- Up to an operation that nothing passes: the operations before it, quiet in a class of worlds, in the text's order; then that one. -/
theorem wpSeg_barrier {Q : Exit → Act → World → Prop} {a : Act} {w : World} (k p : Nat) (o : Oper) (ho : ops[p]? = some o) (hB : barrierB ops k p = true) (hC : C w)
    (h : wpQuiet P ops C (fun a' => ∀ w', C w' → wpList P ops (Exit.then (wpSeg P ops Q (p + 1)) Q) [o] a' w') ((ops.toList.drop k).take (p - k)) a) : wpSeg P ops Q k a w := by
  simp only [barrierB, Bool.and_eq_true, decide_eq_true_eq] at hB
  obtain ⟨⟨⟨⟨⟨⟨⟨hsel, hn⟩, hk⟩, hs⟩, hc⟩, hrp⟩, hh⟩, hcl⟩ := hB
  have hlen : ((ops.toList.drop k).take (p - k)).length = p - k := by simp; omega
  have H := wpAnyS_lex (md := .any) hsel hs hc hn ((ops.toList.drop k).take (p - k)) k a (fun j hj => by
    rw [hlen] at hj
    simp [hj, List.getElem?_drop]) (by rw [hlen]; omega) (headInv_first hk hn hcl) (by rw [hlen]; exact hh) h
  have := wpAny_of_headT (Q' := Q) (g := ops.size - p) (fun listed a' w' hw' hL => by
    obtain ⟨rfl, hq⟩ := hL
    have hq' := hq w' hw'
    rw [show ops.size - p = (ops.size - (p + 1)) + 1 by omega]
    refine ⟨fun h0 => ?_, fun i hi => ?_⟩
    · rw [h0] at hrp; cases hrp
    · obtain rfl := ready_first hc i hi
      rw [firstK_set]
      unfold wpOp
      rw [ho]
      simp only [wpList] at hq'
      by_cases hw : Region.wanted o (yielded ops a'.tmps) = true
      · rw [if_pos hw] at hq'
        simp only [hw, if_true]
        rcases hq' with hq' | hq'
        · exact .inl (upon_then hq')
        · exact .inr ⟨hq'.1, hq'.2⟩
      · rw [if_neg hw] at hq'
        simp only [hw, if_false, Bool.false_eq_true]
        exact hq') _ _ _ _ hC H
  rw [hlen, show p - k + (ops.size - p) = ops.size - k by omega] at this
  exact this

/-- The operations that are left are quiet in a class of worlds. -/
theorem wpSeg_end {Q : Exit → Act → World → Prop} {a : Act} {w : World} (k : Nat) (hB : (Region.noSelect ops && Region.lexFrom .any ops (ops.size - k) k (firstK ops.size k)) = true) (hC : C w)
    (h : wpQuiet P ops C (fun a' => ∀ w', C w' → Q .normal a' w') (ops.toList.drop k) a) : wpSeg P ops Q k a w := by
  simp only [Bool.and_eq_true] at hB
  have hl : (ops.toList.drop k).length = ops.size - k := by simp
  have := wpAnyQ_lex (C := C) (md := .any) hB.1 (ops.toList.drop k) k (firstK ops.size k) a (fun j => by simp [List.getElem?_drop]) (by rw [hl]; exact hB.2) h
  unfold wpSeg
  rw [← hl]
  exact wpAny_of_quiet (fun _ w' hw' h => h w' hw') _ _ _ _ hC this

theorem wpSeg_barrier_later {Q : Exit → Act → World → Prop} {a : Act} {w : World} {l : List Oper} (k p : Nat) (o : Oper) (ho : l.toArray[p]? = some o) (hB : barrierB l.toArray k p = true)
    (h : (∀ (x : Later w) b o, b < w.heap.size → x.w.cell? ⟨b, o, none⟩ = w.cell? ⟨b, o, none⟩) → wpQuiet P l.toArray (fun w' => ∃ x : Later w, w' = x.w) (fun a' => ∀ w', (∃ x : Later w, w' = x.w) → wpList P l.toArray (Exit.then (wpSeg P l.toArray Q (p + 1)) Q) [o] a' w') ((l.drop k).take (p - k)) a) : wpSeg P l.toArray Q k a w :=
  wpSeg_barrier (C := fun w' => ∃ x : Later w, w' = x.w) k p o ho hB ⟨⟨_, Below.refl _ _⟩, rfl⟩ (h Later.cell)

theorem wpSeg_end_later {Q : Exit → Act → World → Prop} {a : Act} {w : World} {l : List Oper} (k : Nat) (hB : (Region.noSelect l.toArray && Region.lexFrom .any l.toArray (l.toArray.size - k) k (firstK l.toArray.size k)) = true)
    (h : (∀ (x : Later w) b o, b < w.heap.size → x.w.cell? ⟨b, o, none⟩ = w.cell? ⟨b, o, none⟩) → wpQuiet P l.toArray (fun w' => ∃ x : Later w, w' = x.w) (fun a' => ∀ w', (∃ x : Later w, w' = x.w) → Q .normal a' w') (l.drop k) a) : wpSeg P l.toArray Q k a w :=
  wpSeg_end (C := fun w' => ∃ x : Later w, w' = x.w) k hB ⟨⟨_, Below.refl _ _⟩, rfl⟩ (h Later.cell)

end seg
/-- A slice value whose elements read as a list of integers. -/
def IntsAt (w : World) (v : Value) (xs : List Int) : Prop :=
  ∃ a cap, v = .slice a xs.length cap ∧ (xs ≠ [] → ∃ b off, a = some ⟨b, off, none⟩ ∧ ∀ k, k < xs.length → w.cell? ⟨b, off + k, none⟩ = some (.int .i64 (xs.getD k 0)))
theorem cell_lt {w : World} {b o : Nat} {v : Value} (h : w.cell? ⟨b, o, none⟩ = some v) : b < w.heap.size := by
  rcases Nat.lt_or_ge b w.heap.size with h1 | h1
  · exact h1
  · simp [World.cell?, Array.getElem?_eq_none h1] at h
theorem IntsAt.below {w w' : World} {v : Value} {xs : List Int} (h : IntsAt w v xs) (hb : Below w.heap.size w w') : IntsAt w' v xs := by
  obtain ⟨a, cap, hv, hx⟩ := h
  refine ⟨a, cap, hv, fun hne => ?_⟩
  obtain ⟨b, off, ha, hc⟩ := hx hne
  exact ⟨b, off, ha, fun k hk => (hb.cell (p := ⟨b, off + k, none⟩) (cell_lt (hc k hk))).trans (hc k hk)⟩
theorem IntsAt.nil {w : World} {v : Value} (h : IntsAt w v []) : ∃ a cap, v = .slice a 0 cap := by
  obtain ⟨a, cap, hv, _⟩ := h
  exact ⟨a, cap, hv⟩
theorem IntsAt.some {w : World} {v : Value} {xs : List Int} (h : IntsAt w v xs) (hne : xs ≠ []) : ∃ b off cap, v = .slice (some ⟨b, off, none⟩) xs.length cap ∧ b < w.heap.size ∧ ∀ k, k < xs.length → w.cell? ⟨b, off + k, none⟩ = some (.int .i64 (xs.getD k 0)) := by
  obtain ⟨a, cap, hv, hx⟩ := h
  obtain ⟨b, off, rfl, hc⟩ := hx hne
  have h0 : 0 < xs.length := List.length_pos_iff.2 hne
  exact ⟨b, off, cap, hv, cell_lt (hc 0 h0), hc⟩
end Go.Lap
