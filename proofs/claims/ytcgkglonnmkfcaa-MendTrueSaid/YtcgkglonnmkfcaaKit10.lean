/- General laws for the walk, over any program: a region that draws its order, by what is so when some of its operations are done, whichever they are. -/
import Derived.Test.YtcgkglonnmkfcaaKit8
namespace Go.Lap
open Go.RowKit
variable {P : Program} {ops : Array Oper} {md : Region.Mode} {Q : Exit → Act → World → Prop}

/-- Each operation waits for earlier ones alone. -/
def backB (md : Region.Mode) (ops : Array Oper) : Bool :=
  (List.range ops.size).all fun i => ((ops[i]?).map fun o => o.after.all fun e => !Region.binds md e || decide (e.on < i)).getD true
def dset (d : Nat → Bool) (i : Nat) : Nat → Bool := fun j => decide (j = i) || d j
def vset (f : Nat → Value) (i : Nat) (v : Value) : Nat → Value := fun j => if j = i then v else f j
theorem dset_same (d : Nat → Bool) (i : Nat) : dset d i i = true := by simp [dset]
theorem vset_same (f : Nat → Value) (i : Nat) (v : Value) : vset f i v i = v := by simp [vset]
theorem dset_ne {d : Nat → Bool} {i j : Nat} (h : j ≠ i) : dset d i j = d j := by simp [dset, h]
theorem vset_ne {f : Nat → Value} {i j : Nat} {v : Value} (h : j ≠ i) : vset f i v j = f j := by simp [vset, h]

theorem countP_less {p p' : Nat → Bool} {k : Nat} (hk : p k = true) (hk' : p' k = false) (h : ∀ x, p' x = true → p x = true) : ∀ l : List Nat, k ∈ l → l.countP p' + 1 ≤ l.countP p
  | [], hm => by cases hm
  | x :: l, hm => by
    have hle : ∀ l : List Nat, l.countP p' ≤ l.countP p := fun l => List.countP_mono_left (fun x _ hx => h x hx)
    rw [List.countP_cons, List.countP_cons]
    by_cases e : x = k
    · subst e
      have := hle l
      rw [if_pos hk, if_neg (by rw [hk']; simp)]
      omega
    · have := countP_less hk hk' h l (by
        rcases List.mem_cons.1 hm with rfl | hm
        · exact (e rfl).elim
        · exact hm)
      cases h1 : p' x
      · simp; omega
      · rw [if_pos (h x h1)]; simp; omega

theorem wpAny_inv (I : (Nat → Bool) → Act → World → Prop) (hb : backB md ops = true)
    (step : ∀ i o d a w, ops[i]? = some o → d i = false → (∀ e ∈ o.after, Region.binds md e = true → d e.on = true) → I d a w → wpOp P ops Q i (fun a' w' => I (dset d i) a' w') a w)
    (fin : ∀ d a w, (∀ i, i < ops.size → d i = true) → I d a w → Q .normal a w) :
    ∀ (fuel : Nat) (listed : Array Bool) (a : Act) (w : World), listed.size = ops.size → (List.range ops.size).countP (fun i => !listed.getD i true) ≤ fuel → I (fun i => listed.getD i false) a w → wpAny P md ops Q fuel listed a w := by
  have hall : ∀ (listed : Array Bool), listed.size = ops.size → Region.ready md ops listed = [] → ∀ i, i < ops.size → listed.getD i false = true := by
    intro listed hs h0 i
    induction i using Nat.strongRecOn with
    | _ i ih =>
      intro hi
      cases hl : listed.getD i false
      · exfalso
        obtain ⟨o, ho⟩ : ∃ o, ops[i]? = some o := ⟨_, Array.getElem?_eq_getElem hi⟩
        have hr : i ∈ Region.ready md ops listed := by
          refine mem_ready.2 ⟨?_, o, ho, fun e he hbd => ?_⟩
          · have hi' : i < listed.size := by omega
            simp [Array.getD, hi'] at hl ⊢
            exact hl
          · have h1 := List.all_eq_true.1 hb i (List.mem_range.2 hi)
            rw [ho] at h1
            simp only [Option.map_some, Option.getD_some] at h1
            have h2 := Array.all_eq_true'.1 h1 e he
            rw [hbd] at h2
            simp at h2
            exact ih _ h2 (by omega)
        rw [h0] at hr; cases hr
      · rfl
  intro fuel
  induction fuel with
  | zero =>
    intro listed a w hs hc hI
    have h0 : Region.ready md ops listed = [] := by
      rw [List.eq_nil_iff_forall_not_mem]
      intro i hi
      obtain ⟨h1, o, ho, _⟩ := mem_ready.1 hi
      have hi' := (Array.getElem?_eq_some_iff.1 ho).1
      have := List.countP_eq_zero.1 (Nat.le_zero.1 hc) i (List.mem_range.2 hi')
      rw [h1] at this; simp at this
    exact ⟨h0, fin _ a w (hall listed hs h0) hI⟩
  | succ fuel ih =>
    intro listed a w hs hc hI
    refine ⟨fun h0 => fin _ a w (hall listed hs h0) hI, fun i hi => ?_⟩
    obtain ⟨h1, o, ho, hall'⟩ := mem_ready.1 hi
    have hi' := (Array.getElem?_eq_some_iff.1 ho).1
    have hi2 : i < listed.size := by omega
    have h1' : listed.getD i false = false := by
      simp [Array.getD, hi2] at h1 ⊢
      exact h1
    refine wpOp_mono (fun a' w' h' => ih _ a' w' (by simpa using hs) ?_ ?_) (step i o _ a w ho h1' hall' hI)
    · have := countP_less (p := fun j => !listed.getD j true) (p' := fun j => !(listed.setIfInBounds i true).getD j true) (k := i) (by show (!listed.getD i true) = true; rw [h1]; rfl) (by simp [Array.getD, hi2]) (fun x hx => by
        by_cases e : i = x
        · subst e; simp [Array.getD, hi2] at hx
        · have hx' : (!(listed.setIfInBounds i true).getD x true) = true := hx
          rw [getD_set_ne true e] at hx'; exact hx') (List.range ops.size) (List.mem_range.2 hi')
      omega
    · have e : (fun j => (listed.setIfInBounds i true).getD j false) = dset (fun j => listed.getD j false) i := by
        funext j
        by_cases e : i = j
        · subst e; simp [dset, Array.getD, hi2]
        · rw [dset_ne (Ne.symm e)]
          by_cases hj : j < listed.size
          · simp [Array.getD, hj, e]
          · simp [Array.getD, hj]
      rw [e]; exact h'

/-- Where an operation lays its value. -/
def dstOf (ops : Array Oper) (i : Nat) : Option Tmp := (ops[i]?).bind (·.dst)
/-- A frame in which some operations' values lie. -/
def puts (ops : Array Oper) (d : Nat → Bool) (vals : Nat → Value) : List Nat → Act → Act
  | [], a => a
  | i :: l, a => puts ops d vals l (if d i then a.put (dstOf ops i) (vals i) else a)
def apartD (ops : Array Oper) (i j : Nat) : Prop := ∀ t, dstOf ops i = some t → dstOf ops j ≠ some t
theorem puts_put {d : Nat → Bool} {vals : Nat → Value} {x : Option Tmp} {v : Value} : ∀ (l : List Nat) (a : Act), (∀ j, j ∈ l → ∀ t, x = some t → dstOf ops j ≠ some t) → puts ops d vals l (a.put x v) = (puts ops d vals l a).put x v
  | [], _, _ => rfl
  | i :: l, a, h => by
    simp only [puts]
    by_cases hd : d i = true
    · rw [if_pos hd, if_pos hd, Act.put_comm a v (vals i) (h i (by simp)), puts_put l _ (fun j hj => h j (by simp [hj]))]
    · rw [if_neg hd, if_neg hd, puts_put l _ (fun j hj => h j (by simp [hj]))]
theorem puts_congr {d d' : Nat → Bool} {vals vals' : Nat → Value} : ∀ (l : List Nat) (a : Act), (∀ j, j ∈ l → d' j = d j ∧ vals' j = vals j) → puts ops d' vals' l a = puts ops d vals l a
  | [], _, _ => rfl
  | i :: l, a, h => by
    simp only [puts]
    rw [(h i (by simp)).1, (h i (by simp)).2, puts_congr l _ (fun j hj => h j (by simp [hj]))]
theorem puts_set {d : Nat → Bool} {vals : Nat → Value} {i : Nat} {v : Value} (hd : d i = false) : ∀ (l : List Nat) (a : Act), l.Nodup → i ∈ l → (∀ j, j ∈ l → j ≠ i → apartD ops i j) → puts ops (dset d i) (vset vals i v) l a = (puts ops d vals l a).put (dstOf ops i) v
  | [], _, _, hm, _ => by cases hm
  | k :: l, a, hn, hm, ha => by
    rw [List.nodup_cons] at hn
    simp only [puts]
    by_cases e : k = i
    · subst e
      rw [dset_same, vset_same, hd]
      simp only [if_true, Bool.false_eq_true, if_false]
      rw [puts_congr (d := d) (vals := vals) l _ (fun j hj => by
        have hne : j ≠ k := fun e => hn.1 (e ▸ hj)
        exact ⟨dset_ne hne, vset_ne hne⟩)]
      exact puts_put l a (fun j hj => ha j (by simp [hj]) (fun e => hn.1 (e ▸ hj)))
    · rw [dset_ne e, vset_ne e]
      exact puts_set hd l _ hn.2 (by
        rcases List.mem_cons.1 hm with rfl | h
        · exact (e rfl).elim
        · exact h) (fun j hj => ha j (by simp [hj]))
theorem puts_size {d : Nat → Bool} {vals : Nat → Value} : ∀ (l : List Nat) (a : Act), (puts ops d vals l a).tmps.size = a.tmps.size
  | [], _ => rfl
  | i :: l, a => by
    simp only [puts]
    rw [puts_size l]
    split
    · cases h : dstOf ops i <;> simp [Act.put]
    · rfl
theorem puts_other {d : Nat → Bool} {vals : Nat → Value} {t : Tmp} : ∀ (l : List Nat) (a : Act), (∀ j, j ∈ l → dstOf ops j ≠ some t) → (puts ops d vals l a).eval (.tmp t) = a.eval (.tmp t)
  | [], _, _ => rfl
  | i :: l, a, h => by
    simp only [puts]
    rw [puts_other l _ (fun j hj => h j (by simp [hj]))]
    split
    · exact Act.eval_put (fun e he => by
        have := h i (by simp)
        rw [he] at this
        intro e2
        injection e2 with e2
        exact this (by rw [e2]))
    · rfl
theorem puts_own {d : Nat → Bool} {vals : Nat → Value} {i : Nat} {t : Tmp} (hd : d i = true) (ht : dstOf ops i = some t) : ∀ (l : List Nat) (a : Act), l.Nodup → i ∈ l → t < a.tmps.size → (∀ j, j ∈ l → j ≠ i → apartD ops i j) → (puts ops d vals l a).eval (.tmp t) = vals i
  | [], _, _, hm, _, _ => by cases hm
  | k :: l, a, hn, hm, hs, ha => by
    rw [List.nodup_cons] at hn
    simp only [puts]
    by_cases e : k = i
    · subst e
      rw [if_pos hd, puts_other l _ (fun j hj => ha j (by simp [hj]) (fun e => hn.1 (e ▸ hj)) t ht), ht]
      simp [Act.put, Act.eval, hs]
    · refine puts_own hd ht l _ hn.2 ?_ ?_ (fun j hj => ha j (by simp [hj]))
      · rcases List.mem_cons.1 hm with rfl | h
        · exact (e rfl).elim
        · exact h
      · split
        · cases h : dstOf ops k <;> simp [Act.put, hs]
        · exact hs

/-- No operation lays its value into this slot. -/
def freshB (ops : Array Oper) (t : Tmp) : Bool := (List.range ops.size).all fun k => !(dstOf ops k == some t)
theorem keepF {d : Nat → Bool} {vals : Nat → Value} {i j : Nat} {v x : Value} (h : d j = true → vals j = x) (hne : j ≠ i) : dset d i j = true → vset vals i v j = x := by
  rw [dset_ne hne, vset_ne hne]; exact h
theorem ownF {d : Nat → Bool} {vals : Nat → Value} {i : Nat} {v : Value} : dset d i i = true → vset vals i v i = v := fun _ => vset_same _ _ _
/-- No two operations lay their values into one slot; all slots are of the frame. -/
def slotsB (ops : Array Oper) (n : Nat) : Bool :=
  (List.range ops.size).all fun i => (match dstOf ops i with
    | none => true
    | some t => decide (t < n) && (List.range ops.size).all fun j => decide (j = i) || !(dstOf ops j == some t))
theorem slotsB_spec {n : Nat} (h : slotsB ops n = true) {i : Nat} (hi : i < ops.size) : (∀ t, dstOf ops i = some t → t < n) ∧ ∀ j, j < ops.size → j ≠ i → apartD ops i j := by
  have h1 := List.all_eq_true.1 h i (List.mem_range.2 hi)
  cases hd : dstOf ops i with
  | none => exact ⟨(fun t ht => by cases ht), (fun j _ _ t ht => by rw [hd] at ht; cases ht)⟩
  | some t =>
    simp only [hd, Bool.and_eq_true, decide_eq_true_eq] at h1
    refine ⟨fun u hu => by cases hu; exact h1.1, fun j hj hne u hu => ?_⟩
    rw [hd] at hu
    cases hu
    have h2 := List.all_eq_true.1 h1.2 j (List.mem_range.2 hj)
    simp only [hne, decide_false, Bool.false_or, Bool.not_eq_true', beq_eq_false_iff_ne, ne_eq] at h2
    exact h2

/-- Whatever order is picked: J tells what is so when some operations are done, by their values. -/
theorem wp_region_inv {id : Nat} {a0 : Act} {w0 : World} (J : (Nat → Bool) → (Nat → Value) → World → Prop) (hm : P.follows .mixedOrders = true) (hb : backB .any ops = true) (hd : slotsB ops a0.tmps.size = true)
    (start : J (fun _ => false) (fun _ => undef) w0.drew)
    (step : ∀ i o d vals a w, ops[i]? = some o → d i = false → (∀ e ∈ o.after, Region.binds .any e = true → d e.on = true) →
      (∀ k t, dstOf ops k = some t → d k = true → a.eval (.tmp t) = vals k) → (∀ t, freshB ops t = true → a.eval (.tmp t) = a0.eval (.tmp t)) →
      J d vals w → wpOp P ops Q i (fun a' w' => ∃ v, a' = a.put o.dst v ∧ J (dset d i) (vset vals i v) w') a w)
    (fin : ∀ d vals w, (∀ i, i < ops.size → d i = true) → J d vals w → Q .normal (puts ops (fun _ => true) vals (List.range ops.size) a0) w) : (Code.region id ops true).wp P Q a0 w0 := by
  refine wp_region_any hm ?_
  refine wpAny_inv (fun d a w => ∃ vals, a = puts ops d vals (List.range ops.size) a0 ∧ J d vals w) hb ?_ ?_ _ _ _ _ (by simp) ?_ ?_
  · rintro i o d a w ho hdi hdep ⟨vals, rfl, hJ⟩
    have hi := (Array.getElem?_eq_some_iff.1 ho).1
    have hs := slotsB_spec hd hi
    refine wpOp_mono ?_ (step i o d vals _ w ho hdi hdep ?_ ?_ hJ)
    · rintro a' w' ⟨v, rfl, hJ'⟩
      refine ⟨vset vals i v, ?_, hJ'⟩
      rw [puts_set hdi _ _ List.nodup_range (List.mem_range.2 hi) (fun j hj hne => hs.2 j (List.mem_range.1 hj) hne)]
      unfold dstOf
      rw [ho]
      rfl
    · intro k t ht hdk
      have hk : k < ops.size := by
        unfold dstOf at ht
        cases h : ops[k]? with
        | none => rw [h] at ht; cases ht
        | some o => exact (Array.getElem?_eq_some_iff.1 h).1
      have hs' := slotsB_spec hd hk
      exact puts_own hdk ht _ _ List.nodup_range (List.mem_range.2 hk) (hs'.1 t ht) (fun j hj hne => hs'.2 j (List.mem_range.1 hj) hne)
    · intro t ht
      exact puts_other _ _ (fun j hj e => by
        have := List.all_eq_true.1 ht j hj
        rw [e] at this
        simp at this)
  · rintro d a w hall ⟨vals, rfl, hJ⟩
    rw [puts_congr (d := fun _ => true) (vals := vals) _ _ (fun j hj => ⟨hall j (List.mem_range.1 hj), rfl⟩)]
    exact fin d vals w hall hJ
  · have := List.countP_le_length (p := fun i => !(Array.replicate ops.size false).getD i true) (l := List.range ops.size)
    simpa using this
  · refine ⟨fun _ => undef, ?_, ?_⟩
    · have : ∀ (l : List Nat) (a : Act), puts ops (fun i => (Array.replicate ops.size false).getD i false) (fun _ => undef) l a = a := by
        intro l
        induction l with
        | nil => intro a; rfl
        | cons i l ih =>
          intro a
          simp only [puts]
          rw [ih, if_neg (by simp [Array.getD])]
      exact (this _ _).symm
    · have e : (fun i => (Array.replicate ops.size false).getD i false) = fun _ => false := by
        funext i; simp [Array.getD]
      rw [e]
      exact start
end Go.Lap
