/- The plain mathematics of layer 6: states, rules, what is found from a state on. No program in sight. -/
import Derived.Below
namespace Go.Proofs.Ytkgdejhooghknaa
open Go.RowKit

/-- How it is before an hour. -/
structure St where
  rider : Int
  run : Int
  before : Int
  hour : Int
  h0 : Int
  h1 : Int
/-- A rider. -/
structure Rider where
  out : Int
  total : Int
  run : Int
  off : Int
/-- A rest. -/
structure Rest where
  hours : Int
  r0 : Rider
  r1 : Rider

@[ext] theorem St.ext {a b : St} (h1 : a.rider = b.rider) (h2 : a.run = b.run) (h3 : a.before = b.before) (h4 : a.hour = b.hour) (h5 : a.h0 = b.h0) (h6 : a.h1 = b.h1) : a = b := by
  cases a; cases b; simp_all

instance : DecidableEq St := fun a b =>
  if h : a.rider = b.rider ∧ a.run = b.run ∧ a.before = b.before ∧ a.hour = b.hour ∧ a.h0 = b.h0 ∧ a.h1 = b.h1 then
    isTrue (St.ext h.1 h.2.1 h.2.2.1 h.2.2.2.1 h.2.2.2.2.1 h.2.2.2.2.2)
  else isFalse (fun e => h (by subst e; simp))

def Rest.rider (R : Rest) (i : Int) : Rider := if i = 0 then R.r0 else R.r1

def St.begin : St := ⟨-1, 0, 0, 0, 0, 0⟩

def St.next (s : St) (r : Int) : St where
  rider := r
  run := if r = s.rider then s.run + 1 else 1
  before := if r = s.rider then s.before else s.run
  hour := s.hour + 1
  h0 := if r = 0 then s.h0 + 1 else s.h0
  h1 := if r = 0 then s.h1 else s.h1 + 1

def St.own (s : St) : Int := if s.rider = 0 then s.h0 else s.h1

def St.again (s : St) : Bool := decide (s.run = 1) && decide (0 < s.before) && decide (1 < s.own)

/-- The hour that is told by a set: is it in it? -/
def hasBit (set hour : Int) : Bool := set >>> hour.toNat % 2 == 1

/-- The first rule that is broken in the last hour; 0: none. -/
def broken (R : Rest) (s : St) : Int :=
  if hasBit (R.rider s.rider).out (s.hour - 1) then 1
  else if (R.rider s.rider).total < s.own then 2
  else if (R.rider s.rider).run < s.run then 3
  else if s.again && decide (s.before < (R.rider s.rider).off) then 4
  else 0

/-- Is the rule of this place (from 0 on) broken? -/
def ruleB (R : Rest) (s : St) : Nat → Bool
  | 0 => hasBit (R.rider s.rider).out (s.hour - 1)
  | 1 => decide ((R.rider s.rider).total < s.own)
  | 2 => decide ((R.rider s.rider).run < s.run)
  | _ => s.again && decide (s.before < (R.rider s.rider).off)

theorem broken_eq (R : Rest) (s : St) : broken R s = if ruleB R s 0 then 1 else if ruleB R s 1 then 2 else if ruleB R s 2 then 3 else if ruleB R s 3 then 4 else 0 := by
  simp [broken, ruleB]

theorem broken_at (R : Rest) (s : St) (k : Nat) (hk : k < 4) (h : ∀ j, j < k → ruleB R s j = false) (hb : ruleB R s k = true) : broken R s = k + 1 := by
  rw [broken_eq]
  obtain rfl | rfl | rfl | rfl : k = 0 ∨ k = 1 ∨ k = 2 ∨ k = 3 := by omega
  · simp [hb]
  · simp [hb, h 0]
  · simp [hb, h 0, h 1]
  · simp [hb, h 0, h 1, h 2]

theorem broken_none (R : Rest) (s : St) (h : ∀ j, j < 4 → ruleB R s j = false) : broken R s = 0 := by
  rw [broken_eq]
  simp [h 0, h 1, h 2, h 3]

/-- Bounds that each state on the way has. -/
structure St.Ok (s : St) : Prop where
  rider0 : -1 ≤ s.rider
  rider1 : s.rider ≤ 1
  run0 : 0 ≤ s.run
  run1 : s.run ≤ s.hour
  before0 : 0 ≤ s.before
  before1 : s.before ≤ s.hour
  h00 : 0 ≤ s.h0
  h01 : s.h0 ≤ s.hour
  h10 : 0 ≤ s.h1
  h11 : s.h1 ≤ s.hour
  hour0 : 0 ≤ s.hour
  hour1 : s.hour ≤ 16

/-- Who can ride in the next hour, and what comes of it. -/
def stepsTo (R : Rest) (s : St) : Nat → List (Int × St)
  | 0 => []
  | k + 1 => stepsTo R s k ++ (if broken R (s.next k) = 0 then [((k : Int), s.next k)] else [])
theorem stepsTo_length (R : Rest) (s : St) (k : Nat) : (stepsTo R s k).length ≤ k := by
  induction k with
  | zero => simp [stepsTo]
  | succ k ih => simp only [stepsTo, List.length_append]; split <;> simp <;> omega
abbrev stepsL (R : Rest) (s : St) : List (Int × St) := stepsTo R s 2

/-- What is counted: at the end of all hours, in each hour, and which of several is better. -/
structure Goal (T : Type) where
  fin : St → T
  hour : St → St → T → T
  join : T → T → T

/-- One step more: what is counted so far, and what is found behind the step. -/
def Goal.add {T : Type} (g : Goal T) (s nx : St) (k : Option T) (o : Option T) : Option T :=
  match o with
  | none => k
  | some y => some (match k with
    | none => g.hour s nx y
    | some z => g.join z (g.hour s nx y))

/-- What is counted from a state on, for so many hours more; none: no plan is right from it on. -/
def found {T : Type} (R : Rest) (g : Goal T) : Nat → St → Option T
  | 0, s => some (g.fin s)
  | n + 1, s => (stepsL R s).foldl (fun k x => g.add s x.2 k (found R g n x.2)) none

def foundOn {T : Type} (R : Rest) (g : Goal T) (n : Nat) (s : St) (pre : List (Int × St)) : Option T :=
  pre.foldl (fun k x => g.add s x.2 k (found R g n x.2)) none

theorem foundOn_snoc {T : Type} (R : Rest) (g : Goal T) (n : Nat) (s : St) (pre : List (Int × St)) (x : Int × St) : foundOn R g n s (pre ++ [x]) = g.add s x.2 (foundOn R g n s pre) (found R g n x.2) := by
  simp [foundOn]

theorem found_succ {T : Type} (R : Rest) (g : Goal T) (n : Nat) (s : St) : found R g (n + 1) s = foundOn R g n s (stepsL R s) := rfl

theorem mem_steps {R : Rest} {s : St} {x : Int × St} (h : x ∈ stepsL R s) : (x.1 = 0 ∨ x.1 = 1) ∧ x.2 = s.next x.1 ∧ broken R x.2 = 0 := by
  simp only [stepsL, stepsTo, List.nil_append, List.mem_append] at h
  rcases h with h | h
  · split at h
    · rename_i hb
      obtain rfl : x = _ := by simpa using h
      exact ⟨.inl rfl, rfl, hb⟩
    · cases h
  · split at h
    · rename_i hb
      obtain rfl : x = _ := by simpa using h
      exact ⟨.inr rfl, rfl, hb⟩
    · cases h

/-- What is wrong with a plan, from a state on: the hour, the rule, the error. -/
def checkFrom (R : Rest) (s : St) (h : Int) : List Int → Int × Int × Int
  | [] => (0, 0, 4)
  | x :: l => if broken R (s.next x) = 0 then checkFrom R (s.next x) (h + 1) l else (h, broken R (s.next x), 0)
/-- The first place of a list that suits, below 0: none does. -/
def firstAt (p : Int → Bool) (i : Int) : List Int → Int
  | [] => -1
  | x :: l => if p x then i else firstAt p (i + 1) l
theorem firstAt_ge (p : Int → Bool) (l : List Int) : ∀ i, 0 ≤ i → decide (0 ≤ firstAt p i l) = l.any p := by
  induction l with
  | nil => intro i _; simp [firstAt]
  | cons x l ih =>
    intro i hi
    unfold firstAt
    cases h : p x
    · simp [h, ih (i + 1) (by omega)]
    · simp [h, hi]

theorem St.begin_ok : St.begin.Ok := by constructor <;> simp [St.begin]

theorem St.next_ok {s : St} (h : s.Ok) {r : Int} (h0 : 0 ≤ r) (h1 : r ≤ 1) (hh : s.hour < 16) : (s.next r).Ok := by
  cases h
  constructor <;> simp only [St.next] <;> (try split) <;> omega

def inB (n lo hi : Int) : Bool := decide (lo ≤ n) && decide (n ≤ hi)
def riderOk (r : Rider) (h : Int) : Bool := inB r.out 0 (2 ^ h.toNat - 1) && (inB r.total 0 16 && (inB r.run 0 16 && inB r.off 0 16))
def Rest.nth (R : Rest) : Nat → Rider
  | 0 => R.r0
  | _ => R.r1
def Rider.num (r : Rider) : Nat → Int
  | 0 => r.total
  | 1 => r.run
  | _ => r.off
theorem riderOk_of {r : Rider} {h : Int} (h0 : inB r.out 0 (2 ^ h.toNat - 1) = true) (h1 : ∀ j, j < 3 → inB (r.num j) 0 16 = true) : riderOk r h = true := by
  have a := h1 0 (by omega); have b := h1 1 (by omega); have c := h1 2 (by omega)
  simp only [Rider.num] at a b c
  simp [riderOk, h0, a, b, c]
theorem riderOk_no {r : Rider} {h : Int} (h0 : inB r.out 0 (2 ^ h.toNat - 1) = false) : riderOk r h = false := by
  simp [riderOk, h0]
theorem riderOk_no' {r : Rider} {h : Int} (j : Nat) (h0 : inB (r.num j) 0 16 = false) : riderOk r h = false := by
  match j with
  | 0 => simp only [Rider.num] at h0; simp [riderOk, h0]
  | 1 => simp only [Rider.num] at h0; simp [riderOk, h0]
  | j + 2 => simp only [Rider.num] at h0; simp [riderOk, h0]
/-- Is a rest valid? -/
def Rest.valid (R : Rest) : Bool := inB R.hours 0 16 && (riderOk R.r0 R.hours && riderOk R.r1 R.hours)

/-- Numbers that fit. -/
structure Rider.Ok (r : Rider) : Prop where
  out0 : 0 ≤ r.out
  out1 : r.out ≤ 65535
  total0 : 0 ≤ r.total
  total1 : r.total ≤ 16
  run0 : 0 ≤ r.run
  run1 : r.run ≤ 16
  off0 : 0 ≤ r.off
  off1 : r.off ≤ 16

theorem two_pow_le' {n m : Nat} (h : n ≤ m) : (2 : Int) ^ n ≤ 2 ^ m := by
  have := Nat.pow_le_pow_right (n := 2) (by decide) h
  have e : ∀ k : Nat, (2 : Int) ^ k = ((2 ^ k : Nat) : Int) := fun k => by simp
  rw [e, e]; exact Int.ofNat_le.2 this

theorem pow_bounds {h : Int} (h0 : 0 ≤ h) (h1 : h ≤ 16) : 1 ≤ (2 : Int) ^ h.toNat ∧ (2 : Int) ^ h.toNat ≤ 65536 := by
  have h4 : (2 : Int) ^ h.toNat ≤ 2 ^ 16 := two_pow_le' (by omega)
  have h5 : (0 : Int) < 2 ^ h.toNat := Int.pow_pos (by decide)
  omega

theorem riderOk_ok {r : Rider} {h : Int} (h0 : 0 ≤ h) (h1 : h ≤ 16) (hr : riderOk r h = true) : r.Ok := by
  have := pow_bounds h0 h1
  simp only [riderOk, inB, Bool.and_eq_true, decide_eq_true_eq] at hr
  constructor <;> omega

theorem Rest.valid_hours {R : Rest} (h : R.valid = true) : 0 ≤ R.hours ∧ R.hours ≤ 16 := by
  simp only [Rest.valid, inB, Bool.and_eq_true, decide_eq_true_eq] at h
  exact h.1

theorem Rest.valid_no {R : Rest} (k : Nat) (h : riderOk (R.nth k) R.hours = false) : R.valid = false := by
  match k with
  | 0 => simp only [Rest.nth] at h; simp [Rest.valid, h]
  | k + 1 => simp only [Rest.nth] at h; simp [Rest.valid, h]

theorem Rest.valid_ok {R : Rest} (h : R.valid = true) : R.r0.Ok ∧ R.r1.Ok := by
  have ⟨h0, h1⟩ := Rest.valid_hours h
  simp only [Rest.valid, Bool.and_eq_true] at h
  exact ⟨riderOk_ok h0 h1 h.2.1, riderOk_ok h0 h1 h.2.2⟩

end Go.Proofs.Ytkgdejhooghknaa
