/- The plain mathematics of layer 6: how many plans are right; rests that differ; sets. -/
import Derived.Test.YtkgdejhooghknaaN1
namespace Go.Proofs.Ytkgdejhooghknaa
open Go.RowKit Go.Lap

theorem sum_le {α : Type} (f : α → Nat) (c : Nat) : ∀ (l : List α), (∀ x, x ∈ l → f x ≤ c) → (l.map f).sum ≤ l.length * c
  | [], _ => by simp
  | x :: l, h => by
    have h1 := h x (by simp)
    have h2 := sum_le f c l (fun y hy => h y (by simp [hy]))
    simp only [List.map_cons, List.sum_cons, List.length_cons, Nat.succ_mul]
    omega

theorem length_rightL (R : Rest) : ∀ (n : Nat) (s : St), (rightL R n s).length ≤ 2 ^ n
  | 0, _ => by simp [rightL]
  | n + 1, s => by
    simp only [rightL, List.length_flatMap, List.length_map]
    have h1 := sum_le (fun x : Int × St => (rightL R n x.2).length) (2 ^ n) (stepsL R s) (fun x _ => length_rightL R n x.2)
    have h2 : (stepsL R s).length ≤ 2 := stepsTo_length R s 2
    have h3 : (stepsL R s).length * 2 ^ n ≤ 2 * 2 ^ n := Nat.mul_le_mul_right _ h2
    have h4 : 2 ^ (n + 1) = 2 * 2 ^ n := by rw [Nat.pow_succ, Nat.mul_comm]
    omega

theorem val_count : ∀ (p : List Int) (s : St), val countG s p = 1
  | [], _ => rfl
  | x :: l, s => val_count l (s.next x)

theorem foldl_ones : ∀ (l : List (List Int)) (k : Int), 0 ≤ k → k + l.length ≤ 65536 → (l.map (fun _ => (1 : Int))).foldl (fun a b => wrap64 (a + b)) k = k + l.length
  | [], k, _, _ => by simp
  | x :: l, k, h0, h1 => by
    simp only [List.length_cons] at h1
    simp only [List.map_cons, List.foldl_cons, List.length_cons]
    rw [IntWalk.wrap64_in _ (by omega), foldl_ones l (k + 1) (by omega) (by omega)]
    omega

/-- All right plans of a rest. -/
abbrev plansL (R : Rest) : List (List Int) := rightL R R.hours.toNat St.begin

theorem joinAll_ones {l : List (List Int)} (h : l.length ≤ 65536) : joinAll countG.join (l.map (fun _ => (1 : Int))) = if l = [] then none else some (l.length : Int) := by
  cases l with
  | nil => rfl
  | cons a l =>
    simp only [List.length_cons] at h
    simp only [joinAll, List.map_cons, countG]
    rw [foldl_ones l 1 (by omega) (by omega)]
    simp
    omega

theorem found_count {R : Rest} {n : Nat} (hn : n ≤ 16) : found R countG n St.begin = if rightL R n St.begin = [] then none else some ((rightL R n St.begin).length : Int) := by
  have h1 := length_rightL R n St.begin
  have h2 : 2 ^ n ≤ 2 ^ 16 := Nat.pow_le_pow_right (by decide) hn
  rw [found_all count_alg R n St.begin St.begin_ok (by simp [St.begin]; omega)]
  rw [show (rightL R n St.begin).map (val countG St.begin) = (rightL R n St.begin).map (fun _ => (1 : Int)) from List.map_congr_left (fun p _ => val_count p _)]
  exact joinAll_ones (by omega)

theorem valid_16 {R : Rest} (hv : R.valid = true) : R.hours.toNat ≤ 16 := by have := Rest.valid_hours hv; omega

theorem countR_eq {R : Rest} (hv : R.valid = true) : countR R = (((plansL R).length : Int), 0) := by
  simp only [countR, hv, if_true, countOf, found_count (valid_16 hv)]
  split
  · rename_i h; simp [h]
  · simp

theorem canB_eq {R : Rest} {til : Int} (h : til.toNat ≤ 16) : canB R til = decide (rightL R til.toNat St.begin ≠ []) := by
  simp only [canB, found_count h]
  split
  · rename_i h; simp [h]
  · rename_i h; simp [h]

/-- Something is so of each state on the way. -/
def along (c : St → Bool) : St → List Int → Bool
  | _, [] => true
  | s, x :: l => c (s.next x) && along c (s.next x) l

theorem flatMap_steps {R : Rest} {β : Type} (f : Int × St → List β) (s : St) : (stepsL R s).flatMap f = (if broken R (s.next 0) = 0 then f (0, s.next 0) else []) ++ (if broken R (s.next 1) = 0 then f (1, s.next 1) else []) := by
  simp only [stepsL, stepsTo, List.nil_append, List.flatMap_append]
  congr 1
  · by_cases h : broken R (s.next 0) = 0
    · have h' : broken R (s.next ((0 : Nat) : Int)) = 0 := h
      rw [if_pos h, if_pos h']; simp
    · have h' : ¬ broken R (s.next ((0 : Nat) : Int)) = 0 := h
      rw [if_neg h, if_neg h']; rfl
  · by_cases h : broken R (s.next 1) = 0
    · have h' : broken R (s.next ((1 : Nat) : Int)) = 0 := h
      rw [if_pos h, if_pos h']; simp
    · have h' : ¬ broken R (s.next ((1 : Nat) : Int)) = 0 := h
      rw [if_neg h, if_neg h']; rfl

theorem rightL_filter {R R' : Rest} {c : St → Bool} (h : ∀ s : St, (s.rider = 0 ∨ s.rider = 1) → 1 ≤ s.hour → s.hour ≤ 16 → decide (broken R' s = 0) = (decide (broken R s = 0) && c s)) :
    ∀ (n : Nat) (s : St), 0 ≤ s.hour → s.hour + n ≤ 16 → rightL R' n s = (rightL R n s).filter (along c s)
  | 0, s, _, _ => by simp [rightL, along, List.filter]
  | n + 1, s, h0, h1 => by
    have key : ∀ x : Int, (x = 0 ∨ x = 1) → (if broken R' (s.next x) = 0 then (rightL R' n (s.next x)).map (x :: ·) else []) = (if broken R (s.next x) = 0 then (rightL R n (s.next x)).map (x :: ·) else []).filter (along c s) := by
      intro x hx
      have h2 := h (s.next x) hx (by show 1 ≤ s.hour + 1; omega) (by show s.hour + 1 ≤ 16; omega)
      have h3 := rightL_filter h n (s.next x) (by show 0 ≤ s.hour + 1; omega) (by show s.hour + 1 + n ≤ 16; omega)
      by_cases hb : broken R (s.next x) = 0
      · cases hc : c (s.next x)
        · have : ¬ broken R' (s.next x) = 0 := by simpa [hb, hc] using h2
          rw [if_neg this, if_pos hb, List.filter_map]
          have : (along c s ∘ (x :: ·)) = fun _ => false := by funext l; simp [along, hc]
          rw [this]; simp
        · have : broken R' (s.next x) = 0 := by simpa [hb, hc] using h2
          rw [if_pos this, if_pos hb, List.filter_map, h3]
          have : (along c s ∘ (x :: ·)) = along c (s.next x) := by funext l; simp [along, hc]
          rw [this]
      · have : ¬ broken R' (s.next x) = 0 := by simpa [hb] using h2
        rw [if_neg this, if_neg hb]; rfl
    simp only [rightL, flatMap_steps, List.filter_append]
    rw [key 0 (.inl rfl), key 1 (.inr rfl)]

/-- A rest in which a rider cannot ride in an hour, either. -/
def orB (set h : Int) : Int := ((set.toNat ||| 2 ^ h.toNat : Nat) : Int)
def outR (R : Rest) (i h : Int) : Rest := if i = 0 then { R with r0 := { R.r0 with out := orB R.r0.out h } } else { R with r1 := { R.r1 with out := orB R.r1.out h } }

theorem hasBit_or {set h k : Int} (h0 : 0 ≤ set) (hh : 0 ≤ h) (hk : 0 ≤ k) : hasBit (orB set h) k = (hasBit set k || decide (k = h)) := by
  obtain ⟨n, rfl⟩ : ∃ n : Nat, set = n := ⟨set.toNat, by omega⟩
  obtain ⟨i, rfl⟩ : ∃ i : Nat, h = i := ⟨h.toNat, by omega⟩
  obtain ⟨j, rfl⟩ : ∃ j : Nat, k = j := ⟨k.toNat, by omega⟩
  rw [orB, hasBit_nat, hasBit_nat, Int.toNat_natCast, Int.toNat_natCast, Nat.testBit_or, Nat.testBit_two_pow]
  congr 1
  by_cases e : i = j
  · subst e; simp
  · have : ¬ ((j : Int) = i) := by omega
    simp [e, this]

def outc (i h : Int) (s : St) : Bool := !(decide (s.rider = i) && decide (s.hour - 1 = h))

theorem broken_zero {R : Rest} {s : St} : decide (broken R s = 0) = (!hasBit (R.rider s.rider).out (s.hour - 1) && (!decide ((R.rider s.rider).total < s.own) && (!decide ((R.rider s.rider).run < s.run) && !(s.again && decide (s.before < (R.rider s.rider).off))))) := by
  unfold broken
  cases hasBit (R.rider s.rider).out (s.hour - 1)
  · by_cases h2 : (R.rider s.rider).total < s.own
    · simp [h2]
    · by_cases h3 : (R.rider s.rider).run < s.run
      · simp [h2, h3]
      · cases h4 : (s.again && decide (s.before < (R.rider s.rider).off))
        · simp [h2, h3]
        · simp [h2, h3]
  · simp

theorem broken_out {R : Rest} {i h : Int} (hi : i = 0 ∨ i = 1) (hh : 0 ≤ h) (h0 : 0 ≤ R.r0.out) (h1 : 0 ≤ R.r1.out) (s : St) (hr : s.rider = 0 ∨ s.rider = 1) (hs : 1 ≤ s.hour) :
    decide (broken (outR R i h) s = 0) = (decide (broken R s = 0) && outc i h s) := by
  rw [broken_zero, broken_zero]
  unfold outc
  have hb : ∀ r : Rider, 0 ≤ r.out → hasBit (orB r.out h) (s.hour - 1) = (hasBit r.out (s.hour - 1) || decide (s.hour - 1 = h)) := fun r hr0 => hasBit_or hr0 hh (by omega)
  rcases hi with rfl | rfl <;> rcases hr with hr | hr
  · simp only [outR, Rest.rider, hr, if_true, hb _ h0]
    cases hasBit R.r0.out (s.hour - 1) <;> cases decide (s.hour - 1 = h) <;> simp
  · simp [outR, Rest.rider, hr]
  · simp [outR, Rest.rider, hr]
  · simp only [outR, Rest.rider, hr, Int.reduceEq, if_false, hb _ h1]
    cases hasBit R.r1.out (s.hour - 1) <;> cases decide (s.hour - 1 = h) <;> simp

theorem along_out (i h : Int) : ∀ (p : List Int) (s : St), s.hour ≤ h → along (outc i h) s p = decide (p[(h - s.hour).toNat]? ≠ some i)
  | [], s, _ => by simp [along]
  | x :: l, s, hs => by
    simp only [along, outc]
    have e1 : (s.next x).rider = x := rfl
    have e2 : (s.next x).hour = s.hour + 1 := rfl
    rw [e1, e2]
    by_cases hh : s.hour = h
    · have hz : (h - s.hour).toNat = 0 := by omega
      have htrue : ∀ (p : List Int) (s : St), h < s.hour → along (outc i h) s p = true := by
        intro p
        induction p with
        | nil => intro s _; rfl
        | cons y p ih =>
          intro s hs2
          simp only [along, outc]
          have e3 : (s.next y).hour = s.hour + 1 := rfl
          rw [e3, ih (s.next y) (by rw [e3]; omega)]
          have : ¬ (s.hour = h) := by omega
          simp [this]
      rw [htrue l (s.next x) (by rw [e2]; omega), hz]
      have : s.hour + 1 - 1 = h := by omega
      simp [this]
    · rw [along_out i h l (s.next x) (by rw [e2]; omega), e2]
      have h4 : (h - s.hour).toNat = (h - (s.hour + 1)).toNat + 1 := by omega
      rw [h4]
      simp [hh]

theorem outR_valid {R : Rest} {i h : Int} (hv : R.valid = true) (h0 : 0 ≤ h) (h1 : h < R.hours) : (outR R i h).valid = true ∧ (outR R i h).hours = R.hours := by
  simp only [Rest.valid, Bool.and_eq_true] at hv
  obtain ⟨g1, g2, g3⟩ := hv
  have key : ∀ r : Rider, riderOk r R.hours = true → riderOk { r with out := orB r.out h } R.hours = true := by
    intro r hr
    simp only [riderOk, Bool.and_eq_true] at hr ⊢
    refine ⟨?_, hr.2⟩
    have := hr.1
    simp only [inB, Bool.and_eq_true, decide_eq_true_eq] at this ⊢
    have e : ((2 : Int) ^ R.hours.toNat) = ((2 ^ R.hours.toNat : Nat) : Int) := by simp
    have hp : 0 < 2 ^ R.hours.toNat := Nat.pow_pos (by decide)
    have h2 : r.out.toNat ||| 2 ^ h.toNat < 2 ^ R.hours.toNat := Nat.or_lt_two_pow (by omega) (Nat.pow_lt_pow_right (by decide) (by omega))
    unfold orB
    omega
  unfold outR
  split
  · exact ⟨by simp only [Rest.valid, Bool.and_eq_true]; exact ⟨g1, key _ g2, g3⟩, rfl⟩
  · exact ⟨by simp only [Rest.valid, Bool.and_eq_true]; exact ⟨g1, g2, key _ g3⟩, rfl⟩

theorem plans_out {R : Rest} (hv : R.valid = true) {i h : Int} (hi : i = 0 ∨ i = 1) (h0 : 0 ≤ h) (h1 : h < R.hours) : plansL (outR R i h) = (plansL R).filter (fun p => decide (p[h.toNat]? ≠ some i)) := by
  have ho := Rest.valid_ok hv
  have hh := Rest.valid_hours hv
  rw [plansL, (outR_valid hv h0 h1).2, rightL_filter (c := outc i h) (fun s hr hs _ => broken_out hi h0 ho.1.out0 ho.2.out0 s hr hs) _ _ (by simp [St.begin]) (by simp [St.begin]; omega)]
  apply List.filter_congr
  intro p _
  rw [along_out i h p St.begin (by simpa [St.begin] using h0)]
  simp [St.begin]

theorem mem_plans {R : Rest} {p : List Int} (h : p ∈ plansL R) : p.length = R.hours.toNat ∧ ∀ k, k < p.length → p[k]? = some 0 ∨ p[k]? = some 1 := by
  obtain ⟨h1, h2⟩ := mem_rightL.1 h
  refine ⟨h1, ?_⟩
  have key : ∀ (p : List Int) (s : St), goodB R s p = true → ∀ k, k < p.length → p[k]? = some 0 ∨ p[k]? = some 1 := by
    intro p
    induction p with
    | nil => intro s _ k hk; simp at hk
    | cons x p ih =>
      intro s hg k hk
      simp only [goodB, Bool.and_eq_true] at hg
      cases k with
      | zero =>
        have := hg.1
        simp only [inB, Bool.and_eq_true, decide_eq_true_eq] at this
        have : x = 0 ∨ x = 1 := by omega
        simpa using this
      | succ k => simpa using ih (s.next x) hg.2.2 k (by simpa using hk)
  exact key p _ h2

theorem filter_two {l : List (List Int)} {k : Nat} (h : ∀ p, p ∈ l → p[k]? = some 0 ∨ p[k]? = some 1) : (l.filter (fun p => decide (p[k]? ≠ some 0))).length + (l.filter (fun p => decide (p[k]? ≠ some 1))).length = l.length := by
  induction l with
  | nil => rfl
  | cons p l ih =>
    have h2 := ih (fun q hq => h q (by simp [hq]))
    rcases h p (by simp) with e | e
    · rw [List.filter_cons_of_neg (by simp [e]), List.filter_cons_of_pos (by simp [e])]
      simp only [List.length_cons]; omega
    · rw [List.filter_cons_of_pos (by simp [e]), List.filter_cons_of_neg (by simp [e])]
      simp only [List.length_cons]; omega

end Go.Proofs.Ytkgdejhooghknaa
