/- The plain law of 'RestFewest' and 'RestEven'. -/
import Derived.Test.YtkgdejhooghknaaT2
namespace Go.Proofs.Ytkgdejhooghknaa
open Go.RowKit Go.Lap

/-- Who rides in an hour by a right plan can. -/
theorem good_out {R : Rest} : ∀ (p : List Int) (s : St), goodB R s p = true → ∀ k, k < p.length → hasBit (R.rider (p.getD k 0)).out (s.hour + k) = false
  | [], s, _, k, hk => by simp at hk
  | x :: l, s, h, k, hk => by
    simp only [goodB, Bool.and_eq_true] at h
    cases k with
    | zero =>
      have h1 := h.2.1
      rw [broken_zero] at h1
      simp only [Bool.and_eq_true, Bool.not_eq_true'] at h1
      have h2 := h1.1
      have e : (s.next x).hour - 1 = s.hour + ((0 : Nat) : Int) := by show s.hour + 1 - 1 = _; omega
      rw [e] at h2
      exact h2
    | succ k =>
      have := good_out l (s.next x) h.2.2 k (by simpa using hk)
      have e : (s.next x).hour + (k : Int) = s.hour + ((k + 1 : Nat) : Int) := by show s.hour + 1 + (k : Int) = _; omega
      rw [e] at this
      simpa using this

/-- As often as hours that one of them cannot ride tell another rider: who it was last, and how often. -/
def need (R : Rest) : Nat → Int × Int
  | 0 => (-1, 0)
  | k + 1 =>
    let a := hasBit R.r0.out k
    let b := hasBit R.r1.out k
    if a = b then need R k
    else (if a then 1 else 0, if 0 ≤ (need R k).1 ∧ (if a then 1 else 0) ≠ (need R k).1 then (need R k).2 + 1 else (need R k).2)

theorem need_bd (R : Rest) : ∀ k, -1 ≤ (need R k).1 ∧ (need R k).1 ≤ 1 ∧ 0 ≤ (need R k).2 ∧ (need R k).2 ≤ k
  | 0 => by simp [need]
  | k + 1 => by
    have := need_bd R k
    unfold need
    simp only
    split
    · omega
    · simp only
      cases hasBit R.r0.out k <;> simp only [if_true, Bool.false_eq_true, if_false] <;> split <;> omega

theorem plan_two {R : Rest} {p : List Int} (h : p ∈ plansL R) : ∀ x, x ∈ p → x = 0 ∨ x = 1 := by
  intro x hx
  obtain ⟨k, hk, rfl⟩ := List.mem_iff_getElem.1 hx
  have := (mem_plans h).2 k hk
  rw [List.getElem?_eq_getElem hk] at this
  simpa using this

theorem getD_two {p : List Int} (h : ∀ x, x ∈ p → x = 0 ∨ x = 1) {k : Nat} (hk : k < p.length) : p.getD k 0 = 0 ∨ p.getD k 0 = 1 := by
  have : p.getD k 0 = p[k] := by simp [hk]
  rw [this]; exact h _ (List.getElem_mem hk)

theorem need_le {R : Rest} {p : List Int} (hp : p ∈ plansL R) : ∀ k, k ≤ p.length → (need R k).2 + (if 1 ≤ k ∧ 0 ≤ (need R k).1 ∧ (need R k).1 ≠ p.getD (k - 1) 0 then 1 else 0) ≤ chg (p.take k)
  | 0, _ => by simp [need, chg]
  | k + 1, hk => by
    have ih := need_le hp k (by omega)
    have hx := getD_two (plan_two hp) (k := k) (by omega)
    have ho := good_out p St.begin (mem_rightL.1 hp).2 k (by omega)
    have e0 : St.begin.hour + (k : Int) = k := by show (0 : Int) + k = k; omega
    rw [e0] at ho
    have hc : chg (p.take (k + 1)) = chg (p.take k) + (if 1 ≤ k ∧ p.getD (k - 1) 0 ≠ p.getD k 0 then 1 else 0) := by
      by_cases h1 : 1 ≤ k
      · rw [chg_take h1 (by omega)]
        by_cases h2 : p.getD (k - 1) 0 = p.getD k 0
        · rw [if_pos h2, if_neg (fun h => h.2 h2)]
        · rw [if_neg h2, if_pos ⟨h1, h2⟩]
      · obtain rfl : k = 0 := by omega
        rw [if_neg (by omega)]
        cases p <;> simp [chg]
    have hb := need_bd R k
    have h0 : k = 0 → (need R k).1 = -1 := by rintro rfl; rfl
    rw [hc]
    have e1 : k + 1 - 1 = k := by omega
    rw [e1]
    generalize hlast : (need R k).1 = last at *
    generalize hn : (need R k).2 = n at *
    generalize chg (p.take k) = c at *
    generalize p.getD (k - 1) 0 = y at *
    generalize p.getD k 0 = x at *
    have hwho : hasBit R.r0.out k ≠ hasBit R.r1.out k → x = if hasBit R.r0.out k then 1 else 0 := by
      intro hne
      rcases hx with rfl | rfl
      · have h2 : hasBit R.r0.out k = false := ho
        rw [h2]; rfl
      · have h2 : hasBit R.r1.out k = false := ho
        have h3 : hasBit R.r0.out k = true := by
          cases h4 : hasBit R.r0.out k
          · rw [h4, h2] at hne; exact (hne rfl).elim
          · rfl
        rw [h3]; rfl
    unfold need
    simp only [hlast, hn]
    by_cases hab : hasBit R.r0.out k = hasBit R.r1.out k
    · rw [if_pos hab]
      simp only [hlast, hn]
      split at ih <;> split <;> split <;> omega
    · have hw := hwho hab
      rw [if_neg hab]
      simp only [← hw]
      split at ih <;> split <;> split <;> split <;> omega

theorem need_chg {R : Rest} {p : List Int} (hp : p ∈ plansL R) : (need R R.hours.toNat).2 ≤ chg p := by
  have hl := (mem_plans hp).1
  have := need_le hp p.length (Nat.le_refl _)
  rw [List.take_length] at this
  rw [← hl]
  split at this <;> omega

/-- The first place at which they part. -/
theorem Before.at {p q : List Int} (h : Before p q) {i : Nat} (ht : p.take i = q.take i) (hne : p.getD i 0 ≠ q.getD i 0) : p.getD i 0 = 0 ∧ q.getD i 0 = 1 := by
  obtain ⟨k, h1, h2, h3⟩ := h
  have key : ∀ {a b : List Int} {m j : Nat}, a.take m = b.take m → j < m → a[j]? = b[j]? := by
    intro a b m j e hj
    have := congrArg (fun l => l[j]?) e
    simpa [List.getElem?_take, hj] using this
  rcases Nat.lt_trichotomy i k with hlt | rfl | hgt
  · have := key h1 hlt
    exact (hne (by simp only [List.getD_eq_getElem?_getD, this])).elim
  · exact ⟨by simp [List.getD_eq_getElem?_getD, h2], by simp [List.getD_eq_getElem?_getD, h3]⟩
  · have := key ht hgt
    rw [h2, h3] at this
    simp at this

theorem take_next {p q : List Int} {i : Nat} (hp : i < p.length) (hq : i < q.length) (ht : p.take i = q.take i) (he : p.getD i 0 = q.getD i 0) : p.take (i + 1) = q.take (i + 1) := by
  rw [take_one hp, take_one hq, ht, he]

theorem planOk_of {R : Rest} (hv : R.valid = true) {p : List Int} (h : p ∈ plansL R) : planOk R p = true := by
  have hh := Rest.valid_hours hv
  obtain ⟨h1, _⟩ := mem_plans h
  have h2 := plan_two h
  unfold planOk
  have : p.any badB = false := by
    rw [List.any_eq_false]
    intro x hx
    rcases h2 x hx with rfl | rfl <;> simp [badB, inB]
  rw [this]
  simp; omega

theorem bits_right {R : Rest} (hv : R.valid = true) {z : Int} (h : rightB R (bitsL R.hours.toNat z) = true) : bitsL R.hours.toNat z ∈ plansL R := (rightB_iff hv).1 h

/-- The plan that is told, by one kind of goal: nothing, or what is told of it. -/
theorem told_plan {R : Rest} (hv : R.valid = true) {g : Goal Int} {P : Nat → Int → Prop} (hg : g.Low P) :
    (plansL R = [] ∧ planR R g = (0, [], 4)) ∨
    (plansL R ≠ [] ∧ ∃ v p, planR R g = (v, p, 0) ∧ p ∈ plansL R ∧ val g St.begin p = v ∧ (∀ q, q ∈ plansL R → v ≤ val g St.begin q) ∧ ∀ q, q ∈ plansL R → val g St.begin q = v → q = p ∨ Before p q) := by
  have hb0 := St.begin_ok
  have hb1 : St.begin.hour = 0 := rfl
  have h16 := valid_16 hv
  cases hf : found R g R.hours.toNat St.begin with
  | none => exact .inl ⟨(found_none hg.alg hb0 (by omega)).1 hf, by simp [planR, hv, hf]⟩
  | some v =>
    obtain ⟨p1, p2, p3, p4⟩ := picked hg hb0 (by omega) hf
    exact .inr ⟨List.ne_nil_of_mem p1, v, _, by simp only [planR, hv, hf]; rfl, p1, p2, p3, p4⟩

theorem val_chg {R : Rest} (hv : R.valid = true) {p : List Int} (h : p ∈ plansL R) : val changesG St.begin p = chg p := by
  have h16 := valid_16 hv
  have hl := (mem_plans h).1
  have := val_changes p St.begin St.begin_ok (by show (0 : Int) + p.length ≤ 16; omega) (plan_two h)
  rw [this]; exact if_neg (by show ¬ (0 : Int) < 0; omega)

end Go.Proofs.Ytkgdejhooghknaa
