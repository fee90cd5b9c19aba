/- The plain mathematics of layer 6: changes, hours, the order of plans. -/
import Derived.Test.YtkgdejhooghknaaPure3
namespace Go.Proofs.Ytkgdejhooghknaa
open Go.RowKit

/-- In how many hours a rider rides. -/
def rid (r : Int) : List Int → Int
  | [] => 0
  | x :: l => (if x = r then 1 else 0) + rid r l
theorem rid_append (r : Int) (l m : List Int) : rid r (l ++ m) = rid r l + rid r m := by
  induction l with
  | nil => simp [rid]
  | cons x l ih => simp only [List.cons_append, rid, ih]; omega
theorem rid_bound (r : Int) (l : List Int) : 0 ≤ rid r l ∧ rid r l ≤ l.length := by
  induction l with
  | nil => simp [rid]
  | cons x l ih => simp only [rid, List.length_cons]; split <;> omega
theorem rid_two {l : List Int} (h : ∀ x, x ∈ l → x = 0 ∨ x = 1) : rid 0 l + rid 1 l = l.length := by
  induction l with
  | nil => simp [rid]
  | cons x l ih =>
    have := ih (fun y hy => h y (by simp [hy]))
    rcases h x (by simp) with rfl | rfl <;> simp [rid] <;> omega
theorem take_one {xs : List Int} {k : Nat} (h : k < xs.length) : xs.take (k + 1) = xs.take k ++ [xs.getD k 0] := by
  rw [List.take_add_one]; simp [h]
theorem rid_take (r : Int) {xs : List Int} {k : Nat} (h : k < xs.length) : rid r (xs.take (k + 1)) = rid r (xs.take k) + if xs.getD k 0 = r then 1 else 0 := by
  rw [take_one h, rid_append]; simp [rid]

/-- How often another one rides than in the hour before. -/
def chg : List Int → Int
  | [] => 0
  | [_] => 0
  | x :: y :: l => (if x = y then 0 else 1) + chg (y :: l)
theorem chg_cons (x : Int) (l : List Int) : chg (x :: l) = (match l with | [] => 0 | y :: _ => if x = y then 0 else 1) + chg l := by
  cases l <;> simp [chg]
theorem chg_snoc (l : List Int) (a b : Int) : chg (l ++ [a, b]) = chg (l ++ [a]) + if a = b then 0 else 1 := by
  induction l with
  | nil => simp [chg]
  | cons x l ih =>
    simp only [List.cons_append]
    rw [chg_cons, chg_cons x (l ++ [a]), ih]
    cases l <;> simp <;> omega
theorem chg_take {xs : List Int} {k : Nat} (h0 : 1 ≤ k) (h : k < xs.length) : chg (xs.take (k + 1)) = chg (xs.take k) + if xs.getD (k - 1) 0 = xs.getD k 0 then 0 else 1 := by
  obtain ⟨j, rfl⟩ : ∃ j, k = j + 1 := ⟨k - 1, by omega⟩
  rw [take_one h, take_one (k := j) (by omega), List.append_assoc]
  simpa using chg_snoc (xs.take j) (xs.getD j 0) (xs.getD (j + 1) 0)
theorem chg_bound (l : List Int) : 0 ≤ chg l ∧ chg l ≤ l.length := by
  induction l with
  | nil => simp [chg]
  | cons x l ih =>
    rw [chg_cons]
    cases l with
    | nil => simp [chg]
    | cons y l => simp only [List.length_cons] at *; split <;> omega

/-- What one plan comes to, of changes. -/
theorem val_changes : ∀ (p : List Int) (s : St), s.Ok → s.hour + p.length ≤ 16 → (∀ x, x ∈ p → x = 0 ∨ x = 1) → val changesG s p = if 0 < s.hour then chg (s.rider :: p) else chg p
  | [], s, _, _, _ => by simp [val, changesG, chg]
  | x :: l, s, hs, hh, hx => by
    have hx0 := hx x (by simp)
    have hh' : s.hour + (l.length + 1) ≤ 16 := by simpa using hh
    have ho := St.next_ok (r := x) hs (by omega) (by omega) (by omega)
    have ih := val_changes l (s.next x) ho (by show s.hour + 1 + l.length ≤ 16; omega) (fun y hy => hx y (by simp [hy]))
    have h1 : 0 < (s.next x).hour := by have := hs.hour0; show 0 < s.hour + 1; omega
    rw [if_pos h1] at ih
    have ih' : val changesG (s.next x) l = chg (x :: l) := ih
    have hb := chg_bound (x :: l)
    simp only [List.length_cons] at hb
    have h0 := hs.hour0
    show (if 0 < s.hour ∧ s.rider ≠ x then wrap64 (val changesG (s.next x) l + 1) else val changesG (s.next x) l) = _
    rw [ih']
    by_cases h2 : 0 < s.hour
    · rw [if_pos h2]
      have e : chg (s.rider :: x :: l) = (if s.rider = x then 0 else 1) + chg (x :: l) := rfl
      rw [e]
      by_cases h3 : s.rider = x
      · simp [h3]
      · rw [if_pos ⟨h2, h3⟩, if_neg h3, IntWalk.wrap64_in _ (by omega)]; omega
    · rw [if_neg h2, if_neg (fun h => h2 h.1)]

theorem end_hours : ∀ (p : List Int) (s : St), (∀ x, x ∈ p → x = 0 ∨ x = 1) → (p.foldl St.next s).h0 = s.h0 + rid 0 p ∧ (p.foldl St.next s).h1 = s.h1 + rid 1 p
  | [], s, _ => by simp [rid]
  | x :: l, s, hx => by
    obtain ⟨h1, h2⟩ := end_hours l (s.next x) (fun y hy => hx y (by simp [hy]))
    simp only [List.foldl_cons, rid]
    rw [h1, h2]
    rcases hx x (by simp) with rfl | rfl <;> simp [St.next] <;> omega

theorem val_end {T : Type} {g : Goal T} (hg : ∀ s nx x, g.hour s nx x = x) : ∀ (p : List Int) (s : St), val g s p = g.fin (p.foldl St.next s)
  | [], s => rfl
  | x :: l, s => by simp only [val, hg, val_end hg l, List.foldl_cons]

/-- By how many hours one rides more than the other one. -/
def dif (p : List Int) : Int := max (rid 0 p - rid 1 p) (rid 1 p - rid 0 p)
theorem val_even {p : List Int} (hx : ∀ x, x ∈ p → x = 0 ∨ x = 1) : val evenG St.begin p = dif p := by
  rw [val_end (fun _ _ _ => rfl)]
  obtain ⟨h1, h2⟩ := end_hours p St.begin hx
  have e0 : St.begin.h0 = 0 := rfl
  have e1 : St.begin.h1 = 0 := rfl
  simp only [evenG, h1, h2, dif, e0, e1]; omega
theorem val_span {p : List Int} {r : Int} (hr : r = 0 ∨ r = 1) (hx : ∀ x, x ∈ p → x = 0 ∨ x = 1) : val (spanG r) St.begin p = (rid r p, rid r p) := by
  rw [val_end (fun _ _ _ => rfl)]
  obtain ⟨h1, h2⟩ := end_hours p St.begin hx
  have e0 : St.begin.h0 = 0 := rfl
  have e1 : St.begin.h1 = 0 := rfl
  rcases hr with rfl | rfl <;> simp [spanG, St.of, h1, h2, e0, e1]

/-- The first place at which two plans part: the one has 0 there, the other one 1. -/
def Before (p q : List Int) : Prop := ∃ k : Nat, p.take k = q.take k ∧ p[k]? = some 0 ∧ q[k]? = some 1
theorem Before.cons {p q : List Int} (x : Int) (h : Before p q) : Before (x :: p) (x :: q) := by
  obtain ⟨k, h1, h2, h3⟩ := h
  exact ⟨k + 1, by simp [h1], by simpa using h2, by simpa using h3⟩

theorem sorted_map {l : List (List Int)} (x : Int) (h : l.Pairwise Before) : (l.map (x :: ·)).Pairwise Before := by
  rw [List.pairwise_map]
  exact h.imp (fun h => h.cons x)

theorem stepsL_eq (R : Rest) (s : St) : stepsL R s = (if broken R (s.next 0) = 0 then [(0, s.next 0)] else []) ++ (if broken R (s.next 1) = 0 then [(1, s.next 1)] else []) := rfl

/-- Right plans are told in their order. -/
theorem rightL_sorted (R : Rest) : ∀ (n : Nat) (s : St), (rightL R n s).Pairwise Before
  | 0, s => by simp [rightL]
  | n + 1, s => by
    have h0 := sorted_map 0 (rightL_sorted R n (s.next 0))
    have h1 := sorted_map 1 (rightL_sorted R n (s.next 1))
    simp only [rightL, stepsL_eq, List.flatMap_append]
    rw [List.pairwise_append]
    refine ⟨?_, ?_, ?_⟩
    · split
      · simpa using h0
      · simp
    · split
      · simpa using h1
      · simp
    · intro p hp q hq
      split at hp
      · split at hq
        · simp only [List.flatMap_cons, List.flatMap_nil, List.append_nil, List.mem_map] at hp hq
          obtain ⟨p', _, rfl⟩ := hp
          obtain ⟨q', _, rfl⟩ := hq
          exact ⟨0, rfl, rfl, rfl⟩
        · simp at hq
      · simp at hp

theorem find_before {α : Type} {rel : α → α → Prop} {p : α → Bool} {a b : α} : ∀ {l : List α}, l.Pairwise rel → l.find? p = some a → b ∈ l → p b = true → b = a ∨ rel a b
  | [], _, h, _, _ => by cases h
  | x :: l, hs, h, hb, hpb => by
    rw [List.pairwise_cons] at hs
    rw [List.find?_cons] at h
    cases hx : p x
    · rw [hx] at h
      rcases List.mem_cons.1 hb with rfl | hb'
      · rw [hx] at hpb; cases hpb
      · exact find_before hs.2 h hb' hpb
    · rw [hx] at h
      obtain rfl : x = a := by simpa using h
      rcases List.mem_cons.1 hb with rfl | hb'
      · exact .inl rfl
      · exact .inr (hs.1 b hb')

/-- A goal of which less is better: what is found, and the plan that is picked. -/
theorem picked {g : Goal Int} {P : Nat → Int → Prop} (hg : g.Low P) {R : Rest} {n : Nat} {s : St} {v : Int} (hs : s.Ok) (hh : s.hour + n ≤ 16) (hf : found R g n s = some v) :
    pick R g n s v ∈ rightL R n s ∧ val g s (pick R g n s v) = v ∧ (∀ q, q ∈ rightL R n s → v ≤ val g s q) ∧ (∀ q, q ∈ rightL R n s → val g s q = v → q = pick R g n s v ∨ Before (pick R g n s v) q) := by
  have hp := pick_first hg R n s v hs hh hf
  have hall := found_all hg.alg R n s hs hh
  rw [hf] at hall
  obtain ⟨_, hmin⟩ := joinAll_min hg.join hall.symm
  refine ⟨List.mem_of_find?_eq_some hp, by simpa using List.find?_some hp, fun q hq => hmin _ (List.mem_map.2 ⟨q, hq, rfl⟩), fun q hq hv => ?_⟩
  exact find_before (rightL_sorted R n s) hp hq (by simpa using hv)

theorem found_none {T : Type} {g : Goal T} {P : Nat → T → Prop} (hA : g.Alg P) {R : Rest} {n : Nat} {s : St} (hs : s.Ok) (hh : s.hour + n ≤ 16) : found R g n s = none ↔ rightL R n s = [] := by
  rw [found_all hA R n s hs hh, joinAll_none]; simp

end Go.Proofs.Ytkgdejhooghknaa
