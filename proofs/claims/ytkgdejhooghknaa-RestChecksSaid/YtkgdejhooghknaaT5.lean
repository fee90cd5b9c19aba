/- The plain law of 'RestTurned': both riders change places. -/
import Derived.Test.YtkgdejhooghknaaT4
namespace Go.Proofs.Ytkgdejhooghknaa
open Go.RowKit Go.Lap

def Rest.swap (R : Rest) : Rest := ⟨R.hours, R.r1, R.r0⟩
def St.swap (s : St) : St := ⟨if s.rider < 0 then s.rider else 1 - s.rider, s.run, s.before, s.hour, s.h1, s.h0⟩
/-- Who rode: one of both, or nobody yet. -/
def St.Who (s : St) : Prop := s.rider = -1 ∧ s.hour = 0 ∨ (s.rider = 0 ∨ s.rider = 1)
theorem begin_who : St.begin.Who := .inl ⟨rfl, rfl⟩
theorem begin_swap : St.begin.swap = St.begin := rfl
theorem next_who {s : St} {x : Int} (hx : x = 0 ∨ x = 1) : (s.next x).Who := .inr hx

theorem next_swap {s : St} (hs : s.Who) {x : Int} (hx : x = 0 ∨ x = 1) : s.swap.next (1 - x) = (s.next x).swap := by
  obtain ⟨rider, run, before, hour, h0, h1⟩ := s
  simp only [St.Who] at hs
  rcases hs with ⟨rfl, rfl⟩ | rfl | rfl <;> rcases hx with rfl | rfl <;> simp [St.swap, St.next]

theorem broken_swap {R : Rest} {s : St} (hs : s.rider = 0 ∨ s.rider = 1) : broken R.swap s.swap = broken R s := by
  obtain ⟨rider, run, before, hour, h0, h1⟩ := s
  simp only at hs
  rcases hs with rfl | rfl <;> simp [broken, St.swap, Rest.swap, Rest.rider, St.own, St.again]

theorem broken_next_swap {R : Rest} {s : St} (hs : s.Who) {x : Int} (hx : x = 0 ∨ x = 1) : broken R.swap (s.swap.next (1 - x)) = broken R (s.next x) := by
  rw [next_swap hs hx]; exact broken_swap hx

theorem good_swap {R : Rest} : ∀ (p : List Int) (s : St), s.Who → (∀ x, x ∈ p → x = 0 ∨ x = 1) → goodB R.swap s.swap (p.map (1 - ·)) = goodB R s p
  | [], _, _, _ => rfl
  | x :: l, s, hs, hp => by
    have hx := hp x (by simp)
    have hi : inB (1 - x) 0 1 = inB x 0 1 := by rcases hx with rfl | rfl <;> rfl
    simp only [List.map_cons, goodB, hi, broken_next_swap hs hx]
    rw [next_swap hs hx, good_swap l (s.next x) (next_who hx) (fun y hy => hp y (by simp [hy]))]

theorem flip_two {p : List Int} (h : ∀ x, x ∈ p → x = 0 ∨ x = 1) : ∀ x, x ∈ p.map (1 - ·) → x = 0 ∨ x = 1 := by
  intro x hx
  obtain ⟨y, hy, rfl⟩ := List.mem_map.1 hx
  rcases h y hy with rfl | rfl <;> simp
theorem flip_flip (p : List Int) : (p.map (1 - ·)).map (1 - ·) = p := by
  rw [List.map_map]
  have : ((fun x : Int => 1 - x) ∘ fun x => 1 - x) = id := by funext x; simp; omega
  rw [this]; simp

theorem good_two {R : Rest} : ∀ (p : List Int) (s : St), goodB R s p = true → ∀ x, x ∈ p → x = 0 ∨ x = 1
  | [], _, _, x, hx => by cases hx
  | y :: l, s, h, x, hx => by
    simp only [goodB, inB, Bool.and_eq_true, decide_eq_true_eq] at h
    rcases List.mem_cons.1 hx with rfl | hx
    · omega
    · exact good_two l _ h.2.2 x hx

theorem plans_swap {R : Rest} {p : List Int} : p ∈ plansL R.swap ↔ p.map (1 - ·) ∈ plansL R := by
  have key : ∀ {R : Rest} {p : List Int}, p ∈ plansL R → p.map (1 - ·) ∈ plansL R.swap := by
    intro R p h
    obtain ⟨h1, h2⟩ := mem_rightL.1 h
    refine mem_rightL.2 ⟨by rw [List.length_map]; exact h1, ?_⟩
    have := good_swap (R := R) p St.begin begin_who (good_two p _ h2)
    rw [begin_swap] at this
    rw [this]; exact h2
  constructor
  · intro h
    have := key h
    exact this
  · intro h
    have := key h
    rwa [flip_flip] at this

theorem length_swap (R : Rest) : ∀ (n : Nat) (s : St), s.Who → (rightL R.swap n s.swap).length = (rightL R n s).length
  | 0, _, _ => rfl
  | n + 1, s, hs => by
    have h0 := broken_next_swap (R := R) hs (.inl rfl)
    have h1 := broken_next_swap (R := R) hs (.inr rfl)
    have n0 := next_swap hs (.inl rfl)
    have n1 := next_swap hs (.inr rfl)
    have l0 := length_swap R n (s.next 0) (next_who (.inl rfl))
    have l1 := length_swap R n (s.next 1) (next_who (.inr rfl))
    simp only [Int.sub_zero, Int.sub_self] at h0 h1 n0 n1
    simp only [rightL, flatMap_steps, List.length_append]
    rw [h0, h1, n0, n1]
    have e : ∀ (b : Prop) [Decidable b] (l : List (List Int)) (x : Int), (if b then l.map (x :: ·) else []).length = if b then l.length else 0 := by
      intro b _ l x; split <;> simp
    rw [e, e, e, e, l0, l1]
    omega

theorem swap_valid (R : Rest) : R.swap.valid = R.valid := by
  show (inB R.hours 0 16 && (riderOk R.r1 R.hours && riderOk R.r0 R.hours)) = (inB R.hours 0 16 && (riderOk R.r0 R.hours && riderOk R.r1 R.hours))
  cases inB R.hours 0 16 <;> cases riderOk R.r0 R.hours <;> cases riderOk R.r1 R.hours <;> rfl

/-- A step from a state, and what is found behind it. -/
def stepO {T : Type} (R : Rest) (g : Goal T) (n : Nat) (s : St) (x : Int) : Option T := if broken R (s.next x) = 0 then (found R g n (s.next x)).map (g.hour s (s.next x)) else none
theorem found_two {T : Type} (R : Rest) (g : Goal T) (n : Nat) (s : St) : found R g (n + 1) s = ojoin g.join (stepO R g n s 0) (stepO R g n s 1) := by
  rw [found_succ, foundOn, stepsL_eq]
  unfold stepO
  by_cases h0 : broken R (s.next 0) = 0
  · by_cases h1 : broken R (s.next 1) = 0
    · simp only [h0, h1, if_true, List.singleton_append, List.foldl_cons, List.foldl_nil]
      cases found R g n (s.next 0) <;> cases found R g n (s.next 1) <;> rfl
    · simp only [h0, h1, if_true, if_false, List.append_nil, List.foldl_cons, List.foldl_nil]
      cases found R g n (s.next 0) <;> rfl
  · by_cases h1 : broken R (s.next 1) = 0
    · simp only [h0, h1, if_true, if_false, List.nil_append, List.foldl_cons, List.foldl_nil]
      cases found R g n (s.next 1) <;> rfl
    · simp only [h0, h1, if_false, List.nil_append, List.foldl_nil]; rfl

theorem ojoin_comm {T : Type} {j j' : T → T → T} (h : ∀ a b, j' a b = j b a) (a b : Option T) : ojoin j' a b = ojoin j b a := by
  cases a <;> cases b <;> simp [ojoin, h]

theorem found_swap {T : Type} {R : Rest} {g g' : Goal T} (hf : ∀ s : St, g'.fin s.swap = g.fin s) (hh : ∀ (s : St), s.Who → ∀ x, (x = 0 ∨ x = 1) → ∀ y, g'.hour s.swap (s.next x).swap y = g.hour s (s.next x) y) (hj : ∀ a b, g'.join a b = g.join b a) :
    ∀ (n : Nat) (s : St), s.Who → found R.swap g' n s.swap = found R g n s
  | 0, s, _ => by simp only [found, hf]
  | n + 1, s, hs => by
    have key : ∀ x, (x = 0 ∨ x = 1) → stepO R.swap g' n s.swap (1 - x) = stepO R g n s x := by
      intro x hx
      unfold stepO
      rw [broken_next_swap hs hx, next_swap hs hx, found_swap hf hh hj n (s.next x) (next_who hx)]
      have : g'.hour s.swap (s.next x).swap = g.hour s (s.next x) := by funext y; exact hh s hs x hx y
      rw [this]
    have k0 := key 0 (.inl rfl)
    have k1 := key 1 (.inr rfl)
    simp only [Int.sub_zero, Int.sub_self] at k0 k1
    rw [found_two, found_two, k0, k1]
    exact ojoin_comm hj _ _

theorem found_swap_begin {T : Type} {R : Rest} {g g' : Goal T} (hf : ∀ s : St, g'.fin s.swap = g.fin s) (hh : ∀ (s : St), s.Who → ∀ x, (x = 0 ∨ x = 1) → ∀ y, g'.hour s.swap (s.next x).swap y = g.hour s (s.next x) y) (hj : ∀ a b, g'.join a b = g.join b a) :
    found R.swap g' R.swap.hours.toNat St.begin = found R g R.hours.toNat St.begin := found_swap hf hh hj R.hours.toNat St.begin begin_who

theorem swap_changes (R : Rest) : found R.swap changesG R.swap.hours.toNat St.begin = found R changesG R.hours.toNat St.begin := by
  refine found_swap_begin (fun _ => rfl) ?_ (fun a b => by simp only [changesG]; omega)
  intro s hs x hx y
  obtain ⟨rider, run, before, hour, h0, h1⟩ := s
  simp only [St.Who] at hs
  rcases hs with ⟨rfl, rfl⟩ | rfl | rfl <;> rcases hx with rfl | rfl <;> simp [changesG, St.swap, St.next]
theorem swap_even (R : Rest) : found R.swap evenG R.swap.hours.toNat St.begin = found R evenG R.hours.toNat St.begin := by
  refine found_swap_begin (fun s => by simp only [evenG, St.swap]; omega) (fun _ _ _ _ _ => rfl) (fun a b => by simp only [evenG]; omega)
theorem swap_span (R : Rest) : found R.swap (spanG 1) R.swap.hours.toNat St.begin = found R (spanG 0) R.hours.toNat St.begin := by
  refine found_swap_begin (fun s => rfl) (fun _ _ _ _ _ => rfl) (fun a b => by simp only [spanG, Prod.mk.injEq]; omega)

theorem swap_count {R : Rest} (hv : R.valid = true) : ∃ a, countR R = (a, 0) ∧ countR R.swap = (a, 0) := by
  refine ⟨_, countR_eq hv, ?_⟩
  rw [countR_eq (by rw [swap_valid]; exact hv)]
  have := length_swap R R.hours.toNat St.begin begin_who
  rw [begin_swap] at this
  have e : (plansL R.swap).length = (plansL R).length := this
  rw [e]
theorem swap_plan {R : Rest} (hv : R.valid = true) {g : Goal Int} (h : found R.swap g R.swap.hours.toNat St.begin = found R g R.hours.toNat St.begin) :
    ∃ a e p q, planR R g = (a, p, e) ∧ planR R.swap g = (a, q, e) := by
  unfold planR
  rw [swap_valid, h, hv]
  cases found R g R.hours.toNat St.begin with
  | none => exact ⟨_, _, _, _, rfl, rfl⟩
  | some v => exact ⟨_, _, _, _, rfl, rfl⟩
theorem swap_hours {R : Rest} (hv : R.valid = true) : ∃ a b e, hoursR R 0 = ((a, b), e) ∧ hoursR R.swap 1 = ((a, b), e) := by
  unfold hoursR
  rw [swap_valid, swap_span, hv]
  cases found R (spanG 0) R.hours.toNat St.begin with
  | none => exact ⟨_, _, _, rfl, rfl⟩
  | some v => exact ⟨_, _, _, rfl, rfl⟩

theorem mustN_swap {R : Rest} (hne : plansL R ≠ []) {r : Int} : mustN (1 - r) R.swap = mustN r R := by
  have hne2 : plansL R.swap ≠ [] := by
    obtain ⟨p, hp⟩ := List.exists_mem_of_ne_nil _ hne
    have := (plans_swap (R := R.swap)).1 (show p ∈ plansL R.swap.swap from hp)
    exact List.ne_nil_of_mem this
  apply Nat.eq_of_testBit_eq
  intro j
  rw [mustN_bit hne, mustN_bit hne2, Bool.eq_iff_iff, List.all_eq_true, List.all_eq_true]
  constructor
  · intro h p hp
    have h1 := h _ ((plans_swap (R := R.swap)).1 (show p ∈ plansL R.swap.swap from hp))
    simp only [List.getElem?_map, decide_eq_true_eq, Option.map_eq_some_iff] at h1 ⊢
    obtain ⟨y, hy, he⟩ := h1
    rw [hy, show y = r by omega]
  · intro h p hp
    have h1 := h _ (plans_swap.1 hp)
    simp only [List.getElem?_map, decide_eq_true_eq, Option.map_eq_some_iff] at h1 ⊢
    obtain ⟨y, hy, he⟩ := h1
    rw [hy, show y = 1 - r by omega]

theorem swap_must {R : Rest} (hv : R.valid = true) : ∃ s t e, mustR R = (s, t, e) ∧ mustR R.swap = (t, s, e) := by
  have hvs : R.swap.valid = true := by rw [swap_valid]; exact hv
  rw [mustR_eq hv, mustR_eq hvs]
  by_cases hne : plansL R = []
  · have hl := length_swap R R.hours.toNat St.begin begin_who
    rw [begin_swap] at hl
    have e : (plansL R.swap).length = (plansL R).length := hl
    rw [hne] at e
    have hn2 : plansL R.swap = [] := List.eq_nil_of_length_eq_zero (by simpa using e)
    exact ⟨_, _, _, by rw [if_pos hne], by rw [if_pos hn2]⟩
  · have hn2 : plansL R.swap ≠ [] := by
      obtain ⟨p, hp⟩ := List.exists_mem_of_ne_nil _ hne
      exact List.ne_nil_of_mem ((plans_swap (R := R.swap)).1 (show p ∈ plansL R.swap.swap from hp))
    refine ⟨_, _, _, by rw [if_neg hne], ?_⟩
    rw [if_neg hn2]
    have h0 := mustN_swap hne (r := 0)
    have h1 := mustN_swap hne (r := 1)
    simp only [Int.sub_zero, Int.sub_self] at h0 h1
    rw [h0, h1]

theorem checkFrom_swap {R : Rest} : ∀ (p : List Int) (s : St) (h : Int), s.Who → (∀ x, x ∈ p → x = 0 ∨ x = 1) → checkFrom R.swap s.swap h (p.map (1 - ·)) = checkFrom R s h p
  | [], _, _, _, _ => rfl
  | x :: l, s, h, hs, hp => by
    have hx := hp x (by simp)
    simp only [List.map_cons, checkFrom, broken_next_swap hs hx]
    rw [next_swap hs hx, checkFrom_swap l (s.next x) (h + 1) (next_who hx) (fun y hy => hp y (by simp [hy]))]

theorem check_swap {R : Rest} {p : List Int} (hp : ∀ x, x ∈ p → x = 0 ∨ x = 1) : checkOf R.swap (p.map (1 - ·)) = checkOf R p := by
  have bad : ∀ {l : List Int}, (∀ x, x ∈ l → x = 0 ∨ x = 1) → l.any badB = false := fun h => by
    rw [List.any_eq_false]
    intro x hx
    rcases h x hx with rfl | rfl <;> simp [badB, inB]
  have hk : planOk R.swap (p.map (1 - ·)) = planOk R p := by
    unfold planOk
    rw [bad hp, bad (flip_two hp), List.length_map]; rfl
  have hc := checkFrom_swap (R := R) p St.begin 0 begin_who hp
  rw [begin_swap] at hc
  unfold checkOf
  rw [hk, swap_valid, hc]

theorem right_first {R : Rest} (hv : R.valid = true) {p : List Int} (hp : p ∈ plansL R) {m : Int} (h0 : 0 ≤ m) (h1 : m ≤ R.hours) : rightB (firstR R m) (p.take m.toNat) = true := by
  refine (rightB_iff (firstR_valid hv h0 h1)).2 ?_
  rw [plans_first hv h0]
  obtain ⟨h2, h3⟩ := mem_rightL.1 hp
  exact mem_rightL.2 ⟨by simp [h2]; omega, right_prefix p _ _ h3⟩

end Go.Proofs.Ytkgdejhooghknaa
