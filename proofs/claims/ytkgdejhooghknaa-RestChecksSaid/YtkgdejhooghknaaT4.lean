/- The plain law of 'RestEven'. -/
import Derived.Test.YtkgdejhooghknaaT3
namespace Go.Proofs.Ytkgdejhooghknaa
open Go.RowKit Go.Lap

theorem foldl_span : ∀ (l : List (List Int)) (f : List Int → Int) (a b : Int), ∃ lo hi, (l.map (fun p => (f p, f p))).foldl (fun (a b : Int × Int) => (min a.1 b.1, max a.2 b.2)) (a, b) = (lo, hi) ∧
    (lo = a ∨ ∃ p, p ∈ l ∧ f p = lo) ∧ (hi = b ∨ ∃ p, p ∈ l ∧ f p = hi) ∧ lo ≤ a ∧ b ≤ hi ∧ ∀ p, p ∈ l → lo ≤ f p ∧ f p ≤ hi
  | [], f, a, b => ⟨a, b, rfl, .inl rfl, .inl rfl, by omega, by omega, by simp⟩
  | x :: l, f, a, b => by
    obtain ⟨lo, hi, h1, h2, h3, h4, h5, h6⟩ := foldl_span l f (min a (f x)) (max b (f x))
    refine ⟨lo, hi, h1, ?_, ?_, by omega, by omega, ?_⟩
    · rcases h2 with h | ⟨p, hp, hf⟩
      · rcases Int.le_total a (f x) with k | k
        · exact .inl (by omega)
        · exact .inr ⟨x, by simp, by omega⟩
      · exact .inr ⟨p, by simp [hp], hf⟩
    · rcases h3 with h | ⟨p, hp, hf⟩
      · rcases Int.le_total b (f x) with k | k
        · exact .inr ⟨x, by simp, by omega⟩
        · exact .inl (by omega)
      · exact .inr ⟨p, by simp [hp], hf⟩
    · intro p hp
      rcases List.mem_cons.1 hp with rfl | hp
      · omega
      · exact h6 p hp

/-- How many hours a rider can ride: the least and the greatest number of all right plans. -/
theorem span_told {R : Rest} (hv : R.valid = true) {r : Int} (hr : r = 0 ∨ r = 1) :
    (plansL R = [] → hoursR R r = ((0, 0), 4)) ∧ (plansL R ≠ [] → ∃ lo hi, hoursR R r = ((lo, hi), 0) ∧ (∃ p, p ∈ plansL R ∧ rid r p = lo) ∧ (∃ p, p ∈ plansL R ∧ rid r p = hi) ∧ ∀ p, p ∈ plansL R → lo ≤ rid r p ∧ rid r p ≤ hi) := by
  have hb0 := St.begin_ok
  have hb1 : St.begin.hour = 0 := rfl
  have h16 := valid_16 hv
  have hin : inB r 0 1 = true := by rcases hr with rfl | rfl <;> rfl
  have hall := found_all (span_alg r) R R.hours.toNat St.begin hb0 (by omega)
  constructor
  · intro hne
    have : found R (spanG r) R.hours.toNat St.begin = none := (found_none (span_alg r) hb0 (by omega)).2 hne
    simp [hoursR, hv, hin, this]
  · intro hne
    have hm : (plansL R).map (val (spanG r) St.begin) = (plansL R).map (fun p => (rid r p, rid r p)) :=
      List.map_congr_left (fun p hp => val_span hr (plan_two hp))
    change found R (spanG r) R.hours.toNat St.begin = joinAll (spanG r).join ((plansL R).map (val (spanG r) St.begin)) at hall
    rw [hm] at hall
    cases hl : plansL R with
    | nil => exact (hne hl).elim
    | cons x l =>
      rw [hl] at hall
      obtain ⟨lo, hi, h1, h2, h3, h4, h5, h6⟩ := foldl_span l (rid r) (rid r x) (rid r x)
      have hf : found R (spanG r) R.hours.toNat St.begin = some (lo, hi) := by
        rw [hall]
        simp only [List.map_cons, joinAll]
        exact congrArg some h1
      refine ⟨lo, hi, by simp [hoursR, hv, hin, hf], ?_, ?_, ?_⟩
      · rcases h2 with h | ⟨p, hp, he⟩
        · exact ⟨x, by simp, h.symm⟩
        · exact ⟨p, by simp [hp], he⟩
      · rcases h3 with h | ⟨p, hp, he⟩
        · exact ⟨x, by simp, h.symm⟩
        · exact ⟨p, by simp [hp], he⟩
      · intro p hp
        rcases List.mem_cons.1 hp with rfl | hp
        · omega
        · exact h6 p hp

theorem rid_total {R : Rest} {r : Int} (hr : r = 0 ∨ r = 1) : ∀ (p : List Int) (s : St), goodB R s p = true → s.of r ≤ (R.rider r).total → s.of r + rid r p ≤ (R.rider r).total
  | [], s, _, h => by simpa [rid] using h
  | x :: l, s, hg, h => by
    simp only [goodB, Bool.and_eq_true] at hg
    obtain ⟨hx, hb, hg⟩ := hg
    simp only [inB, Bool.and_eq_true, decide_eq_true_eq] at hx
    have hx2 : x = 0 ∨ x = 1 := by omega
    rw [broken_zero] at hb
    simp only [Bool.and_eq_true, Bool.not_eq_true', decide_eq_false_iff_not, Int.not_lt] at hb
    have ht := hb.2.1
    by_cases e : x = r
    · subst e
      have h1 : (s.next x).of x = s.of x + 1 := by rcases hx2 with rfl | rfl <;> simp [St.next, St.of]
      have h2 : (s.next x).own = s.of x + 1 := by rcases hx2 with rfl | rfl <;> simp [St.next, St.own, St.of]
      have h3 : (R.rider (s.next x).rider) = R.rider x := rfl
      rw [h2, h3] at ht
      have := rid_total hr l (s.next x) hg (by rw [h1]; exact ht)
      rw [h1] at this
      simp only [rid, if_true]; omega
    · have h1 : (s.next x).of r = s.of r := by
        rcases hx2 with rfl | rfl <;> rcases hr with rfl | rfl <;> simp_all [St.next, St.of]
      have := rid_total hr l (s.next x) hg (by rw [h1]; exact h)
      rw [h1] at this
      simp only [rid, if_neg e]; omega

/-- What the law's numbers are, if there is a right plan. -/
structure EvenFacts (R : Rest) (d : Int) (P : List Int) (al ah bl bh : Int) : Prop where
  a0 : 0 ≤ al
  a1 : al ≤ ah
  a2 : ah ≤ R.hours
  s0 : al + bh = R.hours
  s1 : ah + bl = R.hours
  t0 : ah ≤ R.r0.total
  t1 : bh ≤ R.r1.total
  n0 : al ≤ rid 0 P
  n1 : rid 0 P ≤ ah
  d0 : 0 ≤ d
  dh : d ≤ R.hours
  lo : 2 * al - R.hours ≤ d
  hi : R.hours - 2 * ah ≤ d
  even : (d + R.hours) % 2 = 0
  dif : dif P = d
  mem : P ∈ plansL R
  own : ∀ q, q ∈ plansL R → d ≤ Go.Proofs.Ytkgdejhooghknaa.dif q ∧ al ≤ rid 0 q ∧ rid 0 q ≤ ah
  fst : ∀ q, q ∈ plansL R → Go.Proofs.Ytkgdejhooghknaa.dif q = d → q = P ∨ Before P q

theorem even_facts {R : Rest} (hv : R.valid = true) (hne : plansL R ≠ []) :
    ∃ d P al ah bl bh k p, planR R evenG = (d, P, 0) ∧ hoursR R 0 = ((al, ah), 0) ∧ hoursR R 1 = ((bl, bh), 0) ∧ planR R changesG = (k, p, 0) ∧ EvenFacts R d P al ah bl bh := by
  obtain ⟨al, ah, ha, ⟨pa, pa1, pa2⟩, ⟨qa, qa1, qa2⟩, ba⟩ := (span_told hv (.inl rfl)).2 hne
  obtain ⟨bl, bh, hb, ⟨pb, pb1, pb2⟩, ⟨qb, qb1, qb2⟩, bb⟩ := (span_told hv (.inr rfl)).2 hne
  rcases told_plan hv even_low with ⟨h, _⟩ | ⟨_, d, P, hf, hp, hpv, hmin, hfst⟩
  · exact (hne h).elim
  rcases told_plan hv changes_low with ⟨h, _⟩ | ⟨_, k, p, hk, _⟩
  · exact (hne h).elim
  have hh := Rest.valid_hours hv
  have ho := Rest.valid_ok hv
  have two : ∀ q, q ∈ plansL R → rid 0 q + rid 1 q = R.hours := fun q hq => by
    rw [rid_two (plan_two hq), (mem_plans hq).1]; omega
  have tot : ∀ q, q ∈ plansL R → rid 0 q ≤ R.r0.total ∧ rid 1 q ≤ R.r1.total := fun q hq => by
    have hg := (mem_rightL.1 hq).2
    have h0 := rid_total (.inl rfl) q St.begin hg ho.1.total0
    have h1 := rid_total (.inr rfl) q St.begin hg ho.2.total0
    have e0 : St.begin.of 0 = 0 := rfl
    have e1 : St.begin.of 1 = 0 := rfl
    have e2 : R.rider 0 = R.r0 := rfl
    have e3 : R.rider 1 = R.r1 := rfl
    rw [e0, e2] at h0
    rw [e1, e3] at h1
    omega
  have vd : ∀ q, q ∈ plansL R → val evenG St.begin q = dif q := fun q hq => val_even (plan_two hq)
  rw [vd P hp] at hpv
  have dv : ∀ q, q ∈ plansL R → dif q = max (2 * rid 0 q - R.hours) (R.hours - 2 * rid 0 q) := fun q hq => by
    have := two q hq
    unfold dif; omega
  have h1 := ba P hp
  have h2 := two P hp
  have h3 := dv P hp
  have h4 := two pa pa1
  have h5 := bb pa pa1
  have h6 := two qa qa1
  have h7 := bb qa qa1
  have h8 := two pb pb1
  have h9 := ba pb pb1
  have h10 := two qb qb1
  have h11 := ba qb qb1
  have t1 := tot qa qa1
  have t2 := tot qb qb1
  have g1 := rid_bound 0 pa
  have g2 := rid_bound 1 qa
  refine ⟨d, P, al, ah, bl, bh, k, p, hf, ha, hb, hk, ?_⟩
  refine ⟨by omega, by omega, by omega, by omega, by omega, by omega, by omega, by omega, by omega, by omega, by omega, by omega, by omega, by omega, hpv, hp, fun q hq => ?_, fun q hq he => hfst q hq (by rw [vd q hq]; exact he)⟩
  have := hmin q hq
  rw [vd q hq] at this
  exact ⟨this, (ba q hq).1, (ba q hq).2⟩

end Go.Proofs.Ytkgdejhooghknaa
