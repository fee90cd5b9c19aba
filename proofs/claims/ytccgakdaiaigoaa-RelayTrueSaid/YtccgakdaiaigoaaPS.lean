/- Relays with other entries: one put exactly, some left free, judges changed, all later. Plain mathematics. -/
import Derived.Test.YtccgakdaiaigoaaPQ
namespace Go.Proofs.Ytccgakdaiaigoaa

theorem spanOk_iff {v : Int × Int} : spanOk v = true ↔ 0 ≤ v.1 ∧ v.1 ≤ v.2 ∧ v.2 ≤ 600 := by
  simp only [spanOk, Bool.and_eq_true, decide_eq_true_eq, and_assoc]
def Stint.put (s : Stint) (q : Nat) (v : Int × Int) : Stint :=
  match q with
  | 0 => { s with on0 := v }
  | 1 => { s with on1 := v }
  | 2 => { s with off0 := v }
  | _ => { s with off1 := v }
theorem Stint.said_put (s : Stint) {q j : Nat} (hq : q < 4) (hj : j < 4) (v : Int × Int) : (s.put q v).said j = if j = q then v else s.said j := by
  rcases (by omega : q = 0 ∨ q = 1 ∨ q = 2 ∨ q = 3) with rfl | rfl | rfl | rfl <;> rcases (by omega : j = 0 ∨ j = 1 ∨ j = 2 ∨ j = 3) with rfl | rfl | rfl | rfl <;> rfl
theorem Stint.rider_put (s : Stint) (q : Nat) (v : Int × Int) : (s.put q v).rider = s.rider := by
  unfold Stint.put; split <;> rfl
/-- One entry is another span. -/
def Rel.put (r : Rel) (e : Nat) (v : Int × Int) : Rel := ⟨r.rest, r.stints.set (e / 4) ((r.st (e / 4)).put (e % 4) v)⟩
theorem Rel.put_n (r : Rel) (e : Nat) (v : Int × Int) : (r.put e v).n = r.n := by simp [Rel.put, Rel.n]
theorem Rel.put_st (r : Rel) {e : Nat} (he : e < 4 * r.n) (v : Int × Int) (i : Nat) : (r.put e v).st i = if i = e / 4 then (r.st i).put (e % 4) v else r.st i := by
  simp only [Rel.st, Rel.put, List.getD_eq_getElem?_getD, List.getElem?_set]
  by_cases h : e / 4 = i
  · subst h
    rw [if_pos rfl, if_pos rfl, if_pos (by have : r.stints.length = r.n := rfl; omega)]; rfl
  · rw [if_neg h, if_neg (fun x => h x.symm)]
theorem Rel.put_entry (r : Rel) {e : Nat} (he : e < 4 * r.n) (v : Int × Int) (k : Nat) : (r.put e v).entry k = if k = e then v else r.entry k := by
  simp only [Rel.entry, r.put_st he]
  by_cases h : k / 4 = e / 4
  · rw [if_pos h, Stint.said_put _ (Nat.mod_lt _ (by decide)) (Nat.mod_lt _ (by decide))]
    by_cases h2 : k % 4 = e % 4
    · rw [if_pos h2, if_pos (by omega)]
    · rw [if_neg h2, if_neg (by omega)]
  · rw [if_neg h, if_neg (by omega)]
theorem Rel.put_sim (r : Rel) {e : Nat} (he : e < 4 * r.n) (v : Int × Int) : Sim r (r.put e v) :=
  ⟨r.put_n e v, rfl, fun i => by rw [r.put_st he]; split <;> simp [Stint.rider_put]⟩
theorem Rel.valid_iff (r : Rel) : r.valid = true ↔ (0 ≤ r.rest ∧ r.rest ≤ 60 ∧ r.n ≤ 5) ∧ (∀ i, i < r.n → 0 ≤ (r.st i).rider ∧ (r.st i).rider ≤ 1) ∧ ∀ k, k < 4 * r.n → spanOk (r.entry k) = true := by
  constructor
  · intro hv
    obtain ⟨h1, h2, h3, h4⟩ := r.ok_of hv
    refine ⟨⟨h1, h2, h3⟩, fun i hi => ?_, fun k hk => ?_⟩
    · have := h4 i hi
      simp only [Stint.ok, Bool.and_eq_true, decide_eq_true_eq] at this
      exact this.1.1
    · have := r.entry_ok hv hk
      simp only [spanOk, Bool.and_eq_true, decide_eq_true_eq]
      omega
  · rintro ⟨⟨h1, h2, h3⟩, h4, h5⟩
    simp only [Rel.valid, Bool.and_eq_true, decide_eq_true_eq, List.all_eq_true]
    refine ⟨⟨⟨h1, h2⟩, h3⟩, fun x hx => ?_⟩
    obtain ⟨i, hi, rfl⟩ := List.getElem_of_mem hx
    have e : r.st i = r.stints[i] := by rw [Rel.st, List.getD_eq_getElem?_getD, List.getElem?_eq_getElem hi]; rfl
    rw [← e]
    have q : ∀ j, j < 4 → spanOk ((r.st i).said j) = true := fun j hj => by
      have := h5 (4 * i + j) (by have : r.stints.length = r.n := rfl; omega)
      rw [Rel.entry, show (4 * i + j) / 4 = i by omega, show (4 * i + j) % 4 = j by omega] at this
      exact this
    have a := h4 i hi
    simp only [Stint.ok, Bool.and_eq_true, decide_eq_true_eq]
    exact ⟨⟨a, q 0 (by decide), q 2 (by decide)⟩, q 1 (by decide), q 3 (by decide)⟩
theorem Sim.valid {r x : Rel} (h : Sim r x) (hv : r.valid = true) (he : ∀ k, k < 4 * r.n → spanOk (x.entry k) = true) : x.valid = true := by
  obtain ⟨⟨h1, h2, h3⟩, h4, h5⟩ := r.valid_iff.1 hv
  exact x.valid_iff.2 ⟨⟨h.rest ▸ h1, h.rest ▸ h2, h.n ▸ h3⟩, fun i hi => by rw [h.rider]; exact h4 i (h.n ▸ hi), fun k hk => he k (by rw [h.n] at hk; exact hk)⟩
theorem Sim.every {r x : Rel} (h : Sim r x) : x.every = r.every := by rw [Rel.every, Rel.every, h.n]
theorem Rel.put_valid {r : Rel} (hv : r.valid = true) {e : Nat} (he : e < 4 * r.n) {v : Int × Int} (hs : spanOk v = true) : (r.put e v).valid = true :=
  (r.put_sim he v).valid hv fun k hk => by
    rw [r.put_entry he]
    split
    · exact hs
    · exact (r.valid_iff.1 hv).2.2 k hk
theorem said_every {r : Rel} {s : Nat → Int} : Said r r.every s ↔ ∀ k, k < 4 * r.n → (r.entry k).1 ≤ s (timeOf k) ∧ s (timeOf k) ≤ (r.entry k).2 :=
  ⟨fun h k hk => h k hk (by rw [Rel.every_bit]; exact decide_eq_true hk), fun h k hk _ => h k hk⟩
/-- A truth with one entry put exactly. -/
theorem put_truth {r : Rel} {e : Nat} (he : e < 4 * r.n) {m : Int} {s : Nat → Int} : Truth (r.put e (m, m)) (r.put e (m, m)).every s ↔ Base r s ∧ (∀ k, k < 4 * r.n → k ≠ e → (r.entry k).1 ≤ s (timeOf k) ∧ s (timeOf k) ≤ (r.entry k).2) ∧ s (timeOf e) = m := by
  have hs := r.put_sim he (m, m)
  rw [truth_base, said_every, r.put_n]
  constructor
  · rintro ⟨h1, h2⟩
    refine ⟨hs.symm.base h1, fun k hk hne => ?_, ?_⟩
    · have := h2 k hk
      rwa [r.put_entry he, if_neg hne] at this
    · have := h2 e he
      rw [r.put_entry he, if_pos rfl] at this
      simp only at this
      omega
  · rintro ⟨h1, h2, h3⟩
    refine ⟨hs.base h1, fun k hk => ?_⟩
    rw [r.put_entry he]
    by_cases h : k = e
    · rw [if_pos h, h]; simp only; omega
    · rw [if_neg h]; exact h2 k hk h
theorem put_of {r : Rel} {e : Nat} (he : e < 4 * r.n) {m : Int} {s : Nat → Int} (h : Truth r r.every s) (hm : s (timeOf e) = m) : Truth (r.put e (m, m)) (r.put e (m, m)).every s := by
  obtain ⟨h1, h2⟩ := truth_base.1 h
  exact (put_truth he).2 ⟨h1, fun k hk _ => said_every.1 h2 k hk, hm⟩
theorem of_put {r : Rel} {e : Nat} (he : e < 4 * r.n) {m : Int} {s : Nat → Int} (h : Truth (r.put e (m, m)) (r.put e (m, m)).every s) (hm : (r.entry e).1 ≤ m ∧ m ≤ (r.entry e).2) : Truth r r.every s ∧ s (timeOf e) = m := by
  obtain ⟨h1, h2, h3⟩ := (put_truth he).1 h
  refine ⟨truth_base.2 ⟨h1, said_every.2 fun k hk => ?_⟩, h3⟩
  by_cases hk2 : k = e
  · rw [hk2, h3]; exact hm
  · exact h2 k hk hk2

/-- The first so many entries of a set are free. -/
def Rel.wideTo (r : Rel) (set : Nat) : Nat → Rel
  | 0 => r
  | k + 1 => if set.testBit k then (r.wideTo set k).put k (0, 600) else r.wideTo set k
def Rel.wide (r : Rel) (set : Nat) : Rel := r.wideTo set (4 * r.n)
theorem wideTo_spec (r : Rel) (set : Nat) : ∀ k, k ≤ 4 * r.n → Sim r (r.wideTo set k) ∧ ∀ j, (r.wideTo set k).entry j = if j < k ∧ set.testBit j = true then (0, 600) else r.entry j
  | 0, _ => ⟨Sim.refl r, fun j => by rw [if_neg (by omega)]; rfl⟩
  | k + 1, h => by
    obtain ⟨h1, h2⟩ := wideTo_spec r set k (by omega)
    simp only [Rel.wideTo]
    cases hb : set.testBit k with
    | false =>
      simp only [Bool.false_eq_true, if_false]
      refine ⟨h1, fun j => ?_⟩
      rw [h2]
      by_cases e : j = k
      · subst e; simp [hb]
      · by_cases hj : j < k
        · simp [hj, show j < k + 1 by omega]
        · simp [hj, show ¬ j < k + 1 by omega]
    | true =>
      simp only [if_true]
      have hk : k < 4 * (r.wideTo set k).n := by rw [h1.n]; omega
      refine ⟨h1.trans (Rel.put_sim _ hk _), fun j => ?_⟩
      rw [Rel.put_entry _ hk, h2]
      by_cases e : j = k
      · subst e; simp [hb]
      · by_cases hj : j < k
        · simp [e, hj, show j < k + 1 by omega]
        · simp [e, hj, show ¬ j < k + 1 by omega]
theorem Rel.wide_sim (r : Rel) (set : Nat) : Sim r (r.wide set) := (wideTo_spec r set _ (Nat.le_refl _)).1
theorem Rel.wide_entry (r : Rel) (set : Nat) {j : Nat} (hj : j < 4 * r.n) : (r.wide set).entry j = if set.testBit j = true then (0, 600) else r.entry j := by
  rw [Rel.wide, (wideTo_spec r set _ (Nat.le_refl _)).2]
  simp [hj]
theorem Rel.wide_valid {r : Rel} (hv : r.valid = true) (set : Nat) : (r.wide set).valid = true :=
  (r.wide_sim set).valid hv fun k hk => by
    rw [r.wide_entry set hk]
    split
    · rfl
    · exact (r.valid_iff.1 hv).2.2 k hk
theorem wide_truth {r : Rel} {set S : Nat} (hS : ∀ k, k < 4 * r.n → S.testBit k = !set.testBit k) {s : Nat → Int} : Truth (r.wide set) (r.wide set).every s ↔ Truth r S s := by
  rw [truth_base, truth_base, said_every, (r.wide_sim set).n]
  constructor
  · rintro ⟨h1, h2⟩
    refine ⟨(r.wide_sim set).symm.base h1, fun k hk hb => ?_⟩
    have := h2 k hk
    rw [r.wide_entry set hk] at this
    rw [hS k hk, Bool.not_eq_true'] at hb
    rwa [hb, if_neg (by simp)] at this
  · rintro ⟨h1, h2⟩
    refine ⟨(r.wide_sim set).base h1, fun k hk => ?_⟩
    rw [r.wide_entry set hk]
    cases hb : set.testBit k with
    | true =>
      rw [if_pos rfl]
      exact h1.range (by simp only [timeOf]; omega)
    | false =>
      rw [if_neg (by simp)]
      exact h2 k hk (by rw [hS k hk, hb]; rfl)
theorem wide_can {r : Rel} (hv : r.valid = true) {set S : Nat} (hS : ∀ k, k < 4 * r.n → S.testBit k = !set.testBit k) : (r.wide set).canB (r.wide set).every = r.canB S := by
  rw [Bool.eq_iff_iff, Rel.canB_iff (r.wide_valid hv set), Rel.canB_iff hv]
  exact exists_congr fun s => wide_truth hS

/-- Both judges change places. -/
def Stint.swap (s : Stint) : Stint := ⟨s.rider, s.on1, s.on0, s.off1, s.off0⟩
def Rel.swap (r : Rel) : Rel := ⟨r.rest, r.stints.map Stint.swap⟩
/-- The other judge's entry. -/
def other (k : Nat) : Nat := if k % 2 = 0 then k + 1 else k - 1
theorem other_lt {k n : Nat} (h : k < 4 * n) : other k < 4 * n := by unfold other; split <;> omega
theorem other_other (k : Nat) : other (other k) = k := by unfold other; split <;> split <;> omega
theorem other_time (k : Nat) : timeOf (other k) = timeOf k := by unfold other; simp only [timeOf]; split <;> omega
theorem Rel.swap_n (r : Rel) : r.swap.n = r.n := by simp [Rel.swap, Rel.n]
theorem Rel.swap_st (r : Rel) {i : Nat} (hi : i < r.n) : r.swap.st i = (r.st i).swap := by
  simp only [Rel.st, Rel.swap, List.getD_eq_getElem?_getD, List.getElem?_map, List.getElem?_eq_getElem hi]; rfl
theorem Rel.swap_rider (r : Rel) (i : Nat) : (r.swap.st i).rider = (r.st i).rider := by
  by_cases hi : i < r.n
  · rw [r.swap_st hi]; rfl
  · have h1 : r.stints[i]? = none := List.getElem?_eq_none (by have : r.stints.length = r.n := rfl; omega)
    simp only [Rel.st, Rel.swap, List.getD_eq_getElem?_getD, List.getElem?_map, h1]; rfl
theorem Rel.swap_sim (r : Rel) : Sim r r.swap := ⟨r.swap_n, rfl, r.swap_rider⟩
theorem Stint.said_swap (s : Stint) {q : Nat} (hq : q < 4) : s.swap.said q = s.said (other q) := by
  rcases (by omega : q = 0 ∨ q = 1 ∨ q = 2 ∨ q = 3) with rfl | rfl | rfl | rfl <;> rfl
theorem Rel.swap_entry (r : Rel) {k : Nat} (hk : k < 4 * r.n) : r.swap.entry k = r.entry (other k) := by
  rw [Rel.entry, r.swap_st (by omega), Stint.said_swap _ (Nat.mod_lt _ (by decide)), Rel.entry]
  have h1 : other k / 4 = k / 4 := by unfold other; split <;> omega
  have h2 : other k % 4 = other (k % 4) := by unfold other; split <;> split <;> omega
  rw [h1, h2]
theorem Rel.swap_valid {r : Rel} (hv : r.valid = true) : r.swap.valid = true :=
  r.swap_sim.valid hv fun k hk => by rw [r.swap_entry hk]; exact (r.valid_iff.1 hv).2.2 _ (other_lt hk)
theorem swap_said {r : Rel} {A B : Nat} (h : ∀ k, k < 4 * r.n → A.testBit k = B.testBit (other k)) {s : Nat → Int} : Said r.swap A s ↔ Said r B s := by
  constructor
  · intro hs k hk hb
    have := hs (other k) (by rw [r.swap_n]; exact other_lt hk) (by rw [h _ (other_lt hk), other_other]; exact hb)
    rwa [r.swap_entry (other_lt hk), other_other, other_time] at this
  · intro hs k hk hb
    rw [r.swap_n] at hk
    have := hs (other k) (other_lt hk) (by rw [← h k hk]; exact hb)
    rwa [other_time, ← r.swap_entry hk] at this
theorem swap_truth {r : Rel} {A B : Nat} (h : ∀ k, k < 4 * r.n → A.testBit k = B.testBit (other k)) {s : Nat → Int} : Truth r.swap A s ↔ Truth r B s := by
  rw [truth_base, truth_base, swap_said h]
  exact and_congr_left fun _ => ⟨fun hb => r.swap_sim.symm.base hb, fun hb => r.swap_sim.base hb⟩
theorem swap_every {r : Rel} {s : Nat → Int} : Truth r.swap r.swap.every s ↔ Truth r r.every s :=
  swap_truth fun k hk => by rw [r.swap_sim.every, Rel.every_bit, Rel.every_bit, decide_eq_true hk, decide_eq_true (other_lt hk)]

/-- All entries are so many minutes later. -/
def laterS (d : Int) (v : Int × Int) : Int × Int := (v.1 + d, v.2 + d)
def Stint.later (d : Int) (s : Stint) : Stint := ⟨s.rider, laterS d s.on0, laterS d s.on1, laterS d s.off0, laterS d s.off1⟩
def Rel.later (r : Rel) (d : Int) : Rel := ⟨r.rest, r.stints.map (Stint.later d)⟩
theorem Rel.later_n (r : Rel) (d : Int) : (r.later d).n = r.n := by simp [Rel.later, Rel.n]
theorem Rel.later_st (r : Rel) (d : Int) {i : Nat} (hi : i < r.n) : (r.later d).st i = (r.st i).later d := by
  simp only [Rel.st, Rel.later, List.getD_eq_getElem?_getD, List.getElem?_map, List.getElem?_eq_getElem hi]; rfl
theorem Rel.later_rider (r : Rel) (d : Int) (i : Nat) : ((r.later d).st i).rider = (r.st i).rider := by
  by_cases hi : i < r.n
  · rw [r.later_st d hi]; rfl
  · have h1 : r.stints[i]? = none := List.getElem?_eq_none (by have : r.stints.length = r.n := rfl; omega)
    simp only [Rel.st, Rel.later, List.getD_eq_getElem?_getD, List.getElem?_map, h1]; rfl
theorem Rel.later_sim (r : Rel) (d : Int) : Sim r (r.later d) := ⟨r.later_n d, rfl, r.later_rider d⟩
theorem Stint.said_later (s : Stint) (d : Int) {q : Nat} (hq : q < 4) : (s.later d).said q = laterS d (s.said q) := by
  rcases (by omega : q = 0 ∨ q = 1 ∨ q = 2 ∨ q = 3) with rfl | rfl | rfl | rfl <;> rfl
theorem Rel.later_entry (r : Rel) (d : Int) {k : Nat} (hk : k < 4 * r.n) : (r.later d).entry k = laterS d (r.entry k) := by
  rw [Rel.entry, r.later_st d (by omega), Stint.said_later _ d (Nat.mod_lt _ (by decide)), Rel.entry]
/-- All entries end in time, so many minutes later. -/
def Rel.fits (r : Rel) (d : Int) : Prop := ∀ k, k < 4 * r.n → (r.entry k).2 + d ≤ 600
theorem Rel.later_valid {r : Rel} (hv : r.valid = true) {d : Int} (hd : 0 ≤ d) (hf : r.fits d) : (r.later d).valid = true :=
  (r.later_sim d).valid hv fun k hk => by
    have h1 := r.entry_ok hv hk
    have h2 := hf k hk
    rw [r.later_entry d hk, spanOk_iff]
    show 0 ≤ (r.entry k).1 + d ∧ (r.entry k).1 + d ≤ (r.entry k).2 + d ∧ (r.entry k).2 + d ≤ 600
    omega
theorem entry_of_time {r : Rel} {k : Nat} (hk : k < 2 * r.n) : ∃ e, e < 4 * r.n ∧ timeOf e = k := ⟨2 * k, by omega, by simp only [timeOf]; omega⟩
theorem later_truth {r : Rel} (hv : r.valid = true) {d : Int} (hd : 0 ≤ d) (hf : r.fits d) {s : Nat → Int} : Truth (r.later d) (r.later d).every (fun k => s k + d) ↔ Truth r r.every s := by
  rw [truth_base, truth_base, said_every, said_every, r.later_n]
  have hsim := r.later_sim d
  have hsaid : (∀ k, k < 4 * r.n → ((r.later d).entry k).1 ≤ s (timeOf k) + d ∧ s (timeOf k) + d ≤ ((r.later d).entry k).2) ↔ ∀ k, k < 4 * r.n → (r.entry k).1 ≤ s (timeOf k) ∧ s (timeOf k) ≤ (r.entry k).2 := by
    refine forall_congr' fun k => forall_congr' fun hk => ?_
    rw [r.later_entry d hk]
    simp only [laterS]
    constructor <;> intro h <;> omega
  rw [hsaid]
  refine and_congr_left fun hs => ?_
  have hr : ∀ k, k < 2 * r.n → 0 ≤ s k ∧ s k + d ≤ 600 := fun k hk => by
    obtain ⟨e, he, rfl⟩ := entry_of_time hk
    have a := hs e he
    have b := hf e he
    have c := r.entry_ok hv he
    omega
  constructor
  · intro h
    refine ⟨fun i hi => ?_, fun i hi h0 => ?_, fun i k hi hk => ?_⟩
    · have a := h.own i (by rw [r.later_n]; exact hi)
      have b := hr (2 * i) (by omega)
      have c := hr (2 * i + 1) (by omega)
      omega
    · have a := h.next i (by rw [r.later_n]; exact hi) h0
      omega
    · have a := h.rest i k (by rw [r.later_n]; exact hi) (by rw [hsim.rider, hsim.prev]; exact hk)
      have b : (r.later d).rest = r.rest := rfl
      rw [b] at a; omega
  · intro h
    refine ⟨fun i hi => ?_, fun i hi h0 => ?_, fun i k hi hk => ?_⟩
    · rw [r.later_n] at hi
      have a := h.own i hi
      have b := hr (2 * i) (by omega)
      have c := hr (2 * i + 1) (by omega)
      omega
    · rw [r.later_n] at hi
      have a := h.next i hi h0
      omega
    · rw [r.later_n] at hi
      rw [hsim.rider, hsim.prev] at hk
      have a := h.rest i k hi hk
      have b : (r.later d).rest = r.rest := rfl
      rw [b]; omega
end Go.Proofs.Ytccgakdaiaigoaa
