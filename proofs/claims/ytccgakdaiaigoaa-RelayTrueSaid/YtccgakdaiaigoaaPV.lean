/- The law RelayEnds in plain mathematics. -/
import Derived.Test.YtccgakdaiaigoaaPU
namespace Go.Proofs.Ytccgakdaiaigoaa

/-- What is told of the end that an entry is of. -/
def endOf (x : Rel) (e : Nat) : (Int × Int) × Int := if e / 2 % 2 = 0 then onOf x ((e / 4 : Nat) : Int) else offOf x ((e / 4 : Nat) : Int)
theorem end_spec {x : Rel} (hv : x.valid = true) (hc : x.canB x.every = true) {e : Nat} (he : e < 4 * x.n) : ∃ a b, endOf x e = ((a, b), 0) ∧ IsSpan x (fun s => s (timeOf e)) a b := by
  unfold endOf
  by_cases h : e / 2 % 2 = 0
  · rw [if_pos h]
    have ht : timeOf e = 2 * (e / 4) := by simp only [timeOf]; omega
    rw [ht]
    exact on_spec hv hc (i := e / 4) (by omega)
  · rw [if_neg h]
    have ht : timeOf e = 2 * (e / 4) + 1 := by simp only [timeOf]; omega
    rw [ht]
    exact off_spec hv hc (i := e / 4) (by omega)
theorem end_no {x : Rel} (hv : x.valid = true) (hc : x.canB x.every = false) {e : Nat} (he : e < 4 * x.n) : endOf x e = ((0, 0), 10) := by
  have hp := panics_clash hv (isStint_of (r := x) (i := e / 4) (by omega)) hc
  unfold endOf
  split
  · exact on_no hp
  · exact off_no hp
/-- What is told, if an entry is put exactly. -/
theorem ends_at {r : Rel} (hv : r.valid = true) {e : Nat} (he : e < 4 * r.n) {lo hi : Int} (hs : IsSpan r (fun s => s (timeOf e)) lo hi) {m : Int} (hm : 0 ≤ m ∧ m ≤ 600) :
    (r.put e (m, m)).valid = true ∧ ∃ b : Bool, endOf (r.put e (m, m)) e = (if b then ((m, m), 0) else ((0, 0), 10)) ∧ (lo ≤ m → m ≤ hi → b = true) ∧ (¬ (lo ≤ m ∧ m ≤ hi) → (r.entry e).1 ≤ m → m ≤ (r.entry e).2 → b = false) := by
  have hv2 := Rel.put_valid hv he (v := (m, m)) (by rw [spanOk_iff]; simp only; omega)
  refine ⟨hv2, (r.put e (m, m)).canB (r.put e (m, m)).every, ?_, fun h1 h2 => ?_, fun h1 h2 h3 => ?_⟩
  · cases hc : (r.put e (m, m)).canB (r.put e (m, m)).every with
    | false => exact end_no hv2 hc (by rw [r.put_n]; exact he)
    | true =>
      obtain ⟨a, b, h1, h2⟩ := end_spec hv2 hc (e := e) (by rw [r.put_n]; exact he)
      obtain ⟨s1, h3, h4⟩ := h2.lo
      obtain ⟨s2, h5, h6⟩ := h2.hi
      have h7 := ((put_truth he).1 h3).2.2
      have h8 := ((put_truth he).1 h5).2.2
      rw [h1, if_pos rfl]
      rw [← h4, ← h6, h7, h8]
  · obtain ⟨s1, h3, h4⟩ := hs.lo
    obtain ⟨s2, h5, h6⟩ := hs.hi
    obtain ⟨t, h7, h8⟩ := truth_mid h3 h5 (k := timeOf e) (n := m) (by omega) (by omega)
    exact (put_can hv he hm h7 h8).2
  · rw [← Bool.not_eq_true]
    intro hc
    obtain ⟨s, h4⟩ := can_truth hv2 hc
    obtain ⟨h5, h6⟩ := of_put he h4 ⟨h2, h3⟩
    have := hs.of s h5
    omega
/-- How long a stint can be, by when it begins and ends. -/
theorem ends_len {r : Rel} {i : Nat} (hi : i < r.n) {a1 a2 b1 b2 c1 c2 : Int} (hA : IsSpan r (fun s => s (2 * i)) a1 a2) (hB : IsSpan r (fun s => s (2 * i + 1)) b1 b2) (hC : IsSpan r (fun s => s (2 * i + 1) - s (2 * i)) c1 c2) :
    1 ≤ c1 ∧ c1 ≤ c2 ∧ b1 - a2 ≤ c1 ∧ c2 ≤ b2 - a1 := by
  obtain ⟨s1, h1, h2⟩ := hC.lo
  obtain ⟨s2, h3, h4⟩ := hC.hi
  have a := hA.of s1 h1
  have b := hB.of s1 h1
  have c := hA.of s2 h3
  have d := hB.of s2 h3
  have e := h1.own i hi
  have f := hC.of s1 h1
  omega
theorem span_range {r : Rel} {k : Nat} (hk : k < 2 * r.n) {a b : Int} (h : IsSpan r (fun s => s k) a b) : 0 ≤ a ∧ a ≤ b ∧ b ≤ 600 := by
  obtain ⟨s1, h1, h2⟩ := h.lo
  obtain ⟨s2, h3, h4⟩ := h.hi
  have := h.of s1 h1
  have := h1.range hk
  have := h3.range hk
  omega
/-- A stint that begins as early, or as late, as it can. -/
theorem ends_fix {r : Rel} (hv : r.valid = true) {i : Nat} (hi : i < r.n) {a1 a2 c1 c2 n : Int} (hA : IsSpan r (fun s => s (2 * i)) a1 a2) (hC : IsSpan r (fun s => s (2 * i + 1) - s (2 * i)) c1 c2) (hn : n = a1 ∨ n = a2) :
    (r.put (4 * i) (n, n)).valid = true ∧ ∃ t1 t2, offOf (r.put (4 * i) (n, n)) (i : Int) = ((t1, t2), 0) ∧ lengthOf (r.put (4 * i) (n, n)) (i : Int) = ((t1 - n, t2 - n), 0) ∧ c1 ≤ t1 - n ∧ t2 - n ≤ c2 ∧ -600 ≤ t1 ∧ t1 ≤ t2 ∧ t2 ≤ 600 := by
  have he : 4 * i < 4 * r.n := by omega
  have ht : timeOf (4 * i) = 2 * i := by simp only [timeOf]; omega
  have hex : ∃ s, Truth r r.every s ∧ s (2 * i) = n := by
    rcases hn with rfl | rfl
    · exact hA.lo
    · exact hA.hi
  obtain ⟨s, h1, h2⟩ := hex
  have hr := h1.range (k := 2 * i) (by omega)
  rw [h2] at hr
  obtain ⟨hv2, hc2⟩ := put_can hv he hr h1 (by rw [ht]; exact h2)
  have hen := span_entry he h1
  rw [ht, h2] at hen
  obtain ⟨t1, t2, h3, h4⟩ := off_spec hv2 hc2 (i := i) (by rw [r.put_n]; exact hi)
  obtain ⟨u1, u2, h5, h6⟩ := length_spec hv2 hc2 (i := i) (by rw [r.put_n]; exact hi)
  have hfix : ∀ s, Truth (r.put (4 * i) (n, n)) (r.put (4 * i) (n, n)).every s → s (2 * i) = n ∧ Truth r r.every s := fun s hs => by
    obtain ⟨h7, h8⟩ := of_put he hs hen
    rw [ht] at h8
    exact ⟨h8, h7⟩
  obtain ⟨p1, g1, g2⟩ := h4.lo
  obtain ⟨p2, g3, g4⟩ := h4.hi
  obtain ⟨q1, g5, g6⟩ := h6.lo
  obtain ⟨q2, g7, g8⟩ := h6.hi
  have f1 := hfix p1 g1
  have f2 := hfix p2 g3
  have f3 := hfix q1 g5
  have f4 := hfix q2 g7
  have e1 := h4.of q1 g5
  have e2 := h4.of q2 g7
  have e3 := h6.of p1 g1
  have e4 := h6.of p2 g3
  have d1 := hC.of p1 f1.2
  have d2 := hC.of p2 f2.2
  have r1 := f1.2.range (k := 2 * i + 1) (by omega)
  have r2 := f2.2.range (k := 2 * i + 1) (by omega)
  have e5 := h4.of p1 g1
  refine ⟨hv2, t1, t2, h3, ?_, by omega, by omega, by omega, by omega, by omega⟩
  rw [h5]
  have x1 : u1 = t1 - n := by omega
  have x2 : u2 = t2 - n := by omega
  rw [x1, x2]
end Go.Proofs.Ytccgakdaiaigoaa
