/- The laws RelayMinutes and RelayEnds in plain mathematics. -/
import Derived.Test.YtccgakdaiaigoaaPS
namespace Go.Proofs.Ytccgakdaiaigoaa

theorem can_truth {r : Rel} (hv : r.valid = true) (hc : r.canB r.every = true) : ∃ s, Truth r r.every s := (Rel.canB_iff hv).1 hc
theorem nobody_free {r : Rel} (hv : r.valid = true) (hc : r.canB r.every = true) {m : Int} (h : NobodyT r m) : FreeT r m := by
  obtain ⟨s, hs⟩ := can_truth hv hc
  exact ⟨s, hs, h s hs⟩
/-- Of a truth with an entry put exactly there is one more: what that entry's time is told. -/
theorem put_can {r : Rel} (hv : r.valid = true) {e : Nat} (he : e < 4 * r.n) {m : Int} (hm : 0 ≤ m ∧ m ≤ 600) {s : Nat → Int} (hs : Truth r r.every s) (h : s (timeOf e) = m) : (r.put e (m, m)).valid = true ∧ (r.put e (m, m)).canB (r.put e (m, m)).every = true := by
  have hv2 := Rel.put_valid hv he (v := (m, m)) (by rw [spanOk_iff]; simp only; omega)
  exact ⟨hv2, (Rel.canB_iff hv2).2 ⟨s, put_of he hs h⟩⟩
theorem span_entry {r : Rel} {e : Nat} (he : e < 4 * r.n) {s : Nat → Int} (hs : Truth r r.every s) : (r.entry e).1 ≤ s (timeOf e) ∧ s (timeOf e) ≤ (r.entry e).2 :=
  hs.said e he (by rw [Rel.every_bit]; exact decide_eq_true he)
/-- The end of a stint that begins as early as it can, if surely nobody is there in a minute behind. -/
theorem early_end {r : Rel} (hv : r.valid = true) {i : Nat} (hi : i < r.n) {n lo hi' : Int} (hN : NobodyT r n) (hs : IsSpan r (fun s => s (2 * i)) lo hi') (hlo : lo ≤ n) : (r.put (4 * i) (lo, lo)).valid = true ∧ ∃ a b, offOf (r.put (4 * i) (lo, lo)) i = ((a, b), 0) ∧ b ≤ n := by
  obtain ⟨s, h1, h2⟩ := hs.lo
  have he : 4 * i < 4 * r.n := by omega
  have ht : timeOf (4 * i) = 2 * i := by simp only [timeOf]; omega
  have hr : 0 ≤ lo ∧ lo ≤ 600 := by
    have := h1.range (k := 2 * i) (by omega)
    omega
  obtain ⟨hv2, hc2⟩ := put_can hv he hr h1 (by rw [ht]; exact h2)
  refine ⟨hv2, ?_⟩
  obtain ⟨a, b, h3, h4⟩ := off_spec hv2 hc2 (i := i) (by rw [r.put_n]; exact hi)
  refine ⟨a, b, h3, ?_⟩
  obtain ⟨s2, h5, h6⟩ := h4.hi
  have he2 := span_entry he h1
  rw [ht] at he2
  obtain ⟨h7, h8⟩ := of_put he h5 (by omega)
  rw [ht] at h8
  have := hN s2 h7 i hi

  omega
theorem range_mk {a b : Int} (h0 : 0 ≤ a) (h1 : a ≤ b) (h2 : b ≤ 600) : rangeB a b = true := by
  simp only [rangeB, inB, Bool.and_eq_true, decide_eq_true_eq]; omega
theorem range_not {a b : Int} (h : ¬ (0 ≤ a ∧ a ≤ b ∧ b ≤ 600)) : rangeB a b = false := by
  rw [← Bool.not_eq_true]
  intro h2
  simp only [rangeB, inB, Bool.and_eq_true, decide_eq_true_eq] at h2
  exact h ⟨by omega, by omega, by omega⟩
theorem gap_bad {r : Rel} (hv : r.valid = true) {a b : Int} (h : ¬ (0 ≤ a ∧ a ≤ b ∧ b ≤ 600)) : minuteGapOf r a b = (0, 2) := minute_panics (panics_range hv (range_not h))
theorem gap_none {r : Rel} (hv : r.valid = true) (hc : r.canB r.every = true) {a b : Int} (hr : 0 ≤ a ∧ a ≤ b ∧ b ≤ 600) (h : ∀ m, a ≤ m → m ≤ b → ¬ FreeT r m) : minuteGapOf r a b = (0, 4) := by
  rcases gap_spec hv hc (range_mk hr.1 hr.2.1 hr.2.2) with ⟨_, h2, h3, h4, _⟩ | ⟨h1, _⟩
  · exact absurd h4 (h _ h2 h3)
  · exact h1
theorem nobody_none {r : Rel} (hv : r.valid = true) (hc : r.canB r.every = true) {a b : Int} (hr : 0 ≤ a ∧ a ≤ b ∧ b ≤ 600) (h : ∀ m, a ≤ m → m ≤ b → ¬ NobodyT r m) : nobodyOf r a b = (0, 4) := by
  rcases nobody_spec hv hc (range_mk hr.1 hr.2.1 hr.2.2) with ⟨_, h2, h3, h4, _⟩ | ⟨h1, _⟩
  · exact absurd h4 (h _ h2 h3)
  · exact h1
/-- What is told of some minutes, both ways. -/
theorem minutes_law {r : Rel} (hv : r.valid = true) (hc : r.canB r.every = true) {a b : Int} (hr : 0 ≤ a ∧ a ≤ b ∧ b ≤ 600) :
    (∃ n g, nobodyOf r a b = (n, 0) ∧ minuteGapOf r a b = (g, 0) ∧ a ≤ n ∧ n ≤ b ∧ a ≤ g ∧ g ≤ n ∧ NobodyT r n ∧ (∀ m, a ≤ m → m < n → ¬ NobodyT r m) ∧ (∀ m, a ≤ m → m < g → ¬ FreeT r m)) ∨
    (∃ g, nobodyOf r a b = (0, 4) ∧ minuteGapOf r a b = (g, 0) ∧ a ≤ g ∧ g ≤ b ∧ (∀ m, a ≤ m → m ≤ b → ¬ NobodyT r m) ∧ (∀ m, a ≤ m → m < g → ¬ FreeT r m)) ∨
    (nobodyOf r a b = (0, 4) ∧ minuteGapOf r a b = (0, 4) ∧ (∀ m, a ≤ m → m ≤ b → ¬ NobodyT r m) ∧ (∀ m, a ≤ m → m ≤ b → ¬ FreeT r m)) := by
  have hN := nobody_spec hv hc (range_mk hr.1 hr.2.1 hr.2.2)
  have hG := gap_spec hv hc (range_mk hr.1 hr.2.1 hr.2.2)
  generalize nobodyOf r a b = zn at hN ⊢
  generalize minuteGapOf r a b = zg at hG ⊢
  obtain ⟨n, e⟩ := zn
  obtain ⟨g, f⟩ := zg
  rcases hN with ⟨n1, n2, n3, n4, n5⟩ | ⟨n1, n2⟩
  · rcases hG with ⟨g1, g2, g3, g4, g5⟩ | ⟨g1, g2⟩
    · refine .inl ⟨n, g, by rw [← n1], by rw [← g1], n2, n3, g2, ?_, n4, n5, g5⟩
      rcases Int.lt_or_le n g with h | h
      · exact absurd (nobody_free hv hc n4) (g5 n n2 h)
      · exact h
    · exact absurd (nobody_free hv hc n4) (g2 _ n2 n3)
  · rcases hG with ⟨g1, g2, g3, g4, g5⟩ | ⟨g1, g2⟩
    · exact .inr (.inl ⟨g, n1, by rw [← g1], g2, g3, n2, g5⟩)
    · exact .inr (.inr ⟨n1, g1, n2, g2⟩)
end Go.Proofs.Ytccgakdaiaigoaa
