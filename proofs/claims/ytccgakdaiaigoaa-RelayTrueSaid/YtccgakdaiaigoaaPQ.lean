/- What is told of relays, in words of truths; relays with other entries. Plain mathematics. -/
import Derived.Test.YtccgakdaiaigoaaGE
import Derived.Test.YtccgakdaiaigoaaGF
namespace Go.Proofs.Ytccgakdaiaigoaa

/-- What a truth is, but for the entries. -/
structure Base (r : Rel) (s : Nat → Int) : Prop where
  own : ∀ i, i < r.n → 0 ≤ s (2 * i) ∧ s (2 * i + 1) ≤ 600 ∧ s (2 * i) + 1 ≤ s (2 * i + 1)
  next : ∀ i, i < r.n → 0 < i → s (2 * i - 2) + 1 ≤ s (2 * i)
  rest : ∀ i k, i < r.n → r.prev (r.st i).rider i = some k → s (2 * k + 1) + r.rest ≤ s (2 * i)
/-- The entries of a set say so. -/
def Said (r : Rel) (set : Nat) (s : Nat → Int) : Prop := ∀ n, n < 4 * r.n → set.testBit n = true → (r.entry n).1 ≤ s (timeOf n) ∧ s (timeOf n) ≤ (r.entry n).2
theorem truth_base {r : Rel} {set : Nat} {s : Nat → Int} : Truth r set s ↔ Base r s ∧ Said r set s :=
  ⟨fun h => ⟨⟨h.own, h.next, h.rest⟩, h.said⟩, fun ⟨h, h2⟩ => ⟨h.own, h.next, h.rest, h2⟩⟩
/-- Relays that differ in entries alone. -/
structure Sim (r x : Rel) : Prop where
  n : x.n = r.n
  rest : x.rest = r.rest
  rider : ∀ i, (x.st i).rider = (r.st i).rider
theorem Sim.refl (r : Rel) : Sim r r := ⟨rfl, rfl, fun _ => rfl⟩
theorem Sim.symm {r x : Rel} (h : Sim r x) : Sim x r := ⟨h.n.symm, h.rest.symm, fun i => (h.rider i).symm⟩
theorem Sim.trans {r x y : Rel} (h : Sim r x) (h2 : Sim x y) : Sim r y := ⟨h2.n.trans h.n, h2.rest.trans h.rest, fun i => (h2.rider i).trans (h.rider i)⟩
theorem Sim.prev {r x : Rel} (h : Sim r x) (rd : Int) : ∀ i, x.prev rd i = r.prev rd i
  | 0 => rfl
  | i + 1 => by simp only [Rel.prev]; rw [h.rider i, h.prev rd i]
theorem Sim.base {r x : Rel} (h : Sim r x) {s : Nat → Int} (hb : Base r s) : Base x s :=
  ⟨fun i hi => hb.own i (h.n ▸ hi), fun i hi h0 => hb.next i (h.n ▸ hi) h0, fun i k hi hk => by
    rw [h.rider i, h.prev] at hk
    have := hb.rest i k (h.n ▸ hi) hk
    rw [h.rest]; exact this⟩
theorem Base.range {r : Rel} {s : Nat → Int} (h : Base r s) {k : Nat} (hk : k < 2 * r.n) : 0 ≤ s k ∧ s k ≤ 600 := by
  have hi : k / 2 < r.n := by omega
  have := h.own (k / 2) hi
  rcases (by omega : k = 2 * (k / 2) ∨ k = 2 * (k / 2) + 1) with e | e
  · rw [e]; omega
  · rw [e]; omega
/-- Between the truths there are truths. -/
theorem truth_mid {r : Rel} {set : Nat} {s s' : Nat → Int} (hs : Truth r set s) (hs' : Truth r set s') {k : Nat} {n : Int} (h1 : s k ≤ n) (h2 : n ≤ s' k) : ∃ t, Truth r set t ∧ t k = n := by
  refine ⟨fun j => min (s' j) (s j + (n - s k)), ⟨fun i hi => ?_, fun i hi h0 => ?_, fun i q hi hq => ?_, fun q hq hb => ?_⟩, by simp only; omega⟩
  · have a := hs.own i hi
    have b := hs'.own i hi
    omega
  · have a := hs.next i hi h0
    have b := hs'.next i hi h0
    omega
  · have a := hs.rest i q hi hq
    have b := hs'.rest i q hi hq
    omega
  · have a := hs.said q hq hb
    have b := hs'.said q hq hb
    omega
/-- The least and the greatest of something, of all truths. -/
structure IsSpan (r : Rel) (f : (Nat → Int) → Int) (a b : Int) : Prop where
  lo : ∃ s, Truth r r.every s ∧ f s = a
  hi : ∃ s, Truth r r.every s ∧ f s = b
  of : ∀ s, Truth r r.every s → a ≤ f s ∧ f s ≤ b
theorem IsSpan.eq {r : Rel} {f : (Nat → Int) → Int} {a b a' b' : Int} (h : IsSpan r f a b) (h' : IsSpan r f a' b') : a = a' ∧ b = b' := by
  obtain ⟨s1, h1, e1⟩ := h.lo
  obtain ⟨s2, h2, e2⟩ := h.hi
  obtain ⟨s3, h3, e3⟩ := h'.lo
  obtain ⟨s4, h4, e4⟩ := h'.hi
  have := h'.of s1 h1
  have := h'.of s2 h2
  have := h.of s3 h3
  have := h.of s4 h4
  omega
theorem span_spec {r : Rel} (hv : r.valid = true) {T : Tab} (hT : r.tab r.every = some T) {i k : Nat} (hi : r.isT i) (hk : r.isT k) : IsSpan r (fun s => ext r s k - ext r s i) (T.span i k).1 (T.span i k).2 := by
  obtain ⟨⟨s, hs, he⟩, hle⟩ := Rel.tab_hi hv hT hi hk
  obtain ⟨⟨s2, hs2, he2⟩, hle2⟩ := Rel.tab_hi hv hT hk hi
  simp only [Tab.span]
  refine ⟨⟨s2, hs2, by omega⟩, ⟨s, hs, he⟩, fun s3 h3 => ?_⟩
  have := hle s3 h3
  have := hle2 s3 h3
  omega
theorem can_tab {r : Rel} (hc : r.canB r.every = true) : ∃ T, r.tab r.every = some T := Option.isSome_iff_exists.1 hc
theorem isStint_of {r : Rel} {i : Nat} (hi : i < r.n) : r.isStint (i : Int) = true := by
  simp only [Rel.isStint, Bool.and_eq_true, decide_eq_true_eq]; omega
theorem IsSpan.congr {r : Rel} {f g : (Nat → Int) → Int} {a b : Int} (h : IsSpan r f a b) (he : ∀ s, f s = g s) : IsSpan r g a b := by
  have : f = g := funext he
  rw [← this]; exact h
theorem on_spec {r : Rel} (hv : r.valid = true) (hc : r.canB r.every = true) {i : Nat} (hi : i < r.n) : ∃ a b, onOf r (i : Int) = ((a, b), 0) ∧ IsSpan r (fun s => s (2 * i)) a b := by
  obtain ⟨T, hT⟩ := can_tab hc
  refine ⟨_, _, ?_, (span_spec hv hT (i := 10) (k := 2 * i) (.inr rfl) (.inl (by omega))).congr fun s => ?_⟩
  · rw [onOf, isStint_of hi, told_ok hv hT, Int.toNat_natCast]
  · rw [ext_zero hv, ext_stint (by omega)]; omega
theorem off_spec {r : Rel} (hv : r.valid = true) (hc : r.canB r.every = true) {i : Nat} (hi : i < r.n) : ∃ a b, offOf r (i : Int) = ((a, b), 0) ∧ IsSpan r (fun s => s (2 * i + 1)) a b := by
  obtain ⟨T, hT⟩ := can_tab hc
  refine ⟨_, _, ?_, (span_spec hv hT (i := 10) (k := 2 * i + 1) (.inr rfl) (.inl (by omega))).congr fun s => ?_⟩
  · rw [offOf, isStint_of hi, told_ok hv hT, Int.toNat_natCast]
  · rw [ext_zero hv, ext_stint (by omega)]; omega
theorem length_spec {r : Rel} (hv : r.valid = true) (hc : r.canB r.every = true) {i : Nat} (hi : i < r.n) : ∃ a b, lengthOf r (i : Int) = ((a, b), 0) ∧ IsSpan r (fun s => s (2 * i + 1) - s (2 * i)) a b := by
  obtain ⟨T, hT⟩ := can_tab hc
  refine ⟨_, _, ?_, (span_spec hv hT (i := 2 * i) (k := 2 * i + 1) (.inl (by omega)) (.inl (by omega))).congr fun s => ?_⟩
  · rw [lengthOf, isStint_of hi, told_ok hv hT, Int.toNat_natCast]
  · rw [ext_stint (by omega), ext_stint (by omega)]
theorem handed_spec {r : Rel} (hv : r.valid = true) (hc : r.canB r.every = true) {i : Nat} (hi : i + 1 < r.n) : ∃ v, handedOf r (i : Int) = (v, 0) ∧ (v = 0 ∨ v = 1 ∨ v = 2) ∧ (v = 2 ↔ ∀ s, Truth r r.every s → s (2 * i + 2) ≤ s (2 * i + 1)) ∧ (v = 0 ↔ ∀ s, Truth r r.every s → s (2 * i + 1) < s (2 * i + 2)) := by
  obtain ⟨T, hT⟩ := can_tab hc
  have hs := (span_spec hv hT (i := 2 * i + 2) (k := 2 * i + 1) (.inl (by omega)) (.inl (by omega))).congr (g := fun s => s (2 * i + 1) - s (2 * i + 2)) fun s => by
    rw [ext_stint (by omega), ext_stint (by omega)]
  have e : handedOf r (i : Int) = (handedAt T i, 0) := by
    have h2 := isStint_of (r := r) (i := i + 1) hi
    rw [Int.natCast_add, Int.natCast_one] at h2
    rw [handedOf, isStint_of (show i < r.n by omega), h2, Bool.and_self, told_ok hv hT, Int.toNat_natCast]
  rw [e, handedAt]
  generalize (T.span (2 * i + 2) (2 * i + 1)).1 = a at hs ⊢
  generalize (T.span (2 * i + 2) (2 * i + 1)).2 = b at hs ⊢
  obtain ⟨s1, t1, e1⟩ := hs.lo
  obtain ⟨s2, t2, e2⟩ := hs.hi
  have hab := hs.of s1 t1
  by_cases ha : 0 ≤ a
  · rw [if_pos ha]
    refine ⟨2, rfl, by omega, ⟨fun _ s h => ?_, fun _ => rfl⟩, ⟨fun h => by omega, fun h => ?_⟩⟩
    · have := hs.of s h; omega
    · have := h s1 t1; omega
  · rw [if_neg ha]
    by_cases hb : b < 0
    · rw [if_pos hb]
      refine ⟨0, rfl, by omega, ⟨fun h => by omega, fun h => ?_⟩, ⟨fun _ s h => ?_, fun _ => rfl⟩⟩
      · have := h s1 t1; omega
      · have := hs.of s h; omega
    · rw [if_neg hb]
      refine ⟨1, rfl, by omega, ⟨fun h => by omega, fun h => ?_⟩, ⟨fun h => by omega, fun h => ?_⟩⟩
      · have := h s1 t1; omega
      · have := h s2 t2; omega
/-- In some truth nobody is there in a minute. -/
def FreeT (r : Rel) (m : Int) : Prop := ∃ s, Truth r r.every s ∧ ∀ i, i < r.n → s (2 * i + 1) ≤ m ∨ m + 1 ≤ s (2 * i)
theorem prefix_of {s : Nat → Int} {m : Int} : ∀ n, (∀ i, i < n → 0 < i → s (2 * i - 2) + 1 ≤ s (2 * i)) → ∃ st, st ≤ n ∧ ∀ i, i < n → (i < st ↔ s (2 * i) ≤ m)
  | 0, _ => ⟨0, Nat.le_refl _, fun i hi => absurd hi (by omega)⟩
  | n + 1, h => by
    obtain ⟨st, h1, h2⟩ := prefix_of (s := s) (m := m) n (fun i hi h0 => h i (by omega) h0)
    by_cases hm : s (2 * n) ≤ m
    · refine ⟨n + 1, by omega, fun i hi => ⟨fun _ => ?_, fun _ => hi⟩⟩
      by_cases e : i = n
      · rw [e]; exact hm
      · -- all before come earlier
        have key : ∀ j, j ≤ n → s (2 * (n - j)) ≤ s (2 * n) := by
          intro j
          induction j with
          | zero => intro _; exact Int.le_refl _
          | succ j ih =>
            intro hj
            have a := ih (by omega)
            have b := h (n - j) (by omega) (by omega)
            rw [show 2 * (n - j) - 2 = 2 * (n - (j + 1)) by omega] at b
            omega
        have := key (n - i) (by omega)
        rw [show n - (n - i) = i by omega] at this
        omega
    · refine ⟨st, by omega, fun i hi => ?_⟩
      by_cases e : i = n
      · rw [e]
        constructor
        · intro h3; omega
        · intro h3; exact absurd h3 hm
      · exact h2 i (by omega)
theorem freeT_iff {r : Rel} {m : Int} : (∃ st, st ≤ r.n ∧ AtT r m st) ↔ FreeT r m := by
  constructor
  · rintro ⟨st, _, s, hs, h⟩
    refine ⟨s, hs, fun i hi => ?_⟩
    have := h i hi
    split at this
    · exact .inl this
    · exact .inr this
  · rintro ⟨s, hs, h⟩
    obtain ⟨st, h1, h2⟩ := prefix_of (s := s) (m := m) r.n hs.next
    refine ⟨st, h1, s, hs, fun i hi => ?_⟩
    have a := h2 i hi
    have b := h i hi
    have c := hs.own i hi
    split
    · next h3 => have := a.1 h3; omega
    · next h3 =>
      have : ¬ s (2 * i) ≤ m := fun h4 => h3 (a.2 h4)
      omega
/-- In each truth nobody is there in a minute. -/
def NobodyT (r : Rel) (m : Int) : Prop := ∀ s, Truth r r.every s → ∀ i, i < r.n → s (2 * i + 1) ≤ m ∨ m + 1 ≤ s (2 * i)
theorem nobodyT_iff {r : Rel} {m : Int} : (∀ i, i < r.n → ¬ OnT r m i) ↔ NobodyT r m := by
  constructor
  · intro h s hs i hi
    have := h i hi
    by_cases h1 : s (2 * i) ≤ m
    · by_cases h2 : m + 1 ≤ s (2 * i + 1)
      · exact absurd ⟨s, hs, h1, h2⟩ this
      · left; omega
    · right; omega
  · rintro h i hi ⟨s, hs, h1, h2⟩
    have := h s hs i hi
    omega
/-- The first minute of which something is so. -/
def FirstM (p : Int → Prop) (a b : Int) (z : Int × Int) : Prop := (z.2 = 0 ∧ a ≤ z.1 ∧ z.1 ≤ b ∧ p z.1 ∧ ∀ m, a ≤ m → m < z.1 → ¬ p m) ∨ (z = (0, 4) ∧ ∀ m, a ≤ m → m ≤ b → ¬ p m)
theorem FirstM.eq {p q : Int → Prop} (he : ∀ m, p m ↔ q m) {a b : Int} {z z' : Int × Int} (h : FirstM p a b z) (h' : FirstM q a b z') : z = z' := by
  rcases h with ⟨h1, h2, h3, h4, h5⟩ | ⟨rfl, h1⟩ <;> rcases h' with ⟨g1, g2, g3, g4, g5⟩ | ⟨rfl, g1⟩
  · have : z.1 = z'.1 := by
      rcases Int.lt_trichotomy z.1 z'.1 with h | h | h
      · exact absurd ((he _).1 h4) (g5 _ h2 h)
      · exact h
      · exact absurd ((he _).2 g4) (h5 _ g2 h)
    exact Prod.ext this (h1.trans g1.symm)
  · exact absurd ((he _).1 h4) (g1 _ h2 h3)
  · exact absurd ((he _).2 g4) (h1 _ g2 g3)
  · rfl
theorem minute_spec {r : Rel} (hv : r.valid = true) {q : Tab → Int → Bool} {p : Int → Prop} (hq : ∀ T m, r.tab r.every = some T → (q T m = true ↔ p m)) (hc : r.canB r.every = true) {a b : Int} (hr : rangeB a b = true) : FirstM p a b (minuteOf r q a b) := by
  obtain ⟨T, hT⟩ := can_tab hc
  have hab : 0 ≤ a ∧ a ≤ b ∧ b ≤ 600 := by
    simp only [rangeB, inB, Bool.and_eq_true, decide_eq_true_eq] at hr; omega
  rw [minute_ok hv hr hT]
  have hs := firstOf_spec (q := q T) (b + 1 - a).toNat a
  cases hf : firstOf (q T) a (b + 1 - a).toNat with
  | some v =>
    rw [hf] at hs
    exact .inl ⟨rfl, hs.1, by have := hs.2.1; simp only; omega, (hq T _ hT).1 hs.2.2.1, fun m h1 h2 h3 => by have := hs.2.2.2 m h1 h2; rw [(hq T m hT).2 h3] at this; cases this⟩
  | none =>
    rw [hf] at hs
    exact .inr ⟨rfl, fun m h1 h2 h3 => by have := hs m h1 (by omega); rw [(hq T m hT).2 h3] at this; cases this⟩
theorem nobody_spec {r : Rel} (hv : r.valid = true) (hc : r.canB r.every = true) {a b : Int} (hr : rangeB a b = true) : FirstM (NobodyT r) a b (nobodyOf r a b) :=
  minute_spec hv (fun T m hT => by rw [nobQ_iff hv hT, nobodyT_iff]) hc hr
theorem gap_spec {r : Rel} (hv : r.valid = true) (hc : r.canB r.every = true) {a b : Int} (hr : rangeB a b = true) : FirstM (FreeT r) a b (minuteGapOf r a b) :=
  minute_spec hv (fun T m hT => by rw [gapQ_iff hv hT, freeT_iff]) hc hr
/-! The errors. -/
theorem on_no {r : Rel} {i c : Int} (h : PanicsR r (r.isStint i) c) : onOf r i = ((0, 0), c) := told_panics h
theorem off_no {r : Rel} {i c : Int} (h : PanicsR r (r.isStint i) c) : offOf r i = ((0, 0), c) := told_panics h
theorem length_no {r : Rel} {i c : Int} (h : PanicsR r (r.isStint i) c) : lengthOf r i = ((0, 0), c) := told_panics h
theorem handed_no {r : Rel} {i c : Int} (h : PanicsR r (r.isStint i && r.isStint (i + 1)) c) : handedOf r i = (0, c) := told_panics h
theorem panics_clash {r : Rel} {b : Bool} (hv : r.valid = true) (hb : b = true) (hc : r.canB r.every = false) : PanicsR r b 10 := .inr (.inr ⟨hv, hb, hc, rfl⟩)
theorem panics_range {r : Rel} {b : Bool} (hv : r.valid = true) (hb : b = false) : PanicsR r b 2 := .inr (.inl ⟨hv, hb, rfl⟩)
end Go.Proofs.Ytccgakdaiaigoaa
