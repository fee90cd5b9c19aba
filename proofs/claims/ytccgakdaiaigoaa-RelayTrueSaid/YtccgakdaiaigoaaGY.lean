/- Relays that were truly ridden, one stint after the other: in plain mathematics. The law RelayTrue in plain mathematics. -/
import Derived.Test.YtccgakdaiaigoaaGX
namespace Go.Proofs.Ytccgakdaiaigoaa

/-- One stint more. -/
def Rel.push (r : Rel) (x : Stint) : Rel := ⟨r.rest, r.stints ++ [x]⟩
theorem Rel.push_n (r : Rel) (x : Stint) : (r.push x).n = r.n + 1 := by simp [Rel.push, Rel.n]
theorem Rel.push_old (r : Rel) (x : Stint) {i : Nat} (hi : i < r.n) : (r.push x).st i = r.st i := by
  have h : i < r.stints.length := hi
  simp only [Rel.st, Rel.push, List.getD_eq_getElem?_getD, List.getElem?_append_left h]
theorem Rel.push_new (r : Rel) (x : Stint) : (r.push x).st r.n = x := by
  simp only [Rel.st, Rel.push, List.getD_eq_getElem?_getD]
  rw [show r.n = r.stints.length from rfl, List.getElem?_append_right (Nat.le_refl _)]
  simp
theorem Rel.push_prev (r : Rel) (x : Stint) (rd : Int) : ∀ i, i ≤ r.n → (r.push x).prev rd i = r.prev rd i
  | 0, _ => rfl
  | i + 1, h => by simp only [Rel.prev, r.push_old x (show i < r.n by omega), Rel.push_prev r x rd i (by omega)]
/-- What 'last' is of a rider: the last stint's number, or -1. -/
def Rel.lastOf (r : Rel) (rd : Int) : Int := match r.prev rd r.n with | some k => (k : Int) | Option.none => -1
theorem Rel.push_last (r : Rel) (x : Stint) (rd : Int) : (r.push x).lastOf rd = if x.rider = rd then (r.n : Int) else r.lastOf rd := by
  simp only [Rel.lastOf, r.push_n, Rel.prev, r.push_new, r.push_prev x rd r.n (Nat.le_refl _)]
  by_cases h : x.rider = rd
  · simp [h]
  · simp [h]
/-- Times that a stint more has. -/
def more (s : Nat → Int) (n : Nat) (on off : Int) : Nat → Int := fun j => if j < 2 * n then s j else if j = 2 * n then on else off
theorem more_old (s : Nat → Int) (n : Nat) (on off : Int) {j : Nat} (h : j < 2 * n) : more s n on off j = s j := by simp [more, h]
theorem more_on (s : Nat → Int) (n : Nat) (on off : Int) : more s n on off (2 * n) = on := by simp [more]
theorem more_off (s : Nat → Int) (n : Nat) (on off : Int) : more s n on off (2 * n + 1) = off := by
  rw [more, if_neg (by omega), if_neg (by omega)]

/-- Relays as they were truly ridden so far. -/
structure Made (r : Rel) (s : Nat → Int) (now : Int) : Prop where
  rest0 : 0 ≤ r.rest ∧ r.rest ≤ 11
  ok : ∀ i, i < r.n → (r.st i).ok = true
  own : ∀ i, i < r.n → 0 ≤ s (2 * i) ∧ s (2 * i) + 1 ≤ s (2 * i + 1) ∧ s (2 * i + 1) ≤ 9 + 51 * (r.n : Int)
  next : ∀ i, i < r.n → 0 < i → s (2 * i - 2) + 1 ≤ s (2 * i)
  rest : ∀ i k, i < r.n → r.prev (r.st i).rider i = some k → s (2 * k + 1) + r.rest ≤ s (2 * i)
  said : ∀ e, e < 4 * r.n → (r.entry e).1 ≤ s (timeOf e) ∧ s (timeOf e) ≤ (r.entry e).2
  last : ∀ i, i < r.n → s (2 * i) + 1 ≤ now
  now0 : 0 ≤ now ∧ now ≤ 9 + 51 * (r.n : Int)
theorem Made.start {rest now : Int} (h : 0 ≤ rest ∧ rest ≤ 11) (h2 : 0 ≤ now ∧ now ≤ 9) (s : Nat → Int) : Made ⟨rest, []⟩ s now := by
  have hn : (⟨rest, []⟩ : Rel).n = 0 := rfl
  refine ⟨h, ?_, ?_, ?_, ?_, ?_, ?_, by rw [hn]; omega⟩
  · intro i hi; rw [hn] at hi; omega
  · intro i hi; rw [hn] at hi; omega
  · intro i hi; rw [hn] at hi; omega
  · intro i k hi; rw [hn] at hi; omega
  · intro e he; rw [hn] at he; omega
  · intro i hi; rw [hn] at hi; omega
/-- The truth of relays that were so ridden. -/
theorem Made.valid {r : Rel} {s : Nat → Int} {now : Int} (h : Made r s now) (hn : r.n ≤ 5) : r.valid = true := by
  have := h.rest0
  simp only [Rel.valid, Bool.and_eq_true, decide_eq_true_eq, List.all_eq_true]
  refine ⟨⟨⟨by omega, by omega⟩, hn⟩, fun x hx => ?_⟩
  obtain ⟨i, hi, rfl⟩ := List.getElem_of_mem hx
  have := h.ok i hi
  simpa [Rel.st, List.getD_eq_getElem?_getD, List.getElem?_eq_getElem hi] using this
theorem Made.truth {r : Rel} {s : Nat → Int} {now : Int} (h : Made r s now) (hn : r.n ≤ 5) : Truth r r.every s :=
  ⟨fun i hi => by have := h.own i hi; omega, h.next, h.rest, fun e he _ => h.said e he⟩
/-- The minute in which the next stint of a rider begins. -/
def begins (r : Rel) (s : Nat → Int) (now rd : Int) : Int := match r.prev rd r.n with | some k => max now (s (2 * k + 1) + r.rest) | Option.none => now
theorem Made.begins_ge {r : Rel} {s : Nat → Int} {now : Int} (h : Made r s now) (rd : Int) : now ≤ begins r s now rd ∧ begins r s now rd ≤ 20 + 51 * (r.n : Int) := by
  have h0 := h.rest0
  have h1 := h.now0
  unfold begins
  split
  · next k hk =>
    have hk2 := (Rel.prev_some hk).1
    have := h.own k hk2
    omega
  · omega
/-- One stint more, as it was truly ridden, and written rightly. -/
theorem Made.push {r : Rel} {s : Nat → Int} {now : Int} (h : Made r s now) {x : Stint} {on off now' d d' : Int} (hx : x.ok = true) (hon : on = begins r s now x.rider) (hoff : off = on + 1 + d) (hd : 0 ≤ d ∧ d ≤ 39) (hnow : now' = on + 1 + d') (hd' : 0 ≤ d' ∧ d' ≤ 39)
    (h0 : x.on0.1 ≤ on ∧ on ≤ x.on0.2) (h1 : x.on1.1 ≤ on ∧ on ≤ x.on1.2) (h2 : x.off0.1 ≤ off ∧ off ≤ x.off0.2) (h3 : x.off1.1 ≤ off ∧ off ≤ x.off1.2) : Made (r.push x) (more s r.n on off) now' := by
  have hb := h.begins_ge x.rider
  rw [← hon] at hb
  have hn := r.push_n x
  have hr0 := h.rest0
  have hnow0 := h.now0
  have old : ∀ {i}, i < r.n → more s r.n on off (2 * i) = s (2 * i) ∧ more s r.n on off (2 * i + 1) = s (2 * i + 1) := fun hi => ⟨more_old _ _ _ _ (by omega), more_old _ _ _ _ (by omega)⟩
  refine ⟨hr0, ?_, ?_, ?_, ?_, ?_, ?_, ?_⟩
  · intro i hi
    rw [hn] at hi
    by_cases hlt : i < r.n
    · rw [r.push_old x hlt]; exact h.ok i hlt
    · obtain rfl : i = r.n := by omega
      rw [r.push_new]; exact hx
  · intro i hi
    rw [hn] at hi ⊢
    by_cases hlt : i < r.n
    · rw [(old hlt).1, (old hlt).2]
      have := h.own i hlt
      omega
    · obtain rfl : i = r.n := by omega
      rw [more_on, more_off]
      omega
  · intro i hi h0
    rw [hn] at hi
    have hp : more s r.n on off (2 * i - 2) = s (2 * i - 2) := more_old _ _ _ _ (by omega)
    rw [hp]
    by_cases hlt : i < r.n
    · rw [(old hlt).1]; exact h.next i hlt h0
    · obtain rfl : i = r.n := by omega
      rw [more_on]
      have := h.last (r.n - 1) (by omega)
      rw [show 2 * (r.n - 1) = 2 * r.n - 2 by omega] at this
      omega
  · intro i k hi hk
    rw [hn] at hi
    show _ + r.rest ≤ _
    rw [r.push_prev x _ i (by omega)] at hk
    have hki := (Rel.prev_some hk).1
    rw [(old (show k < r.n by omega)).2]
    by_cases hlt : i < r.n
    · rw [r.push_old x hlt] at hk
      rw [(old hlt).1]; exact h.rest i k hlt hk
    · obtain rfl : i = r.n := by omega
      rw [r.push_new] at hk
      rw [more_on, hon, begins, hk]
      simp only
      omega
  · intro e he
    rw [hn] at he
    have hen : (r.push x).entry e = ((r.push x).st (e / 4)).said (e % 4) := rfl
    rw [hen]
    by_cases hlt : e < 4 * r.n
    · rw [r.push_old x (show e / 4 < r.n by omega), more_old _ _ _ _ (by simp only [timeOf]; omega)]
      exact h.said e hlt
    · have he4 : e / 4 = r.n := by omega
      rw [he4, r.push_new]
      rcases (by omega : e = 4 * r.n ∨ e = 4 * r.n + 1 ∨ e = 4 * r.n + 2 ∨ e = 4 * r.n + 3) with rfl | rfl | rfl | rfl
      · rw [show timeOf (4 * r.n) = 2 * r.n by simp only [timeOf]; omega, more_on, show 4 * r.n % 4 = 0 by omega]; exact h0
      · rw [show timeOf (4 * r.n + 1) = 2 * r.n by simp only [timeOf]; omega, more_on, show (4 * r.n + 1) % 4 = 1 by omega]; exact h1
      · rw [show timeOf (4 * r.n + 2) = 2 * r.n + 1 by simp only [timeOf]; omega, more_off, show (4 * r.n + 2) % 4 = 2 by omega]; exact h2
      · rw [show timeOf (4 * r.n + 3) = 2 * r.n + 1 by simp only [timeOf]; omega, more_off, show (4 * r.n + 3) % 4 = 3 by omega]; exact h3
  · intro i hi
    rw [hn] at hi
    by_cases hlt : i < r.n
    · rw [(old hlt).1]
      have := h.last i hlt
      omega
    · obtain rfl : i = r.n := by omega
      rw [more_on]; omega
  · rw [hn]; omega

/-- What a judge writes of a minute, so that it is right. -/
theorem around_ok {n a b : Int} (hn : 0 ≤ n ∧ n ≤ 600) (ha : 0 ≤ a) (hb : 0 ≤ b) : spanOk (max 0 (n - a), min 600 (n + b)) = true ∧ max 0 (n - a) ≤ n ∧ n ≤ min 600 (n + b) := by
  simp only [spanOk, Bool.and_eq_true, decide_eq_true_eq]
  omega
end Go.Proofs.Ytccgakdaiaigoaa

namespace Go.Proofs.Ytccgakdaiaigoaa

theorem true_can {r : Rel} (hv : r.valid = true) {s : Nat → Int} (hs : Truth r r.every s) : r.canB r.every = true := (Rel.canB_iff hv).2 ⟨s, hs⟩
theorem true_clash {r : Rel} (hv : r.valid = true) {s : Nat → Int} (hs : Truth r r.every s) : clashOf r = (0, 4) ∧ r.wrongOf = (0, 4) := by
  have hc := true_can hv hs
  exact ⟨by simp [clashOf, hv, Rel.clashIn, hc], by simp [Rel.wrongOf, hv, hc]⟩
/-- Times that are told are no others than the true ones. -/
theorem true_told {r : Rel} (hv : r.valid = true) {s : Nat → Int} (hs : Truth r r.every s) {i : Nat} (hi : i < r.n) : ∃ a b c d x y, onOf r (i : Int) = ((a, b), 0) ∧ offOf r (i : Int) = ((c, d), 0) ∧ lengthOf r (i : Int) = ((x, y), 0) ∧
    (a ≤ s (2 * i) ∧ s (2 * i) ≤ b) ∧ (c ≤ s (2 * i + 1) ∧ s (2 * i + 1) ≤ d) ∧ (x ≤ s (2 * i + 1) - s (2 * i) ∧ s (2 * i + 1) - s (2 * i) ≤ y) := by
  have hc := true_can hv hs
  obtain ⟨a, b, h1, h2⟩ := on_spec hv hc hi
  obtain ⟨c, d, g1, g2⟩ := off_spec hv hc hi
  obtain ⟨x, y, f1, f2⟩ := length_spec hv hc hi
  exact ⟨a, b, c, d, x, y, h1, g1, f1, h2.of s hs, g2.of s hs, f2.of s hs⟩
theorem true_handed {r : Rel} (hv : r.valid = true) {s : Nat → Int} (hs : Truth r r.every s) {i : Nat} (hi : i + 1 < r.n) : ∃ v, handedOf r (i : Int) = (v, 0) ∧ (v = 2 → s (2 * i + 2) ≤ s (2 * i + 1)) ∧ (v = 0 → s (2 * i + 1) < s (2 * i + 2)) := by
  obtain ⟨v, e1, _, q2, q3⟩ := handed_spec hv (true_can hv hs) hi
  exact ⟨v, e1, fun h => q2.1 h s hs, fun h => q3.1 h s hs⟩
theorem true_gap {r : Rel} (hv : r.valid = true) {s : Nat → Int} (hs : Truth r r.every s) {a m : Int} (h0 : 0 ≤ a) (ham : a ≤ m) (hm : m ≤ 600) (hf : ∀ i, i < r.n → s (2 * i + 1) ≤ m ∨ m + 1 ≤ s (2 * i)) : ∃ g, minuteGapOf r a m = (g, 0) ∧ a ≤ g ∧ g ≤ m := by
  have hr : rangeB a m = true := by simp only [rangeB, inB, Bool.and_eq_true, decide_eq_true_eq]; omega
  have hF : FreeT r m := ⟨s, hs, hf⟩
  rcases gap_spec hv (true_can hv hs) hr with ⟨h1, h2, h3, _, _⟩ | ⟨_, h⟩
  · exact ⟨(minuteGapOf r a m).1, Prod.ext rfl h1, h2, h3⟩
  · exact (h m ham (Int.le_refl _) hF).elim
theorem true_nobody {r : Rel} (hv : r.valid = true) {s : Nat → Int} (hs : Truth r r.every s) : (∃ x, nobodyOf r 0 600 = (x, 0) ∧ ∀ i, i < r.n → s (2 * i + 1) ≤ x ∨ x + 1 ≤ s (2 * i)) ∨ nobodyOf r 0 600 = (0, 4) := by
  rcases nobody_spec hv (true_can hv hs) (show rangeB 0 600 = true by decide) with ⟨h1, h2, h3, h4, _⟩ | ⟨h, _⟩
  · exact .inl ⟨(nobodyOf r 0 600).1, Prod.ext rfl h1, fun i hi => h4 s hs i hi⟩
  · exact .inr h
end Go.Proofs.Ytccgakdaiaigoaa
