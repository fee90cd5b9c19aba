/- Tables of bounds between times: plain mathematics. The table in memory: 121 numbers, written over in place. Relays, and what a truth is: plain mathematics. What clashes: at most two entries are needed. Plain mathematics. The reference's way: times as spans, narrowed by rules until nothing changes. Plain mathematics. What is told of truths, by the table and by the reference's spans. Plain mathematics. Sets of entries: which comes before another one, and the least that suits. Plain mathematics. Which entries clash, and which are wrong. Plain mathematics. How many bits are set: by bytes. Plain mathematics. The lowest member of a set, as the program finds it. Plain mathematics. How narrowing ends: the spans' widths; bounds. Plain mathematics. -/
import Derived.Lib.Hide
import Derived.Test.YtccgakdaiaigoaaGK
namespace Go.Proofs.Ytccgakdaiaigoaa

/-- How many times there are. -/
abbrev nT : Nat := 11
/-- By how much, at most, a time (the second one) is after another one. -/
abbrev Tab := Nat → Nat → Int
/-- The time b is at most so much after a. -/
structure Bd where
  a : Nat
  b : Nat
  m : Int
def Bd.ok (x : Bd) (s : Nat → Int) : Prop := s x.b - s x.a ≤ x.m
def Bd.fit (x : Bd) : Prop := x.a < nT ∧ x.b < nT ∧ -2000 ≤ x.m ∧ x.m ≤ 2000
def Tab.add (T : Tab) (x : Bd) : Tab := fun i k => min (T i k) (T i x.a + x.m + T x.b k)
structure Closed (T : Tab) : Prop where
  diag : ∀ i, i < nT → T i i = 0
  tri : ∀ i j k, i < nT → j < nT → k < nT → T i k ≤ T i j + T j k
  far : ∀ i k, i < nT → k < nT → T i k ≤ 1048576
/-- Times that a table leaves. -/
def Sol (T : Tab) (s : Nat → Int) : Prop := ∀ i k, i < nT → k < nT → s k - s i ≤ T i k
theorem Closed.low {T : Tab} (h : Closed T) {i k : Nat} (hi : i < nT) (hk : k < nT) : -1048576 ≤ T i k := by
  have h1 := h.tri i k i hi hk hi
  have h2 := h.diag i hi
  have h3 := h.far k i hk hi
  omega
theorem Closed.add {T : Tab} (h : Closed T) {x : Bd} (ha : x.a < nT) (hb : x.b < nT) (hx : 0 ≤ T x.b x.a + x.m) : Closed (T.add x) := by
  refine ⟨fun i hi => ?_, fun i j k hi hj hk => ?_, fun i k hi hk => ?_⟩
  · have h1 := h.tri x.b i x.a hb hi ha
    have h2 := h.diag i hi
    simp only [Tab.add]
    omega
  · have h1 := h.tri i j k hi hj hk
    have h2 := h.tri x.b j k hb hj hk
    have h3 := h.tri i j x.a hi hj ha
    have h4 := h.tri x.b j x.a hb hj ha
    simp only [Tab.add]
    omega
  · have := h.far i k hi hk
    simp only [Tab.add]
    omega
theorem Closed.sol_add {T : Tab} (h : Closed T) {x : Bd} (ha : x.a < nT) (hb : x.b < nT) (s : Nat → Int) : Sol (T.add x) s ↔ Sol T s ∧ x.ok s := by
  constructor
  · intro hs
    refine ⟨fun i k hi hk => ?_, ?_⟩
    · have := hs i k hi hk
      simp only [Tab.add] at this
      omega
    · have h1 := hs x.a x.b ha hb
      have h2 := h.diag x.a ha
      have h3 := h.diag x.b hb
      simp only [Tab.add] at h1
      simp only [Bd.ok]
      omega
  · rintro ⟨hs, hx⟩ i k hi hk
    have h1 := hs i k hi hk
    have h2 := hs i x.a hi ha
    have h3 := hs x.b k hb hk
    simp only [Bd.ok] at hx
    simp only [Tab.add]
    omega
theorem Closed.none {T : Tab} {x : Bd} (ha : x.a < nT) (hb : x.b < nT) (hx : T x.b x.a + x.m < 0) (s : Nat → Int) : ¬ (Sol T s ∧ x.ok s) := by
  rintro ⟨hs, h⟩
  have h1 := hs x.b x.a hb ha
  simp only [Bd.ok] at h
  omega
theorem Closed.sol {T : Tab} (h : Closed T) {i : Nat} (hi : i < nT) : Sol T (T i) := by
  intro j k hj hk
  have := h.tri i j k hi hj hk
  omega
theorem Closed.sol_neg {T : Tab} (h : Closed T) {i : Nat} (hi : i < nT) : Sol T (fun k => - T k i) := by
  intro j k hj hk
  have := h.tri j k i hj hk hi
  show - T k i - - T j i ≤ T j k
  omega

/-- Nothing is known but that no two times are far apart. -/
def Tab.start : Tab := fun i k => if i = k then 0 else 1048576
theorem Tab.start_closed : Closed Tab.start := by
  refine ⟨fun i _ => by simp [Tab.start], fun i j k _ _ _ => ?_, fun i k _ _ => ?_⟩
  · simp only [Tab.start]
    split <;> split <;> split <;> omega
  · simp only [Tab.start]
    split <;> omega
def Near (s : Nat → Int) : Prop := ∀ i k, i < nT → k < nT → s k - s i ≤ 1048576
theorem Tab.start_sol (s : Nat → Int) : Sol Tab.start s ↔ Near s := by
  constructor
  · intro h i k hi hk
    have := h i k hi hk
    simp only [Tab.start] at this
    split at this <;> omega
  · intro h i k hi hk
    have := h i k hi hk
    simp only [Tab.start]
    split
    · subst_vars; omega
    · omega

/-- What is known by some bounds more; none: there is no truth. -/
def learn : Option Tab → Bd → Option Tab
  | none, _ => none
  | some T, x => if 0 ≤ T x.b x.a + x.m then some (T.add x) else none
def know (o : Option Tab) (l : List Bd) : Option Tab := l.foldl learn o
/-- What a table says: which times it leaves. -/
def Says (o : Option Tab) (P : (Nat → Int) → Prop) : Prop :=
  match o with
  | some T => Closed T ∧ ∀ s, Sol T s ↔ P s
  | none => ∀ s, ¬ P s
theorem Says.learn {o : Option Tab} {P : (Nat → Int) → Prop} (h : Says o P) {x : Bd} (ha : x.a < nT) (hb : x.b < nT) : Says (learn o x) (fun s => P s ∧ x.ok s) := by
  cases o with
  | none => exact fun s h1 => h s h1.1
  | some T =>
    obtain ⟨hc, hs⟩ := h
    simp only [Go.Proofs.Ytccgakdaiaigoaa.learn]
    split
    · next h0 => exact ⟨hc.add ha hb h0, fun s => by rw [hc.sol_add ha hb, hs]⟩
    · next h0 =>
      intro s h1
      exact Closed.none ha hb (by omega) s ⟨(hs s).2 h1.1, h1.2⟩
theorem Says.know {o : Option Tab} {P : (Nat → Int) → Prop} (h : Says o P) {l : List Bd} (hl : ∀ x ∈ l, x.a < nT ∧ x.b < nT) : Says (know o l) (fun s => P s ∧ ∀ x ∈ l, x.ok s) := by
  induction l generalizing o P with
  | nil =>
    have e : (fun s => P s ∧ ∀ x ∈ ([] : List Bd), x.ok s) = P := by funext s; simp
    rw [e]; exact h
  | cons x l ih =>
    have h1 := ih (h.learn (hl x (by simp)).1 (hl x (by simp)).2) (fun y hy => hl y (by simp [hy]))
    have e : (fun s => P s ∧ ∀ y ∈ x :: l, y.ok s) = (fun s => (P s ∧ x.ok s) ∧ ∀ y ∈ l, y.ok s) := by
      funext s
      simp only [List.forall_mem_cons, and_assoc]
    rw [e]; exact h1
theorem Says.stands {T : Tab} {P : (Nat → Int) → Prop} (h : Says (some T) P) : Closed T ∧ ∀ s, Sol T s ↔ P s := h
theorem Says.falls {P : (Nat → Int) → Prop} (h : Says none P) (s : Nat → Int) : ¬ P s := h s
/-- There is a truth just if the table stands. -/
theorem Says.can {o : Option Tab} {P : (Nat → Int) → Prop} (h : Says o P) : o.isSome = true ↔ ∃ s, P s := by
  cases o with
  | none => simp only [Option.isSome_none, Bool.false_eq_true, false_iff]; rintro ⟨s, hs⟩; exact h s hs
  | some T => simp only [Option.isSome_some, true_iff]; exact ⟨T 0, (h.2 _).1 (h.1.sol (by decide))⟩
/-- Both ends of a bound are those of a truth. -/
theorem Says.hi {T : Tab} {P : (Nat → Int) → Prop} (h : Says (some T) P) {i k : Nat} (hi : i < nT) (hk : k < nT) : (∃ s, P s ∧ s k - s i = T i k) ∧ ∀ s, P s → s k - s i ≤ T i k := by
  refine ⟨⟨T i, (h.2 _).1 (h.1.sol hi), ?_⟩, fun s hs => (h.2 s).2 hs i k hi hk⟩
  have := h.1.diag i hi
  omega
end Go.Proofs.Ytccgakdaiaigoaa

namespace Go.Proofs.Ytccgakdaiaigoaa

abbrev wr (n : Int) : Int := IntKind.i64.wrap n
/-- One step: the cell of i and k, by way of a bound. -/
def stepT (x : Bd) (t : List Int) (i k : Nat) : List Int :=
  t.set (i * 11 + k) (min (t.getD (i * 11 + k) 0) (wr (wr (t.getD (i * 11 + x.a) 0 + x.m) + t.getD (x.b * 11 + k) 0)))
/-- After so many steps of the table's q-th cells. -/
def upTo (x : Bd) (t : List Int) : Nat → List Int
  | 0 => t
  | q + 1 => stepT x (upTo x t q) (q / 11) (q % 11)
theorem stepT_length (x : Bd) (t : List Int) (i k : Nat) : (stepT x t i k).length = t.length := by simp [stepT]
theorem upTo_length (x : Bd) (t : List Int) (q : Nat) : (upTo x t q).length = t.length := by
  induction q with
  | zero => rfl
  | succ q ih => rw [upTo, stepT_length, ih]
theorem upTo_other (x : Bd) (t : List Int) {q j : Nat} (h : q ≤ j) : (upTo x t q).getD j 0 = t.getD j 0 := by
  induction q with
  | zero => rfl
  | succ q ih =>
    rw [upTo, stepT, List.getD_eq_getElem?_getD, List.getElem?_set_ne (by omega), ← List.getD_eq_getElem?_getD]
    exact ih (by omega)
theorem upTo_new (x : Bd) (t : List Int) {q : Nat} (h : q < t.length) : (upTo x t (q + 1)).getD q 0 = min (t.getD q 0) (wr (wr ((upTo x t q).getD (q / 11 * 11 + x.a) 0 + x.m) + (upTo x t q).getD (x.b * 11 + q % 11) 0)) := by
  rw [upTo, stepT, show q / 11 * 11 + q % 11 = q by omega, List.getD_eq_getElem?_getD, List.getElem?_set_self (by rw [upTo_length]; exact h), Option.getD_some, upTo_other x t (Nat.le_refl q)]
theorem upTo_keep (x : Bd) (t : List Int) {q j : Nat} (h : j < q) : (upTo x t q).getD j 0 = (upTo x t (j + 1)).getD j 0 := by
  induction q with
  | zero => omega
  | succ q ih =>
    by_cases hq : j = q
    · rw [hq]
    · rw [upTo, stepT, List.getD_eq_getElem?_getD, List.getElem?_set_ne (by omega), ← List.getD_eq_getElem?_getD]
      exact ih (by omega)
theorem upTo_le (x : Bd) (t : List Int) (q j : Nat) : (upTo x t q).getD j 0 ≤ t.getD j 0 := by
  by_cases h : j < t.length
  · by_cases hq : j < q
    · rw [upTo_keep x t hq, upTo_new x t h]
      exact Int.min_le_left _ _
    · rw [upTo_other x t (by omega)]
      exact Int.le_refl _
  · rw [List.getD_eq_getElem?_getD, List.getD_eq_getElem?_getD, List.getElem?_eq_none (by rw [upTo_length]; omega), List.getElem?_eq_none (by omega)]
    exact Int.le_refl _

/-- The cells of a table. -/
def Flat (t : List Int) (T : Tab) : Prop := t.length = 121 ∧ ∀ i k, i < nT → k < nT → t.getD (i * 11 + k) 0 = T i k
/-- The table has fallen: a time is before itself. -/
def Fell (t : List Int) : Prop := t.length = 121 ∧ ∃ i, i < nT ∧ t.getD (i * 11 + i) 0 < 0
/-- What a list of cells is. -/
def Holds (t : List Int) : Option Tab → Prop
  | some T => Closed T ∧ Flat t T
  | none => Fell t
theorem wr_in {n : Int} (h1 : -9000000000000000000 ≤ n) (h2 : n ≤ 9000000000000000000) : wr n = n := Go.IntWalk.i64_in _ (by omega)
theorem upTo_flat {x : Bd} (hx : x.fit) {t : List Int} {T : Tab} (hc : Closed T) (hf : Flat t T) (h0 : 0 ≤ T x.b x.a + x.m) (q : Nat) (hq : q ≤ 121) :
    ∀ i k, i < nT → k < nT → (upTo x t q).getD (i * 11 + k) 0 = if i * 11 + k < q then T.add x i k else T i k := by
  obtain ⟨ha, hb, hm1, hm2⟩ := hx
  induction q with
  | zero => intro i k hi hk; rw [if_neg (by omega)]; exact hf.2 i k hi hk
  | succ q ih =>
    have hq' : q < t.length := by rw [hf.1]; omega
    intro i k hi hk
    have hi' : i < 11 := hi
    have hk' : k < 11 := hk
    by_cases h1 : i * 11 + k < q
    · rw [if_pos (by omega), upTo_keep x t (by omega), ← upTo_keep x t h1, ih (by omega) i k hi hk, if_pos h1]
    · by_cases h2 : i * 11 + k = q
      · have e1 : q / 11 = i := by omega
        have e2 : q % 11 = k := by omega
        rw [if_pos (by omega), h2, upTo_new x t hq', e1, e2, ih (by omega) i x.a hi ha, ih (by omega) x.b k hb hk]
        have f1 : (if i * 11 + x.a < q then T.add x i x.a else T i x.a) = T i x.a := by
          split
          · have := hc.low hi ha
            simp only [Tab.add]; omega
          · rfl
        have f2 : (if x.b * 11 + k < q then T.add x x.b k else T x.b k) = T x.b k := by
          split
          · simp only [Tab.add]; omega
          · rfl
        have l1 := hc.low hi ha
        have l2 := hc.low hb hk
        have u1 := hc.far i x.a hi ha
        have u2 := hc.far x.b k hb hk
        rw [f1, f2, wr_in (n := T i x.a + x.m) (by omega) (by omega), wr_in (by omega) (by omega), ← h2, hf.2 i k hi hk]
        rfl
      · rw [if_neg (by omega), upTo_other x t (by omega)]
        exact hf.2 i k hi hk
theorem upTo_falls {x : Bd} (hx : x.fit) {t : List Int} {T : Tab} (hc : Closed T) (hf : Flat t T) (h0 : T x.b x.a + x.m < 0) : Fell (upTo x t 121) := by
  obtain ⟨ha, hb, hm1, hm2⟩ := hx
  have ha' : x.a < 11 := ha
  have hb' : x.b < 11 := hb
  refine ⟨by rw [upTo_length]; exact hf.1, x.a, ha, ?_⟩
  have hd := hc.diag x.a ha
  have hl := hc.low hb ha
  have hu := hc.far x.b x.a hb ha
  have hlt : x.a * 11 + x.a < t.length := by rw [hf.1]; omega
  have hlb : x.b * 11 + x.a < t.length := by rw [hf.1]; omega
  have e1 : (x.a * 11 + x.a) / 11 = x.a := by omega
  have e2 : (x.a * 11 + x.a) % 11 = x.a := by omega
  have e3 : (x.b * 11 + x.a) / 11 = x.b := by omega
  have e4 : (x.b * 11 + x.a) % 11 = x.a := by omega
  have hw1 : wr (0 + x.m) = x.m := by rw [wr_in (by omega) (by omega)]; omega
  rw [upTo_keep x t (by omega), upTo_new x t hlt, e1, e2, upTo_other x t (Nat.le_refl _), hf.2 x.a x.a ha ha, hd, hw1]
  have key : ∃ v : Int, (upTo x t (x.a * 11 + x.a)).getD (x.b * 11 + x.a) 0 = v ∧ v ≤ T x.b x.a ∧ -10000000 ≤ v := by
    refine ⟨_, rfl, ?_, ?_⟩
    · rw [← hf.2 x.b x.a hb ha]; exact upTo_le x t _ _
    · by_cases hq : x.b * 11 + x.a < x.a * 11 + x.a
      · rw [upTo_keep x t hq, upTo_new x t hlb, e3, e4, upTo_other x t (Nat.le_refl _), hf.2 x.b x.a hb ha, wr_in (n := T x.b x.a + x.m) (by omega) (by omega), wr_in (by omega) (by omega)]
        omega
      · rw [upTo_other x t (by omega), hf.2 x.b x.a hb ha]; omega
  obtain ⟨v, e, hv1, hv2⟩ := key
  rw [e, wr_in (by omega) (by omega)]
  omega
theorem upTo_fell (x : Bd) {t : List Int} (h : Fell t) : Fell (upTo x t 121) := by
  obtain ⟨hl, i, hi, hn⟩ := h
  refine ⟨by rw [upTo_length]; exact hl, i, hi, ?_⟩
  have := upTo_le x t 121 (i * 11 + i)
  omega
/-- A bound more. -/
theorem Holds.add {x : Bd} (hx : x.fit) {t : List Int} {o : Option Tab} (h : Holds t o) : Holds (upTo x t 121) (learn o x) := by
  cases o with
  | none => exact upTo_fell x h
  | some T =>
    obtain ⟨hc, hf⟩ := h
    simp only [learn]
    split
    · next h0 =>
      refine ⟨hc.add hx.1 hx.2.1 h0, by rw [upTo_length]; exact hf.1, fun i k hi hk => ?_⟩
      have hi' : i < 11 := hi
      have hk' : k < 11 := hk
      rw [upTo_flat hx hc hf h0 121 (Nat.le_refl _) i k hi hk, if_pos (by omega)]
    · next h0 => exact upTo_falls hx hc hf (by omega)
theorem Holds.length {t : List Int} {o : Option Tab} (h : Holds t o) : t.length = 121 := by
  cases o with
  | none => exact h.1
  | some T => exact h.2.1
/-- Is no time before itself? -/
def canB (t : List Int) : Bool := (List.range nT).all fun i => decide (0 ≤ t.getD (i * 11 + i) 0)
theorem Holds.can {t : List Int} {o : Option Tab} (h : Holds t o) : canB t = o.isSome := by
  cases o with
  | none =>
    obtain ⟨_, i, hi, hn⟩ := h
    simp only [canB, Option.isSome_none]
    rw [List.all_eq_false]
    exact ⟨i, List.mem_range.2 hi, by simp only [decide_eq_true_eq]; omega⟩
  | some T =>
    obtain ⟨hc, hf⟩ := h
    simp only [canB, Option.isSome_some, List.all_eq_true]
    intro i hi
    have hi' := List.mem_range.1 hi
    rw [hf.2 i i hi' hi', hc.diag i hi']
    rfl
end Go.Proofs.Ytccgakdaiaigoaa

namespace Go.Proofs.Ytccgakdaiaigoaa

structure Stint where
  rider : Int
  on0 : Int × Int
  on1 : Int × Int
  off0 : Int × Int
  off1 : Int × Int
structure Rel where
  rest : Int
  stints : List Stint
def Stint.none : Stint := ⟨0, (0, 0), (0, 0), (0, 0), (0, 0)⟩
def Rel.st (r : Rel) (i : Nat) : Stint := r.stints.getD i Stint.none
abbrev Rel.n (r : Rel) : Nat := r.stints.length
/-- What a judge wrote of an end. -/
def Stint.said (s : Stint) (q : Nat) : Int × Int := [s.on0, s.on1, s.off0, s.off1].getD q (0, 0)
def Rel.entry (r : Rel) (n : Nat) : Int × Int := (r.st (n / 4)).said (n % 4)
/-- The time that an entry is of. -/
abbrev timeOf (n : Nat) : Nat := n / 4 * 2 + n / 2 % 2
def spanOk (s : Int × Int) : Bool := decide (0 ≤ s.1) && decide (s.1 ≤ s.2) && decide (s.2 ≤ 600)
def Stint.ok (s : Stint) : Bool := (decide (0 ≤ s.rider) && decide (s.rider ≤ 1)) && (spanOk s.on0 && spanOk s.off0) && (spanOk s.on1 && spanOk s.off1)
def Rel.valid (r : Rel) : Bool := decide (0 ≤ r.rest) && decide (r.rest ≤ 60) && decide (r.n ≤ 5) && r.stints.all Stint.ok
/-- The last stint of a rider before one. -/
def Rel.prev (r : Rel) (rider : Int) : Nat → Option Nat
  | 0 => Option.none
  | i + 1 => if (r.st i).rider = rider then some i else r.prev rider i
theorem Rel.prev_some {r : Rel} {rd : Int} {i k : Nat} (h : r.prev rd i = some k) : k < i ∧ (r.st k).rider = rd := by
  induction i with
  | zero => simp [Rel.prev] at h
  | succ i ih =>
    simp only [Rel.prev] at h
    split at h
    · next hr => cases h; exact ⟨by omega, hr⟩
    · have := ih h; exact ⟨by omega, this.2⟩
def Rel.ownB (r : Rel) (i : Nat) : List Bd :=
  [⟨2 * i, 10, 0⟩, ⟨10, 2 * i + 1, 600⟩, ⟨2 * i + 1, 2 * i, -1⟩] ++ ((if 0 < i then [⟨2 * i, 2 * i - 2, -1⟩] else []) ++ (match r.prev (r.st i).rider i with | some k => [⟨2 * i, 2 * k + 1, -r.rest⟩] | Option.none => []))
def Rel.rulesB (r : Rel) : List Bd := (List.range r.n).flatMap r.ownB
def Rel.entB (r : Rel) (n : Nat) : List Bd := [⟨10, timeOf n, (r.entry n).2⟩, ⟨timeOf n, 10, -(r.entry n).1⟩]
def Rel.entriesB (r : Rel) (set : Nat) : List Bd := (List.range (4 * r.n)).flatMap fun n => if set.testBit n then r.entB n else []
def Rel.knownB (r : Rel) (set : Nat) : List Bd := r.rulesB ++ r.entriesB set
def Rel.tab (r : Rel) (set : Nat) : Option Tab := know (some Tab.start) (r.knownB set)

structure Truth (r : Rel) (set : Nat) (s : Nat → Int) : Prop where
  own : ∀ i, i < r.n → 0 ≤ s (2 * i) ∧ s (2 * i + 1) ≤ 600 ∧ s (2 * i) + 1 ≤ s (2 * i + 1)
  next : ∀ i, i < r.n → 0 < i → s (2 * i - 2) + 1 ≤ s (2 * i)
  rest : ∀ i k, i < r.n → r.prev (r.st i).rider i = some k → s (2 * k + 1) + r.rest ≤ s (2 * i)
  said : ∀ n, n < 4 * r.n → set.testBit n = true → (r.entry n).1 ≤ s (timeOf n) ∧ s (timeOf n) ≤ (r.entry n).2
/-- The time 10 is minute 0. -/
def ext (r : Rel) (s : Nat → Int) : Nat → Int := fun k => if k < 2 * r.n then s k else 0
theorem Rel.ok_of {r : Rel} (hv : r.valid = true) : 0 ≤ r.rest ∧ r.rest ≤ 60 ∧ r.n ≤ 5 ∧ ∀ i, i < r.n → (r.st i).ok = true := by
  simp only [Rel.valid, Bool.and_eq_true, decide_eq_true_eq, List.all_eq_true] at hv
  obtain ⟨⟨⟨h1, h2⟩, h3⟩, h4⟩ := hv
  refine ⟨h1, h2, h3, fun i hi => h4 _ ?_⟩
  rw [Rel.st, List.getD_eq_getElem?_getD, List.getElem?_eq_getElem hi]
  exact List.getElem_mem hi
theorem Rel.entry_ok {r : Rel} (hv : r.valid = true) {n : Nat} (hn : n < 4 * r.n) : 0 ≤ (r.entry n).1 ∧ (r.entry n).1 ≤ (r.entry n).2 ∧ (r.entry n).2 ≤ 600 := by
  have h := (r.ok_of hv).2.2.2 (n / 4) (by omega)
  simp only [Stint.ok, spanOk, Bool.and_eq_true, decide_eq_true_eq] at h
  obtain ⟨q, hq⟩ : ∃ q, n % 4 = q := ⟨_, rfl⟩
  have hq4 : q < 4 := by omega
  simp only [Rel.entry, Stint.said, hq]
  rcases q with _ | _ | _ | _ | q
  · simp only [List.getD_cons_zero]; omega
  · simp only [List.getD_cons_succ, List.getD_cons_zero]; omega
  · simp only [List.getD_cons_succ, List.getD_cons_zero]; omega
  · simp only [List.getD_cons_succ, List.getD_cons_zero]; omega
  · omega
theorem Rel.mem_known {r : Rel} {set : Nat} {x : Bd} : x ∈ r.knownB set ↔ (∃ i, i < r.n ∧ x ∈ r.ownB i) ∨ (∃ n, n < 4 * r.n ∧ set.testBit n = true ∧ x ∈ r.entB n) := by
  simp only [Rel.knownB, List.mem_append, Rel.rulesB, Rel.entriesB, List.mem_flatMap, List.mem_range]
  constructor
  · rintro (⟨i, h1, h2⟩ | ⟨n, h1, h2⟩)
    · exact .inl ⟨i, h1, h2⟩
    · split at h2
      · next h => exact .inr ⟨n, h1, h, h2⟩
      · simp at h2
  · rintro (⟨i, h1, h2⟩ | ⟨n, h1, h2, h3⟩)
    · exact .inl ⟨i, h1, h2⟩
    · exact .inr ⟨n, h1, by rw [if_pos h2]; exact h3⟩
theorem Rel.mem_own {r : Rel} {i : Nat} {x : Bd} : x ∈ r.ownB i ↔ x = ⟨2 * i, 10, 0⟩ ∨ x = ⟨10, 2 * i + 1, 600⟩ ∨ x = ⟨2 * i + 1, 2 * i, -1⟩ ∨ (0 < i ∧ x = ⟨2 * i, 2 * i - 2, -1⟩) ∨ ∃ k, r.prev (r.st i).rider i = some k ∧ x = ⟨2 * i, 2 * k + 1, -r.rest⟩ := by
  simp only [Rel.ownB, List.mem_append, List.mem_cons, List.not_mem_nil, or_false]
  have e1 : (x ∈ (if 0 < i then [(⟨2 * i, 2 * i - 2, -1⟩ : Bd)] else [])) ↔ (0 < i ∧ x = ⟨2 * i, 2 * i - 2, -1⟩) := by
    split
    · next h => simp [h]
    · next h => simp [h]
  have e2 : (x ∈ (match r.prev (r.st i).rider i with | some k => [(⟨2 * i, 2 * k + 1, -r.rest⟩ : Bd)] | Option.none => [])) ↔ ∃ k, r.prev (r.st i).rider i = some k ∧ x = ⟨2 * i, 2 * k + 1, -r.rest⟩ := by
    cases h : r.prev (r.st i).rider i with
    | none => simp
    | some k => simp
  rw [e1, e2]
  constructor
  · rintro ((h | h | h) | h | h)
    · exact .inl h
    · exact .inr (.inl h)
    · exact .inr (.inr (.inl h))
    · exact .inr (.inr (.inr (.inl h)))
    · exact .inr (.inr (.inr (.inr h)))
  · rintro (h | h | h | h | h)
    · exact .inl (.inl h)
    · exact .inl (.inr (.inl h))
    · exact .inl (.inr (.inr h))
    · exact .inr (.inl h)
    · exact .inr (.inr h)
theorem Rel.fit_known {r : Rel} (hv : r.valid = true) {set : Nat} {x : Bd} (hx : x ∈ r.knownB set) : x.fit := by
  obtain ⟨h1, h2, h3, _⟩ := r.ok_of hv
  rcases Rel.mem_known.1 hx with ⟨i, hi, hm⟩ | ⟨n, hn, _, hm⟩
  · rcases Rel.mem_own.1 hm with rfl | rfl | rfl | ⟨h0, rfl⟩ | ⟨k, hk, rfl⟩
    · exact ⟨show 2 * i < 11 by omega, show 10 < 11 by omega, by simp only; omega, by simp only; omega⟩
    · exact ⟨show 10 < 11 by omega, show 2 * i + 1 < 11 by omega, by simp only; omega, by simp only; omega⟩
    · exact ⟨show 2 * i + 1 < 11 by omega, show 2 * i < 11 by omega, by simp only; omega, by simp only; omega⟩
    · exact ⟨show 2 * i < 11 by omega, show 2 * i - 2 < 11 by omega, by simp only; omega, by simp only; omega⟩
    · have := (Rel.prev_some hk).1
      exact ⟨show 2 * i < 11 by omega, show 2 * k + 1 < 11 by omega, by simp only; omega, by simp only; omega⟩
  · have he := r.entry_ok hv hn
    simp only [Rel.entB, List.mem_cons, List.not_mem_nil, or_false] at hm
    rcases hm with rfl | rfl
    · exact ⟨show 10 < 11 by omega, show timeOf n < 11 by simp only [timeOf]; omega, by simp only; omega, by simp only; omega⟩
    · exact ⟨show timeOf n < 11 by simp only [timeOf]; omega, show 10 < 11 by omega, by simp only; omega, by simp only; omega⟩
theorem Rel.tab_says {r : Rel} (hv : r.valid = true) (set : Nat) : Says (r.tab set) (fun s => Near s ∧ ∀ x ∈ r.knownB set, x.ok s) :=
  Says.know (o := some Tab.start) (P := Near) ⟨Tab.start_closed, Tab.start_sol⟩ (fun _ hx => ⟨(r.fit_known hv hx).1, (r.fit_known hv hx).2.1⟩)
theorem Truth.range {r : Rel} {set : Nat} {s : Nat → Int} (h : Truth r set s) {k : Nat} (hk : k < 2 * r.n) : 0 ≤ s k ∧ s k ≤ 600 := by
  obtain ⟨h1, h2, h3⟩ := h.own (k / 2) (by omega)
  by_cases e : k % 2 = 0
  · rw [show k = 2 * (k / 2) by omega]; omega
  · rw [show k = 2 * (k / 2) + 1 by omega]; omega
theorem ext_range {r : Rel} {set : Nat} {s : Nat → Int} (h : Truth r set s) (k : Nat) : 0 ≤ ext r s k ∧ ext r s k ≤ 600 := by
  simp only [ext]
  split
  · next hk => exact h.range hk
  · omega
theorem Truth.ext {r : Rel} {set : Nat} {s : Nat → Int} (hv : r.valid = true) (h : Truth r set s) : Near (ext r s) ∧ ∀ x ∈ r.knownB set, x.ok (ext r s) := by
  obtain ⟨_, _, h5, _⟩ := r.ok_of hv
  refine ⟨fun i k _ _ => by have := ext_range h i; have := ext_range h k; omega, fun x hx => ?_⟩
  have ez : Go.Proofs.Ytccgakdaiaigoaa.ext r s 10 = 0 := by simp only [Go.Proofs.Ytccgakdaiaigoaa.ext]; rw [if_neg (by omega)]
  have eo : ∀ k, k < 2 * r.n → Go.Proofs.Ytccgakdaiaigoaa.ext r s k = s k := fun k hk => by simp only [Go.Proofs.Ytccgakdaiaigoaa.ext]; rw [if_pos hk]
  rcases Rel.mem_known.1 hx with ⟨i, hi, hm⟩ | ⟨n, hn, hs, hm⟩
  · obtain ⟨o1, o2, o3⟩ := h.own i hi
    rcases Rel.mem_own.1 hm with rfl | rfl | rfl | ⟨h0, rfl⟩ | ⟨k, hk, rfl⟩
    · simp only [Bd.ok]; rw [ez, eo _ (by omega)]; omega
    · simp only [Bd.ok]; rw [ez, eo _ (by omega)]; omega
    · simp only [Bd.ok]; rw [eo _ (by omega), eo _ (by omega)]; omega
    · have := h.next i hi h0
      simp only [Bd.ok]; rw [eo _ (by omega), eo _ (by omega)]; omega
    · have h1 := (Rel.prev_some hk).1
      have := h.rest i k hi hk
      simp only [Bd.ok]; rw [eo _ (by omega), eo _ (by omega)]; omega
  · obtain ⟨s1, s2⟩ := h.said n hn hs
    simp only [Rel.entB, List.mem_cons, List.not_mem_nil, or_false] at hm
    rcases hm with rfl | rfl
    · simp only [Bd.ok]; rw [ez, eo _ (by simp only [timeOf]; omega)]; omega
    · simp only [Bd.ok]; rw [ez, eo _ (by simp only [timeOf]; omega)]; omega
theorem Truth.of {r : Rel} {set : Nat} {s : Nat → Int} (h : ∀ x ∈ r.knownB set, x.ok s) : Truth r set (fun k => s k - s 10) := by
  have own : ∀ i, i < r.n → ∀ x ∈ r.ownB i, x.ok s := fun i hi x hx => h x (Rel.mem_known.2 (.inl ⟨i, hi, hx⟩))
  refine ⟨fun i hi => ?_, fun i hi h0 => ?_, fun i k hi hk => ?_, fun n hn hs => ?_⟩
  · have h1 := own i hi _ (Rel.mem_own.2 (.inl rfl))
    have h2 := own i hi _ (Rel.mem_own.2 (.inr (.inl rfl)))
    have h3 := own i hi _ (Rel.mem_own.2 (.inr (.inr (.inl rfl))))
    simp only [Bd.ok] at h1 h2 h3
    omega
  · have h1 := own i hi _ (Rel.mem_own.2 (.inr (.inr (.inr (.inl ⟨h0, rfl⟩)))))
    simp only [Bd.ok] at h1
    omega
  · have h1 := own i hi _ (Rel.mem_own.2 (.inr (.inr (.inr (.inr ⟨k, hk, rfl⟩)))))
    simp only [Bd.ok] at h1
    omega
  · have h1 := h ⟨10, timeOf n, (r.entry n).2⟩ (Rel.mem_known.2 (.inr ⟨n, hn, hs, by simp [Rel.entB]⟩))
    have h2 := h ⟨timeOf n, 10, -(r.entry n).1⟩ (Rel.mem_known.2 (.inr ⟨n, hn, hs, by simp [Rel.entB]⟩))
    simp only [Bd.ok] at h1 h2
    omega
/-- A table stands just if there is a truth. -/
theorem Rel.can {r : Rel} (hv : r.valid = true) (set : Nat) : (r.tab set).isSome = true ↔ ∃ s, Truth r set s := by
  rw [(r.tab_says hv set).can]
  exact ⟨fun ⟨s, h⟩ => ⟨_, Truth.of h.2⟩, fun ⟨s, h⟩ => ⟨_, h.ext hv⟩⟩
/-- A time of a stint, or minute 0. -/
def Rel.isT (r : Rel) (k : Nat) : Prop := k < 2 * r.n ∨ k = 10
theorem Rel.isT_lt {r : Rel} (hv : r.valid = true) {k : Nat} (h : r.isT k) : k < nT := by
  have := (r.ok_of hv).2.2.1
  rcases h with h | h
  · show k < 11; omega
  · show k < 11; omega
/-- What the table tells of two times: the greatest difference of all truths. -/
theorem Rel.tab_hi {r : Rel} (hv : r.valid = true) {set : Nat} {T : Tab} (hT : r.tab set = some T) {i k : Nat} (hi : r.isT i) (hk : r.isT k) :
    (∃ s, Truth r set s ∧ ext r s k - ext r s i = T i k) ∧ ∀ s, Truth r set s → ext r s k - ext r s i ≤ T i k := by
  have hs := r.tab_says hv set
  rw [hT] at hs
  have h5 := (r.ok_of hv).2.2.1
  obtain ⟨⟨s, h1, h2⟩, h3⟩ := hs.hi (r.isT_lt hv hi) (r.isT_lt hv hk)
  have e : ∀ j, r.isT j → ext r (fun k => s k - s 10) j = s j - s 10 := by
    intro j hj
    simp only [ext]
    rcases hj with hj | rfl
    · rw [if_pos hj]
    · rw [if_neg (by omega)]; omega
  refine ⟨⟨_, Truth.of h1.2, ?_⟩, fun s hs => h3 _ (hs.ext hv)⟩
  rw [e i hi, e k hk]
  omega
end Go.Proofs.Ytccgakdaiaigoaa

namespace Go.Proofs.Ytccgakdaiaigoaa

/-- Without entries there is a truth. -/
theorem Rel.free {r : Rel} (hv : r.valid = true) : Truth r 0 (fun k => 120 * ((k / 2 : Nat) : Int) + ((k % 2 : Nat) : Int)) := by
  obtain ⟨h1, h2, h3, _⟩ := r.ok_of hv
  refine ⟨fun i hi => ?_, fun i hi h0 => ?_, fun i k hi hk => ?_, fun n hn hs => ?_⟩
  · rw [show 2 * i / 2 = i by omega, show 2 * i % 2 = 0 by omega, show (2 * i + 1) / 2 = i by omega, show (2 * i + 1) % 2 = 1 by omega]
    omega
  · rw [show 2 * i / 2 = i by omega, show 2 * i % 2 = 0 by omega, show (2 * i - 2) / 2 = i - 1 by omega, show (2 * i - 2) % 2 = 0 by omega]
    omega
  · have := (Rel.prev_some hk).1
    rw [show 2 * i / 2 = i by omega, show 2 * i % 2 = 0 by omega, show (2 * k + 1) / 2 = k by omega, show (2 * k + 1) % 2 = 1 by omega]
    omega
  · simp at hs
theorem Truth.mono {r : Rel} {a b : Nat} {s : Nat → Int} (h : Truth r a s) (hab : ∀ n, n < 4 * r.n → b.testBit n = true → a.testBit n = true) : Truth r b s :=
  ⟨h.own, h.next, h.rest, fun n hn hs => h.said n hn (hab n hn hs)⟩
/-- The greatest of some numbers. -/
theorem max_of {α : Type} (f : α → Int) : ∀ (l : List α), l ≠ [] → ∃ m, (∃ x ∈ l, m = f x) ∧ ∀ x ∈ l, f x ≤ m
  | [], h => (h rfl).elim
  | [x], _ => ⟨f x, ⟨x, by simp, rfl⟩, by simp⟩
  | x :: y :: l, _ => by
    obtain ⟨m, ⟨z, hz, e⟩, h⟩ := max_of f (y :: l) (by simp)
    by_cases hx : f x ≤ m
    · exact ⟨m, ⟨z, by simp only [List.mem_cons] at hz ⊢; exact .inr hz, e⟩, fun w hw => by
        rcases List.mem_cons.1 hw with rfl | hw
        · exact hx
        · exact h w hw⟩
    · exact ⟨f x, ⟨x, by simp, rfl⟩, fun w hw => by
        rcases List.mem_cons.1 hw with rfl | hw
        · exact Int.le_refl _
        · have := h w hw; omega⟩
/-- Bounds between times that hold in a table, with least and greatest minutes of some, can be met together if each two can. -/
theorem two_meet {T : Tab} (hc : Closed T) (L U : List (Nat × Int)) (hL : L ≠ []) (hL1 : ∀ x ∈ L, x.1 < nT)
    (h : ∀ x ∈ L, ∀ y ∈ U, x.2 - T y.1 x.1 ≤ y.2) : ∃ s : Nat → Int, Sol T s ∧ (∀ x ∈ L, x.2 ≤ s x.1) ∧ ∀ y ∈ U, s y.1 ≤ y.2 := by
  have hm : ∀ k, ∃ m, (∃ x ∈ L, m = x.2 - T k x.1) ∧ ∀ x ∈ L, x.2 - T k x.1 ≤ m := fun k => max_of (fun x : Nat × Int => x.2 - T k x.1) L hL
  refine ⟨fun k => Classical.choose (hm k), fun i k hi hk => ?_, fun x hx => ?_, fun y hy => ?_⟩
  · obtain ⟨⟨x, hx, e⟩, _⟩ := Classical.choose_spec (hm k)
    have h2 := (Classical.choose_spec (hm i)).2 x hx
    have := hc.tri i k x.1 hi hk (hL1 x hx)
    simp only
    omega
  · have h2 := (Classical.choose_spec (hm x.1)).2 x hx
    have := hc.diag x.1 (hL1 x hx)
    simp only
    omega
  · obtain ⟨⟨x, hx, e⟩, _⟩ := Classical.choose_spec (hm y.1)
    have := h x hx y hy
    simp only
    omega
/-- The set of one or two numbers. -/
def two (i k : Nat) : Nat := 2 ^ i ||| 2 ^ k
theorem two_bit {i k n : Nat} : (two i k).testBit n = true ↔ n = i ∨ n = k := by
  simp only [two, Nat.testBit_or, Nat.testBit_two_pow, Bool.or_eq_true, decide_eq_true_eq]
  omega
/-- Entries that clash: two of them do, or one does. -/
theorem Rel.clash_two {r : Rel} (hv : r.valid = true) {set : Nat} (h : ¬ ∃ s, Truth r set s) :
    ∃ i k, i < 4 * r.n ∧ k ≤ i ∧ set.testBit i = true ∧ set.testBit k = true ∧ ¬ ∃ s, Truth r (two i k) s := by
  obtain ⟨T, hT⟩ : ∃ T, r.tab 0 = some T := by
    have := (Rel.can hv 0).2 ⟨_, r.free hv⟩
    exact Option.isSome_iff_exists.1 this
  have hs := r.tab_says hv 0
  rw [hT] at hs
  obtain ⟨hc, hsol⟩ := hs
  have h5 := (r.ok_of hv).2.2.1
  have ht : ∀ n, n < 4 * r.n → timeOf n < 2 * r.n := fun n hn => by simp only [timeOf]; omega
  have ht' : ∀ n, n < 4 * r.n → timeOf n < nT := fun n hn => by have := ht n hn; show timeOf n < 11; omega
  -- the truths without entries are the table's
  have hext : ∀ s, Truth r 0 s → Sol T (Go.Proofs.Ytccgakdaiaigoaa.ext r s) := fun s hs => (hsol _).2 (hs.ext hv)
  have hback : ∀ s, Sol T s → Truth r 0 (fun k => s k - s 10) := fun s hs => Truth.of ((hsol s).1 hs).2
  obtain ⟨N, hN⟩ : ∃ N, (List.range (4 * r.n)).filter (fun n => set.testBit n) = N := ⟨_, rfl⟩
  have hNm : ∀ n, n ∈ N ↔ n < 4 * r.n ∧ set.testBit n = true := fun n => by rw [← hN]; simp
  -- a truth, if each two bounds can be met
  have key : ¬ ∀ x ∈ ((10, (0 : Int)) :: N.map fun n => (timeOf n, (r.entry n).1)), ∀ y ∈ ((10, (0 : Int)) :: N.map fun n => (timeOf n, (r.entry n).2)), x.2 - T y.1 x.1 ≤ y.2 := by
    intro hk
    obtain ⟨s, h1, h2, h3⟩ := two_meet hc _ _ (by simp) (by
      intro x hx
      rcases List.mem_cons.1 hx with rfl | hx
      · exact (by decide : 10 < nT)
      · obtain ⟨n, hn, rfl⟩ := List.mem_map.1 hx
        exact ht' n ((hNm n).1 hn).1) hk
    have z1 := h2 (10, 0) (by simp)
    have z2 := h3 (10, 0) (by simp)
    have z : s 10 = 0 := by simp only at z1 z2; omega
    refine h ⟨fun k => s k - s 10, (hback s h1).own, (hback s h1).next, (hback s h1).rest, fun n hn hb => ?_⟩
    have e1 := h2 (timeOf n, (r.entry n).1) (List.mem_cons_of_mem _ (List.mem_map.2 ⟨n, (hNm n).2 ⟨hn, hb⟩, rfl⟩))
    have e2 := h3 (timeOf n, (r.entry n).2) (List.mem_cons_of_mem _ (List.mem_map.2 ⟨n, (hNm n).2 ⟨hn, hb⟩, rfl⟩))
    simp only at e1 e2 ⊢
    omega
  -- two bounds that cannot
  have hno : ∃ x ∈ ((10, (0 : Int)) :: N.map fun n => (timeOf n, (r.entry n).1)), ∃ y ∈ ((10, (0 : Int)) :: N.map fun n => (timeOf n, (r.entry n).2)), ¬ x.2 - T y.1 x.1 ≤ y.2 := by
    apply Classical.byContradiction
    intro hn
    refine key fun x hx y hy => ?_
    apply Classical.byContradiction
    intro h1
    exact hn ⟨x, hx, y, hy, h1⟩
  obtain ⟨x, hx, y, hy, hxy⟩ := hno
  -- no truth with entries a and b
  have bad : ∀ a b, (x = (10, 0) ∨ x = (timeOf a, (r.entry a).1)) → (y = (10, 0) ∨ y = (timeOf b, (r.entry b).2)) → a < 4 * r.n → b < 4 * r.n → ∀ c, (c.testBit a = true) → (c.testBit b = true) → ¬ ∃ s, Truth r c s := by
    rintro a b hxa hyb ha hb c ca cb ⟨s, hs⟩
    have h0 := hext s (hs.mono (by simp))
    have ez : Go.Proofs.Ytccgakdaiaigoaa.ext r s 10 = 0 := by simp only [Go.Proofs.Ytccgakdaiaigoaa.ext]; rw [if_neg (by omega)]
    have eo : ∀ n, n < 4 * r.n → Go.Proofs.Ytccgakdaiaigoaa.ext r s (timeOf n) = s (timeOf n) := fun n hn => by simp only [Go.Proofs.Ytccgakdaiaigoaa.ext]; rw [if_pos (ht n hn)]
    have sa := hs.said a ha ca
    have sb := hs.said b hb cb
    rcases hxa with rfl | rfl <;> rcases hyb with rfl | rfl
    · have := hc.diag 10 (by decide)
      simp only at hxy
      omega
    · have h1 := h0 (timeOf b) 10 (ht' b hb) (by decide)
      rw [ez, eo b hb] at h1
      simp only at hxy
      omega
    · have h1 := h0 10 (timeOf a) (by decide) (ht' a ha)
      rw [ez, eo a ha] at h1
      simp only at hxy
      omega
    · have h1 := h0 (timeOf b) (timeOf a) (ht' b hb) (ht' a ha)
      rw [eo a ha, eo b hb] at h1
      simp only at hxy
      omega
  have mk : ∀ a b, (x = (10, 0) ∨ x = (timeOf a, (r.entry a).1)) → (y = (10, 0) ∨ y = (timeOf b, (r.entry b).2)) → a ∈ N → b ∈ N → ∃ i k, i < 4 * r.n ∧ k ≤ i ∧ set.testBit i = true ∧ set.testBit k = true ∧ ¬ ∃ s, Truth r (two i k) s := by
    intro a b hxa hyb ha hb
    obtain ⟨a1, a2⟩ := (hNm a).1 ha
    obtain ⟨b1, b2⟩ := (hNm b).1 hb
    by_cases hab : b ≤ a
    · exact ⟨a, b, a1, hab, a2, b2, bad a b hxa hyb a1 b1 _ (two_bit.2 (.inl rfl)) (two_bit.2 (.inr rfl))⟩
    · exact ⟨b, a, b1, by omega, b2, a2, bad a b hxa hyb a1 b1 _ (two_bit.2 (.inr rfl)) (two_bit.2 (.inl rfl))⟩
  rcases List.mem_cons.1 hx with ex | hx
  · rcases List.mem_cons.1 hy with ey | hy
    · exfalso
      rw [ex, ey] at hxy
      have := hc.diag 10 (by decide)
      simp only at hxy
      omega
    · obtain ⟨b, hb, rfl⟩ := List.mem_map.1 hy
      exact mk b b (.inl ex) (.inr rfl) hb hb
  · obtain ⟨a, ha, rfl⟩ := List.mem_map.1 hx
    rcases List.mem_cons.1 hy with ey | hy
    · exact mk a a (.inr rfl) (.inl ey) ha ha
    · obtain ⟨b, hb, rfl⟩ := List.mem_map.1 hy
      exact mk a b (.inr rfl) (.inr rfl) ha hb
end Go.Proofs.Ytccgakdaiaigoaa

namespace Go.Proofs.Ytccgakdaiaigoaa

/-- The time b is at least so much greater than a. -/
structure Ru where
  a : Nat
  b : Nat
  least : Int
def Ru.ok (x : Ru) (s : Nat → Int) : Prop := s x.a + x.least ≤ s x.b
abbrev Box := List (Int × Int)
def Box.lo (O : Box) (k : Nat) : Int := (O.getD k (0, 0)).1
def Box.hi (O : Box) (k : Nat) : Int := (O.getD k (0, 0)).2
def Box.fits (O : Box) (s : Nat → Int) : Prop := ∀ k, k < O.length → O.lo k ≤ s k ∧ s k ≤ O.hi k
/-- What lies in spans, and keeps rules. -/
def NSol (L : Box) (R : List Ru) (s : Nat → Int) : Prop := L.fits s ∧ ∀ x ∈ R, x.ok s
/-- What narrowing gives. -/
def Narrow (L : Box) (R : List Ru) : Option Box → Prop
  | none => ∀ s, ¬ NSol L R s
  | some O => O.length = L.length ∧ NSol L R O.lo ∧ NSol L R O.hi ∧ ∀ s, NSol L R s → O.fits s
/-- What is kept while it narrows. -/
structure Nar (L : Box) (R : List Ru) (O : Box) : Prop where
  len : O.length = L.length
  sol : ∀ s, NSol L R s → O.fits s
  low : ∀ k, k < L.length → L.lo k ≤ O.lo k
  high : ∀ k, k < L.length → O.hi k ≤ L.hi k
theorem Nar.start (L : Box) (R : List Ru) : Nar L R L := ⟨rfl, fun _ h => h.1, fun _ _ => Int.le_refl _, fun _ _ => Int.le_refl _⟩
theorem Nar.none {L : Box} {R : List Ru} {O : Box} (h : Nar L R O) {k : Nat} (hk : k < L.length) (hx : O.hi k < O.lo k) : Narrow L R none := by
  intro s hs
  have := h.sol s hs k (by rw [h.len]; exact hk)
  omega
theorem Box.lo_set {O : Box} {j k : Nat} {v : Int × Int} (hj : j < O.length) : Box.lo (O.set j v) k = if k = j then v.1 else O.lo k := by
  simp only [Box.lo, List.getD_eq_getElem?_getD]
  by_cases h : k = j
  · subst h; rw [List.getElem?_set_self hj, if_pos rfl]; rfl
  · rw [List.getElem?_set_ne (by omega), if_neg h]
theorem Box.hi_set {O : Box} {j k : Nat} {v : Int × Int} (hj : j < O.length) : Box.hi (O.set j v) k = if k = j then v.2 else O.hi k := by
  simp only [Box.hi, List.getD_eq_getElem?_getD]
  by_cases h : k = j
  · subst h; rw [List.getElem?_set_self hj, if_pos rfl]; rfl
  · rw [List.getElem?_set_ne (by omega), if_neg h]
/-- The latter of two times begins later. -/
theorem Nar.up {L : Box} {R : List Ru} {O : Box} (h : Nar L R O) {x : Ru} (hx : x ∈ R) (ha : x.a < L.length) (hb : x.b < L.length) (hlt : O.lo x.b < O.lo x.a + x.least) :
    Nar L R (O.set x.b (O.lo x.a + x.least, O.hi x.b)) := by
  have hb' : x.b < O.length := by rw [h.len]; exact hb
  refine ⟨by rw [List.length_set]; exact h.len, fun s hs k hk => ?_, fun k hk => ?_, fun k hk => ?_⟩
  · rw [List.length_set] at hk
    have h1 := h.sol s hs k hk
    have h2 := h.sol s hs x.a (by rw [h.len]; exact ha)
    have h3 := hs.2 x hx
    simp only [Ru.ok] at h3
    rw [Box.lo_set hb', Box.hi_set hb']
    by_cases e : k = x.b
    · subst e; rw [if_pos rfl, if_pos rfl]; simp only; omega
    · rw [if_neg e, if_neg e]; exact h1
  · have := h.low k hk
    rw [Box.lo_set hb']
    by_cases e : k = x.b
    · subst e; rw [if_pos rfl]; simp only; omega
    · rw [if_neg e]; exact this
  · have := h.high k hk
    rw [Box.hi_set hb']
    by_cases e : k = x.b
    · subst e; rw [if_pos rfl]; exact this
    · rw [if_neg e]; exact this
theorem Nar.down {L : Box} {R : List Ru} {O : Box} (h : Nar L R O) {x : Ru} (hx : x ∈ R) (ha : x.a < L.length) (hb : x.b < L.length) (hlt : O.hi x.b - x.least < O.hi x.a) :
    Nar L R (O.set x.a (O.lo x.a, O.hi x.b - x.least)) := by
  have ha' : x.a < O.length := by rw [h.len]; exact ha
  refine ⟨by rw [List.length_set]; exact h.len, fun s hs k hk => ?_, fun k hk => ?_, fun k hk => ?_⟩
  · rw [List.length_set] at hk
    have h1 := h.sol s hs k hk
    have h2 := h.sol s hs x.b (by rw [h.len]; exact hb)
    have h3 := hs.2 x hx
    simp only [Ru.ok] at h3
    rw [Box.lo_set ha', Box.hi_set ha']
    by_cases e : k = x.a
    · subst e; rw [if_pos rfl, if_pos rfl]; simp only; omega
    · rw [if_neg e, if_neg e]; exact h1
  · have := h.low k hk
    rw [Box.lo_set ha']
    by_cases e : k = x.a
    · subst e; rw [if_pos rfl]; exact this
    · rw [if_neg e]; exact this
  · have := h.high k hk
    rw [Box.hi_set ha']
    by_cases e : k = x.a
    · subst e; rw [if_pos rfl]; simp only; omega
    · rw [if_neg e]; exact this
/-- Nothing changes any more. -/
theorem Nar.end {L : Box} {R : List Ru} {O : Box} (h : Nar L R O) (_hR : ∀ x ∈ R, x.a < L.length ∧ x.b < L.length)
    (hv : ∀ k, k < L.length → O.lo k ≤ O.hi k) (h1 : ∀ x ∈ R, O.lo x.a + x.least ≤ O.lo x.b) (h2 : ∀ x ∈ R, O.hi x.a ≤ O.hi x.b - x.least) : Narrow L R (some O) := by
  refine ⟨h.len, ⟨fun k hk => ?_, h1⟩, ⟨fun k hk => ?_, fun x hx => ?_⟩, h.sol⟩
  · have := h.low k hk; have := h.high k hk; have := hv k hk
    omega
  · have := h.low k hk; have := h.high k hk; have := hv k hk
    omega
  · have := h2 x hx
    simp only [Ru.ok]
    omega

/-- The reference's rules of a stint, and what entries say of a time. -/
def Rel.ruleR (r : Rel) (i : Nat) : List Ru :=
  ⟨2 * i, 2 * i + 1, 1⟩ :: ((if 0 < i then [⟨2 * i - 2, 2 * i, 1⟩] else []) ++ (match r.prev (r.st i).rider i with | some k => [⟨2 * k + 1, 2 * i, r.rest⟩] | Option.none => []))
def Rel.rulesR (r : Rel) : List Ru := (List.range r.n).flatMap r.ruleR
def meetS (a b : Int × Int) : Int × Int := (max a.1 b.1, min a.2 b.2)
def Rel.firstAt (r : Rel) (set k : Nat) : Int × Int :=
  let n := k / 2 * 4 + k % 2 * 2
  let a := if set.testBit n then meetS (0, 600) (r.entry n) else (0, 600)
  if set.testBit (n + 1) then meetS a (r.entry (n + 1)) else a
def Rel.first (r : Rel) (set : Nat) : Box := (List.range (2 * r.n)).map (r.firstAt set)
theorem Rel.first_length (r : Rel) (set : Nat) : (r.first set).length = 2 * r.n := by simp [Rel.first]
theorem Rel.first_at (r : Rel) (set : Nat) {k : Nat} (hk : k < 2 * r.n) : (r.first set).getD k (0, 0) = r.firstAt set k := by
  simp [Rel.first, List.getD_eq_getElem?_getD, List.getElem?_map, List.getElem?_range hk]
theorem Rel.firstAt_fits (r : Rel) (set k : Nat) (z : Int) : ((r.firstAt set k).1 ≤ z ∧ z ≤ (r.firstAt set k).2) ↔
    0 ≤ z ∧ z ≤ 600 ∧ (set.testBit (k / 2 * 4 + k % 2 * 2) = true → (r.entry (k / 2 * 4 + k % 2 * 2)).1 ≤ z ∧ z ≤ (r.entry (k / 2 * 4 + k % 2 * 2)).2) ∧
    (set.testBit (k / 2 * 4 + k % 2 * 2 + 1) = true → (r.entry (k / 2 * 4 + k % 2 * 2 + 1)).1 ≤ z ∧ z ≤ (r.entry (k / 2 * 4 + k % 2 * 2 + 1)).2) := by
  simp only [Rel.firstAt]
  obtain ⟨n, hn⟩ : ∃ n, k / 2 * 4 + k % 2 * 2 = n := ⟨_, rfl⟩
  rw [hn]
  cases h1 : set.testBit n <;> cases h2 : set.testBit (n + 1) <;> simp [meetS] <;> omega
theorem Rel.mem_rulesR {r : Rel} {x : Ru} : x ∈ r.rulesR ↔ ∃ i, i < r.n ∧ (x = ⟨2 * i, 2 * i + 1, 1⟩ ∨ (0 < i ∧ x = ⟨2 * i - 2, 2 * i, 1⟩) ∨ ∃ k, r.prev (r.st i).rider i = some k ∧ x = ⟨2 * k + 1, 2 * i, r.rest⟩) := by
  simp only [Rel.rulesR, List.mem_flatMap, List.mem_range, Rel.ruleR, List.mem_cons, List.mem_append]
  refine exists_congr fun i => and_congr Iff.rfl (or_congr Iff.rfl (or_congr ?_ ?_))
  · split
    · next h => simp [h]
    · next h => simp [h]
  · cases h : r.prev (r.st i).rider i with
    | none => simp
    | some k => simp
theorem Rel.rulesR_lt {r : Rel} {x : Ru} (hx : x ∈ r.rulesR) : x.a < 2 * r.n ∧ x.b < 2 * r.n := by
  obtain ⟨i, hi, rfl | ⟨h0, rfl⟩ | ⟨k, hk, rfl⟩⟩ := Rel.mem_rulesR.1 hx
  · simp only; omega
  · simp only; omega
  · have := (Rel.prev_some hk).1
    simp only; omega
/-- A truth is what lies in the spans of all entries, and keeps the rules. -/
theorem Rel.truth_iff (r : Rel) (set : Nat) (s : Nat → Int) : Truth r set s ↔ NSol (r.first set) r.rulesR s := by
  constructor
  · intro h
    refine ⟨fun k hk => ?_, fun x hx => ?_⟩
    · rw [r.first_length] at hk
      rw [Box.lo, Box.hi, r.first_at set hk, Rel.firstAt_fits]
      have hr := h.range hk
      refine ⟨hr.1, hr.2, fun hb => ?_, fun hb => ?_⟩
      · have := h.said _ (by omega) hb
        rwa [show timeOf (k / 2 * 4 + k % 2 * 2) = k by simp only [timeOf]; omega] at this
      · have := h.said _ (by omega) hb
        rwa [show timeOf (k / 2 * 4 + k % 2 * 2 + 1) = k by simp only [timeOf]; omega] at this
    · obtain ⟨i, hi, rfl | ⟨h0, rfl⟩ | ⟨k, hk, rfl⟩⟩ := Rel.mem_rulesR.1 hx
      · exact (h.own i hi).2.2
      · exact h.next i hi h0
      · exact h.rest i k hi hk
  · rintro ⟨h1, h2⟩
    have hf : ∀ k, k < 2 * r.n → _ := fun k hk => by
      have := h1 k (by rw [r.first_length]; exact hk)
      rw [Box.lo, Box.hi, r.first_at set hk, Rel.firstAt_fits] at this
      exact this
    refine ⟨fun i hi => ⟨(hf (2 * i) (by omega)).1, (hf (2 * i + 1) (by omega)).2.1, h2 _ (Rel.mem_rulesR.2 ⟨i, hi, .inl rfl⟩)⟩, fun i hi h0 => h2 _ (Rel.mem_rulesR.2 ⟨i, hi, .inr (.inl ⟨h0, rfl⟩)⟩), fun i k hi hk => h2 _ (Rel.mem_rulesR.2 ⟨i, hi, .inr (.inr ⟨k, hk, rfl⟩)⟩), fun n hn hb => ?_⟩
    obtain ⟨_, _, g1, g2⟩ := hf (timeOf n) (by simp only [timeOf]; omega)
    by_cases e : n % 2 = 0
    · have en : timeOf n / 2 * 4 + timeOf n % 2 * 2 = n := by simp only [timeOf]; omega
      rw [en] at g1
      exact g1 hb
    · have en : timeOf n / 2 * 4 + timeOf n % 2 * 2 + 1 = n := by simp only [timeOf]; omega
      rw [en] at g2
      exact g2 hb
end Go.Proofs.Ytccgakdaiaigoaa

namespace Go.Proofs.Ytccgakdaiaigoaa

theorem ext_stint {r : Rel} {s : Nat → Int} {k : Nat} (hk : k < 2 * r.n) : ext r s k = s k := by simp only [ext]; rw [if_pos hk]
theorem ext_zero {r : Rel} (hv : r.valid = true) (s : Nat → Int) : ext r s 10 = 0 := by
  have := (r.ok_of hv).2.2.1
  simp only [ext]; rw [if_neg (by omega)]
/-- By the table and by the spans: the same ends. -/
theorem Rel.ends_eq {r : Rel} (hv : r.valid = true) {set : Nat} {T : Tab} (hT : r.tab set = some T) {O : Box} (hO : Narrow (r.first set) r.rulesR (some O)) {k : Nat} (hk : k < 2 * r.n) :
    T 10 k = O.hi k ∧ - T k 10 = O.lo k := by
  obtain ⟨hl, h1, h2, h3⟩ := hO
  rw [r.first_length] at hl
  have ez := fun s => ext_zero hv s
  have eo := fun s => ext_stint (r := r) (s := s) hk
  obtain ⟨⟨s, hs, e⟩, hm⟩ := Rel.tab_hi hv hT (i := 10) (k := k) (.inr rfl) (.inl hk)
  obtain ⟨⟨s', hs', e'⟩, hm'⟩ := Rel.tab_hi hv hT (i := k) (k := 10) (.inl hk) (.inr rfl)
  rw [ez, eo] at e e'
  have a1 := hm O.hi ((r.truth_iff set _).2 h2)
  have a2 := hm' O.lo ((r.truth_iff set _).2 h1)
  rw [ez, eo] at a1 a2
  have b1 := h3 s ((r.truth_iff set s).1 hs) k (by omega)
  have b2 := h3 s' ((r.truth_iff set s').1 hs') k (by omega)
  omega
theorem Rel.narrow_can {r : Rel} {set : Nat} {o : Option Box} (hO : Narrow (r.first set) r.rulesR o) : o.isSome = true ↔ ∃ s, Truth r set s := by
  cases o with
  | none =>
    simp only [Option.isSome_none, Bool.false_eq_true, false_iff]
    rintro ⟨s, hs⟩
    exact hO s ((r.truth_iff set s).1 hs)
  | some O => simp only [Option.isSome_some, true_iff]; exact ⟨_, (r.truth_iff set _).2 hO.2.1⟩
/-- With some bounds more there is still a truth. -/
theorem Rel.also {r : Rel} (hv : r.valid = true) (set : Nat) {l : List Bd} (hl : ∀ x ∈ l, r.isT x.a ∧ r.isT x.b) :
    (know (r.tab set) l).isSome = true ↔ ∃ s, Truth r set s ∧ ∀ x ∈ l, x.ok (ext r s) := by
  have hs := (r.tab_says hv set).know (l := l) (fun x hx => ⟨r.isT_lt hv (hl x hx).1, r.isT_lt hv (hl x hx).2⟩)
  rw [hs.can]
  constructor
  · rintro ⟨s, ⟨hn, hk⟩, h⟩
    refine ⟨_, Truth.of hk, fun x hx => ?_⟩
    have e : ∀ j, r.isT j → ext r (fun k => s k - s 10) j = s j - s 10 := by
      intro j hj
      rcases hj with hj | rfl
      · exact ext_stint hj
      · rw [ext_zero hv]; omega
    have := h x hx
    simp only [Bd.ok] at this ⊢
    rw [e _ (hl x hx).1, e _ (hl x hx).2]
    omega
  · rintro ⟨s, ht, h⟩
    exact ⟨_, ht.ext hv, h⟩
/-- Narrowing with one rule more. -/
theorem Rel.with_iff {r : Rel} {set : Nat} {x : Ru} {o : Option Box} (hO : Narrow (r.first set) (r.rulesR ++ [x]) o) : o.isSome = true ↔ ∃ s, Truth r set s ∧ x.ok s := by
  have e : ∀ s, NSol (r.first set) (r.rulesR ++ [x]) s ↔ Truth r set s ∧ x.ok s := by
    intro s
    rw [r.truth_iff]
    simp only [NSol, List.forall_mem_append, List.forall_mem_singleton, and_assoc]
  cases o with
  | none =>
    simp only [Option.isSome_none, Bool.false_eq_true, false_iff]
    rintro ⟨s, hs⟩
    exact hO s ((e s).2 hs)
  | some O => simp only [Option.isSome_some, true_iff]; exact ⟨_, (e _).1 hO.2.1⟩
/-- Narrowing of spans that are less wide. -/
theorem Rel.less_iff {r : Rel} {set : Nat} {L : Box} {P : (Nat → Int) → Prop} (hL : ∀ s, L.fits s ↔ (r.first set).fits s ∧ P s) {o : Option Box} (hO : Narrow L r.rulesR o) : o.isSome = true ↔ ∃ s, Truth r set s ∧ P s := by
  have e : ∀ s, NSol L r.rulesR s ↔ Truth r set s ∧ P s := by
    intro s
    rw [r.truth_iff]
    simp only [NSol, hL]
    constructor
    · rintro ⟨⟨a, b⟩, c⟩; exact ⟨⟨a, c⟩, b⟩
    · rintro ⟨⟨a, c⟩, b⟩; exact ⟨⟨a, b⟩, c⟩
  cases o with
  | none =>
    simp only [Option.isSome_none, Bool.false_eq_true, false_iff]
    rintro ⟨s, hs⟩
    exact hO s ((e s).2 hs)
  | some O => simp only [Option.isSome_some, true_iff]; exact ⟨_, (e _).1 hO.2.1⟩

/-- All entries. -/
def Rel.every (r : Rel) : Nat := 2 ^ (4 * r.n) - 1
theorem Rel.every_bit {r : Rel} {n : Nat} : r.every.testBit n = decide (n < 4 * r.n) := by
  rw [Rel.every, Nat.testBit_two_pow_sub_one]
/-- The span of one time after another one. -/
def Tab.span (T : Tab) (a b : Nat) : Int × Int := (- T b a, T a b)
/-- The result of a function: what it is if there is a truth, and the error. -/
def Rel.told {α : Type} (r : Rel) (is : Bool) (none : α) (f : Tab → α) : α × Int :=
  if r.valid then if is then match r.tab r.every with | some T => (f T, 0) | Option.none => (none, 10) else (none, 2) else (none, 1)
def Rel.isStint (r : Rel) (i : Int) : Bool := decide (0 ≤ i) && decide (i ≤ (r.n : Int) - 1)
def onOf (r : Rel) (i : Int) : (Int × Int) × Int := r.told (r.isStint i) (0, 0) fun T => T.span 10 (2 * i.toNat)
def offOf (r : Rel) (i : Int) : (Int × Int) × Int := r.told (r.isStint i) (0, 0) fun T => T.span 10 (2 * i.toNat + 1)
def lengthOf (r : Rel) (i : Int) : (Int × Int) × Int := r.told (r.isStint i) (0, 0) fun T => T.span (2 * i.toNat) (2 * i.toNat + 1)
def handedAt (T : Tab) (i : Nat) : Int :=
  let s := T.span (2 * i + 2) (2 * i + 1)
  if 0 ≤ s.1 then 2 else if s.2 < 0 then 0 else 1
def handedOf (r : Rel) (i : Int) : Int × Int := r.told (r.isStint i && r.isStint (i + 1)) 0 fun T => handedAt T i.toNat
end Go.Proofs.Ytccgakdaiaigoaa

namespace Go.Proofs.Ytccgakdaiaigoaa

/-- How many are in a set. -/
def popc (n : Nat) : Nat := (List.range 64).countP fun i => n.testBit i
def lesserB (a b : Nat) : Bool := decide (popc a < popc b) || (decide (popc a = popc b) && decide (a < b))
def Sub (a b : Nat) : Prop := ∀ i, a.testBit i = true → b.testBit i = true
theorem Sub.pop {a b : Nat} (h : Sub a b) : popc a ≤ popc b := List.countP_mono_left fun i _ hi => h i hi
theorem Sub.le {a b : Nat} (h : Sub a b) : a ≤ b := by
  have e : a = a &&& b := by
    apply Nat.eq_of_testBit_eq
    intro i
    rw [Nat.testBit_and]
    cases ha : a.testBit i
    · rfl
    · rw [h i ha]; rfl
  rw [e]
  exact Nat.and_le_right
theorem lesser_iff {a b : Nat} : lesserB a b = true ↔ popc a < popc b ∨ (popc a = popc b ∧ a < b) := by
  simp only [lesserB, Bool.or_eq_true, Bool.and_eq_true, decide_eq_true_eq]
theorem lesser_not {a b : Nat} : lesserB a b = false ↔ popc b < popc a ∨ (popc a = popc b ∧ b ≤ a) := by
  rw [Bool.eq_false_iff, Ne, lesser_iff]
  omega
theorem Sub.not_lesser {a b : Nat} (h : Sub a b) : lesserB b a = false := by
  have h1 := h.pop
  have h2 := h.le
  rw [lesser_not]
  omega
/-- One set comes no later than another one. -/
def Le (a b : Nat) : Prop := lesserB b a = false
theorem Le.refl (a : Nat) : Le a a := by rw [Le, lesser_not]; omega
theorem Le.trans {a b c : Nat} (h1 : Le a b) (h2 : Le b c) : Le a c := by
  rw [Le, lesser_not] at *
  omega
theorem Le.antisymm {a b : Nat} (h1 : Le a b) (h2 : Le b a) : a = b := by
  rw [Le, lesser_not] at *
  omega
theorem Le.of_lesser {a b : Nat} (h : lesserB a b = true) : Le a b := by
  rw [lesser_iff] at h
  rw [Le, lesser_not]
  omega
/-- The least set that suits. -/
structure Least (q : Nat → Prop) (b : Nat) : Prop where
  is : q b
  le : ∀ c, q c → Le b c
theorem Least.eq {q : Nat → Prop} {a b : Nat} (h1 : Least q a) (h2 : Least q b) : a = b := (h1.le b h2.is).antisymm (h2.le a h1.is)
theorem countP_lt {p q : Nat → Bool} : ∀ {l : List Nat}, (∀ i ∈ l, p i = true → q i = true) → (∃ i ∈ l, p i = false ∧ q i = true) → l.countP p < l.countP q
  | [], _, h => by obtain ⟨i, hi, _⟩ := h; simp at hi
  | x :: l, h1, h2 => by
    have hle : l.countP p ≤ l.countP q := List.countP_mono_left fun i hi h => h1 i (by simp [hi]) h
    obtain ⟨i, hi, hp, hq⟩ := h2
    rcases List.mem_cons.1 hi with rfl | hi
    · rw [List.countP_cons_of_neg (by rw [hp]; simp), List.countP_cons_of_pos hq]
      omega
    · have := countP_lt (fun j hj h => h1 j (by simp [hj]) h) ⟨i, hi, hp, hq⟩
      simp only [List.countP_cons]
      have hx := h1 x (by simp)
      cases hpx : p x
      · simp; omega
      · rw [hx hpx]; simp; omega
theorem Sub.lt {a b : Nat} (h : Sub a b) (hb : b < 2 ^ 64) (hne : a ≠ b) : popc a < popc b := by
  refine countP_lt (fun i _ hi => h i hi) ?_
  apply Classical.byContradiction
  intro hn
  apply hne
  apply Nat.eq_of_testBit_eq
  intro i
  cases ha : a.testBit i with
  | true => exact (h i ha).symm
  | false =>
    cases hbi : b.testBit i with
    | false => rfl
    | true =>
      exfalso
      refine hn ⟨i, List.mem_range.2 ?_, ha, hbi⟩
      apply Classical.byContradiction
      intro h64
      rw [Nat.testBit_lt_two_pow (Nat.lt_of_lt_of_le hb (Nat.pow_le_pow_right (by decide) (by omega)))] at hbi
      cases hbi
theorem sub_full {c m : Nat} (h : c < 2 ^ m) : Sub c (2 ^ m - 1) := by
  intro i hi
  rw [Nat.testBit_two_pow_sub_one, decide_eq_true_eq]
  apply Classical.byContradiction
  intro hm
  rw [Nat.testBit_lt_two_pow (Nat.lt_of_lt_of_le h (Nat.pow_le_pow_right (by decide) (by omega)))] at hi
  cases hi
theorem full_lt {c m : Nat} (hm : m ≤ 20) (h : c < 2 ^ m - 1) : popc c < popc (2 ^ m - 1) := by
  have h1 : 2 ^ m ≤ 2 ^ 20 := Nat.pow_le_pow_right (by decide) hm
  have h2 : (2 : Nat) ^ 20 < 2 ^ 64 := by decide
  exact (sub_full (c := c) (m := m) (by omega)).lt (by omega) (by omega)
/-- All sets are tried, one after the other. -/
def tried (p : Nat → Bool) (every : Nat) : Nat → Nat
  | 0 => every
  | k + 1 => if decide (popc k < popc (tried p every k)) && p k then k else tried p every k
theorem tried_spec (p : Nat → Bool) {every : Nat} (hp : p every = true) (hfull : ∀ c, c < every → popc c < popc every) (k : Nat) (hk : k ≤ every + 1) :
    p (tried p every k) = true ∧ tried p every k ≤ every ∧ (tried p every k = every ∨ tried p every k < k) ∧ ∀ c, c < k → p c = true → Le (tried p every k) c := by
  induction k with
  | zero => exact ⟨hp, Nat.le_refl _, .inl rfl, fun c hc => absurd hc (by omega)⟩
  | succ k ih =>
    obtain ⟨h1, h2, h3, h4⟩ := ih (by omega)
    simp only [tried]
    cases hx : decide (popc k < popc (tried p every k)) && p k with
    | true =>
      rw [if_pos rfl]
      rw [Bool.and_eq_true, decide_eq_true_eq] at hx
      refine ⟨hx.2, by omega, .inr (by omega), fun c hc hpc => ?_⟩
      by_cases e : c = k
      · rw [e]; exact Le.refl k
      · have := h4 c (by omega) hpc
        rw [Le, lesser_not] at *
        omega
    | false =>
      rw [if_neg (by simp)]
      refine ⟨h1, h2, by omega, fun c hc hpc => ?_⟩
      by_cases e : c = k
      · subst e
        rw [hpc, Bool.and_true, decide_eq_false_iff_not] at hx
        rw [Le, lesser_not]
        rcases h3 with h3 | h3
        · rw [h3] at hx ⊢
          by_cases h6 : c = every
          · subst h6; omega
          · have := hfull c (by omega)
            omega
        · omega
      · exact h4 c (by omega) hpc
/-- All sets up to the greatest one are tried: the least one that suits. -/
theorem tried_least (p : Nat → Bool) {m : Nat} (hm : m ≤ 20) (hp : p (2 ^ m - 1) = true) : Least (fun c => c ≤ 2 ^ m - 1 ∧ p c = true) (tried p (2 ^ m - 1) (2 ^ m)) := by
  have h0 : 0 < 2 ^ m := Nat.two_pow_pos m
  obtain ⟨h1, h2, _, h4⟩ := tried_spec p hp (fun c hc => full_lt hm hc) (2 ^ m) (by omega)
  exact ⟨⟨h2, h1⟩, fun c hc => h4 c (by omega) hc.2⟩

/-- Pairs of numbers are tried, each with all up to itself. -/
def pairStep (p : Nat → Bool) (b i k : Nat) : Nat := if lesserB (two i k) b && p (two i k) then two i k else b
def pairRow (p : Nat → Bool) (i : Nat) (b : Nat) : Nat → Nat
  | 0 => b
  | k + 1 => pairStep p (pairRow p i b k) i k
def pairs (p : Nat → Bool) (b : Nat) : Nat → Nat
  | 0 => b
  | i + 1 => pairRow p i (pairs p b i) (i + 1)
/-- Either the first one still, or a pair that suits; and none that was tried comes before it. -/
structure Tried (p : Nat → Bool) (b0 : Nat) (P : Nat → Nat → Prop) (b : Nat) : Prop where
  is : b = b0 ∨ ∃ i k, P i k ∧ b = two i k ∧ p (two i k) = true
  first : Le b b0
  le : ∀ i k, P i k → p (two i k) = true → Le b (two i k)
theorem Tried.step {p : Nat → Bool} {b0 : Nat} {P : Nat → Nat → Prop} {b : Nat} (h : Tried p b0 P b) (i k : Nat) {P' : Nat → Nat → Prop} (hP : ∀ a c, P' a c ↔ P a c ∨ (a = i ∧ c = k)) : Tried p b0 P' (pairStep p b i k) := by
  simp only [pairStep]
  cases hx : lesserB (two i k) b && p (two i k) with
  | true =>
    rw [if_pos rfl]
    rw [Bool.and_eq_true] at hx
    have hl := Le.of_lesser hx.1
    refine ⟨.inr ⟨i, k, (hP i k).2 (.inr ⟨rfl, rfl⟩), rfl, hx.2⟩, hl.trans h.first, fun a c hac hp => ?_⟩
    rcases (hP a c).1 hac with h1 | ⟨rfl, rfl⟩
    · exact hl.trans (h.le a c h1 hp)
    · exact Le.refl _
  | false =>
    rw [if_neg (by simp)]
    refine ⟨?_, h.first, fun a c hac hp => ?_⟩
    · rcases h.is with h1 | ⟨a, c, h1, h2⟩
      · exact .inl h1
      · exact .inr ⟨a, c, (hP a c).2 (.inl h1), h2⟩
    · rcases (hP a c).1 hac with h1 | ⟨rfl, rfl⟩
      · exact h.le a c h1 hp
      · rw [hp, Bool.and_true] at hx
        exact hx
theorem Tried.row {p : Nat → Bool} {b0 : Nat} {i b : Nat} (h : Tried p b0 (fun a c => c ≤ a ∧ a < i) b) (k : Nat) : Tried p b0 (fun a c => (c ≤ a ∧ a < i) ∨ (a = i ∧ c < k)) (pairRow p i b k) := by
  induction k with
  | zero => exact ⟨by simpa [pairRow] using h.is, h.first, fun a c hac hp => h.le a c (by omega) hp⟩
  | succ k ih => exact ih.step i k (fun a c => by omega)
theorem pairs_tried (p : Nat → Bool) (b0 : Nat) (m : Nat) : Tried p b0 (fun a c => c ≤ a ∧ a < m) (pairs p b0 m) := by
  induction m with
  | zero => exact ⟨.inl rfl, Le.refl _, fun a c hac => absurd hac (by omega)⟩
  | succ m ih =>
    have h := ih.row (m + 1)
    refine ⟨?_, h.first, fun a c hac hp => h.le a c (by omega) hp⟩
    rcases h.is with h1 | ⟨a, c, h1, h2⟩
    · exact .inl h1
    · exact .inr ⟨a, c, by omega, h2⟩
end Go.Proofs.Ytccgakdaiaigoaa

namespace Go.Proofs.Ytccgakdaiaigoaa

def subB (a b : Nat) : Bool := decide (a &&& b = a)
theorem subB_iff {a b : Nat} : subB a b = true ↔ Sub a b := by
  rw [subB, decide_eq_true_eq]
  constructor
  · intro h i hi
    rw [← h, Nat.testBit_and, Bool.and_eq_true] at hi
    exact hi.2
  · intro h
    apply Nat.eq_of_testBit_eq
    intro i
    rw [Nat.testBit_and]
    cases ha : a.testBit i
    · rfl
    · rw [h i ha]; rfl
/-- Is there a truth with the entries of a set? -/
def Rel.canB (r : Rel) (set : Nat) : Bool := (r.tab set).isSome
theorem Rel.canB_iff {r : Rel} (hv : r.valid = true) {set : Nat} : r.canB set = true ↔ ∃ s, Truth r set s := Rel.can hv set
theorem Rel.canB_sub {r : Rel} (hv : r.valid = true) {a b : Nat} (h : ∀ n, n < 4 * r.n → a.testBit n = true → b.testBit n = true) (hb : r.canB b = true) : r.canB a = true := by
  obtain ⟨s, hs⟩ := (Rel.canB_iff hv).1 hb
  exact (Rel.canB_iff hv).2 ⟨s, hs.mono h⟩
abbrev allOnes : Nat := 18446744073709551615
def Rel.clashP (r : Rel) (set : Nat) : Nat → Bool := fun s => subB s set && !r.canB s
/-- The fewest entries of a set that cannot all be so. -/
def Rel.clashIn (r : Rel) (set : Nat) : Option Nat := if r.canB set then none else some (pairs (r.clashP set) allOnes (4 * r.n))
theorem Rel.clashP_iff {r : Rel} {set s : Nat} : r.clashP set s = true ↔ Sub s set ∧ r.canB s = false := by
  simp only [Rel.clashP, Bool.and_eq_true, subB_iff, Bool.not_eq_true']
theorem popc_ones : popc allOnes = 64 := by decide +kernel
theorem popc_le (a : Nat) : popc a ≤ 64 := by
  have := List.countP_le_length (p := fun i => a.testBit i) (l := List.range 64)
  rw [List.length_range] at this
  exact this
theorem two_sub {i k set : Nat} (hi : set.testBit i = true) (hk : set.testBit k = true) : Sub (two i k) set := by
  intro n hn
  rcases two_bit.1 hn with rfl | rfl
  · exact hi
  · exact hk
theorem two_lt {i k m : Nat} (hi : i < m) (hk : k < m) : two i k < 2 ^ m := by
  apply Nat.lt_pow_two_of_testBit
  intro n hn
  cases h : (two i k).testBit n with
  | false => rfl
  | true => rcases two_bit.1 h with rfl | rfl <;> omega
theorem Rel.clashIn_some {r : Rel} (hv : r.valid = true) {set C : Nat} (h : r.clashIn set = some C) :
    r.canB set = false ∧ (∃ i k, k ≤ i ∧ i < 4 * r.n ∧ C = two i k) ∧ Sub C set ∧ r.canB C = false ∧ ∀ c, Sub c set → r.canB c = false → Le C c := by
  simp only [Rel.clashIn] at h
  have h5 := (r.ok_of hv).2.2.1
  cases hc : r.canB set with
  | true => rw [hc] at h; simp at h
  | false =>
    rw [hc] at h
    have hC : pairs (r.clashP set) allOnes (4 * r.n) = C := by simpa using h
    have ht := pairs_tried (r.clashP set) allOnes (4 * r.n)
    rw [hC] at ht
    -- each set that clashes has a pair that does
    have hpair : ∀ c, Sub c set → r.canB c = false → ∃ i k, k ≤ i ∧ i < 4 * r.n ∧ Sub (two i k) c ∧ r.clashP set (two i k) = true := by
      intro c hs hcb
      obtain ⟨i, k, h1, h2, h3, h4, h5⟩ := Rel.clash_two hv (set := c) (fun hn => by rw [(Rel.canB_iff hv).2 hn] at hcb; cases hcb)
      have hsub := two_sub h3 h4
      refine ⟨i, k, h2, h1, hsub, Rel.clashP_iff.2 ⟨fun n hn => hs n (hsub n hn), ?_⟩⟩
      cases hx : r.canB (two i k) with
      | false => rfl
      | true => exact (h5 ((Rel.canB_iff hv).1 hx)).elim
    have hle : ∀ c, Sub c set → r.canB c = false → Le C c := by
      intro c hs hcb
      obtain ⟨i, k, h1, h2, h3, h4⟩ := hpair c hs hcb
      exact (ht.le i k ⟨h1, h2⟩ h4).trans h3.not_lesser
    obtain ⟨i, k, h1, h2, _, h4⟩ := hpair set (fun _ h => h) hc
    have hlt := ht.le i k ⟨h1, h2⟩ h4
    rcases ht.is with e | ⟨a, c, ⟨h6, h7⟩, h8, h9⟩
    · exfalso
      rw [e, Le, lesser_not, popc_ones] at hlt
      have h10 : two i k < 2 ^ 20 := two_lt (by omega) (by omega)
      have h11 : popc (two i k) < popc (2 ^ 64 - 1) := (sub_full (c := two i k) (m := 64) (Nat.lt_trans h10 (by decide))).lt (by decide) (by
        intro e2
        rw [e2] at h10
        exact absurd h10 (by decide))
      rw [show (2 : Nat) ^ 64 - 1 = allOnes from rfl, popc_ones] at h11
      omega
    · have := Rel.clashP_iff.1 h9
      rw [← h8] at this
      exact ⟨rfl, ⟨a, c, h6, h7, h8⟩, this.1, this.2, hle⟩
/-- The result of Clash. -/
def clashOf (r : Rel) : Int × Int := if r.valid then match r.clashIn r.every with | none => (0, 4) | some s => ((s : Int), 0) else (0, 1)

/-- The members of a set, the least one first. -/
def bitsOf (n : Nat) : List Nat := (List.range 64).filter fun i => n.testBit i
/-- One entry more is left out of each clash, until nothing clashes. -/
def Rel.less (r : Rel) : Nat → Nat → Nat → Nat
  | 0, _, best => best
  | f + 1, out, best => if lesserB out best then match r.clashIn (r.every ^^^ out) with
    | none => out
    | some C => (bitsOf C).foldl (fun b i => Rel.less r f (out ||| 2 ^ i) b) best else best
/-- Without these there is a truth. -/
def Rel.right (r : Rel) (W : Nat) : Prop := Sub W r.every ∧ r.canB (r.every ^^^ W) = true
def Rel.wrongOf (r : Rel) : Int × Int := if r.valid then if r.canB r.every then (0, 4) else ((r.less (4 * r.n + 1) 0 allOnes : Int), 0) else (0, 1)
theorem or_bit {out i n : Nat} : (out ||| 2 ^ i).testBit n = true ↔ out.testBit n = true ∨ n = i := by
  simp only [Nat.testBit_or, Nat.testBit_two_pow, Bool.or_eq_true, decide_eq_true_eq]
  constructor <;> rintro (h | h) <;> first | exact .inl h | exact .inr h.symm
theorem every_sub_lt {r : Rel} (hv : r.valid = true) {a : Nat} (h : Sub a r.every) : a < 2 ^ 64 := by
  have h1 := h.le
  have h5 := (r.ok_of hv).2.2.1
  have h2 : 2 ^ (4 * r.n) ≤ 2 ^ 20 := Nat.pow_le_pow_right (by decide) (by omega)
  have h3 : (2 : Nat) ^ 20 < 2 ^ 64 := by decide
  simp only [Rel.every] at h1
  omega
theorem popc_every (r : Rel) (hv : r.valid = true) : popc r.every = 4 * r.n := by
  have h5 := (r.ok_of hv).2.2.1
  have : r.n = 0 ∨ r.n = 1 ∨ r.n = 2 ∨ r.n = 3 ∨ r.n = 4 ∨ r.n = 5 := by omega
  simp only [Rel.every]
  rcases this with e | e | e | e | e | e <;> rw [e] <;> decide +kernel
theorem Rel.less_spec {r : Rel} (hv : r.valid = true) : ∀ (f out best : Nat), Sub out r.every → 4 * r.n < f + popc out → (best = allOnes ∨ r.right best) →
    (r.less f out best = allOnes ∨ r.right (r.less f out best)) ∧ Le (r.less f out best) best ∧ ∀ W, r.right W → Sub out W → Le (r.less f out best) W
  | 0, out, best, ho, hf, hb => by
    have := ho.pop
    rw [popc_every r hv] at this
    omega
  | f + 1, out, best, ho, hf, hb => by
    simp only [Rel.less]
    cases hl : lesserB out best with
    | false =>
      rw [if_neg (by simp)]
      exact ⟨hb, Le.refl _, fun W _ hs => Le.trans hl hs.not_lesser⟩
    | true =>
      rw [if_pos rfl]
      cases hc : r.clashIn (r.every ^^^ out) with
      | none =>
        have hcan : r.canB (r.every ^^^ out) = true := by
          simp only [Rel.clashIn] at hc
          cases h : r.canB (r.every ^^^ out) with
          | true => rfl
          | false => rw [h] at hc; simp at hc
        exact ⟨.inr ⟨ho, hcan⟩, Le.of_lesser hl, fun W _ hs => hs.not_lesser⟩
      | some C =>
        obtain ⟨_, _, hsub, hcl, _⟩ := Rel.clashIn_some hv hc
        -- each member is one that is still there
        have hm : ∀ i, i ∈ bitsOf C → r.every.testBit i = true ∧ out.testBit i = false := by
          intro i hi
          have h1 := hsub i (List.mem_filter.1 hi).2
          rw [Nat.testBit_xor] at h1
          cases ho2 : out.testBit i with
          | false => rw [ho2] at h1; exact ⟨by simpa using h1, rfl⟩
          | true => rw [ho2, ho i ho2] at h1; simp at h1
        have hso : ∀ i, i ∈ bitsOf C → Sub (out ||| 2 ^ i) r.every ∧ 4 * r.n < f + popc (out ||| 2 ^ i) := by
          intro i hi
          obtain ⟨h1, h2⟩ := hm i hi
          have hsub2 : Sub (out ||| 2 ^ i) r.every := by
            intro n hn
            rcases or_bit.1 hn with h | rfl
            · exact ho n h
            · exact h1
          have hlt : popc out < popc (out ||| 2 ^ i) := by
            have h3 : Sub out (out ||| 2 ^ i) := fun n hn => or_bit.2 (.inl hn)
            refine h3.lt (every_sub_lt hv hsub2) fun e => ?_
            have h4 : (out ||| 2 ^ i).testBit i = true := or_bit.2 (.inr rfl)
            rw [← e, h2] at h4
            cases h4
          exact ⟨hsub2, by omega⟩
        -- a right set that holds what is out holds a member
        have hit : ∀ W, r.right W → Sub out W → ∃ i, i ∈ bitsOf C ∧ Sub (out ||| 2 ^ i) W := by
          intro W hW hs
          apply Classical.byContradiction
          intro hn
          have hno : ∀ i, C.testBit i = true → W.testBit i = false := by
            intro i hi
            cases hw : W.testBit i with
            | false => rfl
            | true =>
              exfalso
              refine hn ⟨i, List.mem_filter.2 ⟨List.mem_range.2 ?_, hi⟩, fun n hn => ?_⟩
              · apply Classical.byContradiction
                intro h64
                rw [Nat.testBit_lt_two_pow (Nat.lt_of_lt_of_le (every_sub_lt hv hW.1) (Nat.pow_le_pow_right (by decide) (by omega)))] at hw
                cases hw
              · rcases or_bit.1 hn with h | rfl
                · exact hs n h
                · exact hw
          have h1 := Rel.canB_sub hv (a := C) (b := r.every ^^^ W) (fun n _ hn => by
            have h2 := hsub n hn
            rw [Nat.testBit_xor] at h2 ⊢
            rw [hno n hn]
            cases ho2 : out.testBit n with
            | false => rw [ho2] at h2; exact h2
            | true => have := hno n hn; rw [hs n ho2] at this; cases this) hW.2
          rw [hcl] at h1
          cases h1
        -- the fold
        have fold : ∀ (l : List Nat) (b : Nat), (∀ i ∈ l, i ∈ bitsOf C) → (b = allOnes ∨ r.right b) →
            (l.foldl (fun b i => Rel.less r f (out ||| 2 ^ i) b) b = allOnes ∨ r.right (l.foldl (fun b i => Rel.less r f (out ||| 2 ^ i) b) b)) ∧
            Le (l.foldl (fun b i => Rel.less r f (out ||| 2 ^ i) b) b) b ∧ ∀ W, r.right W → (∃ i ∈ l, Sub (out ||| 2 ^ i) W) → Le (l.foldl (fun b i => Rel.less r f (out ||| 2 ^ i) b) b) W := by
          intro l
          induction l with
          | nil => exact fun b _ hb => ⟨hb, Le.refl _, fun W _ h => by obtain ⟨i, hi, _⟩ := h; simp at hi⟩
          | cons i l ih =>
            intro b hl2 hb2
            obtain ⟨g1, g2⟩ := hso i (hl2 i (by simp))
            obtain ⟨k1, k2, k3⟩ := Rel.less_spec hv f (out ||| 2 ^ i) b g1 g2 hb2
            obtain ⟨j1, j2, j3⟩ := ih (Rel.less r f (out ||| 2 ^ i) b) (fun x hx => hl2 x (by simp [hx])) k1
            rw [List.foldl_cons]
            refine ⟨j1, j2.trans k2, fun W hW h => ?_⟩
            obtain ⟨x, hx, hxs⟩ := h
            rcases List.mem_cons.1 hx with rfl | hx
            · exact j2.trans (k3 W hW hxs)
            · exact j3 W hW ⟨x, hx, hxs⟩
        obtain ⟨f1, f2, f3⟩ := fold (bitsOf C) best (fun _ h => h) hb
        refine ⟨f1, f2, fun W hW hs => ?_⟩
        obtain ⟨i, hi, his⟩ := hit W hW hs
        exact f3 W hW ⟨i, hi, his⟩
end Go.Proofs.Ytccgakdaiaigoaa

namespace Go.Proofs.Ytccgakdaiaigoaa

/-- A number by its bytes, the least one first. -/
def val : List Nat → Nat
  | [] => 0
  | b :: l => b + 256 * val l
def rep (e : Nat) : Nat → Nat
  | 0 => 0
  | n + 1 => e + 256 * rep e n
theorem digit_and {b e : Nat} (q m : Nat) (hb : b < 256) (he : e < 256) : (b + 256 * q) &&& (e + 256 * m) = (b &&& e) + 256 * (q &&& m) := by
  have h : b &&& e < 2 ^ 8 := Nat.lt_of_le_of_lt Nat.and_le_left hb
  rw [Nat.add_comm b, Nat.add_comm e, Nat.add_comm (b &&& e)]
  apply Nat.eq_of_testBit_eq
  intro i
  rw [Nat.testBit_and, show (256 : Nat) = 2 ^ 8 from rfl, Nat.testBit_two_pow_mul_add q hb, Nat.testBit_two_pow_mul_add m he, Nat.testBit_two_pow_mul_add _ h]
  split <;> rw [Nat.testBit_and]
def f1 (b : Nat) : Nat := (b / 2 &&& 85) + (b &&& 85)
def f2 (b : Nat) : Nat := (b / 4 &&& 51) + (b &&& 51)
def f3 (b : Nat) : Nat := (b / 16 + b) &&& 15
theorem f1_val : ∀ l : List Nat, (∀ b ∈ l, b < 256) → (val l / 2 &&& rep 85 l.length) + (val l &&& rep 85 l.length) = val (l.map f1)
  | [], _ => rfl
  | b :: l, h => by
    have hb := h b (by simp)
    have ih := f1_val l (fun x hx => h x (by simp [hx]))
    simp only [val, rep, List.length_cons, List.map_cons]
    rw [digit_and _ _ hb (by decide), show (b + 256 * val l) / 2 = (b / 2 + 128 * (val l % 2)) + 256 * (val l / 2) by omega, digit_and _ _ (by omega) (by decide)]
    have e : (b / 2 + 128 * (val l % 2)) &&& 85 = b / 2 &&& 85 := by
      have key : ∀ c : Fin 256, ∀ d : Fin 2, (c.val / 2 + 128 * d.val) &&& 85 = c.val / 2 &&& 85 := by decide +kernel
      exact key ⟨b, hb⟩ ⟨val l % 2, by omega⟩
    rw [e]
    simp only [f1]
    omega
theorem f2_val : ∀ l : List Nat, (∀ b ∈ l, b < 256) → (val l / 4 &&& rep 51 l.length) + (val l &&& rep 51 l.length) = val (l.map f2)
  | [], _ => rfl
  | b :: l, h => by
    have hb := h b (by simp)
    have ih := f2_val l (fun x hx => h x (by simp [hx]))
    simp only [val, rep, List.length_cons, List.map_cons]
    rw [digit_and _ _ hb (by decide), show (b + 256 * val l) / 4 = (b / 4 + 64 * (val l % 4)) + 256 * (val l / 4) by omega, digit_and _ _ (by omega) (by decide)]
    have e : (b / 4 + 64 * (val l % 4)) &&& 51 = b / 4 &&& 51 := by
      have key : ∀ c : Fin 256, ∀ d : Fin 4, (c.val / 4 + 64 * d.val) &&& 51 = c.val / 4 &&& 51 := by decide +kernel
      exact key ⟨b, hb⟩ ⟨val l % 4, by omega⟩
    rw [e]
    simp only [f2]
    omega
/-- Both halves of a byte are small. -/
def Small (b : Nat) : Prop := b % 16 ≤ 4 ∧ b / 16 ≤ 4
theorem f3_val : ∀ l : List Nat, (∀ b ∈ l, Small b) → (val l / 16 + val l) &&& rep 15 l.length = val (l.map f3) ∧ val l % 16 ≤ 4
  | [], _ => ⟨rfl, by simp [val]⟩
  | b :: l, h => by
    have hb := h b (by simp)
    obtain ⟨ih, ih2⟩ := f3_val l (fun x hx => h x (by simp [hx]))
    obtain ⟨hb1, hb2⟩ := hb
    simp only [val, rep, List.length_cons, List.map_cons]
    refine ⟨?_, by omega⟩
    rw [show (b + 256 * val l) / 16 + (b + 256 * val l) = (b / 16 + b + 16 * (val l % 16)) + 256 * (val l / 16 + val l) by omega, digit_and _ _ (by omega) (by decide), ih]
    have e : (b / 16 + b + 16 * (val l % 16)) &&& 15 = (b / 16 + b) &&& 15 := by
      have h1 : ∀ x : Nat, x &&& 15 = x % 16 := fun x => Nat.and_two_pow_sub_one_eq_mod x 4
      rw [h1, h1]
      omega
    rw [e]
    simp only [f3]
/-- How many bits of the first ones are set. -/
def cnt (n x : Nat) : Nat := (List.range n).countP fun i => x.testBit i
theorem cnt_byte {b : Nat} (hb : b < 256) (n q : Nat) : cnt (8 + n) (b + 256 * q) = cnt 8 b + cnt n q := by
  simp only [cnt]
  rw [List.range_add, List.countP_append, List.countP_map]
  congr 1
  · apply List.countP_congr
    intro i hi
    rw [Nat.add_comm b, show (256 : Nat) = 2 ^ 8 from rfl, Nat.testBit_two_pow_mul_add q hb, if_pos (List.mem_range.1 hi)]
  · apply List.countP_congr
    intro i _
    simp only [Function.comp]
    rw [Nat.add_comm b, show (256 : Nat) = 2 ^ 8 from rfl, Nat.testBit_two_pow_mul_add q hb, if_neg (by omega), show 8 + i - 8 = i by omega]
theorem f_cnt {b : Nat} (hb : b < 256) : f3 (f2 (f1 b)) = cnt 8 b ∧ f1 b < 256 ∧ Small (f2 (f1 b)) ∧ cnt 8 b ≤ 8 := by
  have key : ∀ c : Fin 256, f3 (f2 (f1 c.val)) = cnt 8 c.val ∧ f1 c.val < 256 ∧ (f2 (f1 c.val) % 16 ≤ 4 ∧ f2 (f1 c.val) / 16 ≤ 4) ∧ cnt 8 c.val ≤ 8 := by decide +kernel
  exact key ⟨b, hb⟩
def bytes (x : Nat) : List Nat := [x % 256, x / 256 % 256, x / 65536 % 256, x / 16777216 % 256, x / 4294967296 % 256, x / 1099511627776 % 256, x / 281474976710656 % 256, x / 72057594037927936 % 256]
theorem val_bytes {x : Nat} (hx : x < 18446744073709551616) : val (bytes x) = x := by
  simp only [bytes, val]
  omega
/-- What OnesCount computes. -/
def swar (x : Nat) : Nat :=
  let y := (x / 2 &&& 6148914691236517205) + (x &&& 6148914691236517205)
  let z := (y / 4 &&& 3689348814741910323) + (y &&& 3689348814741910323)
  (z / 16 + z) &&& 1085102592571150095
theorem popc_bytes {x : Nat} (hx : x < 18446744073709551616) : popc x = ((bytes x).map (cnt 8)).sum := by
  have hb : ∀ y : Nat, y % 256 < 256 := fun y => Nat.mod_lt _ (by decide)
  have e : popc x = cnt (8 + (8 + (8 + (8 + (8 + (8 + (8 + (8 + 0)))))))) (val (bytes x)) := by rw [val_bytes hx]; rfl
  rw [e]
  simp only [bytes, val]
  rw [cnt_byte (hb _), cnt_byte (hb _), cnt_byte (hb _), cnt_byte (hb _), cnt_byte (hb _), cnt_byte (hb _), cnt_byte (hb _), cnt_byte (hb _)]
  simp [cnt]
theorem swar_bytes {x : Nat} (hx : x < 18446744073709551616) : swar x = val ((bytes x).map (cnt 8)) := by
  have hb : ∀ b ∈ bytes x, b < 256 := by
    intro b hb
    simp only [bytes, List.mem_cons, List.not_mem_nil, or_false] at hb
    omega
  have h1 := f1_val (bytes x) hb
  rw [val_bytes hx, show (bytes x).length = 8 from rfl, show rep 85 8 = 6148914691236517205 from rfl] at h1
  have h2 := f2_val ((bytes x).map f1) (by
    intro b hb2
    obtain ⟨c, hc, rfl⟩ := List.mem_map.1 hb2
    exact (f_cnt (hb c hc)).2.1)
  rw [show ((bytes x).map f1).length = 8 from rfl, show rep 51 8 = 3689348814741910323 from rfl] at h2
  have h3 := (f3_val (((bytes x).map f1).map f2) (by
    intro b hb2
    obtain ⟨c, hc, rfl⟩ := List.mem_map.1 hb2
    obtain ⟨d, hd, rfl⟩ := List.mem_map.1 hc
    exact (f_cnt (hb d hd)).2.2.1)).1
  rw [show (((bytes x).map f1).map f2).length = 8 from rfl, show rep 15 8 = 1085102592571150095 from rfl] at h3
  simp only [swar]
  rw [h1, h2, h3, List.map_map, List.map_map]
  congr 1
  exact List.map_congr_left fun b hb2 => (f_cnt (hb b hb2)).1
end Go.Proofs.Ytccgakdaiaigoaa

namespace Go.Proofs.Ytccgakdaiaigoaa

theorem two_odd : ∀ n : Nat, 0 < n → ∃ i q, n = 2 ^ i * (2 * q + 1) := by
  intro n
  induction n using Nat.strongRecOn with
  | ind n ih =>
    intro hn
    by_cases h : n % 2 = 1
    · exact ⟨0, n / 2, by omega⟩
    · obtain ⟨i, q, e⟩ := ih (n / 2) (by omega) (by omega)
      exact ⟨i + 1, q, by rw [Nat.pow_succ, Nat.mul_comm (2 ^ i) 2, Nat.mul_assoc, ← e]; omega⟩
theorem odd_bit (i q j : Nat) : (2 ^ i * (2 * q + 1)).testBit j = if j < i then false else (2 * q + 1).testBit (j - i) := by
  have := Nat.testBit_two_pow_mul_add (2 * q + 1) (b := 0) (i := i) (Nat.two_pow_pos i) j
  simpa using this
theorem pred_bit (i q j : Nat) : (2 ^ i * (2 * q + 1) - 1).testBit j = if j < i then true else (2 * q).testBit (j - i) := by
  have h0 := Nat.two_pow_pos i
  have e : 2 ^ i * (2 * q + 1) - 1 = 2 ^ i * (2 * q) + (2 ^ i - 1) := by rw [Nat.mul_add, Nat.mul_one]; omega
  rw [e, Nat.testBit_two_pow_mul_add _ (by omega)]
  split
  · next h => rw [Nat.testBit_two_pow_sub_one]; simpa using h
  · rfl
theorem even_odd (q j : Nat) (h : 0 < j) : (2 * q + 1).testBit j = (2 * q).testBit j := by
  obtain ⟨k, rfl⟩ : ∃ k, j = k + 1 := ⟨j - 1, by omega⟩
  rw [Nat.testBit_succ, Nat.testBit_succ]
  congr 1
  omega
theorem filter_head {p q : Nat → Bool} {i : Nat} (h1 : ∀ j, j < i → p j = false) (h2 : p i = true) (h3 : ∀ j, j ≠ i → q j = p j) (h4 : q i = false) : ∀ (n s : Nat), s ≤ i → i < s + n → (List.range' s n).filter p = i :: (List.range' s n).filter q
  | 0, s, _, h => by omega
  | n + 1, s, hs, hn => by
    rw [List.range'_succ, List.filter_cons, List.filter_cons]
    by_cases e : s = i
    · subst e
      rw [h2, h4]
      simp only [if_true, Bool.false_eq_true, if_false]
      congr 1
      refine List.filter_congr fun x hx => ?_
      rw [List.mem_range'_1] at hx
      exact (h3 x (by omega)).symm
    · rw [h3 s e, h1 s (by omega)]
      simp only [Bool.false_eq_true, if_false]
      exact filter_head h1 h2 h3 h4 n (s + 1) (by omega) (by omega)
/-- The lowest member. -/
theorem low_bit {c : Nat} (h0 : c ≠ 0) (hc : c < 18446744073709551616) : ∃ i, i < 64 ∧ c.testBit i = true ∧ c &&& (18446744073709551616 - c) = 2 ^ i ∧ c &&& (c - 1) = c ^^^ 2 ^ i ∧ bitsOf c = i :: bitsOf (c ^^^ 2 ^ i) ∧ c ^^^ 2 ^ i < c := by
  obtain ⟨i, q, e⟩ := two_odd c (by omega)
  have hb : ∀ j, c.testBit j = if j < i then false else (2 * q + 1).testBit (j - i) := fun j => by rw [e]; exact odd_bit i q j
  have hp : ∀ j, (c - 1).testBit j = if j < i then true else (2 * q).testBit (j - i) := fun j => by rw [e]; exact pred_bit i q j
  have hii : c.testBit i = true := by rw [hb, if_neg (by omega), Nat.sub_self]; simp
  have hip : (c - 1).testBit i = false := by rw [hp, if_neg (by omega), Nat.sub_self]; simp
  have hge : ∀ j, i < j → (c - 1).testBit j = c.testBit j := fun j hj => by rw [hp, hb, if_neg (by omega), if_neg (by omega), even_odd q _ (by omega)]
  have hlt : ∀ j, j < i → c.testBit j = false := fun j hj => by rw [hb, if_pos hj]
  have hi64 : i < 64 := by
    apply Classical.byContradiction
    intro h
    have : c.testBit i = false := Nat.testBit_lt_two_pow (Nat.lt_of_lt_of_le hc (by
      have := Nat.pow_le_pow_right (n := 2) (by decide) (show 64 ≤ i by omega)
      simpa using this))
    rw [this] at hii; cases hii
  have hpw : ∀ j, (2 ^ i).testBit j = decide (i = j) := fun j => Nat.testBit_two_pow
  have hx : ∀ j, (c ^^^ 2 ^ i).testBit j = if j = i then false else c.testBit j := fun j => by
    rw [Nat.testBit_xor, hpw]
    by_cases ej : j = i
    · subst ej; rw [hii]; simp
    · have : ¬ i = j := fun e => ej e.symm
      simp [ej, this]
  have hand : c &&& (c - 1) = c ^^^ 2 ^ i := by
    apply Nat.eq_of_testBit_eq
    intro j
    rw [Nat.testBit_and, hx]
    by_cases ej : j = i
    · subst ej; rw [hip]; simp
    · rw [if_neg ej]
      rcases Nat.lt_or_ge j i with h | h
      · rw [hlt j h]; rfl
      · rw [hge j (by omega)]; simp
  refine ⟨i, hi64, hii, ?_, hand, ?_, ?_⟩
  · apply Nat.eq_of_testBit_eq
    intro j
    have e64 : 18446744073709551616 - c = 2 ^ 64 - ((c - 1) + 1) := by
      have : (2 : Nat) ^ 64 = 18446744073709551616 := by decide
      rw [this]; omega
    have hlt64 : c - 1 < 2 ^ 64 := by
      have : (2 : Nat) ^ 64 = 18446744073709551616 := by decide
      rw [this]; omega
    rw [e64, Nat.testBit_and, Nat.testBit_two_pow_sub_succ hlt64, hpw]
    by_cases ej : i = j
    · subst ej; rw [hii, hip]; simp [hi64]
    · rcases Nat.lt_or_ge j i with h | h
      · rw [hlt j h]; simp [ej]
      · rw [hge j (by omega)]; cases c.testBit j <;> simp [ej]
  · rw [bitsOf, bitsOf, List.range_eq_range']
    exact filter_head hlt hii (fun j hj => by rw [hx, if_neg hj]) (by rw [hx, if_pos rfl]) 64 0 (by omega) (by omega)
  · have h1 : c &&& (c - 1) ≤ c - 1 := Nat.and_le_right
    rw [hand] at h1
    omega
theorem bitsOf_zero : bitsOf 0 = [] := by
  rw [bitsOf, List.filter_eq_nil_iff]
  intro a _
  simp
end Go.Proofs.Ytccgakdaiaigoaa

namespace Go.Proofs.Ytccgakdaiaigoaa

def Box.wid (O : Box) : Int := (O.map fun s => s.2 - s.1).sum
theorem Box.wid_set : ∀ (O : Box) {j : Nat} (v : Int × Int), j < O.length → Box.wid (O.set j v) = O.wid - (O.hi j - O.lo j) + (v.2 - v.1)
  | [], j, v, h => by simp at h
  | s :: O, 0, v, _ => by simp [Box.wid, Box.hi, Box.lo]; omega
  | s :: O, j + 1, v, h => by
    have := Box.wid_set O (j := j) v (by simpa using h)
    simp only [Box.wid, Box.hi, Box.lo, List.set_cons_succ, List.map_cons, List.sum_cons, List.getD_cons_succ] at this ⊢
    omega
theorem Box.wid_low : ∀ (O : Box) (d : Int), (∀ k, k < O.length → -d ≤ O.hi k - O.lo k) → -d * (O.length : Int) ≤ O.wid
  | [], d, _ => by simp [Box.wid]
  | s :: O, d, h => by
    have h0 := h 0 (by simp)
    have h1 := Box.wid_low O d fun k hk => by
      have := h (k + 1) (by simpa using hk)
      simpa [Box.hi, Box.lo] using this
    simp only [Box.wid, Box.hi, Box.lo, List.map_cons, List.sum_cons, List.length_cons, List.getD_cons_zero] at h0 h1 ⊢
    rw [Int.natCast_add, Int.mul_add]
    simp only [Int.natCast_one, Int.mul_one]
    omega
/-- The spans' bounds while rules are gone through. -/
def Box.bnd (O : Box) (c : Int) : Prop := ∀ k, k < O.length → -1000 ≤ O.lo k ∧ O.lo k ≤ c ∧ -c ≤ O.hi k ∧ O.hi k ≤ 1000
theorem Box.bnd.mono {O : Box} {c d : Int} (h : O.bnd c) (hcd : c ≤ d) : O.bnd d := fun k hk => by have := h k hk; omega
theorem Box.bnd_valid {O : Box} {c : Int} (h : O.bnd c) (hv : ∀ k, k < O.length → O.lo k ≤ O.hi k) : O.bnd 1000 := fun k hk => by have := h k hk; have := hv k hk; omega
theorem Box.bnd_up {O : Box} {c x : Int} {b : Nat} (h : O.bnd c) (hb : b < O.length) (h1 : O.lo b < x) (h2 : x ≤ c + 1000) (_hc : 0 ≤ c) : Box.bnd (O.set b (x, O.hi b)) (c + 1000) := fun k hk => by
  rw [List.length_set] at hk
  have h3 := h k hk
  have h4 := h b hb
  rw [Box.lo_set hb, Box.hi_set hb]
  by_cases e : k = b
  · subst e; rw [if_pos rfl, if_pos rfl]; simp only; omega
  · rw [if_neg e, if_neg e]; omega
theorem Box.bnd_down {O : Box} {c x : Int} {a : Nat} (h : O.bnd c) (ha : a < O.length) (h1 : x < O.hi a) (h2 : -c - 1000 ≤ x) (_hc : 0 ≤ c) : Box.bnd (O.set a (O.lo a, x)) (c + 1000) := fun k hk => by
  rw [List.length_set] at hk
  have h3 := h k hk
  have h4 := h a ha
  rw [Box.lo_set ha, Box.hi_set ha]
  by_cases e : k = a
  · subst e; rw [if_pos rfl, if_pos rfl]; simp only; omega
  · rw [if_neg e, if_neg e]; omega
theorem Box.wid_bnd {O : Box} {c : Int} (h : O.bnd c) (hc : c ≤ 30000) (hn : O.length ≤ 10) : 0 < O.wid + 1000000 := by
  have := Box.wid_low O 60000 fun k hk => by have := h k hk; omega
  have h2 : (O.length : Int) ≤ 10 := by omega
  omega
/-- What a rule makes of spans: the latter time, then the former. -/
def Box.up (O : Box) (x : Ru) : Box := if O.lo x.b < O.lo x.a + x.least then O.set x.b (O.lo x.a + x.least, O.hi x.b) else O
def Box.down (O : Box) (x : Ru) : Box := if O.hi x.b - x.least < O.hi x.a then O.set x.a (O.lo x.a, O.hi x.b - x.least) else O
/-- What holds of spans when some rules have been gone through since the last look: whether they changed. -/
structure Pass (L : Box) (R : List Ru) (O : Box) (q : Nat) (O' : Box) (ch : Bool) : Prop where
  nar : Nar L R O'
  bnd : O'.bnd (1000 + 1000 * q)
  less : O'.wid ≤ O.wid
  same : ch = false → O' = O ∧ ∀ i x, i < q → R[i]? = some x → O.lo x.a + x.least ≤ O.lo x.b ∧ O.hi x.a ≤ O.hi x.b - x.least
  change : ch = true → O'.wid < O.wid
theorem Pass.start {L : Box} {R : List Ru} {O : Box} (h : Nar L R O) (hb : O.bnd 1000) : Pass L R O 0 O false :=
  ⟨h, by simpa using hb, Int.le_refl _, fun _ => ⟨rfl, fun i x hi => by omega⟩, fun h => by cases h⟩
/-- One rule. -/
theorem Pass.step {L : Box} {R : List Ru} {O O' : Box} {q : Nat} {ch : Bool} (h : Pass L R O q O' ch) {x : Ru} (hx : R[q]? = some x) (hR : ∀ x ∈ R, x.a < L.length ∧ x.b < L.length ∧ -1000 ≤ x.least ∧ x.least ≤ 1000) :
    Pass L R O (q + 1) ((O'.up x).down x) (if O'.lo x.b < O'.lo x.a + x.least then true else if (O'.up x).hi x.b - x.least < (O'.up x).hi x.a then true else ch) := by
  have hm : x ∈ R := List.mem_of_getElem? hx
  obtain ⟨ha, hb, l1, l2⟩ := hR x hm
  have ha' : x.a < O'.length := by rw [h.nar.len]; exact ha
  have hb' : x.b < O'.length := by rw [h.nar.len]; exact hb
  have ba := h.bnd x.a ha'
  have bb := h.bnd x.b hb'
  have e1 : (1000 : Int) + 1000 * ((q + 1 : Nat) : Int) = 1000 + 1000 * q + 1000 := by omega
  -- the latter time
  have A : Nar L R (O'.up x) ∧ (O'.up x).bnd (1000 + 1000 * q + 1000) ∧ (O'.up x).wid ≤ O'.wid ∧ (O'.lo x.b < O'.lo x.a + x.least → (O'.up x).wid < O'.wid) ∧ (¬ O'.lo x.b < O'.lo x.a + x.least → O'.up x = O') ∧ (∀ k, (O'.up x).hi k = O'.hi k) := by
    unfold Box.up
    by_cases hu : O'.lo x.b < O'.lo x.a + x.least
    · rw [if_pos hu]
      refine ⟨h.nar.up hm ha hb hu, Box.bnd_up h.bnd hb' hu (by omega) (by omega), ?_, fun _ => ?_, fun hn => absurd hu hn, fun k => ?_⟩
      · rw [Box.wid_set _ _ hb']; simp only; omega
      · rw [Box.wid_set _ _ hb']; simp only; omega
      · rw [Box.hi_set hb']
        by_cases e : k = x.b
        · subst e; rw [if_pos rfl]
        · rw [if_neg e]
    · rw [if_neg hu]
      exact ⟨h.nar, h.bnd.mono (by omega), Int.le_refl _, fun hn => absurd hn hu, fun _ => rfl, fun _ => rfl⟩
  obtain ⟨A1, A2, A3, A4, A5, A6⟩ := A
  have hl : (O'.up x).length = O'.length := by rw [A1.len, h.nar.len]
  have hbd : ∀ k, k < O'.length → -(1000 + 1000 * (q : Int)) ≤ (O'.up x).hi k := fun k hk => by rw [A6]; exact (h.bnd k hk).2.2.1
  have B : Nar L R ((O'.up x).down x) ∧ Box.bnd ((O'.up x).down x) (1000 + 1000 * q + 1000) ∧ Box.wid ((O'.up x).down x) ≤ (O'.up x).wid ∧ ((O'.up x).hi x.b - x.least < (O'.up x).hi x.a → Box.wid ((O'.up x).down x) < (O'.up x).wid) ∧ (¬ (O'.up x).hi x.b - x.least < (O'.up x).hi x.a → (O'.up x).down x = O'.up x) := by
    unfold Box.down
    by_cases hd : (O'.up x).hi x.b - x.least < (O'.up x).hi x.a
    · rw [if_pos hd]
      have ha2 : x.a < (O'.up x).length := by rw [hl]; exact ha'
      have hq := hbd x.b hb'
      refine ⟨A1.down hm ha hb hd, ?_, ?_, fun _ => ?_, fun hn => absurd hd hn⟩
      · intro k hk
        rw [List.length_set] at hk
        have h3 := A2 k hk
        rw [Box.lo_set ha2, Box.hi_set ha2]
        have h4 := A2 x.a ha2
        by_cases e : k = x.a
        · subst e; rw [if_pos rfl, if_pos rfl]; simp only; omega
        · rw [if_neg e, if_neg e]; omega
      · rw [Box.wid_set _ _ ha2]; simp only; omega
      · rw [Box.wid_set _ _ ha2]; simp only; omega
    · rw [if_neg hd]
      exact ⟨A1, A2, Int.le_refl _, fun hn => absurd hn hd, fun _ => rfl⟩
  obtain ⟨B1, B2, B3, B4, B5⟩ := B
  have hless := h.less
  refine ⟨B1, by rw [e1]; exact B2, by omega, fun hc => ?_, fun hc => ?_⟩
  · by_cases hu : O'.lo x.b < O'.lo x.a + x.least
    · rw [if_pos hu] at hc; cases hc
    · rw [if_neg hu] at hc
      by_cases hd : (O'.up x).hi x.b - x.least < (O'.up x).hi x.a
      · rw [if_pos hd] at hc; cases hc
      · rw [if_neg hd] at hc
        obtain ⟨hs, hr⟩ := h.same hc
        have e2 := A5 hu
        rw [e2] at hd
        refine ⟨by rw [B5 (by rw [e2]; exact hd), e2]; exact hs, fun i y hi hy => ?_⟩
        by_cases hiq : i < q
        · exact hr i y hiq hy
        · obtain rfl : i = q := by omega
          rw [hx] at hy; cases hy
          rw [hs] at hu hd
          omega
  · by_cases hu : O'.lo x.b < O'.lo x.a + x.least
    · have := A4 hu; omega
    · rw [if_neg hu] at hc
      by_cases hd : (O'.up x).hi x.b - x.least < (O'.up x).hi x.a
      · have := B4 hd; omega
      · rw [if_neg hd] at hc
        have := h.change hc; omega
/-- Nothing has changed: this is what narrowing gives. -/
theorem Pass.end {L : Box} {R : List Ru} {O O' : Box} (h : Pass L R O R.length O' false) (hR : ∀ x ∈ R, x.a < L.length ∧ x.b < L.length ∧ -1000 ≤ x.least ∧ x.least ≤ 1000) (hv : ∀ k, k < L.length → O.lo k ≤ O.hi k) : Narrow L R (some O') := by
  obtain ⟨rfl, hr⟩ := h.same rfl
  have key : ∀ x ∈ R, O'.lo x.a + x.least ≤ O'.lo x.b ∧ O'.hi x.a ≤ O'.hi x.b - x.least := fun x hx => by
    obtain ⟨i, hi⟩ := List.getElem?_of_mem hx
    exact hr i x (List.getElem?_eq_some_iff.1 hi).1 hi
  exact h.nar.end (fun x hx => ⟨(hR x hx).1, (hR x hx).2.1⟩) hv (fun x hx => (key x hx).1) (fun x hx => (key x hx).2)
end Go.Proofs.Ytccgakdaiaigoaa
