/- The plain mathematics of layer 6: what is counted, and the plan that is picked. -/
import Derived.Test.YtkgdejhooghknaaPure2
import Derived.IntWalk
namespace Go.Proofs.Ytkgdejhooghknaa
open Go.RowKit

def countG : Goal Int := ⟨fun _ => 1, fun _ _ x => x, fun a b => wrap64 (a + b)⟩
def changesG : Goal Int := ⟨fun _ => 0, fun s nx x => if 0 < s.hour ∧ s.rider ≠ nx.rider then wrap64 (x + 1) else x, fun a b => min a b⟩
def evenG : Goal Int := ⟨fun s => max s.h0 s.h1 - min s.h0 s.h1, fun _ _ x => x, fun a b => min a b⟩
/-- In how many hours a rider rode. -/
def St.of (s : St) (r : Int) : Int := if r = 0 then s.h0 else s.h1
def spanG (r : Int) : Goal (Int × Int) := ⟨fun s => (s.of r, s.of r), fun _ _ x => x, fun a b => (min a.1 b.1, max a.2 b.2)⟩

theorem count_alg : countG.Alg (fun _ _ => True) := by
  constructor <;> intros <;> try trivial
  simp only [countG, wrap64]; omega
theorem span_alg (r : Int) : (spanG r).Alg (fun _ _ => True) := by
  constructor <;> intros <;> try trivial
  simp only [spanG, Prod.mk.injEq]; omega

/-- A goal of which less is better. -/
structure Goal.Low (g : Goal Int) (P : Nat → Int → Prop) : Prop where
  join : ∀ a b, g.join a b = min a b
  fin : ∀ s, s.Ok → P 0 (g.fin s)
  hour : ∀ (n : Nat) (s nx : St) x, s.Ok → nx.Ok → s.hour + n < 16 → P n x → P (n + 1) (g.hour s nx x)
  mono : ∀ (n : Nat) (s nx : St) a b, s.Ok → nx.Ok → s.hour + n < 16 → P n a → P n b → a < b → g.hour s nx a < g.hour s nx b

theorem Goal.Low.alg {g : Goal Int} {P : Nat → Int → Prop} (h : g.Low P) : g.Alg P := by
  refine ⟨h.fin, h.hour, ?_, ?_, ?_⟩
  · intro n a b ha hb
    rw [h.join]
    rcases Int.le_total a b with k | k
    · rw [Int.min_eq_left k]; exact ha
    · rw [Int.min_eq_right k]; exact hb
  · intro n a b c _ _ _
    simp only [h.join]; omega
  · intro n s nx a b h1 h2 h3 ha hb
    simp only [h.join]
    rcases Int.lt_trichotomy a b with k | k | k
    · have := h.mono n s nx a b h1 h2 h3 ha hb k
      rw [Int.min_eq_left (by omega), Int.min_eq_left (by omega)]
    · subst k; simp
    · have := h.mono n s nx b a h1 h2 h3 hb ha k
      rw [Int.min_eq_right (by omega), Int.min_eq_right (by omega)]

theorem changes_low : changesG.Low (fun n x => 0 ≤ x ∧ x ≤ n) := by
  refine ⟨fun _ _ => rfl, fun _ _ => by simp [changesG], ?_, ?_⟩
  · intro n s nx x hs _ hh hx
    have := hs.hour0
    simp only [changesG]
    split
    · rw [IntWalk.wrap64_in _ (by omega)]; omega
    · omega
  · intro n s nx a b hs _ hh ha hb hab
    have := hs.hour0
    simp only [changesG]
    split
    · rw [IntWalk.wrap64_in _ (by omega), IntWalk.wrap64_in _ (by omega)]; omega
    · omega

theorem even_low : evenG.Low (fun _ _ => True) := by
  refine ⟨fun _ _ => rfl, fun _ _ => trivial, fun _ _ _ _ _ _ _ _ => trivial, ?_⟩
  intro n s nx a b _ _ _ _ _ hab
  exact hab

theorem foldl_min : ∀ (l : List Int) (a : Int), (l.foldl min a ∈ a :: l) ∧ ∀ x, x ∈ a :: l → l.foldl min a ≤ x
  | [], a => by simp
  | b :: l, a => by
    obtain ⟨h1, h2⟩ := foldl_min l (min a b)
    simp only [List.foldl_cons]
    refine ⟨?_, ?_⟩
    · rcases List.mem_cons.1 h1 with h | h
      · rw [h]
        rcases Int.le_total a b with k | k
        · rw [Int.min_eq_left k]; simp
        · rw [Int.min_eq_right k]; simp
      · simp [h]
    · intro x hx
      have h0 := h2 (min a b) (by simp)
      simp only [List.mem_cons] at hx
      rcases hx with rfl | rfl | hx
      · omega
      · omega
      · exact h2 x (by simp [hx])

theorem joinAll_min {j : Int → Int → Int} (hj : ∀ a b, j a b = min a b) {l : List Int} {v : Int} (h : joinAll j l = some v) : v ∈ l ∧ ∀ x, x ∈ l → v ≤ x := by
  have : j = min := by funext a b; exact hj a b
  subst this
  cases l with
  | nil => cases h
  | cons a l =>
    obtain rfl : l.foldl min a = v := by simpa [joinAll] using h
    exact foldl_min l a

theorem joinAll_none {T : Type} {j : T → T → T} {l : List T} : joinAll j l = none ↔ l = [] := by
  cases l <;> simp [joinAll]

/-- Is this step the one to take, if so much is to come? -/
def takes (R : Rest) (g : Goal Int) (n : Nat) (s : St) (want : Int) (x : Int × St) : Bool :=
  match found R g n x.2 with
  | some y => g.hour s x.2 y == want
  | none => false

/-- The plan that is walked: in each hour the first step behind which there is what is to come. -/
def pick (R : Rest) (g : Goal Int) : Nat → St → Int → List Int
  | 0, _, _ => []
  | n + 1, s, want =>
    match (stepsL R s).find? (takes R g n s want) with
    | some x => x.1 :: pick R g n x.2 ((found R g n x.2).getD 0)
    | none => []

theorem find_flatMap {α β : Type} (p : β → Bool) (f : α → List β) (l : List α) : (l.flatMap f).find? p = l.findSome? (fun x => (f x).find? p) := by
  induction l with
  | nil => rfl
  | cons a l ih =>
    rw [List.flatMap_cons, List.find?_append, ih, List.findSome?_cons]
    cases (f a).find? p <;> rfl

theorem find_congr {α : Type} {p q : α → Bool} : ∀ {l : List α}, (∀ x, x ∈ l → p x = q x) → l.find? p = l.find? q
  | [], _ => rfl
  | a :: l, h => by
    rw [List.find?_cons, List.find?_cons, h a (by simp), find_congr (fun x hx => h x (by simp [hx]))]

theorem step_ok {R : Rest} {s : St} (hs : s.Ok) (hh : s.hour < 16) {x : Int × St} (hx : x ∈ stepsL R s) : x.2.Ok ∧ x.2.hour = s.hour + 1 ∧ x.2 = s.next x.1 := by
  obtain ⟨h1, h2, _⟩ := mem_steps hx
  refine ⟨by rw [h2]; exact St.next_ok hs (by omega) (by omega) hh, by rw [h2]; rfl, h2⟩

/-- There is a step to take. -/
theorem takes_some {R : Rest} {g : Goal Int} {P : Nat → Int → Prop} (hg : g.Low P) {n : Nat} {s : St} (_hs : s.Ok) (_hh : s.hour + (n + 1 : Nat) ≤ 16) {v : Int} (hv : found R g (n + 1) s = some v) :
    ∃ x, x ∈ stepsL R s ∧ takes R g n s v x = true := by
  have key : ∀ (pre : List (Int × St)), ∀ v, foundOn R g n s pre = some v → ∃ x, x ∈ pre ∧ takes R g n s v x = true := by
    refine snoc_ind (fun v h => by cases h) ?_
    intro pre x ih v h
    rw [foundOn_snoc] at h
    cases ho : found R g n x.2 with
    | none =>
      rw [ho] at h
      obtain ⟨y, hy, hty⟩ := ih v h
      exact ⟨y, by simp [hy], hty⟩
    | some y =>
      rw [ho] at h
      cases hk : foundOn R g n s pre with
      | none =>
        rw [hk] at h
        refine ⟨x, by simp, ?_⟩
        simp only [Goal.add, Option.some.injEq] at h
        simp [takes, ho, h]
      | some z =>
        rw [hk] at h
        simp only [Goal.add, Option.some.injEq, hg.join] at h
        by_cases hle : z ≤ g.hour s x.2 y
        · rw [Int.min_eq_left hle] at h
          obtain ⟨y', hy, hty⟩ := ih z hk
          exact ⟨y', by simp [hy], by rw [← h]; exact hty⟩
        · rw [Int.min_eq_right (by omega)] at h
          exact ⟨x, by simp, by simp [takes, ho, h]⟩
  exact key _ v hv

/-- The plan that is walked is the first one that comes to the least. -/
theorem pick_first {g : Goal Int} {P : Nat → Int → Prop} (hg : g.Low P) (R : Rest) : ∀ (n : Nat) (s : St) (v : Int), s.Ok → s.hour + n ≤ 16 → found R g n s = some v →
    (rightL R n s).find? (fun p => val g s p == v) = some (pick R g n s v)
  | 0, s, v, _, _, h => by
    simp only [found, Option.some.injEq] at h
    simp [rightL, pick, val, h]
  | n + 1, s, v, hs, hh, h => by
    have hall := found_all hg.alg R (n + 1) s hs hh
    rw [h] at hall
    obtain ⟨_, hmin⟩ := joinAll_min hg.join hall.symm
    obtain ⟨x0, hx0, ht0⟩ := takes_some hg hs hh h
    simp only [rightL, pick]
    rw [find_flatMap]
    have hone : ∀ x, x ∈ stepsL R s → ((rightL R n x.2).map (x.1 :: ·)).find? (fun p => val g s p == v) =
        if takes R g n s v x then some (x.1 :: pick R g n x.2 ((found R g n x.2).getD 0)) else none := by
      intro x hx
      obtain ⟨hxo, hxh, hxn⟩ := step_ok hs (by omega) hx
      have hfx := found_all hg.alg R n x.2 hxo (by omega)
      rw [List.find?_map]
      have hval : ((fun p => val g s p == v) ∘ (x.1 :: ·)) = fun l => g.hour s x.2 (val g x.2 l) == v := by
        funext l; simp only [Function.comp, val]; rw [← hxn]
      rw [hval]
      cases hf : found R g n x.2 with
      | none =>
        rw [hf] at hfx
        have : rightL R n x.2 = [] := by simpa using joinAll_none.1 hfx.symm
        simp [takes, hf, this]
      | some y =>
        rw [hf] at hfx
        obtain ⟨hy1, hy2⟩ := joinAll_min hg.join hfx.symm
        obtain ⟨l0, hl0, hl0v⟩ := List.mem_map.1 hy1
        have hPy : P n y := by rw [← hl0v]; exact val_P hg.alg R n x.2 hxo (by omega) l0 hl0
        have hle : ∀ l, l ∈ rightL R n x.2 → y ≤ val g x.2 l := fun l hl => hy2 _ (List.mem_map.2 ⟨l, hl, rfl⟩)
        have hmo : ∀ l, l ∈ rightL R n x.2 → y ≠ val g x.2 l → g.hour s x.2 y < g.hour s x.2 (val g x.2 l) := fun l hl hne =>
          hg.mono n s x.2 _ _ hs hxo (by omega) hPy (val_P hg.alg R n x.2 hxo (by omega) l hl) (by have := hle l hl; omega)
        have hvy : v ≤ g.hour s x.2 y := by
          refine hmin _ (List.mem_map.2 ⟨x.1 :: l0, ?_, ?_⟩)
          · simp only [rightL, List.mem_flatMap]
            exact ⟨x, hx, List.mem_map.2 ⟨l0, hl0, rfl⟩⟩
          · simp only [val]; rw [← hxn, hl0v]
        by_cases ht : g.hour s x.2 y = v
        · have : takes R g n s v x = true := by simp [takes, hf, ht]
          rw [this, if_pos rfl]
          have hp := pick_first hg R n x.2 y hxo (by omega) hf
          have hcong : (rightL R n x.2).find? (fun l => g.hour s x.2 (val g x.2 l) == v) = (rightL R n x.2).find? (fun l => val g x.2 l == y) := by
            apply find_congr
            intro l hl
            by_cases hne : y = val g x.2 l
            · rw [← hne]; simp [ht]
            · have := hmo l hl hne
              rw [beq_eq_false_iff_ne.2 (by omega), beq_eq_false_iff_ne.2 (fun e => hne e.symm)]
          rw [hcong, hp]; simp
        · have : takes R g n s v x = false := by simp [takes, hf, ht]
          rw [this]
          have hnone : (rightL R n x.2).find? (fun l => g.hour s x.2 (val g x.2 l) == v) = none := by
            rw [List.find?_eq_none]
            intro l hl
            by_cases hne : y = val g x.2 l
            · rw [← hne]; simpa using ht
            · have := hmo l hl hne
              simp; omega
          rw [hnone]; simp
    have hgen : ∀ (l : List (Int × St)), (∀ x, x ∈ l → x ∈ stepsL R s) → l.findSome? (fun x => ((rightL R n x.2).map (x.1 :: ·)).find? (fun p => val g s p == v)) =
        (l.find? (takes R g n s v)).map (fun x => x.1 :: pick R g n x.2 ((found R g n x.2).getD 0)) := by
      intro l
      induction l with
      | nil => intro _; rfl
      | cons x l ih =>
        intro hl
        rw [List.findSome?_cons, hone x (hl x (by simp)), List.find?_cons]
        cases takes R g n s v x with
        | true => simp
        | false => simpa using ih (fun y hy => hl y (by simp [hy]))
    rw [hgen _ (fun x h => h)]
    have hfs : ∃ x, (stepsL R s).find? (takes R g n s v) = some x := by
      rcases hq : (stepsL R s).find? (takes R g n s v) with _ | x
      · exact absurd ht0 (by simpa using List.find?_eq_none.1 hq x0 hx0)
      · exact ⟨x, rfl⟩
    obtain ⟨x, hx⟩ := hfs
    rw [hx]; rfl

end Go.Proofs.Ytkgdejhooghknaa
