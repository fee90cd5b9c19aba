/- The plain mathematics of layer 10: jobs, benches, what is found from a bench on. No program in sight. The plain mathematics of layer 10: what is found is what all right orders tell. The plain mathematics of layer 10: the order that is picked. The plain mathematics of layer 10: orders. The plain mathematics of layer 10: what is valid, and what is run. The plain mathematics of layer 10: the benches on the way. The plain mathematics of layer 10: what an order comes to, and the reference's way to tell it. The plain mathematics of layer 10: how many orders are right, what they cost, when they are done. The plain mathematics of layer 10: what is run. -/
import Derived.Below
import Derived.IntWalk
namespace Go.Proofs.Ytcgkglonnmkfcaa
open Go.RowKit

/-- A job. -/
structure Job where
  kind : Int
  lo : Int
  hi : Int
  from_ : Int
  soft : Int
  by_ : Int
  cost : Int
  after : Int
/-- A mend. -/
structure Mend where
  setup : List Int
  jobs : List Job
/-- What was done (a set), for which kind, and when, at the latest. -/
structure Bench where
  done : Nat
  kind : Int
  late : Int

@[ext] theorem Bench.ext {a b : Bench} (h1 : a.done = b.done) (h2 : a.kind = b.kind) (h3 : a.late = b.late) : a = b := by
  cases a; cases b; simp_all

instance : DecidableEq Bench := fun a b =>
  if h : a.done = b.done ∧ a.kind = b.kind ∧ a.late = b.late then isTrue (Bench.ext h.1 h.2.1 h.2.2)
  else isFalse (fun e => h (by subst e; simp))

def Job.none : Job := ⟨0, 0, 0, 0, 0, 0, 0, 0⟩
def Mend.job (M : Mend) (i : Nat) : Job := M.jobs.getD i Job.none
def Mend.set (M : Mend) (k : Int) : Int := M.setup.getD k.toNat 0
def Bench.begin : Bench := ⟨0, -1, 0⟩

/-- When a job is done that is begun so, if it takes so long. -/
def Mend.ends (M : Mend) (kind now : Int) (j : Job) (minutes : Int) : Int := max (if kind = j.kind then now else now + M.set j.kind) j.from_ + minutes
def Mend.next (M : Mend) (b : Bench) (i : Nat) : Bench := ⟨b.done ||| 2 ^ i, (M.job i).kind, M.ends b.kind b.late (M.job i) (M.job i).hi⟩
/-- The rule that the last job breaks: 1 (after), 2 (late); 0: none. `b` is the bench behind it. -/
def Mend.waits (M : Mend) (left : Nat) (b : Bench) (i : Nat) : Bool := (List.range M.jobs.length).any fun k => (M.job i).after.toNat.testBit k && !left.testBit k && !(b.done.testBit k && decide (k ≠ i))
def Mend.broken (M : Mend) (left : Nat) (b : Bench) (i : Nat) : Int := if M.waits left b i then 1 else if (M.job i).by_ < b.late then 2 else 0

/-- The jobs that can come next, and the bench behind each. -/
def stepTo (M : Mend) (left : Nat) (b : Bench) (i : Nat) : List (Nat × Bench) :=
  if (left ||| b.done).testBit i then [] else if M.broken left (M.next b i) i = 0 then [(i, M.next b i)] else []
def stepsTo (M : Mend) (left : Nat) (b : Bench) : Nat → List (Nat × Bench)
  | 0 => []
  | k + 1 => stepsTo M left b k ++ stepTo M left b k
abbrev stepsL (M : Mend) (left : Nat) (b : Bench) : List (Nat × Bench) := stepsTo M left b M.jobs.length

theorem mem_stepsTo {M : Mend} {left : Nat} {b : Bench} {x : Nat × Bench} : ∀ {k : Nat}, x ∈ stepsTo M left b k ↔ x.1 < k ∧ (left ||| b.done).testBit x.1 = false ∧ x.2 = M.next b x.1 ∧ M.broken left x.2 x.1 = 0
  | 0 => by simp [stepsTo]
  | k + 1 => by
    rw [stepsTo, List.mem_append, mem_stepsTo, stepTo]
    obtain ⟨a, c⟩ := x
    simp only
    cases h : (left ||| b.done).testBit k
    · rw [if_neg (by simp)]
      split
      · rename_i hb
        simp only [List.mem_singleton, Prod.mk.injEq]
        constructor
        · rintro (⟨h1, h2, h3, h4⟩ | ⟨rfl, rfl⟩)
          · exact ⟨by omega, h2, h3, h4⟩
          · exact ⟨by omega, h, rfl, hb⟩
        · rintro ⟨h1, h2, h3, h4⟩
          by_cases e : a = k
          · subst e; exact .inr ⟨rfl, h3⟩
          · exact .inl ⟨by omega, h2, h3, h4⟩
      · rename_i hb
        simp only [List.not_mem_nil, or_false]
        constructor
        · rintro ⟨h1, h2, h3, h4⟩; exact ⟨by omega, h2, h3, h4⟩
        · rintro ⟨h1, h2, h3, h4⟩
          refine ⟨?_, h2, h3, h4⟩
          rcases Nat.lt_or_ge a k with h5 | h5
          · exact h5
          · obtain rfl : a = k := by omega
            rw [h3] at h4; exact (hb h4).elim
    · rw [if_pos rfl]
      simp only [List.not_mem_nil, or_false]
      constructor
      · rintro ⟨h1, h2, h3, h4⟩; exact ⟨by omega, h2, h3, h4⟩
      · rintro ⟨h1, h2, h3, h4⟩
        refine ⟨?_, h2, h3, h4⟩
        rcases Nat.lt_or_ge a k with h5 | h5
        · exact h5
        · obtain rfl : a = k := by omega
          rw [h] at h2; cases h2

/-- What is counted: at the end, in each step (the bench behind it, the job), and of several. -/
structure Goal (T : Type) where
  fin : Bench → T
  step : Bench → Nat → T → T
  join : T → T → T
def Goal.add {T : Type} (g : Goal T) (x : Nat × Bench) (k o : Option T) : Option T :=
  match o with
  | none => k
  | some y => some (match k with
    | none => g.step x.2 x.1 y
    | some z => g.join z (g.step x.2 x.1 y))
/-- What is counted from a bench on, for so many jobs more; none: no order is right from it on. -/
def found {T : Type} (M : Mend) (left : Nat) (g : Goal T) : Nat → Bench → Option T
  | 0, b => some (g.fin b)
  | n + 1, b => (stepsL M left b).foldl (fun k x => g.add x k (found M left g n x.2)) none
def foundOn {T : Type} (M : Mend) (left : Nat) (g : Goal T) (n : Nat) (pre : List (Nat × Bench)) : Option T := pre.foldl (fun k x => g.add x k (found M left g n x.2)) none
theorem foundOn_snoc {T : Type} (M : Mend) (left : Nat) (g : Goal T) (n : Nat) (pre : List (Nat × Bench)) (x : Nat × Bench) : foundOn M left g n (pre ++ [x]) = g.add x (foundOn M left g n pre) (found M left g n x.2) := by
  simp [foundOn]
theorem found_succ {T : Type} (M : Mend) (left : Nat) (g : Goal T) (n : Nat) (b : Bench) : found M left g (n + 1) b = foundOn M left g n (stepsL M left b) := rfl

/-- An order that is right from a bench on. -/
def goodB (M : Mend) (left : Nat) (b : Bench) : List Nat → Bool
  | [] => true
  | i :: l => decide (M.broken left (M.next b i) i = 0) && goodB M left (M.next b i) l
/-- All lists of so many jobs, none of which is left or done. -/
def listsL (m left : Nat) : Nat → Nat → List (List Nat)
  | 0, _ => [[]]
  | n + 1, done => (List.range m).flatMap fun i => if (left ||| done).testBit i then [] else (listsL m left n (done ||| 2 ^ i)).map (i :: ·)
/-- All orders of so many jobs that are right from a bench on. -/
def rightL (M : Mend) (left : Nat) : Nat → Bench → List (List Nat)
  | 0, _ => [[]]
  | n + 1, b => (stepsL M left b).flatMap fun x => (rightL M left n x.2).map (x.1 :: ·)

theorem stepsTo_flat {M : Mend} {left : Nat} {b : Bench} (f : Nat × Bench → List (List Nat)) : ∀ k, (stepsTo M left b k).flatMap f = (List.range k).flatMap fun i => (stepTo M left b i).flatMap f
  | 0 => rfl
  | k + 1 => by rw [stepsTo, List.flatMap_append, stepsTo_flat f k, List.range_succ, List.flatMap_append]; simp

theorem right_lists (M : Mend) (left : Nat) : ∀ (n : Nat) (b : Bench), rightL M left n b = (listsL M.jobs.length left n b.done).filter (goodB M left b)
  | 0, b => rfl
  | n + 1, b => by
    rw [rightL, stepsTo_flat, listsL, List.filter_flatMap]
    congr 1
    funext i
    unfold stepTo
    cases h : (left ||| b.done).testBit i
    · simp only [Bool.false_eq_true, if_false]
      rw [List.filter_map]
      by_cases hb : M.broken left (M.next b i) i = 0
      · rw [if_pos hb]
        simp only [List.flatMap_cons, List.flatMap_nil, List.append_nil]
        rw [right_lists M left n]
        congr 1
        refine List.filter_congr fun l _ => ?_
        simp [goodB, hb]
      · rw [if_neg hb]
        simp only [List.flatMap_nil]
        symm
        rw [List.map_eq_nil_iff, List.filter_eq_nil_iff]
        intro l _
        simp [goodB, hb]
    · simp

end Go.Proofs.Ytcgkglonnmkfcaa

namespace Go.Proofs.Ytcgkglonnmkfcaa
open Go.RowKit

/-- What one order comes to. -/
def val {T : Type} (M : Mend) (g : Goal T) (b : Bench) : List Nat → T
  | [] => g.fin b
  | i :: l => g.step (M.next b i) i (val M g (M.next b i) l)

def ojoin {T : Type} (j : T → T → T) : Option T → Option T → Option T
  | none, b => b
  | some a, none => some a
  | some a, some b => some (j a b)

/-- All of some, one after the other. -/
def joinAll {T : Type} (j : T → T → T) : List T → Option T
  | [] => none
  | a :: l => some (l.foldl j a)

theorem foldl_P {T : Type} {j : T → T → T} {P : T → Prop} (hj : ∀ a b, P a → P b → P (j a b)) : ∀ (l : List T) (a : T), P a → (∀ x, x ∈ l → P x) → P (l.foldl j a)
  | [], _, ha, _ => ha
  | x :: l, a, ha, h => foldl_P hj l _ (hj _ _ ha (h x (by simp))) (fun y hy => h y (by simp [hy]))

theorem foldl_assoc {T : Type} {j : T → T → T} {P : T → Prop} (hj : ∀ a b, P a → P b → P (j a b)) (ha : ∀ a b c, P a → P b → P c → j (j a b) c = j a (j b c)) :
    ∀ (l : List T) (a b : T), P a → P b → (∀ x, x ∈ l → P x) → l.foldl j (j a b) = j a (l.foldl j b)
  | [], _, _, _, _, _ => rfl
  | x :: l, a, b, h1, h2, h => by
    have hx := h x (by simp)
    simp only [List.foldl_cons]
    rw [ha a b x h1 h2 hx]
    exact foldl_assoc hj ha l a _ h1 (hj _ _ h2 hx) (fun y hy => h y (by simp [hy]))

theorem joinAll_append {T : Type} {j : T → T → T} {P : T → Prop} (hj : ∀ a b, P a → P b → P (j a b)) (ha : ∀ a b c, P a → P b → P c → j (j a b) c = j a (j b c))
    (l m : List T) (hl : ∀ x, x ∈ l → P x) (hm : ∀ x, x ∈ m → P x) : joinAll j (l ++ m) = ojoin j (joinAll j l) (joinAll j m) := by
  cases l with
  | nil => rfl
  | cons a l =>
    cases m with
    | nil => simp [joinAll, ojoin]
    | cons b m =>
      simp only [joinAll, List.cons_append, ojoin, List.foldl_append, List.foldl_cons]
      rw [foldl_assoc hj ha m _ b (foldl_P hj l a (hl a (by simp)) (fun x hx => hl x (by simp [hx]))) (hm b (by simp)) (fun x hx => hm x (by simp [hx]))]

theorem joinAll_map {T : Type} {j : T → T → T} {P : T → Prop} {f : T → T} (hj : ∀ a b, P a → P b → P (j a b)) (hf : ∀ a b, P a → P b → f (j a b) = j (f a) (f b)) (l : List T) (hl : ∀ x, x ∈ l → P x) :
    joinAll j (l.map f) = (joinAll j l).map f := by
  cases l with
  | nil => rfl
  | cons a l =>
    simp only [List.map_cons, joinAll, Option.map_some, Option.some.injEq]
    have : ∀ (l : List T) (a : T), P a → (∀ x, x ∈ l → P x) → (l.map f).foldl j (f a) = f (l.foldl j a) := by
      intro l
      induction l with
      | nil => intro a _ _; rfl
      | cons x l ih =>
        intro a h1 h2
        simp only [List.map_cons, List.foldl_cons]
        rw [← hf a x h1 (h2 x (by simp))]
        exact ih _ (hj _ _ h1 (h2 x (by simp))) (fun y hy => h2 y (by simp [hy]))
    exact this l a (hl a (by simp)) (fun x hx => hl x (by simp [hx]))

theorem snoc_ind {α : Type} {m : List α → Prop} (hn : m []) (hs : ∀ l x, m l → m (l ++ [x])) (l : List α) : m l := by
  rw [← List.reverse_reverse l]
  induction l.reverse with
  | nil => exact hn
  | cons x l ih => rw [List.reverse_cons]; exact hs _ _ ih


/-- The goal's algebra, of what can be with so many jobs left; I: what is so of the benches on the way. -/
structure Goal.Alg {T : Type} (g : Goal T) (M : Mend) (left : Nat) (I : Nat → Bench → Prop) (P : Nat → T → Prop) : Prop where
  go : ∀ (n : Nat) b x, I (n + 1) b → x ∈ stepsL M left b → I n x.2
  fin : ∀ b, I 0 b → P 0 (g.fin b)
  step : ∀ (n : Nat) (b : Bench) x y, I (n + 1) b → x ∈ stepsL M left b → P n y → P (n + 1) (g.step x.2 x.1 y)
  join : ∀ n a b, P n a → P n b → P n (g.join a b)
  assoc : ∀ n a b c, P n a → P n b → P n c → g.join (g.join a b) c = g.join a (g.join b c)
  dist : ∀ (n : Nat) (b : Bench) x y z, I (n + 1) b → x ∈ stepsL M left b → P n y → P n z → g.step x.2 x.1 (g.join y z) = g.join (g.step x.2 x.1 y) (g.step x.2 x.1 z)

theorem add_ojoin {T : Type} (g : Goal T) (x : Nat × Bench) (k o : Option T) : g.add x k o = ojoin g.join k (o.map (g.step x.2 x.1)) := by
  cases o with
  | none => cases k <;> rfl
  | some y => cases k <;> rfl

theorem val_P {T : Type} {g : Goal T} {M : Mend} {left : Nat} {I : Nat → Bench → Prop} {P : Nat → T → Prop} (hA : g.Alg M left I P) : ∀ (n : Nat) (b : Bench), I n b → ∀ p, p ∈ rightL M left n b → P n (val M g b p)
  | 0, b, hs, p, hp => by
    obtain rfl : p = [] := by simpa [rightL] using hp
    exact hA.fin b hs
  | n + 1, b, hs, p, hp => by
    simp only [rightL, List.mem_flatMap, List.mem_map] at hp
    obtain ⟨x, hx, l, hl, rfl⟩ := hp
    have h2 := (mem_stepsTo.1 hx).2.2.1
    simp only [val]
    rw [← h2]
    exact hA.step n b x _ hs hx (val_P hA n x.2 (hA.go n b x hs hx) l hl)

/-- What is found is what all right orders come to, one after the other. -/
theorem found_all {T : Type} {g : Goal T} {M : Mend} {left : Nat} {I : Nat → Bench → Prop} {P : Nat → T → Prop} (hA : g.Alg M left I P) : ∀ (n : Nat) (b : Bench), I n b → found M left g n b = joinAll g.join ((rightL M left n b).map (val M g b))
  | 0, b, _ => rfl
  | n + 1, b, hs => by
    have key : ∀ (pre : List (Nat × Bench)), (∀ x, x ∈ pre → x ∈ stepsL M left b) → foundOn M left g n pre = joinAll g.join ((pre.flatMap fun x => (rightL M left n x.2).map (x.1 :: ·)).map (val M g b)) := by
      refine snoc_ind (fun _ => rfl) ?_
      intro pre x ih hpre
      have hx := hpre x (by simp)
      have h2 := (mem_stepsTo.1 hx).2.2.1
      have hnx := hA.go n b x hs hx
      rw [foundOn_snoc, ih (fun y hy => hpre y (by simp [hy])), found_all hA n x.2 hnx, add_ojoin]
      rw [List.flatMap_append, List.map_append]
      have hin : ∀ (q : List Nat), q ∈ (rightL M left n x.2).map (x.1 :: ·) → q ∈ rightL M left (n + 1) b := by
        intro q hq
        simp only [rightL, List.mem_flatMap]
        exact ⟨x, hx, hq⟩
      rw [joinAll_append (P := P (n + 1)) (hA.join (n + 1)) (hA.assoc (n + 1))]
      · congr 1
        simp only [List.flatMap_cons, List.flatMap_nil, List.append_nil, List.map_map]
        rw [← joinAll_map (P := P n) (hA.join n) (fun y z hy hz => hA.dist n b x y z hs hx hy hz) _ (fun v hv => by
          obtain ⟨q, hq, rfl⟩ := List.mem_map.1 hv
          exact val_P hA n x.2 hnx q hq)]
        rw [List.map_map]
        congr 1
        apply List.map_congr_left
        intro q _
        simp only [Function.comp, val]
        rw [← h2]
      · intro v hv
        obtain ⟨q, hq, rfl⟩ := List.mem_map.1 hv
        refine val_P hA (n + 1) b hs q ?_
        simp only [rightL, List.mem_flatMap]
        obtain ⟨y, hy, hq⟩ := List.mem_flatMap.1 hq
        exact ⟨y, hpre y (by simp [hy]), hq⟩
      · intro v hv
        obtain ⟨q, hq, rfl⟩ := List.mem_map.1 hv
        refine val_P hA (n + 1) b hs q (hin q ?_)
        simpa using hq
    exact key (stepsL M left b) (fun x h => h)

end Go.Proofs.Ytcgkglonnmkfcaa

namespace Go.Proofs.Ytcgkglonnmkfcaa
open Go.RowKit

/-- A goal of which less is better. -/
structure Goal.Low (g : Goal Int) (M : Mend) (left : Nat) (I : Nat → Bench → Prop) (P : Nat → Int → Prop) : Prop where
  go : ∀ (n : Nat) b x, I (n + 1) b → x ∈ stepsL M left b → I n x.2
  join : ∀ a b, g.join a b = min a b
  fin : ∀ b, I 0 b → P 0 (g.fin b)
  step : ∀ (n : Nat) (b : Bench) x y, I (n + 1) b → x ∈ stepsL M left b → P n y → P (n + 1) (g.step x.2 x.1 y)
  mono : ∀ (n : Nat) (b : Bench) x y z, I (n + 1) b → x ∈ stepsL M left b → P n y → P n z → y < z → g.step x.2 x.1 y < g.step x.2 x.1 z

theorem Goal.Low.alg {g : Goal Int} {M : Mend} {left : Nat} {I : Nat → Bench → Prop} {P : Nat → Int → Prop} (h : g.Low M left I P) : g.Alg M left I P := by
  refine ⟨h.go, h.fin, h.step, ?_, ?_, ?_⟩
  · intro n a b ha hb
    rw [h.join]
    rcases Int.le_total a b with k | k
    · rw [Int.min_eq_left k]; exact ha
    · rw [Int.min_eq_right k]; exact hb
  · intro n a b c _ _ _
    simp only [h.join]; omega
  · intro n b x a c h1 h2 ha hb
    simp only [h.join]
    rcases Int.lt_trichotomy a c with k | k | k
    · have := h.mono n b x a c h1 h2 ha hb k
      rw [Int.min_eq_left (by omega), Int.min_eq_left (by omega)]
    · subst k; simp
    · have := h.mono n b x c a h1 h2 hb ha k
      rw [Int.min_eq_right (by omega), Int.min_eq_right (by omega)]

theorem foldl_min : ∀ (l : List Int) (a : Int), (l.foldl min a ∈ a :: l) ∧ ∀ x, x ∈ a :: l → l.foldl min a ≤ x
  | [], a => by simp
  | b :: l, a => by
    obtain ⟨h1, h2⟩ := foldl_min l (min a b)
    simp only [List.foldl_cons]
    refine ⟨?_, ?_⟩
    · rcases List.mem_cons.1 h1 with h | h
      · rw [h]
        rcases Int.le_total a b with k | k
        · rw [Int.min_eq_left k]; simp
        · rw [Int.min_eq_right k]; simp
      · simp [h]
    · intro x hx
      have h0 := h2 (min a b) (by simp)
      simp only [List.mem_cons] at hx
      rcases hx with rfl | rfl | hx
      · omega
      · omega
      · exact h2 x (by simp [hx])

theorem joinAll_min {j : Int → Int → Int} (hj : ∀ a b, j a b = min a b) {l : List Int} {v : Int} (h : joinAll j l = some v) : v ∈ l ∧ ∀ x, x ∈ l → v ≤ x := by
  have : j = min := by funext a b; exact hj a b
  subst this
  cases l with
  | nil => cases h
  | cons a l =>
    obtain rfl : l.foldl min a = v := by simpa [joinAll] using h
    exact foldl_min l a

theorem joinAll_none {T : Type} {j : T → T → T} {l : List T} : joinAll j l = none ↔ l = [] := by
  cases l <;> simp [joinAll]

theorem find_flatMap {α β : Type} (p : β → Bool) (f : α → List β) (l : List α) : (l.flatMap f).find? p = l.findSome? (fun x => (f x).find? p) := by
  induction l with
  | nil => rfl
  | cons a l ih =>
    rw [List.flatMap_cons, List.find?_append, ih, List.findSome?_cons]
    cases (f a).find? p <;> rfl

theorem find_congr {α : Type} {p q : α → Bool} : ∀ {l : List α}, (∀ x, x ∈ l → p x = q x) → l.find? p = l.find? q
  | [], _ => rfl
  | a :: l, h => by
    rw [List.find?_cons, List.find?_cons, h a (by simp), find_congr (fun x hx => h x (by simp [hx]))]


/-- Is this step the one to take, if so much is to come? -/
def takes (M : Mend) (left : Nat) (g : Goal Int) (n : Nat) (want : Int) (x : Nat × Bench) : Bool :=
  match found M left g n x.2 with
  | some y => g.step x.2 x.1 y == want
  | none => false

/-- The order that is walked: each time the first step behind which there is what is to come. -/
def pick (M : Mend) (left : Nat) (g : Goal Int) : Nat → Bench → Int → List Nat
  | 0, _, _ => []
  | n + 1, b, want =>
    match (stepsL M left b).find? (takes M left g n want) with
    | some x => x.1 :: pick M left g n x.2 ((found M left g n x.2).getD 0)
    | none => []

/-- There is a step to take. -/
theorem takes_some {M : Mend} {left : Nat} {g : Goal Int} {I : Nat → Bench → Prop} {P : Nat → Int → Prop} (hg : g.Low M left I P) {n : Nat} {b : Bench} {v : Int} (hv : found M left g (n + 1) b = some v) :
    ∃ x, x ∈ stepsL M left b ∧ takes M left g n v x = true := by
  have key : ∀ (pre : List (Nat × Bench)), ∀ v, foundOn M left g n pre = some v → ∃ x, x ∈ pre ∧ takes M left g n v x = true := by
    refine snoc_ind (fun v h => by cases h) ?_
    intro pre x ih v h
    rw [foundOn_snoc] at h
    cases ho : found M left g n x.2 with
    | none =>
      rw [ho] at h
      obtain ⟨y, hy, hty⟩ := ih v h
      exact ⟨y, by simp [hy], hty⟩
    | some y =>
      rw [ho] at h
      cases hk : foundOn M left g n pre with
      | none =>
        rw [hk] at h
        refine ⟨x, by simp, ?_⟩
        simp only [Goal.add, Option.some.injEq] at h
        simp [takes, ho, h]
      | some z =>
        rw [hk] at h
        simp only [Goal.add, Option.some.injEq, hg.join] at h
        by_cases hle : z ≤ g.step x.2 x.1 y
        · rw [Int.min_eq_left hle] at h
          obtain ⟨y', hy, hty⟩ := ih z hk
          exact ⟨y', by simp [hy], by rw [← h]; exact hty⟩
        · rw [Int.min_eq_right (by omega)] at h
          exact ⟨x, by simp, by simp [takes, ho, h]⟩
  exact key _ v hv

/-- The order that is walked is the first one that comes to the least. -/
theorem pick_first {g : Goal Int} {M : Mend} {left : Nat} {I : Nat → Bench → Prop} {P : Nat → Int → Prop} (hg : g.Low M left I P) : ∀ (n : Nat) (s : Bench) (v : Int), I n s → found M left g n s = some v →
    (rightL M left n s).find? (fun p => val M g s p == v) = some (pick M left g n s v)
  | 0, s, v, _, h => by
    simp only [found, Option.some.injEq] at h
    simp [rightL, pick, val, h]
  | n + 1, s, v, hs, h => by
    have hall := found_all hg.alg (n + 1) s hs
    rw [h] at hall
    obtain ⟨_, hmin⟩ := joinAll_min hg.join hall.symm
    obtain ⟨x0, hx0, ht0⟩ := takes_some hg h
    simp only [rightL, pick]
    rw [find_flatMap]
    have hone : ∀ x, x ∈ stepsL M left s → ((rightL M left n x.2).map (x.1 :: ·)).find? (fun p => val M g s p == v) =
        if takes M left g n v x then some (x.1 :: pick M left g n x.2 ((found M left g n x.2).getD 0)) else none := by
      intro x hx
      have hxo := hg.go n s x hs hx
      have hxn := (mem_stepsTo.1 hx).2.2.1
      have hfx := found_all hg.alg n x.2 hxo
      rw [List.find?_map]
      have hval : ((fun p => val M g s p == v) ∘ (x.1 :: ·)) = fun l => g.step x.2 x.1 (val M g x.2 l) == v := by
        funext l; simp only [Function.comp, val]; rw [← hxn]
      rw [hval]
      cases hf : found M left g n x.2 with
      | none =>
        rw [hf] at hfx
        have : rightL M left n x.2 = [] := by simpa using joinAll_none.1 hfx.symm
        simp [takes, hf, this]
      | some y =>
        rw [hf] at hfx
        obtain ⟨hy1, hy2⟩ := joinAll_min hg.join hfx.symm
        obtain ⟨l0, hl0, hl0v⟩ := List.mem_map.1 hy1
        have hPy : P n y := by rw [← hl0v]; exact val_P hg.alg n x.2 hxo l0 hl0
        have hle : ∀ l, l ∈ rightL M left n x.2 → y ≤ val M g x.2 l := fun l hl => hy2 _ (List.mem_map.2 ⟨l, hl, rfl⟩)
        have hmo : ∀ l, l ∈ rightL M left n x.2 → y ≠ val M g x.2 l → g.step x.2 x.1 y < g.step x.2 x.1 (val M g x.2 l) := fun l hl hne =>
          hg.mono n s x _ _ hs hx hPy (val_P hg.alg n x.2 hxo l hl) (by have := hle l hl; omega)
        have hvy : v ≤ g.step x.2 x.1 y := by
          refine hmin _ (List.mem_map.2 ⟨x.1 :: l0, ?_, ?_⟩)
          · simp only [rightL, List.mem_flatMap]
            exact ⟨x, hx, List.mem_map.2 ⟨l0, hl0, rfl⟩⟩
          · simp only [val]; rw [← hxn, hl0v]
        by_cases ht : g.step x.2 x.1 y = v
        · have : takes M left g n v x = true := by simp [takes, hf, ht]
          rw [this, if_pos rfl]
          have hp := pick_first hg n x.2 y hxo hf
          have hcong : (rightL M left n x.2).find? (fun l => g.step x.2 x.1 (val M g x.2 l) == v) = (rightL M left n x.2).find? (fun l => val M g x.2 l == y) := by
            apply find_congr
            intro l hl
            by_cases hne : y = val M g x.2 l
            · rw [← hne]; simp [ht]
            · have := hmo l hl hne
              rw [beq_eq_false_iff_ne.2 (by omega), beq_eq_false_iff_ne.2 (fun e => hne e.symm)]
          rw [hcong, hp]; simp
        · have : takes M left g n v x = false := by simp [takes, hf, ht]
          rw [this]
          have hnone : (rightL M left n x.2).find? (fun l => g.step x.2 x.1 (val M g x.2 l) == v) = none := by
            rw [List.find?_eq_none]
            intro l hl
            by_cases hne : y = val M g x.2 l
            · rw [← hne]; simpa using ht
            · have := hmo l hl hne
              simp; omega
          rw [hnone]; simp
    have hgen : ∀ (l : List (Nat × Bench)), (∀ x, x ∈ l → x ∈ stepsL M left s) → l.findSome? (fun x => ((rightL M left n x.2).map (x.1 :: ·)).find? (fun p => val M g s p == v)) =
        (l.find? (takes M left g n v)).map (fun x => x.1 :: pick M left g n x.2 ((found M left g n x.2).getD 0)) := by
      intro l
      induction l with
      | nil => intro _; rfl
      | cons x l ih =>
        intro hl
        rw [List.findSome?_cons, hone x (hl x (by simp)), List.find?_cons]
        cases takes M left g n v x with
        | true => simp
        | false => simpa using ih (fun y hy => hl y (by simp [hy]))
    rw [hgen _ (fun x h => h)]
    have hfs : ∃ x, (stepsL M left s).find? (takes M left g n v) = some x := by
      rcases hq : (stepsL M left s).find? (takes M left g n v) with _ | x
      · exact absurd ht0 (by simpa using List.find?_eq_none.1 hq x0 hx0)
      · exact ⟨x, rfl⟩
    obtain ⟨x, hx⟩ := hfs
    rw [hx]; rfl

end Go.Proofs.Ytcgkglonnmkfcaa

namespace Go.Proofs.Ytcgkglonnmkfcaa
open Go.RowKit

/-- A list of different numbers below another one, none of which is in a set. -/
def freshB (m s : Nat) : List Nat → Bool
  | [] => true
  | i :: l => decide (i < m) && (!s.testBit i && freshB m (s ||| 2 ^ i) l)

theorem mem_listsL {m left : Nat} : ∀ {n done : Nat} {p : List Nat}, p ∈ listsL m left n done ↔ p.length = n ∧ freshB m (left ||| done) p = true
  | 0, done, p => by cases p <;> simp [listsL, freshB]
  | n + 1, done, p => by
    cases p with
    | nil => simp only [listsL, List.mem_flatMap]; constructor
             · rintro ⟨i, _, hi⟩; split at hi <;> simp at hi
             · rintro ⟨h, _⟩; simp at h
    | cons y l =>
      simp only [listsL, List.mem_flatMap, List.mem_range, List.length_cons, freshB, Bool.and_eq_true, decide_eq_true_eq, Bool.not_eq_true']
      constructor
      · rintro ⟨i, hi, h⟩
        split at h
        · simp at h
        · rename_i hb
          simp only [List.mem_map, List.cons.injEq] at h
          obtain ⟨l', hl', rfl, rfl⟩ := h
          obtain ⟨h1, h2⟩ := mem_listsL.1 hl'
          rw [← Nat.or_assoc] at h2
          exact ⟨by omega, hi, by simpa using hb, h2⟩
      · rintro ⟨h1, h2, h3, h4⟩
        refine ⟨y, h2, ?_⟩
        rw [if_neg (by simp [h3])]
        rw [Nat.or_assoc] at h4
        exact List.mem_map.2 ⟨l, mem_listsL.2 ⟨by omega, h4⟩, rfl⟩

theorem mem_rightL {M : Mend} {left n : Nat} {b : Bench} {p : List Nat} : p ∈ rightL M left n b ↔ (p.length = n ∧ freshB M.jobs.length (left ||| b.done) p = true) ∧ goodB M left b p = true := by
  rw [right_lists, List.mem_filter, mem_listsL]

end Go.Proofs.Ytcgkglonnmkfcaa

namespace Go.Proofs.Ytcgkglonnmkfcaa
open Go.RowKit

def inB (n lo hi : Int) : Bool := decide (lo ≤ n) && decide (n ≤ hi)
theorem inB_iff {n lo hi : Int} : inB n lo hi = true ↔ lo ≤ n ∧ n ≤ hi := by simp [inB]

/-- The first three things that are looked at of a job, the next three, and the last two. -/
def Job.okA (ks : Nat) (j : Job) : Bool := inB j.kind 0 (ks - 1) && inB j.lo 1 j.hi && decide (j.hi ≤ 30)
def Job.num (j : Job) (k : Nat) : Int := [j.from_, j.soft, j.by_].getD k 0
def Job.okB (j : Job) : Bool := inB j.from_ 0 300 && inB j.soft 0 300 && inB j.by_ 0 300
def Job.okC (n i : Nat) (j : Job) : Bool := inB j.cost 0 50 && inB j.after 0 ((2 : Int) ^ n - 1) && !j.after.toNat.testBit i
def Job.ok (ks n i : Nat) (j : Job) : Bool := j.okA ks && j.okB && j.okC n i
def Mend.sizes (M : Mend) : Bool := decide (M.setup.length ≤ 3) && decide (M.jobs.length ≤ 6)
def Mend.valid (M : Mend) : Bool := M.sizes && M.setup.all (fun x => inB x 0 30) && (List.range M.jobs.length).all fun i => (M.job i).ok M.setup.length M.jobs.length i

/-- What is so of each mend that is looked at. -/
structure Mend.Ok (M : Mend) : Prop where
  len : M.jobs.length ≤ 6
  ks : M.setup.length ≤ 3
  set : ∀ x, x ∈ M.setup → 0 ≤ x ∧ x ≤ 1000
  kind : ∀ i, i < M.jobs.length → 0 ≤ (M.job i).kind ∧ (M.job i).kind < M.setup.length
  lo : ∀ i, i < M.jobs.length → 0 ≤ (M.job i).lo ∧ (M.job i).lo ≤ 1000
  hi : ∀ i, i < M.jobs.length → 0 ≤ (M.job i).hi ∧ (M.job i).hi ≤ 1000
  from_ : ∀ i, i < M.jobs.length → 0 ≤ (M.job i).from_ ∧ (M.job i).from_ ≤ 1000
  soft : ∀ i, i < M.jobs.length → 0 ≤ (M.job i).soft ∧ (M.job i).soft ≤ 1000
  by_ : ∀ i, i < M.jobs.length → 0 ≤ (M.job i).by_ ∧ (M.job i).by_ ≤ 1000
  cost : ∀ i, i < M.jobs.length → 0 ≤ (M.job i).cost ∧ (M.job i).cost ≤ 1000
  after : ∀ i, i < M.jobs.length → 0 ≤ (M.job i).after ∧ (M.job i).after < (2 : Int) ^ M.jobs.length
  own : ∀ i, i < M.jobs.length → (M.job i).after.toNat.testBit i = false

theorem valid_job {M : Mend} (h : M.valid = true) {i : Nat} (hi : i < M.jobs.length) : (M.job i).ok M.setup.length M.jobs.length i = true := by
  simp only [Mend.valid, Bool.and_eq_true] at h
  exact List.all_eq_true.1 h.2 i (List.mem_range.2 hi)

theorem Mend.valid_ok {M : Mend} (h : M.valid = true) : M.Ok := by
  have hj := fun i hi => valid_job h (i := i) hi
  simp only [Job.ok, Job.okA, Job.okB, Job.okC, Bool.and_eq_true, inB_iff, decide_eq_true_eq, Bool.not_eq_true'] at hj
  simp only [Mend.valid, Mend.sizes, Bool.and_eq_true, decide_eq_true_eq] at h
  have hs := List.all_eq_true.1 h.1.2
  refine ⟨h.1.1.2, h.1.1.1, fun x hx => ?_, fun i hi => ?_, fun i hi => ?_, fun i hi => ?_, fun i hi => ?_, fun i hi => ?_, fun i hi => ?_, fun i hi => ?_, fun i hi => ?_, fun i hi => ?_⟩
  · have := inB_iff.1 (hs x hx); omega
  all_goals
    have := hj i hi
    first | omega | exact this.2.2

/-- A list that names each of n jobs at most once, and no others, none that is seen. -/
def ordFrom (n seen : Nat) : List Int → Bool
  | [] => true
  | x :: l => (inB x 0 (n - 1) && !seen.testBit x.toNat) && ordFrom n (seen ||| 2 ^ x.toNat) l
def ordB (n : Nat) (l : List Int) : Bool := ordFrom n 0 l && decide (l.length = n)
/-- A list of numbers, as integers. -/
abbrev ints (p : List Nat) : List Int := p.map fun k : Nat => (k : Int)

theorem ordFrom_ints {n : Nat} : ∀ {seen : Nat} {l : List Int}, ordFrom n seen l = true ↔ ∃ p, l = ints p ∧ freshB n seen p = true
  | seen, [] => by
    refine ⟨fun _ => ⟨[], rfl, rfl⟩, fun _ => rfl⟩
  | seen, x :: l => by
    rw [ordFrom, Bool.and_eq_true, Bool.and_eq_true, ordFrom_ints, inB_iff]
    constructor
    · rintro ⟨⟨h1, h2⟩, p, rfl, hp⟩
      refine ⟨x.toNat :: p, ?_, ?_⟩
      · simp [ints]; omega
      · simp only [freshB, Bool.and_eq_true, decide_eq_true_eq]
        exact ⟨by omega, h2, hp⟩
    · rintro ⟨p, hp, hf⟩
      cases p with
      | nil => simp [ints] at hp
      | cons i p =>
        simp only [ints, List.map_cons, List.cons.injEq] at hp
        obtain ⟨rfl, rfl⟩ := hp
        simp only [freshB, Bool.and_eq_true, decide_eq_true_eq] at hf
        exact ⟨⟨by omega, by simpa using hf.2.1⟩, p, rfl, by simpa using hf.2.2⟩

theorem ordB_ints {n : Nat} {l : List Int} : ordB n l = true ↔ ∃ p, l = ints p ∧ freshB n 0 p = true ∧ p.length = n := by
  rw [ordB, Bool.and_eq_true, ordFrom_ints, decide_eq_true_eq]
  constructor
  · rintro ⟨⟨p, rfl, hp⟩, hl⟩; exact ⟨p, rfl, hp, by simpa using hl⟩
  · rintro ⟨p, rfl, hp, hl⟩; exact ⟨⟨p, rfl, hp⟩, by simpa using hl⟩

theorem freshB_iff {n : Nat} : ∀ {s : Nat} {p : List Nat}, freshB n s p = true ↔ p.Nodup ∧ (∀ i, i ∈ p → i < n ∧ s.testBit i = false)
  | s, [] => by simp [freshB]
  | s, i :: p => by
    rw [freshB, Bool.and_eq_true, Bool.and_eq_true, freshB_iff, decide_eq_true_eq, Bool.not_eq_true', List.nodup_cons]
    simp only [Nat.testBit_or, Nat.testBit_two_pow, List.mem_cons, Bool.or_eq_false_iff, decide_eq_false_iff_not]
    constructor
    · rintro ⟨h1, h2, h3, h4⟩
      refine ⟨⟨fun hi => (h4 i hi).2.2 rfl, h3⟩, ?_⟩
      rintro k (rfl | hk)
      · exact ⟨h1, h2⟩
      · exact ⟨(h4 k hk).1, (h4 k hk).2.1⟩
    · rintro ⟨⟨h1, h2⟩, h3⟩
      refine ⟨(h3 i (.inl rfl)).1, (h3 i (.inl rfl)).2, h2, fun k hk => ⟨(h3 k (.inr hk)).1, (h3 k (.inr hk)).2, fun e => h1 (e ▸ hk)⟩⟩

theorem nodup_map {α β : Type} {f : α → β} : ∀ {l : List α}, (∀ x, x ∈ l → ∀ y, y ∈ l → f x = f y → x = y) → l.Nodup → (l.map f).Nodup
  | [], _, _ => by simp
  | a :: l, h, hn => by
    obtain ⟨h1, h2⟩ := List.nodup_cons.1 hn
    rw [List.map_cons, List.nodup_cons]
    refine ⟨fun hm => ?_, nodup_map (fun x hx y hy => h x (by simp [hx]) y (by simp [hy])) h2⟩
    obtain ⟨y, hy, e⟩ := List.mem_map.1 hm
    have := h y (by simp [hy]) a (by simp) e
    subst this
    exact h1 hy

/-- A list is an order just if each job is in it, and it is as long. -/
theorem ordB_all {n : Nat} {l : List Int} : ordB n l = true ↔ (∀ i : Nat, i < n → (i : Int) ∈ l) ∧ l.length = n := by
  rw [ordB_ints]
  constructor
  · rintro ⟨p, rfl, hp, hl⟩
    obtain ⟨hn, hb⟩ := freshB_iff.1 hp
    refine ⟨fun i hi => ?_, by simpa using hl⟩
    have : i ∈ p := by
      by_cases h : i ∈ p
      · exact h
      · exfalso
        have h2 : (i :: p).Nodup := List.nodup_cons.2 ⟨h, hn⟩
        have h3 : (i :: p) ⊆ List.range n := fun k hk => by
          rw [List.mem_range]
          rcases List.mem_cons.1 hk with rfl | hk
          · exact hi
          · exact (hb k hk).1
        have := h2.length_le_of_subset h3
        simp at this; omega
    exact List.mem_map.2 ⟨i, this, rfl⟩
  · rintro ⟨h, hl⟩
    have hr : (ints (List.range n)).Nodup := nodup_map (fun a _ b _ e => Int.ofNat.inj e) List.nodup_range
    have hsub : ints (List.range n) ⊆ l := fun x hx => by
      obtain ⟨i, hi, rfl⟩ := List.mem_map.1 hx
      exact h i (List.mem_range.1 hi)
    have hmem : ∀ x, x ∈ l → x ∈ ints (List.range n) := by
      intro x hx
      by_cases hm : x ∈ ints (List.range n)
      · exact hm
      · exfalso
        have h2 : (x :: ints (List.range n)).Nodup := List.nodup_cons.2 ⟨hm, hr⟩
        have h3 : (x :: ints (List.range n)) ⊆ l := fun y hy => by
          rcases List.mem_cons.1 hy with rfl | hy
          · exact hx
          · exact hsub hy
        have := h2.length_le_of_subset h3
        simp at this; omega
    have hnd : l.Nodup := by
      rw [← hl] at hr hmem hsub
      clear h
      have key : ∀ (m : List Int) (k : List Int), k.Nodup → k ⊆ m → m.length ≤ k.length → m.Nodup := by
        intro m
        induction m with
        | nil => intro k _ _ _; exact List.nodup_nil
        | cons a m ih =>
          intro k hk hkm hle
          have hle' : m.length + 1 ≤ k.length := by simpa using hle
          have hke := List.Nodup.erase a hk
          have hlen : (k.erase a).length ≤ k.length := List.length_erase_le
          have hsub' : k.erase a ⊆ m := fun y hy => by
            have hya := (hk.mem_erase_iff).1 hy
            rcases List.mem_cons.1 (hkm hya.2) with rfl | h
            · exact absurd rfl hya.1
            · exact h
          by_cases hak : a ∈ k
          · have hl2 := List.length_erase_of_mem hak
            have hm := ih _ hke hsub' (by omega)
            refine List.nodup_cons.2 ⟨fun ham => ?_, hm⟩
            have : k ⊆ m := fun y hy => by
              rcases List.mem_cons.1 (hkm hy) with rfl | h
              · exact ham
              · exact h
            have := hk.length_le_of_subset this
            omega
          · have : k ⊆ m := fun y hy => by
              rcases List.mem_cons.1 (hkm hy) with rfl | h
              · exact absurd hy hak
              · exact h
            have := hk.length_le_of_subset this
            omega
      exact key l _ hr hsub (by simp)
    refine ⟨l.map Int.toNat, ?_, freshB_iff.2 ⟨?_, ?_⟩, by simpa using hl⟩
    · unfold ints
      rw [List.map_map]
      symm
      refine (List.map_congr_left (g := id) fun x hx => ?_).trans (by simp)
      obtain ⟨i, _, rfl⟩ := List.mem_map.1 (hmem x hx)
      simp
    · refine nodup_map (fun x hx y hy e => ?_) hnd
      obtain ⟨i, _, rfl⟩ := List.mem_map.1 (hmem x hx)
      obtain ⟨k, _, rfl⟩ := List.mem_map.1 (hmem y hy)
      have e : i = k := by simpa using e
      rw [e]
    · intro i hi
      obtain ⟨x, hx, rfl⟩ := List.mem_map.1 hi
      obtain ⟨k, hk, rfl⟩ := List.mem_map.1 (hmem x hx)
      exact ⟨by simpa using hk, by simp⟩

/-- The first job that breaks a rule, and the rule. -/
def firstBad (M : Mend) (left : Nat) (b : Bench) : List Nat → Option (Nat × Int)
  | [] => none
  | i :: p => if M.broken left (M.next b i) i = 0 then firstBad M left (M.next b i) p else some (i, M.broken left (M.next b i) i)

theorem firstBad_none {M : Mend} {left : Nat} : ∀ {b : Bench} {p : List Nat}, firstBad M left b p = none ↔ goodB M left b p = true
  | b, [] => by simp [firstBad, goodB]
  | b, i :: p => by
    rw [firstBad, goodB]
    split
    · rename_i h; simp [h, firstBad_none]
    · rename_i h; simp [h]

end Go.Proofs.Ytcgkglonnmkfcaa

namespace Go.Proofs.Ytcgkglonnmkfcaa
open Go.RowKit

/-- How many numbers below another one are not in a set. -/
def free (n s : Nat) : Nat := ((List.range n).filter fun k => !s.testBit k).length

theorem free_succ (n s : Nat) : free (n + 1) s = free n s + (if s.testBit n then 0 else 1) := by
  unfold free
  rw [List.range_succ, List.filter_append, List.length_append]
  cases h : s.testBit n <;> simp [h]

theorem free_same {n s t : Nat} (h : ∀ k, k < n → s.testBit k = t.testBit k) : free n s = free n t := by
  induction n with
  | zero => rfl
  | succ n ih => rw [free_succ, free_succ, ih (fun k hk => h k (by omega)), h n (by omega)]

theorem free_set {n s i : Nat} (hi : i < n) (hs : s.testBit i = false) : free n s = free n (s ||| 2 ^ i) + 1 := by
  induction n with
  | zero => omega
  | succ n ih =>
    rw [free_succ, free_succ]
    rcases Nat.lt_or_ge i n with h | h
    · rw [ih h, Nat.testBit_or, Nat.testBit_two_pow]
      have : decide (i = n) = false := by simp; omega
      rw [this, Bool.or_false]
      omega
    · obtain rfl : i = n := by omega
      rw [hs, Nat.testBit_or, Nat.testBit_two_pow_self, Bool.or_true]
      have : free i s = free i (s ||| 2 ^ i) := free_same fun k hk => by
        rw [Nat.testBit_or, Nat.testBit_two_pow]
        have : decide (i = k) = false := by simp; omega
        rw [this, Bool.or_false]
      simp [this]

theorem free_zero {n s : Nat} : free n s = 0 ↔ ∀ k, k < n → s.testBit k = true := by
  unfold free
  rw [List.length_eq_zero_iff, List.filter_eq_nil_iff]
  simp

theorem free_le (n s : Nat) : free n s ≤ n := by
  unfold free
  exact Nat.le_trans (List.length_filter_le _ _) (by simp)

theorem free_none (n : Nat) : free n 0 = n := by
  unfold free
  rw [List.filter_eq_self.2 (fun k _ => by simp)]
  simp

/-- What is so of a bench behind which so many jobs are left to do. -/
structure Bench.In (M : Mend) (left n : Nat) (b : Bench) : Prop where
  late0 : 0 ≤ b.late
  late1 : b.late + 2000 * n ≤ 100000
  done : ∀ k, b.done.testBit k = true → k < M.jobs.length ∧ left.testBit k = false
  free : free M.jobs.length (left ||| b.done) = n

theorem set_in {M : Mend} (hM : M.Ok) (k : Int) : 0 ≤ M.set k ∧ M.set k ≤ 1000 := by
  unfold Mend.set
  rw [List.getD_eq_getElem?_getD]
  cases h : M.setup[k.toNat]? with
  | none => simp
  | some x => exact hM.set x (List.mem_of_getElem? h)

theorem ends_in {M : Mend} (hM : M.Ok) {kind now m : Int} {i : Nat} (hi : i < M.jobs.length) (hn : 0 ≤ now) (hm : 0 ≤ m ∧ m ≤ 1000) : 0 ≤ M.ends kind now (M.job i) m ∧ M.ends kind now (M.job i) m ≤ now + 2000 := by
  have := set_in hM (M.job i).kind
  have := hM.from_ i hi
  unfold Mend.ends
  split <;> omega

theorem begin_in (M : Mend) (hM : M.Ok) (left : Nat) : Bench.In M left (free M.jobs.length left) Bench.begin := by
  refine ⟨by simp [Bench.begin], ?_, by simp [Bench.begin], by simp [Bench.begin]⟩
  have := free_le M.jobs.length left
  have := hM.len
  simp only [Bench.begin]
  omega

theorem next_in {M : Mend} (hM : M.Ok) {left n : Nat} {b : Bench} (h : Bench.In M left (n + 1) b) {i : Nat} (hi : i < M.jobs.length) (hf : (left ||| b.done).testBit i = false) : Bench.In M left n (M.next b i) := by
  have he := ends_in hM (kind := b.kind) hi h.late0 (hM.hi i hi)
  have hl := h.late1
  refine ⟨he.1, ?_, ?_, ?_⟩
  · show M.ends b.kind b.late (M.job i) (M.job i).hi + 2000 * n ≤ 100000
    omega
  · intro k hk
    simp only [Mend.next, Nat.testBit_or, Nat.testBit_two_pow, Bool.or_eq_true, decide_eq_true_eq] at hk
    rcases hk with hk | rfl
    · exact h.done k hk
    · rw [Nat.testBit_or, Bool.or_eq_false_iff] at hf
      exact ⟨hi, hf.1⟩
  · have h1 := free_set hi hf
    rw [h.free] at h1
    show free M.jobs.length (left ||| (b.done ||| 2 ^ i)) = n
    rw [← Nat.or_assoc]
    omega

theorem step_in {M : Mend} (hM : M.Ok) {left n : Nat} {b : Bench} (h : Bench.In M left (n + 1) b) {x : Nat × Bench} (hx : x ∈ stepsL M left b) : Bench.In M left n x.2 := by
  obtain ⟨h1, h2, h3, _⟩ := mem_stepsTo.1 hx
  rw [h3]
  exact next_in hM h h1 h2

/-- The set of all jobs that are done. -/
def allN (n left : Nat) : Nat := (2 ^ n - 1) &&& (left ^^^ (2 ^ n - 1))
theorem allN_bit (n left k : Nat) : (allN n left).testBit k = (decide (k < n) && !left.testBit k) := by
  unfold allN
  rw [Nat.testBit_and, Nat.testBit_xor, Nat.testBit_two_pow_sub_one]
  cases left.testBit k <;> cases decide (k < n) <;> rfl

theorem In.done_all {M : Mend} {left n : Nat} {b : Bench} (h : Bench.In M left n b) : b.done = allN M.jobs.length left ↔ n = 0 := by
  rw [← h.free, free_zero]
  constructor
  · intro e k hk
    rw [Nat.testBit_or, e, allN_bit]
    cases left.testBit k <;> simp [hk]
  · intro e
    apply Nat.eq_of_testBit_eq
    intro k
    rw [allN_bit]
    cases hd : b.done.testBit k with
    | true => have := h.done k hd; simp [this.1, this.2]
    | false =>
      by_cases hk : k < M.jobs.length
      · have := e k hk
        rw [Nat.testBit_or, hd, Bool.or_false] at this
        simp [this]
      · simp [hk]

theorem In.done_lt {M : Mend} {left n : Nat} {b : Bench} (h : Bench.In M left n b) : b.done < 2 ^ M.jobs.length := by
  apply Nat.lt_pow_two_of_testBit
  intro k hk
  cases hd : b.done.testBit k with
  | true => have := (h.done k hd).1; omega
  | false => rfl

end Go.Proofs.Ytcgkglonnmkfcaa

namespace Go.Proofs.Ytcgkglonnmkfcaa
open Go.RowKit

/-- A bench, and when its last job is done at least. -/
abbrev Sit := Bench × Int
def Mend.nextS (M : Mend) (x : Sit) (i : Nat) : Sit := (M.next x.1 i, M.ends x.1.kind x.2 (M.job i) (M.job i).lo)
def Sit.begin : Sit := (Bench.begin, 0)
def ranS (M : Mend) (x : Sit) : List Nat → List Sit
  | [] => []
  | i :: p => M.nextS x i :: ranS M (M.nextS x i) p
theorem ranS_length (M : Mend) : ∀ (p : List Nat) (x : Sit), (ranS M x p).length = p.length
  | [], _ => rfl
  | i :: p, x => by simp [ranS, ranS_length M p]
theorem ranS_snoc (M : Mend) (i : Nat) : ∀ (p : List Nat) (x : Sit), ranS M x (p ++ [i]) = ranS M x p ++ [M.nextS (p.foldl M.nextS x) i]
  | [], _ => rfl
  | j :: p, x => by simp [ranS, ranS_snoc M i p]
theorem foldS_fst (M : Mend) : ∀ (p : List Nat) (x : Sit), (p.foldl M.nextS x).1 = p.foldl M.next x.1
  | [], _ => rfl
  | j :: p, x => by simp only [List.foldl_cons]; rw [foldS_fst M p]; rfl
theorem ranS_get (M : Mend) (x : Sit) (p : List Nat) (k : Nat) (hk : k < p.length) : (ranS M x p).getD k Sit.begin = (p.take (k + 1)).foldl M.nextS x := by
  induction p generalizing x k with
  | nil => simp at hk
  | cons i p ih =>
    cases k with
    | zero => simp [ranS]
    | succ k => simpa [ranS] using ih (M.nextS x i) k (by simpa using hk)
theorem take_snoc {p : List Nat} {k : Nat} (hk : k < p.length) : p.take (k + 1) = p.take k ++ [p.getD k 0] := by
  rw [List.take_succ_eq_append_getElem hk]
  simp [hk]
theorem drop_one {p : List Nat} {k : Nat} (hk : k < p.length) : p.drop k = p.getD k 0 :: p.drop (k + 1) := by
  rw [List.drop_eq_getElem_cons hk]; simp [hk]

/-- The bench behind some jobs. -/
abbrev benchOf (M : Mend) (p : List Nat) : Bench := p.foldl M.next Bench.begin
abbrev sitOf (M : Mend) (p : List Nat) : Sit := p.foldl M.nextS Sit.begin
theorem benchOf_sit (M : Mend) (p : List Nat) : (sitOf M p).1 = benchOf M p := foldS_fst M p _
theorem benchOf_succ (M : Mend) {p : List Nat} {k : Nat} (hk : k < p.length) : benchOf M (p.take (k + 1)) = M.next (benchOf M (p.take k)) (p.getD k 0) := by
  rw [take_snoc hk]; simp [benchOf]
theorem sitOf_succ (M : Mend) {p : List Nat} {k : Nat} (hk : k < p.length) : sitOf M (p.take (k + 1)) = M.nextS (sitOf M (p.take k)) (p.getD k 0) := by
  rw [take_snoc hk]; simp [sitOf]

theorem done_fold (M : Mend) (k : Nat) : ∀ (p : List Nat) (b : Bench), (p.foldl M.next b).done.testBit k = (b.done.testBit k || decide (k ∈ p))
  | [], b => by simp
  | i :: p, b => by
    rw [List.foldl_cons, done_fold M k p]
    simp only [Mend.next, Nat.testBit_or, Nat.testBit_two_pow, List.mem_cons, Bool.or_assoc]
    congr 1
    by_cases h : i = k
    · simp [h]
    · have : ¬ k = i := fun e => h e.symm
      simp [h, this]

/-- The rule that is broken at a place of a list. -/
def brokenAt (M : Mend) (left : Nat) (p : List Nat) (k : Nat) : Int := M.broken left (benchOf M (p.take (k + 1))) (p.getD k 0)
theorem good_from (M : Mend) (left : Nat) (p : List Nat) (k : Nat) (hk : k < p.length) : goodB M left (benchOf M (p.take k)) (p.drop k) = (decide (brokenAt M left p k = 0) && goodB M left (benchOf M (p.take (k + 1))) (p.drop (k + 1))) := by
  rw [drop_one hk, goodB, brokenAt, benchOf_succ M hk]
theorem bad_from (M : Mend) (left : Nat) (p : List Nat) (k : Nat) (hk : k < p.length) : firstBad M left (benchOf M (p.take k)) (p.drop k) = if brokenAt M left p k = 0 then firstBad M left (benchOf M (p.take (k + 1))) (p.drop (k + 1)) else some (p.getD k 0, brokenAt M left p k) := by
  rw [drop_one hk, firstBad, brokenAt, benchOf_succ M hk]

/-- Where a number is in a list; -1: nowhere. -/
def atOf (x : Int) : Nat → List Int → Int
  | _, [] => -1
  | k, y :: l => if y = x then k else atOf x (k + 1) l
theorem atOf_ge (x : Int) : ∀ (l : List Int) (k : Nat), atOf x k l = -1 ∨ (k : Int) ≤ atOf x k l
  | [], _ => .inl rfl
  | y :: l, k => by
    rw [atOf]
    split
    · right; omega
    · rcases atOf_ge x l (k + 1) with h | h
      · exact .inl h
      · right; omega
theorem atOf_no (x : Int) : ∀ (l : List Int) (k : Nat), atOf x k l < 0 ↔ x ∉ l
  | [], _ => by simp [atOf]
  | y :: l, k => by
    rw [atOf]
    split
    · rename_i h; subst h; simp
    · rename_i h
      rw [atOf_no x l (k + 1), List.mem_cons]
      constructor
      · rintro h1 (h2 | h2)
        · exact h h2.symm
        · exact h1 h2
      · exact fun h1 h2 => h1 (.inr h2)
theorem atOf_take (x : Int) : ∀ (l : List Int) (k i : Nat), (atOf x k l < 0 ∨ ((k + i : Nat) : Int) < atOf x k l) ↔ x ∉ l.take (i + 1)
  | [], k, i => by simp [atOf]
  | y :: l, k, i => by
    rw [atOf, List.take_succ_cons]
    split
    · rename_i h; subst h; simp; omega
    · rename_i h
      cases i with
      | zero =>
        have := atOf_ge x l (k + 1)
        simp only [List.take_zero, List.mem_singleton]
        constructor
        · exact fun _ e => h e.symm
        · intro _; omega
      | succ i =>
        have := atOf_take x l (k + 1) i
        rw [show k + (i + 1) = k + 1 + i by omega, this, List.mem_cons]
        constructor
        · rintro h1 (h2 | h2)
          · exact h h2.symm
          · exact h1 h2
        · exact fun h1 h2 => h1 (.inr h2)
theorem mem_ints {k : Nat} {p : List Nat} : (k : Int) ∈ ints p ↔ k ∈ p := by
  constructor
  · intro h
    obtain ⟨i, hi, e⟩ := List.mem_map.1 h
    have : i = k := Int.ofNat.inj e
    exact this ▸ hi
  · exact fun h => List.mem_map.2 ⟨k, h, rfl⟩

/-- Does the reference find a job that is to come before? -/
def waitsAt (M : Mend) (left : Nat) (p : List Nat) (i k : Nat) : Bool :=
  (M.job (p.getD i 0)).after.toNat.testBit k && !left.testBit k && (decide (atOf k 0 (ints p) < 0) || decide ((i : Int) < atOf k 0 (ints p)))
theorem waitsAt_eq (M : Mend) (hM : M.Ok) (left : Nat) (p : List Nat) (i : Nat) (hp : p.getD i 0 < M.jobs.length) : ((List.range M.jobs.length).any fun k => waitsAt M left p i k) = M.waits left (benchOf M (p.take (i + 1))) (p.getD i 0) := by
  unfold Mend.waits
  congr 1
  funext k
  unfold waitsAt
  by_cases hk : k = p.getD i 0
  · subst hk; rw [hM.own _ hp]; simp
  · congr 1
    rw [done_fold]
    have h1 := atOf_take k (ints p) 0 i
    rw [Nat.zero_add] at h1
    have h2 : (ints p).take (i + 1) = ints (p.take (i + 1)) := by simp [ints]
    rw [h2, mem_ints] at h1
    have h3 : (decide (k ≠ p.getD i 0)) = true := by simpa using hk
    rw [h3, Bool.and_true, Bool.eq_iff_iff]
    simp only [Bool.or_eq_true, decide_eq_true_eq, Bool.not_eq_true', Bool.or_eq_false_iff, decide_eq_false_iff_not]
    rw [h1]
    simp [Bench.begin]
theorem brokenAt_eq (M : Mend) (hM : M.Ok) (left : Nat) (p : List Nat) (i : Nat) (hp : p.getD i 0 < M.jobs.length) : brokenAt M left p i = if (List.range M.jobs.length).any (fun k => waitsAt M left p i k) then 1 else if (M.job (p.getD i 0)).by_ < (benchOf M (p.take (i + 1))).late then 2 else 0 := by
  rw [waitsAt_eq M hM left p i hp]; rfl

end Go.Proofs.Ytcgkglonnmkfcaa

namespace Go.Proofs.Ytcgkglonnmkfcaa
open Go.RowKit

def Mend.pays (M : Mend) (b : Bench) (i : Nat) : Int := (M.job i).cost * max 0 (b.late - (M.job i).soft)
def countG : Goal Int := ⟨fun _ => 1, fun _ _ x => x, fun a b => wrap64 (a + b)⟩
def costG (M : Mend) : Goal Int := ⟨fun _ => 0, fun b i x => wrap64 (x + M.pays b i), fun a b => min a b⟩
def lateG : Goal Int := ⟨fun b => b.late, fun _ _ x => x, fun a b => min a b⟩

theorem count_alg {M : Mend} (hM : M.Ok) (left : Nat) : countG.Alg M left (Bench.In M left) (fun _ _ => True) := by
  refine ⟨fun _ _ _ h hx => step_in hM h hx, fun _ _ => trivial, fun _ _ _ _ _ _ _ => trivial, fun _ _ _ _ _ => trivial, fun _ a b c _ _ _ => ?_, fun _ _ _ _ _ _ _ _ _ => rfl⟩
  simp only [countG, wrap64]; omega
theorem late_low {M : Mend} (hM : M.Ok) (left : Nat) : lateG.Low M left (Bench.In M left) (fun _ _ => True) :=
  ⟨fun _ _ _ h hx => step_in hM h hx, fun _ _ => rfl, fun _ _ => trivial, fun _ _ _ _ _ _ _ => trivial, fun _ _ _ _ _ _ _ _ _ h => h⟩

theorem pays_in {M : Mend} (hM : M.Ok) {left n : Nat} {b : Bench} (h : Bench.In M left n b) {i : Nat} (hi : i < M.jobs.length) : 0 ≤ M.pays b i ∧ M.pays b i ≤ 1000000000 := by
  obtain ⟨h1, h2⟩ := hM.cost i hi
  obtain ⟨h3, _⟩ := hM.soft i hi
  have h4 := h.late0
  have h5 := h.late1
  unfold Mend.pays
  have h6 : 0 ≤ max 0 (b.late - (M.job i).soft) := by omega
  have h7 : max 0 (b.late - (M.job i).soft) ≤ 100000 := by omega
  refine ⟨Int.mul_nonneg h1 h6, ?_⟩
  calc (M.job i).cost * max 0 (b.late - (M.job i).soft) ≤ 1000 * 100000 := Int.mul_le_mul h2 h7 h6 (by omega)
    _ ≤ _ := by omega

theorem cost_low {M : Mend} (hM : M.Ok) (left : Nat) : (costG M).Low M left (Bench.In M left) (fun n x => 0 ≤ x ∧ x ≤ n * 1000000000 ∧ n ≤ 50) := by
  have key : ∀ (n : Nat) (b : Bench) (x : Nat × Bench) (y : Int), Bench.In M left (n + 1) b → x ∈ stepsL M left b → (0 ≤ y ∧ y ≤ n * 1000000000 ∧ n ≤ 50) → (costG M).step x.2 x.1 y = y + M.pays x.2 x.1 ∧ 0 ≤ M.pays x.2 x.1 ∧ M.pays x.2 x.1 ≤ 1000000000 ∧ n + 1 ≤ 50 := by
    intro n b x y hb hx hy
    have hp := pays_in hM (step_in hM hb hx) (mem_stepsTo.1 hx).1
    have h1 := hb.late0
    have h2 := hb.late1
    have h3 : (n : Int) ≤ 50 := by omega
    refine ⟨?_, hp.1, hp.2, by omega⟩
    simp only [costG]
    exact IntWalk.wrap64_in _ (by omega)
  refine ⟨fun _ _ _ h hx => step_in hM h hx, fun _ _ => rfl, fun _ _ => by simp [costG], ?_, ?_⟩
  · intro n b x y hb hx hy
    obtain ⟨h1, h2, h3, h4⟩ := key n b x y hb hx hy
    rw [h1]
    omega
  · intro n b x y z hb hx hy hz hlt
    rw [(key n b x y hb hx hy).1, (key n b x z hb hx hz).1]
    omega

theorem sum_le {α : Type} (f : α → Nat) (c : Nat) : ∀ (l : List α), (∀ x, x ∈ l → f x ≤ c) → (l.map f).sum ≤ l.length * c
  | [], _ => by simp
  | x :: l, h => by
    have h1 := h x (by simp)
    have h2 := sum_le f c l (fun y hy => h y (by simp [hy]))
    simp only [List.map_cons, List.sum_cons, List.length_cons, Nat.succ_mul]
    omega
theorem stepsTo_length (M : Mend) (left : Nat) (b : Bench) : ∀ k, (stepsTo M left b k).length ≤ k
  | 0 => by simp [stepsTo]
  | k + 1 => by
    have := stepsTo_length M left b k
    rw [stepsTo, List.length_append]
    have h2 : (stepTo M left b k).length ≤ 1 := by unfold stepTo; split <;> (try split) <;> simp
    omega
theorem length_rightL (M : Mend) (left : Nat) (hM : M.jobs.length ≤ 6) : ∀ (n : Nat) (b : Bench), (rightL M left n b).length ≤ 6 ^ n
  | 0, _ => by simp [rightL]
  | n + 1, b => by
    simp only [rightL, List.length_flatMap, List.length_map]
    have h1 := sum_le (fun x : Nat × Bench => (rightL M left n x.2).length) (6 ^ n) (stepsL M left b) (fun x _ => length_rightL M left hM n x.2)
    have h2 : (stepsL M left b).length ≤ 6 := Nat.le_trans (stepsTo_length M left b _) hM
    have h3 : (stepsL M left b).length * 6 ^ n ≤ 6 * 6 ^ n := Nat.mul_le_mul_right _ h2
    have h4 : 6 ^ (n + 1) = 6 * 6 ^ n := by rw [Nat.pow_succ, Nat.mul_comm]
    omega

theorem val_count (M : Mend) : ∀ (p : List Nat) (b : Bench), val M countG b p = 1
  | [], _ => rfl
  | i :: l, b => val_count M l (M.next b i)
theorem foldl_ones : ∀ (l : List (List Nat)) (k : Int), 0 ≤ k → k + l.length ≤ 65536 → (l.map (fun _ => (1 : Int))).foldl (fun a b => wrap64 (a + b)) k = k + l.length
  | [], k, _, _ => by simp
  | x :: l, k, h0, h1 => by
    simp only [List.length_cons] at h1
    simp only [List.map_cons, List.foldl_cons, List.length_cons]
    rw [IntWalk.wrap64_in _ (by omega), foldl_ones l (k + 1) (by omega) (by omega)]
    omega
theorem joinAll_ones {l : List (List Nat)} (h : l.length ≤ 65536) : joinAll countG.join (l.map (fun _ => (1 : Int))) = if l = [] then none else some (l.length : Int) := by
  cases l with
  | nil => rfl
  | cons a l =>
    simp only [List.length_cons] at h
    simp only [joinAll, List.map_cons, countG]
    rw [foldl_ones l 1 (by omega) (by omega)]
    simp
    omega
theorem found_count {M : Mend} (hM : M.Ok) {left n : Nat} {b : Bench} (hb : Bench.In M left n b) (hn : n ≤ 6) : found M left countG n b = if rightL M left n b = [] then none else some ((rightL M left n b).length : Int) := by
  have h1 := length_rightL M left hM.len n b
  have h2 : 6 ^ n ≤ 6 ^ 6 := Nat.pow_le_pow_right (by decide) hn
  rw [found_all (count_alg hM left) n b hb]
  rw [show (rightL M left n b).map (val M countG b) = (rightL M left n b).map (fun _ => (1 : Int)) from List.map_congr_left (fun p _ => val_count M p _)]
  exact joinAll_ones (by omega)
theorem found_some {T : Type} {g : Goal T} {M : Mend} {left : Nat} {I : Nat → Bench → Prop} {P : Nat → T → Prop} (hA : g.Alg M left I P) {n : Nat} {b : Bench} (hb : I n b) : (found M left g n b).isSome = !(rightL M left n b).isEmpty := by
  rw [found_all hA n b hb]
  cases rightL M left n b <;> simp [joinAll]

/-- All right orders, and how many they are. -/
def restN (M : Mend) (left : Nat) : Nat := free M.jobs.length left
abbrev ordersL (M : Mend) (left : Nat) : List (List Nat) := rightL M left (restN M left) Bench.begin
theorem restN_le {M : Mend} (hM : M.Ok) (left : Nat) : restN M left ≤ 6 := Nat.le_trans (free_le _ _) hM.len
theorem count_orders {M : Mend} (hM : M.Ok) (left : Nat) : (found M left countG (restN M left) Bench.begin).getD 0 = ((ordersL M left).length : Int) := by
  have h := found_count hM (begin_in M hM left) (restN_le hM left)
  rw [show restN M left = free M.jobs.length left from rfl, h]
  split
  · rename_i h2; unfold ordersL; rw [show restN M left = free M.jobs.length left from rfl, h2]; rfl
  · rfl

/-- What an order costs from a bench on. -/
def costFrom (M : Mend) (b : Bench) : List Nat → Int
  | [] => 0
  | i :: p => costFrom M (M.next b i) p + M.pays (M.next b i) i
theorem rightL_cons {M : Mend} {left n : Nat} {b : Bench} {p : List Nat} : p ∈ rightL M left (n + 1) b ↔ ∃ i l, p = i :: l ∧ (i, M.next b i) ∈ stepsL M left b ∧ l ∈ rightL M left n (M.next b i) := by
  simp only [rightL, List.mem_flatMap, List.mem_map]
  constructor
  · rintro ⟨x, hx, l, hl, rfl⟩
    have h2 := (mem_stepsTo.1 hx).2.2.1
    refine ⟨x.1, l, rfl, ?_, ?_⟩
    · rw [← h2]; exact hx
    · rw [← h2]; exact hl
  · rintro ⟨i, l, rfl, hx, hl⟩
    exact ⟨(i, M.next b i), hx, l, hl, rfl⟩
theorem val_cost {M : Mend} (hM : M.Ok) (left : Nat) : ∀ (n : Nat) (b : Bench), Bench.In M left n b → ∀ p, p ∈ rightL M left n b → val M (costG M) b p = costFrom M b p
  | 0, b, _, p, hp => by
    obtain rfl : p = [] := by simpa [rightL] using hp
    rfl
  | n + 1, b, hb, p, hp => by
    obtain ⟨i, l, rfl, hx, hl⟩ := rightL_cons.1 hp
    have hP : 0 ≤ val M (costG M) (M.next b i) l ∧ val M (costG M) (M.next b i) l ≤ n * 1000000000 ∧ n ≤ 50 := val_P (cost_low hM left).alg n _ (step_in hM hb hx) l hl
    have hv := val_cost hM left n _ (step_in hM hb hx) l hl
    have hpay : 0 ≤ M.pays (M.next b i) i ∧ M.pays (M.next b i) i ≤ 1000000000 := pays_in hM (step_in hM hb hx) (mem_stepsTo.1 hx).1
    simp only [val, costFrom]
    rw [← hv]
    show wrap64 (val M (costG M) (M.next b i) l + M.pays (M.next b i) i) = _
    exact IntWalk.wrap64_in _ (by
      have h1 : (n : Int) ≤ 50 := by omega
      have := hP.2.1
      have := hP.1
      omega)
theorem val_late {M : Mend} : ∀ (p : List Nat) (b : Bench), val M lateG b p = (p.foldl M.next b).late
  | [], _ => rfl
  | i :: l, b => val_late l (M.next b i)

end Go.Proofs.Ytcgkglonnmkfcaa

namespace Go.Proofs.Ytcgkglonnmkfcaa
open Go.RowKit

/-- What a list is run to: after each job, the bench, when it is done at least, and the job. -/
def worksL (M : Mend) (x : Sit) : List Nat → List (Sit × Nat)
  | [] => []
  | i :: p => (M.nextS x i, i) :: worksL M (M.nextS x i) p
theorem worksL_length (M : Mend) : ∀ (p : List Nat) (x : Sit), (worksL M x p).length = p.length
  | [], _ => rfl
  | i :: p, x => by simp [worksL, worksL_length M p]
theorem worksL_fst (M : Mend) : ∀ (p : List Nat) (x : Sit), (worksL M x p).map (·.1) = ranS M x p
  | [], _ => rfl
  | i :: p, x => by simp [worksL, ranS, worksL_fst M p]
theorem worksL_snoc (M : Mend) (i : Nat) : ∀ (p : List Nat) (x : Sit), worksL M x (p ++ [i]) = worksL M x p ++ [(M.nextS (p.foldl M.nextS x) i, i)]
  | [], _ => rfl
  | j :: p, x => by simp [worksL, worksL_snoc M i p]

theorem bad_snoc (M : Mend) (left i : Nat) : ∀ (p : List Nat) (b : Bench), firstBad M left b (p ++ [i]) = match firstBad M left b p with
    | some x => some x
    | none => if M.broken left (M.next (p.foldl M.next b) i) i = 0 then none else some (i, M.broken left (M.next (p.foldl M.next b) i) i)
  | [], b => rfl
  | j :: p, b => by
    rw [List.cons_append, firstBad, firstBad]
    split
    · rw [bad_snoc M left i p]; rfl
    · rfl
/-- The first job that breaks a rule, and the rule: 0 and 0 if none does. -/
def badOf (M : Mend) (left : Nat) (p : List Nat) : Int × Int := match firstBad M left Bench.begin p with
  | none => (0, 0)
  | some (i, r) => ((i : Int), r)
theorem broken_cases (M : Mend) (left : Nat) (b : Bench) (i : Nat) : M.broken left b i = 0 ∨ M.broken left b i = 1 ∨ M.broken left b i = 2 := by
  unfold Mend.broken
  split
  · exact .inr (.inl rfl)
  · split
    · exact .inr (.inr rfl)
    · exact .inl rfl
theorem firstBad_ne {M : Mend} {left : Nat} : ∀ {p : List Nat} {b : Bench} {x : Nat × Int}, firstBad M left b p = some x → x.2 = 1 ∨ x.2 = 2
  | [], _, _, h => by simp [firstBad] at h
  | i :: p, b, x, h => by
    rw [firstBad] at h
    split at h
    · exact firstBad_ne h
    · rename_i hne
      obtain rfl := Option.some.inj h
      rcases broken_cases M left (M.next b i) i with h2 | h2
      · exact (hne h2).elim
      · exact h2
theorem badOf_zero {M : Mend} {left : Nat} {p : List Nat} : (badOf M left p).2 = 0 ↔ firstBad M left Bench.begin p = none := by
  unfold badOf
  cases h : firstBad M left Bench.begin p with
  | none => simp
  | some x =>
    have := firstBad_ne h
    obtain ⟨i, r⟩ := x
    simp only [reduceCtorEq, iff_false]
    simp only at this
    omega
theorem badOf_zero' {M : Mend} {left : Nat} {p : List Nat} (h : (badOf M left p).2 = 0) : badOf M left p = (0, 0) := by
  have := badOf_zero.1 h
  simp [badOf, this]
theorem badOf_snoc (M : Mend) (left i : Nat) (p : List Nat) : badOf M left (p ++ [i]) = if (badOf M left p).2 = 0 ∧ M.broken left (M.next (benchOf M p) i) i ≠ 0 then ((i : Int), M.broken left (M.next (benchOf M p) i) i) else badOf M left p := by
  by_cases h : (badOf M left p).2 = 0
  · have h1 := badOf_zero.1 h
    have h2 := badOf_zero' h
    rw [h2]
    unfold badOf
    rw [bad_snoc, h1]
    simp only
    by_cases h3 : M.broken left (M.next (benchOf M p) i) i = 0
    · rw [if_pos h3]; simp [h3]
    · rw [if_neg h3]; simp [h3]
  · have h1 : firstBad M left Bench.begin p ≠ none := fun e => h (badOf_zero.2 e)
    rw [if_neg (fun e => h e.1)]
    unfold badOf
    rw [bad_snoc]
    cases h2 : firstBad M left Bench.begin p with
    | none => exact (h1 h2).elim
    | some x => rfl

/-- What is so of a situation behind so many jobs. -/
structure Sit.In (M : Mend) (n : Nat) (x : Sit) : Prop where
  late0 : 0 ≤ x.1.late
  late1 : x.1.late ≤ 2000 * n
  soon0 : 0 ≤ x.2
  soon1 : x.2 ≤ 2000 * n
  done : ∀ k, x.1.done.testBit k = true → k < M.jobs.length
theorem Sit.begin_in (M : Mend) : Sit.In M 0 Sit.begin := ⟨by simp [Sit.begin, Bench.begin], by simp [Sit.begin, Bench.begin], by simp [Sit.begin], by simp [Sit.begin], by simp [Sit.begin, Bench.begin]⟩
theorem Sit.next_in {M : Mend} (hM : M.Ok) {n : Nat} {x : Sit} (h : Sit.In M n x) {i : Nat} (hi : i < M.jobs.length) : Sit.In M (n + 1) (M.nextS x i) := by
  have h1 := ends_in hM (kind := x.1.kind) hi h.late0 (hM.hi i hi)
  have h2 := ends_in hM (kind := x.1.kind) hi h.soon0 (hM.lo i hi)
  have h3 := h.late1
  have h4 := h.soon1
  refine ⟨h1.1, ?_, h2.1, ?_, ?_⟩
  · show M.ends x.1.kind x.1.late (M.job i) (M.job i).hi ≤ 2000 * ((n + 1 : Nat) : Int); omega
  · show M.ends x.1.kind x.2 (M.job i) (M.job i).lo ≤ 2000 * ((n + 1 : Nat) : Int); omega
  · intro k hk
    simp only [Mend.nextS, Mend.next, Nat.testBit_or, Nat.testBit_two_pow, Bool.or_eq_true, decide_eq_true_eq] at hk
    rcases hk with hk | rfl
    · exact h.done k hk
    · exact hi
theorem Sit.In.done_lt {M : Mend} (hM : M.Ok) {n : Nat} {x : Sit} (h : Sit.In M n x) : x.1.done < 64 := by
  have : x.1.done < 2 ^ 6 := by
    apply Nat.lt_pow_two_of_testBit
    intro k hk
    cases hd : x.1.done.testBit k with
    | true => have := h.done k hd; have := hM.len; omega
    | false => rfl
  exact this

end Go.Proofs.Ytcgkglonnmkfcaa
