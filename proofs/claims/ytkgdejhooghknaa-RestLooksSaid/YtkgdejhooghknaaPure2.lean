/- The plain mathematics of layer 6: what is found is what all right plans tell. -/
import Derived.Test.YtkgdejhooghknaaPure
namespace Go.Proofs.Ytkgdejhooghknaa
open Go.RowKit

/-- A plan that is right from a state on. -/
def goodB (R : Rest) (s : St) : List Int → Bool
  | [] => true
  | x :: l => inB x 0 1 && (decide (broken R (s.next x) = 0) && goodB R (s.next x) l)

/-- All plans for so many hours that are right from a state on, in order. -/
def rightL (R : Rest) : Nat → St → List (List Int)
  | 0, _ => [[]]
  | n + 1, s => (stepsL R s).flatMap fun x => (rightL R n x.2).map (x.1 :: ·)

theorem mem_stepsL {R : Rest} {s : St} {x : Int × St} : x ∈ stepsL R s ↔ (x.1 = 0 ∨ x.1 = 1) ∧ x.2 = s.next x.1 ∧ broken R x.2 = 0 := by
  refine ⟨mem_steps, ?_⟩
  obtain ⟨a, b⟩ := x
  rintro ⟨h, h2, hb⟩
  simp only at h h2 hb
  subst h2
  rcases h with rfl | rfl
  · simp [stepsTo, hb]
  · simp [stepsTo, hb]

theorem mem_rightL {R : Rest} : ∀ {n : Nat} {s : St} {p : List Int}, p ∈ rightL R n s ↔ p.length = n ∧ goodB R s p = true
  | 0, s, p => by
    cases p <;> simp [rightL, goodB]
  | n + 1, s, p => by
    cases p with
    | nil => simp [rightL]
    | cons y l =>
      simp only [rightL, List.mem_flatMap, List.mem_map, List.cons.injEq, List.length_cons, goodB, Bool.and_eq_true, decide_eq_true_eq]
      constructor
      · rintro ⟨x, hx, l', hl', rfl, rfl⟩
        obtain ⟨h1, h2, h3⟩ := mem_steps hx
        obtain ⟨h4, h5⟩ := mem_rightL.1 hl'
        rw [h2] at h3 h5
        refine ⟨by omega, ?_, h3, h5⟩
        rcases h1 with h | h <;> rw [h] <;> rfl
      · rintro ⟨h1, h2, h3, h4⟩
        refine ⟨(y, s.next y), mem_stepsL.2 ⟨?_, rfl, h3⟩, l, mem_rightL.2 ⟨by omega, h4⟩, rfl, rfl⟩
        simp only [inB, Bool.and_eq_true, decide_eq_true_eq] at h2
        simp only; omega

theorem checkFrom_right (R : Rest) (l : List Int) : ∀ (s : St) (h : Int), l.any (fun x => !inB x 0 1) = false → (goodB R s l = true ↔ checkFrom R s h l = (0, 0, 4)) := by
  induction l with
  | nil => intro s h _; simp [goodB, checkFrom]
  | cons x l ih =>
    intro s h hb
    simp only [List.any_cons, Bool.or_eq_false_iff, Bool.not_eq_false'] at hb
    simp only [goodB, checkFrom, hb.1, Bool.true_and, Bool.and_eq_true, decide_eq_true_eq]
    by_cases hk : broken R (s.next x) = 0
    · simp only [hk, true_and, if_true]; exact ih _ _ hb.2
    · simp [hk]

/-- What one plan comes to. -/
def val {T : Type} (g : Goal T) (s : St) : List Int → T
  | [] => g.fin s
  | x :: l => g.hour s (s.next x) (val g (s.next x) l)

def ojoin {T : Type} (j : T → T → T) : Option T → Option T → Option T
  | none, b => b
  | some a, none => some a
  | some a, some b => some (j a b)

/-- All of some, one after the other. -/
def joinAll {T : Type} (j : T → T → T) : List T → Option T
  | [] => none
  | a :: l => some (l.foldl j a)

/-- The goal's algebra, of what can be with so many hours left. -/
structure Goal.Alg {T : Type} (g : Goal T) (P : Nat → T → Prop) : Prop where
  fin : ∀ s, s.Ok → P 0 (g.fin s)
  hour : ∀ (n : Nat) (s nx : St) x, s.Ok → nx.Ok → s.hour + n < 16 → P n x → P (n + 1) (g.hour s nx x)
  join : ∀ n a b, P n a → P n b → P n (g.join a b)
  assoc : ∀ n a b c, P n a → P n b → P n c → g.join (g.join a b) c = g.join a (g.join b c)
  dist : ∀ (n : Nat) (s nx : St) a b, s.Ok → nx.Ok → s.hour + n < 16 → P n a → P n b → g.hour s nx (g.join a b) = g.join (g.hour s nx a) (g.hour s nx b)

theorem foldl_P {T : Type} {j : T → T → T} {P : T → Prop} (hj : ∀ a b, P a → P b → P (j a b)) : ∀ (l : List T) (a : T), P a → (∀ x, x ∈ l → P x) → P (l.foldl j a)
  | [], _, ha, _ => ha
  | x :: l, a, ha, h => foldl_P hj l _ (hj _ _ ha (h x (by simp))) (fun y hy => h y (by simp [hy]))

theorem foldl_assoc {T : Type} {j : T → T → T} {P : T → Prop} (hj : ∀ a b, P a → P b → P (j a b)) (ha : ∀ a b c, P a → P b → P c → j (j a b) c = j a (j b c)) :
    ∀ (l : List T) (a b : T), P a → P b → (∀ x, x ∈ l → P x) → l.foldl j (j a b) = j a (l.foldl j b)
  | [], _, _, _, _, _ => rfl
  | x :: l, a, b, h1, h2, h => by
    have hx := h x (by simp)
    simp only [List.foldl_cons]
    rw [ha a b x h1 h2 hx]
    exact foldl_assoc hj ha l a _ h1 (hj _ _ h2 hx) (fun y hy => h y (by simp [hy]))

theorem joinAll_append {T : Type} {j : T → T → T} {P : T → Prop} (hj : ∀ a b, P a → P b → P (j a b)) (ha : ∀ a b c, P a → P b → P c → j (j a b) c = j a (j b c))
    (l m : List T) (hl : ∀ x, x ∈ l → P x) (hm : ∀ x, x ∈ m → P x) : joinAll j (l ++ m) = ojoin j (joinAll j l) (joinAll j m) := by
  cases l with
  | nil => rfl
  | cons a l =>
    cases m with
    | nil => simp [joinAll, ojoin]
    | cons b m =>
      simp only [joinAll, List.cons_append, ojoin, List.foldl_append, List.foldl_cons]
      rw [foldl_assoc hj ha m _ b (foldl_P hj l a (hl a (by simp)) (fun x hx => hl x (by simp [hx]))) (hm b (by simp)) (fun x hx => hm x (by simp [hx]))]

theorem joinAll_map {T : Type} {j : T → T → T} {P : T → Prop} {f : T → T} (hj : ∀ a b, P a → P b → P (j a b)) (hf : ∀ a b, P a → P b → f (j a b) = j (f a) (f b)) (l : List T) (hl : ∀ x, x ∈ l → P x) :
    joinAll j (l.map f) = (joinAll j l).map f := by
  cases l with
  | nil => rfl
  | cons a l =>
    simp only [List.map_cons, joinAll, Option.map_some, Option.some.injEq]
    have : ∀ (l : List T) (a : T), P a → (∀ x, x ∈ l → P x) → (l.map f).foldl j (f a) = f (l.foldl j a) := by
      intro l
      induction l with
      | nil => intro a _ _; rfl
      | cons x l ih =>
        intro a h1 h2
        simp only [List.map_cons, List.foldl_cons]
        rw [← hf a x h1 (h2 x (by simp))]
        exact ih _ (hj _ _ h1 (h2 x (by simp))) (fun y hy => h2 y (by simp [hy]))
    exact this l a (hl a (by simp)) (fun x hx => hl x (by simp [hx]))

theorem add_ojoin {T : Type} (g : Goal T) (s nx : St) (k o : Option T) : g.add s nx k o = ojoin g.join k (o.map (g.hour s nx)) := by
  cases o with
  | none => cases k <;> rfl
  | some y => cases k <;> rfl

theorem val_P {T : Type} {g : Goal T} {P : Nat → T → Prop} (hA : g.Alg P) (R : Rest) : ∀ (n : Nat) (s : St), s.Ok → s.hour + n ≤ 16 → ∀ p, p ∈ rightL R n s → P n (val g s p)
  | 0, s, hs, _, p, hp => by
    obtain rfl : p = [] := by simpa [rightL] using hp
    exact hA.fin s hs
  | n + 1, s, hs, hh, p, hp => by
    simp only [rightL, List.mem_flatMap, List.mem_map] at hp
    obtain ⟨x, hx, l, hl, rfl⟩ := hp
    obtain ⟨h1, h2, _⟩ := mem_steps hx
    have hnx : x.2.Ok := by rw [h2]; exact St.next_ok hs (by omega) (by omega) (by omega)
    have hh2 : x.2.hour = s.hour + 1 := by rw [h2]; rfl
    simp only [val]
    rw [← h2]
    exact hA.hour n s x.2 _ hs hnx (by omega) (val_P hA R n x.2 hnx (by omega) l hl)

theorem snoc_ind {α : Type} {m : List α → Prop} (hn : m []) (hs : ∀ l x, m l → m (l ++ [x])) (l : List α) : m l := by
  rw [← List.reverse_reverse l]
  induction l.reverse with
  | nil => exact hn
  | cons x l ih => rw [List.reverse_cons]; exact hs _ _ ih

/-- What is found is what all right plans come to, one after the other. -/
theorem found_all {T : Type} {g : Goal T} {P : Nat → T → Prop} (hA : g.Alg P) (R : Rest) : ∀ (n : Nat) (s : St), s.Ok → s.hour + n ≤ 16 → found R g n s = joinAll g.join ((rightL R n s).map (val g s))
  | 0, s, _, _ => rfl
  | n + 1, s, hs, hh => by
    have key : ∀ (pre : List (Int × St)), (∀ x, x ∈ pre → x ∈ stepsL R s) → foundOn R g n s pre = joinAll g.join ((pre.flatMap fun x => (rightL R n x.2).map (x.1 :: ·)).map (val g s)) := by
      refine snoc_ind (fun _ => rfl) ?_
      · intro pre x ih hpre
        have hx := hpre x (by simp)
        obtain ⟨h1, h2, _⟩ := mem_steps hx
        have hnx : x.2.Ok := by rw [h2]; exact St.next_ok hs (by omega) (by omega) (by omega)
        have hh2 : x.2.hour = s.hour + 1 := by rw [h2]; rfl
        rw [foundOn_snoc, ih (fun y hy => hpre y (by simp [hy])), found_all hA R n x.2 hnx (by omega), add_ojoin]
        rw [List.flatMap_append, List.map_append]
        have hin : ∀ (q : List Int), q ∈ (rightL R n x.2).map (x.1 :: ·) → q ∈ rightL R (n + 1) s := by
          intro q hq
          simp only [rightL, List.mem_flatMap]
          exact ⟨x, hx, hq⟩
        rw [joinAll_append (P := P (n + 1)) (hA.join (n + 1)) (hA.assoc (n + 1))]
        · congr 1
          simp only [List.flatMap_cons, List.flatMap_nil, List.append_nil, List.map_map]
          rw [← joinAll_map (P := P n) (hA.join n) (fun a b ha hb => hA.dist n s x.2 a b hs hnx (by omega) ha hb) _ (fun v hv => by
            obtain ⟨q, hq, rfl⟩ := List.mem_map.1 hv
            exact val_P hA R n x.2 hnx (by omega) q hq)]
          rw [List.map_map]
          congr 1
          apply List.map_congr_left
          intro q _
          simp only [Function.comp, val]
          rw [← h2]
        · intro v hv
          obtain ⟨q, hq, rfl⟩ := List.mem_map.1 hv
          refine val_P hA R (n + 1) s hs hh q ?_
          simp only [rightL, List.mem_flatMap]
          obtain ⟨y, hy, hq⟩ := List.mem_flatMap.1 hq
          exact ⟨y, hpre y (by simp [hy]), hq⟩
        · intro v hv
          obtain ⟨q, hq, rfl⟩ := List.mem_map.1 hv
          refine val_P hA R (n + 1) s hs hh q (hin q ?_)
          simpa using hq
    exact key (stepsL R s) (fun x h => h)

end Go.Proofs.Ytkgdejhooghknaa
