/- The plain mathematics of layer 10: all lists that go on from some jobs, as the reference grows them. The plain mathematics of layer 10: what the reference makes of all right orders. -/
import Derived.Test.YtcgkglonnmkfcaaPD
import Derived.Test.YtcgkglonnmkfcaaHF
import Derived.Test.YtcgkglonnmkfcaaGI
namespace Go.Proofs.Ytcgkglonnmkfcaa
open Go.RowKit

/-- The set of some jobs. -/
def setOf (p : List Nat) : Nat := p.foldl (fun s i => s ||| 2 ^ i) 0
theorem foldl_set_bit (k : Nat) : ∀ (p : List Nat) (s : Nat), (p.foldl (fun s i => s ||| 2 ^ i) s).testBit k = (s.testBit k || decide (k ∈ p))
  | [], s => by simp
  | i :: p, s => by
    rw [List.foldl_cons, foldl_set_bit k p, Nat.testBit_or, Nat.testBit_two_pow, Bool.or_assoc]
    congr 1
    rw [Bool.eq_iff_iff]
    simp only [Bool.or_eq_true, decide_eq_true_eq, List.mem_cons]
    constructor
    · rintro (h | h)
      · exact .inl h.symm
      · exact .inr h
    · rintro (h | h)
      · exact .inl h.symm
      · exact .inr h
theorem setOf_bit (p : List Nat) (k : Nat) : (setOf p).testBit k = decide (k ∈ p) := by
  unfold setOf; rw [foldl_set_bit]; simp
theorem setOf_snoc (p : List Nat) (i : Nat) : setOf (p ++ [i]) = setOf p ||| 2 ^ i := by simp [setOf]

/-- All lists of so many jobs more that go on from some. -/
def fromL (n R k : Nat) (bg : List Nat) : List (List Nat) := (listsL n R k (setOf bg)).map (bg ++ ·)
/-- Those whose next job is one of the first so many. -/
def partL (n R k : Nat) (bg : List Nat) (i : Nat) : List (List Nat) := (List.range i).flatMap fun i => if (R ||| setOf bg).testBit i then [] else fromL n R k (bg ++ [i])
theorem fromL_zero (n R : Nat) (bg : List Nat) : fromL n R 0 bg = [bg] := by simp [fromL, listsL]
theorem fromL_succ (n R k : Nat) (bg : List Nat) : fromL n R (k + 1) bg = partL n R k bg n := by
  unfold fromL partL
  rw [listsL, List.map_flatMap]
  congr 1
  funext i
  split
  · rfl
  · rw [List.map_map]
    unfold fromL
    rw [setOf_snoc]
    congr 1
    funext l
    simp
theorem partL_zero (n R k : Nat) (bg : List Nat) : partL n R k bg 0 = [] := rfl
theorem partL_skip {n R k : Nat} {bg : List Nat} {i : Nat} (h : (R ||| setOf bg).testBit i = true) : partL n R k bg (i + 1) = partL n R k bg i := by
  unfold partL
  rw [List.range_succ, List.flatMap_append, List.flatMap_singleton, if_pos h, List.append_nil]
theorem partL_go {n R k : Nat} {bg : List Nat} {i : Nat} (h : (R ||| setOf bg).testBit i = false) : partL n R k bg (i + 1) = partL n R k bg i ++ fromL n R k (bg ++ [i]) := by
  unfold partL
  rw [List.range_succ, List.flatMap_append, List.flatMap_singleton, if_neg (by rw [h]; simp)]
theorem listsL_len (n R : Nat) (hn : n ≤ 6) : ∀ (k d : Nat), (listsL n R k d).length ≤ 6 ^ k
  | 0, _ => by simp [listsL]
  | k + 1, d => by
    have key : ∀ m, m ≤ n → ((List.range m).flatMap fun i => if (R ||| d).testBit i then [] else (listsL n R k (d ||| 2 ^ i)).map (i :: ·)).length ≤ m * 6 ^ k := by
      intro m
      induction m with
      | zero => simp
      | succ m ih =>
        intro hm
        rw [List.range_succ, List.flatMap_append, List.length_append]
        have h1 := ih (by omega)
        have h2 := listsL_len n R hn k (d ||| 2 ^ m)
        have h3 : ([m].flatMap fun i => if (R ||| d).testBit i then [] else (listsL n R k (d ||| 2 ^ i)).map (i :: ·)).length ≤ 6 ^ k := by
          simp only [List.flatMap_cons, List.flatMap_nil, List.append_nil]
          split
          · exact Nat.zero_le _
          · rw [List.length_map]; exact h2
        rw [Nat.succ_mul]; omega
    have h1 := key n (Nat.le_refl _)
    have h2 : n * 6 ^ k ≤ 6 * 6 ^ k := Nat.mul_le_mul_right _ hn
    rw [listsL, Nat.pow_succ, Nat.mul_comm (6 ^ k) 6]
    omega
theorem fromL_len (n R : Nat) (hn : n ≤ 6) (k : Nat) (bg : List Nat) : (fromL n R k bg).length ≤ 6 ^ k := by
  unfold fromL; rw [List.length_map]; exact listsL_len n R hn k _
theorem partL_len (n R : Nat) (hn : n ≤ 6) (k : Nat) (bg : List Nat) : ∀ i, (partL n R k bg i).length ≤ i * 6 ^ k
  | 0 => by simp [partL]
  | i + 1 => by
    have h1 := partL_len n R hn k bg i
    have h2 := fromL_len n R hn k (bg ++ [i])
    rw [Nat.succ_mul]
    cases h : (R ||| setOf bg).testBit i
    · rw [partL_go h, List.length_append]; omega
    · rw [partL_skip h]; omega
theorem fromL_all (n R k : Nat) : fromL n R k [] = listsL n R k 0 := by simp [fromL, setOf]
theorem free_size {n s : Nat} (hn : n ≤ 6) (hs : s < 2 ^ n) : free n s = n - sizeN 6 s ∧ sizeN 6 s ≤ n := by
  have key : ∀ n : Fin 7, ∀ s : Fin 64, s.1 < 2 ^ n.1 → free n.1 s.1 = n.1 - sizeN 6 s.1 ∧ sizeN 6 s.1 ≤ n.1 := by decide +kernel
  have h64 : s < 64 := Nat.lt_of_lt_of_le hs (Nat.le_trans (Nat.pow_le_pow_right (by decide) hn) (by decide))
  exact key ⟨n, by omega⟩ ⟨s, h64⟩ hs
end Go.Proofs.Ytcgkglonnmkfcaa

namespace Go.Proofs.Ytcgkglonnmkfcaa
open Go.RowKit

/-! ### Which jobs come first -/
def addFirst (s : Nat) (p : List Nat) : Nat := match p with
  | [] => s
  | i :: _ => if s.testBit i then s else s ||| 2 ^ i
def firstFold (L : List (List Nat)) : Nat := L.foldl addFirst 0
theorem addFirst_bit (s : Nat) (p : List Nat) (j : Nat) : (addFirst s p).testBit j = (s.testBit j || decide (p.head? = some j)) := by
  cases p with
  | nil => simp [addFirst]
  | cons i l =>
    unfold addFirst
    simp only [List.head?_cons, Option.some.injEq]
    split
    · rename_i h
      by_cases e : i = j
      · subst e; simp [h]
      · simp [e]
    · rw [Nat.testBit_or, Nat.testBit_two_pow]
theorem foldl_addFirst_bit (j : Nat) : ∀ (L : List (List Nat)) (s : Nat), (L.foldl addFirst s).testBit j = true ↔ s.testBit j = true ∨ ∃ p, p ∈ L ∧ p.head? = some j
  | [], s => by simp
  | p :: L, s => by
    rw [List.foldl_cons, foldl_addFirst_bit j L, addFirst_bit]
    simp only [Bool.or_eq_true, decide_eq_true_eq, List.mem_cons, exists_eq_or_imp, or_assoc]
theorem orFirst_bit (f : Nat × Bench → Bool) (j : Nat) : ∀ (l : List (Nat × Bench)), (orFirst f l).testBit j = true ↔ ∃ x, x ∈ l ∧ f x = true ∧ x.1 = j := by
  refine snoc_ind (by simp [orFirst]) ?_
  intro l x ih
  rw [orFirst_snoc]
  constructor
  · intro h
    split at h
    · rename_i hf
      rw [Nat.testBit_or, Bool.or_eq_true, Nat.testBit_two_pow, decide_eq_true_eq] at h
      rcases h with h | h
      · obtain ⟨y, h1, h2⟩ := ih.1 h
        exact ⟨y, by simp [h1], h2⟩
      · exact ⟨x, by simp, hf, h⟩
    · obtain ⟨y, h1, h2⟩ := ih.1 h
      exact ⟨y, by simp [h1], h2⟩
  · rintro ⟨y, hy, hf, hj⟩
    rcases List.mem_append.1 hy with h | h
    · have := ih.2 ⟨y, h, hf, hj⟩
      split
      · rw [Nat.testBit_or, this]; rfl
      · exact this
    · obtain rfl : y = x := by simpa using h
      rw [if_pos hf, Nat.testBit_or, Bool.or_eq_true, Nat.testBit_two_pow, decide_eq_true_eq]
      exact .inr hj
theorem first_fold {M : Mend} (hM : M.Ok) : firstFold (ordersL M 0) = firstN M := by
  have hin := begin_in M hM 0
  have hle := restN_le hM 0
  rw [show free M.jobs.length 0 = restN M 0 from rfl] at hin
  refine Nat.eq_of_testBit_eq fun j => ?_
  rw [Bool.eq_iff_iff]
  unfold firstFold firstN ordersL goesB
  rw [foldl_addFirst_bit, orFirst_bit]
  simp only [Nat.zero_testBit, Bool.false_eq_true, false_or]
  generalize restN M 0 = n at hin hle
  cases n with
  | zero =>
    have h0 : M.jobs.length = 0 := by have := hin.free; simpa [Bench.begin, free_none] using this
    constructor
    · rintro ⟨p, hp, hh⟩
      obtain rfl : p = [] := by simpa [rightL] using hp
      cases hh
    · rintro ⟨x, hx, _⟩
      have := (mem_stepsTo.1 hx).1
      omega
  | succ n =>
    have hcount : ∀ x, x ∈ stepsL M 0 Bench.begin → (decide (0 < (found M 0 countG (n + 1 - 1) x.2).getD 0) = true ↔ ∃ p, p ∈ rightL M 0 n x.2) := by
      intro x hx
      rw [Nat.add_sub_cancel, found_count hM (step_in hM hin hx) (by omega), decide_eq_true_eq]
      cases hr : rightL M 0 n x.2 with
      | nil => simp
      | cons a l => simp
    constructor
    · rintro ⟨p, hp, hh⟩
      obtain ⟨i, l, rfl, hx, hl⟩ := rightL_cons.1 hp
      obtain rfl : i = j := by simpa using hh
      exact ⟨_, hx, (hcount _ hx).2 ⟨l, hl⟩, rfl⟩
    · rintro ⟨x, hx, hf, rfl⟩
      obtain ⟨l, hl⟩ := (hcount x hx).1 hf
      have h2 := (mem_stepsTo.1 hx).2.2.1
      refine ⟨x.1 :: l, rightL_cons.2 ⟨x.1, l, rfl, ?_, ?_⟩, rfl⟩
      · rw [← h2]; exact hx
      · rw [← h2]; exact hl

/-! ### The best one -/
def better (c : List Nat → Int) (b q : List Nat) : List Nat := if c q < c b then q else b
theorem better_spec {R : List Nat → List Nat → Prop} (c : List Nat → Int) : ∀ (L : List (List Nat)) (a : List Nat), (a :: L).Pairwise R →
    L.foldl (better c) a ∈ a :: L ∧ (L.foldl (better c) a = a ∨ c (L.foldl (better c) a) < c a) ∧ ∀ q, q ∈ a :: L → c (L.foldl (better c) a) ≤ c q ∧ (c q = c (L.foldl (better c) a) → q = L.foldl (better c) a ∨ R (L.foldl (better c) a) q)
  | [], a, _ => by simp
  | x :: L, a, h => by
    rw [List.pairwise_cons] at h
    obtain ⟨hax, hL⟩ := h
    rw [List.foldl_cons]
    by_cases hc : c x < c a
    · have e : better c a x = x := by unfold better; rw [if_pos hc]
      rw [e]
      obtain ⟨h1, h2, h3⟩ := better_spec c L x hL
      have hx := h3 x (by simp)
      refine ⟨List.mem_cons_of_mem _ h1, .inr (by omega), fun q hq => ?_⟩
      rcases List.mem_cons.1 hq with rfl | hq
      · exact ⟨by omega, fun e => by omega⟩
      · exact h3 q hq
    · have e : better c a x = a := by unfold better; rw [if_neg hc]
      rw [e]
      have hL2 := List.pairwise_cons.1 hL
      obtain ⟨h1, h2, h3⟩ := better_spec (R := R) c L a (List.pairwise_cons.2 ⟨fun y hy => hax y (by simp [hy]), hL2.2⟩)
      have ha := h3 a (by simp)
      refine ⟨?_, h2, fun q hq => ?_⟩
      · rcases List.mem_cons.1 h1 with h | h
        · rw [h]; simp
        · simp [h]
      · rcases List.mem_cons.1 hq with rfl | hq
        · exact ha
        · rcases List.mem_cons.1 hq with rfl | hq
          · refine ⟨by omega, fun e => ?_⟩
            rcases h2 with h2 | h2
            · rw [h2]; exact .inr (hax q (by simp))
            · omega
          · exact h3 q (by simp [hq])
theorem lexLt_asymm : ∀ {p q : List Nat}, lexLt p q → lexLt q p → False
  | [], _, h, _ => h
  | _ :: _, [], h, _ => h
  | a :: p, b :: q, h, k => by
    rcases h with h | ⟨h1, h2⟩
    · rcases k with k | ⟨k1, _⟩ <;> omega
    · rcases k with k | ⟨_, k2⟩
      · omega
      · exact lexLt_asymm h2 k2
def bestFold (M : Mend) (L : List (List Nat)) : List Nat := L.foldl (better (costFrom M Bench.begin)) (L.headD [])
/-- What the reference's 'Best' takes is what 'Best' takes. -/
theorem best_fold {M : Mend} (hv : M.valid = true) : (ordersL M 0 = [] ∧ bestOf M = (0, [], 4)) ∨ (ordersL M 0 ≠ [] ∧ bestFold M (ordersL M 0) ∈ ordersL M 0 ∧ bestOf M = (costFrom M Bench.begin (bestFold M (ordersL M 0)), bestFold M (ordersL M 0), 0)) := by
  have hM := Mend.valid_ok hv
  rcases cost_best hM with ⟨h1, h2, _⟩ | ⟨v, u, p, h1, _, h3, h4, h5, h6, _⟩
  · left
    exact ⟨h1, by unfold bestOf; rw [if_pos hv, h2]⟩
  · right
    have hsort := rightL_sorted M 0 (restN M 0) Bench.begin
    obtain ⟨L, hL⟩ : ∃ L, ordersL M 0 = L := ⟨_, rfl⟩
    rw [show rightL M 0 (restN M 0) Bench.begin = ordersL M 0 from rfl] at hsort
    rw [hL] at h4 h6 hsort ⊢
    cases L with
    | nil => cases h4
    | cons a L =>
      have hf : bestFold M (a :: L) = L.foldl (better (costFrom M Bench.begin)) a := by
        unfold bestFold
        rw [List.headD_cons, List.foldl_cons]
        congr 1
        unfold better
        split <;> rfl
      obtain ⟨k1, _, k3⟩ := better_spec (costFrom M Bench.begin) L a hsort
      rw [← hf] at k1 k3
      have e : bestFold M (a :: L) = p := by
        obtain ⟨g1, g2⟩ := h6 _ k1
        obtain ⟨g3, g4⟩ := k3 p h4
        rw [h5] at g3 g4
        have ec : costFrom M Bench.begin (bestFold M (a :: L)) = v := by omega
        rcases g2 ec with g | g
        · exact g
        · rcases g4 ec.symm with k | k
          · exact k.symm
          · exact (lexLt_asymm g k).elim
      refine ⟨by simp, k1, ?_⟩
      rw [e, h5]
      unfold bestOf
      rw [if_pos hv, h1]
      simp only
      rw [h3]

/-! ### How soon all can be done -/
def lateFold (M : Mend) (L : List (List Nat)) : Int := (L.map fun q => (benchOf M q).late).foldl min ((benchOf M (L.headD [])).late)
theorem late_fold {M : Mend} (hv : M.valid = true) : (ordersL M 0 = [] ∧ untilOf M = (0, 4)) ∨ (ordersL M 0 ≠ [] ∧ untilOf M = (lateFold M (ordersL M 0), 0)) := by
  have hM := Mend.valid_ok hv
  rcases cost_best hM with ⟨h1, _, h3⟩ | ⟨v, u, p, _, h2, _, h4, _, _, ⟨x, hx, hxu⟩, h8⟩
  · left
    exact ⟨h1, by unfold untilOf; rw [if_pos hv, h3]⟩
  · right
    refine ⟨(fun e => by rw [e] at h4; cases h4), ?_⟩
    unfold untilOf
    rw [if_pos hv, h2]
    have e : lateFold M (ordersL M 0) = u := by
      unfold lateFold
      obtain ⟨k1, k2⟩ := foldl_min ((ordersL M 0).map fun q => (benchOf M q).late) ((benchOf M ((ordersL M 0).headD [])).late)
      have hhead : (ordersL M 0).headD [] ∈ ordersL M 0 := by
        cases h : ordersL M 0 with
        | nil => rw [h] at h4; cases h4
        | cons a L => simp
      have hge : ∀ z, z ∈ (benchOf M ((ordersL M 0).headD [])).late :: (ordersL M 0).map (fun q => (benchOf M q).late) → u ≤ z := by
        intro z hz
        rcases List.mem_cons.1 hz with rfl | hz
        · exact h8 _ hhead
        · obtain ⟨q, hq, rfl⟩ := List.mem_map.1 hz
          exact h8 q hq
      have h1 := hge _ k1
      have h2 := k2 u (by rw [← hxu]; exact List.mem_cons_of_mem _ (List.mem_map.2 ⟨x, hx, rfl⟩))
      omega
    rw [e]

/-! ### What must be left -/
def dropStep (M : Mend) (b s : Nat) : Nat := if sizeN 6 s < sizeN 6 b ∧ canB M s = true then s else b
def dropTo (M : Mend) (k : Nat) : Nat := (List.range k).foldl (dropStep M) (2 ^ M.jobs.length - 1)
theorem dropTo_succ (M : Mend) (k : Nat) : dropTo M (k + 1) = dropStep M (dropTo M k) k := by
  unfold dropTo; rw [List.range_succ, List.foldl_append]; rfl
theorem size_most {n s : Nat} (hn : n ≤ 6) (hs : s < 2 ^ n) : sizeN 6 s ≤ n ∧ (sizeN 6 s = n → s = 2 ^ n - 1) := by
  have key : ∀ n : Fin 7, ∀ s : Fin 64, s.1 < 2 ^ n.1 → sizeN 6 s.1 ≤ n.1 ∧ (sizeN 6 s.1 = n.1 → s.1 = 2 ^ n.1 - 1) := by decide +kernel
  have h64 : s < 64 := Nat.lt_of_lt_of_le hs (Nat.le_trans (Nat.pow_le_pow_right (by decide) hn) (by decide))
  exact key ⟨n, by omega⟩ ⟨s, h64⟩ hs
theorem dropTo_spec {M : Mend} (hM : M.Ok) : ∀ k, k ≤ 2 ^ M.jobs.length → dropTo M k < 2 ^ M.jobs.length ∧ canB M (dropTo M k) = true ∧ (dropTo M k = 2 ^ M.jobs.length - 1 ∨ dropTo M k < k) ∧
    ∀ t, t < k → canB M t = true → sizeN 6 (dropTo M k) ≤ sizeN 6 t ∧ (sizeN 6 t = sizeN 6 (dropTo M k) → dropTo M k ≤ t ∨ dropTo M k = 2 ^ M.jobs.length - 1)
  | 0, _ => by
    have hpos : 0 < 2 ^ M.jobs.length := Nat.two_pow_pos _
    have e : dropTo M 0 = 2 ^ M.jobs.length - 1 := rfl
    rw [e]
    exact ⟨by omega, can_full hM, .inl rfl, fun t ht => by omega⟩
  | k + 1, hk => by
    obtain ⟨h1, h2, h3, h4⟩ := dropTo_spec hM k (by omega)
    rw [dropTo_succ]
    unfold dropStep
    by_cases hc : sizeN 6 k < sizeN 6 (dropTo M k) ∧ canB M k = true
    · rw [if_pos hc]
      refine ⟨by omega, hc.2, .inr (by omega), fun t ht hct => ?_⟩
      by_cases e : t = k
      · subst e; exact ⟨Nat.le_refl _, fun _ => .inl (Nat.le_refl _)⟩
      · obtain ⟨h5, _⟩ := h4 t (by omega) hct
        exact ⟨by omega, fun e => by omega⟩
    · rw [if_neg hc]
      refine ⟨h1, h2, h3.imp id (by omega), fun t ht hct => ?_⟩
      by_cases e : t = k
      · subst e
        have h5 : ¬ sizeN 6 t < sizeN 6 (dropTo M t) := fun h => hc ⟨h, hct⟩
        refine ⟨by omega, fun _ => ?_⟩
        rcases h3 with h3 | h3
        · exact .inr h3
        · exact .inl (by omega)
      · exact h4 t (by omega) hct
theorem drop_fold {M : Mend} (hM : M.Ok) : dropTo M (2 ^ M.jobs.length) = dropN M := by
  obtain ⟨h1, h2, _, h4⟩ := dropTo_spec hM _ (Nat.le_refl _)
  obtain ⟨k1, k2, k3⟩ := drop_spec hM
  obtain ⟨g1, g2⟩ := h4 _ k1 k2
  rcases k3 _ h1 h2 with h | ⟨h, h'⟩
  · omega
  · rcases g2 h with g | g
    · omega
    · have e1 := size_most hM.len k1
      have e2 := size_full M.jobs.length hM.len
      rw [g] at h
      have := e1.2 (by omega)
      omega
end Go.Proofs.Ytcgkglonnmkfcaa
