/- The plain mathematics of MendEnds: each job takes just its least, or its greatest number of minutes. -/
import Derived.Test.YtcgkglonnmkfcaaPE
import Derived.Test.YtcgkglonnmkfcaaPS
import Derived.Test.YtcgkglonnmkfcaaGI
namespace Go.Proofs.Ytcgkglonnmkfcaa
open Go.RowKit

/-- How long each takes: the situations of both ends. -/
theorem works_little (M : Mend) : ∀ (p : List Nat) (x y : Sit), y.1.kind = x.1.kind → y.1.late = x.2 → y.2 = x.2 → (worksL (M.exact false) y p).map (fun z => (z.1.2, z.1.1.late)) = (worksL M x p).map fun z => (z.1.2, z.1.2)
  | [], _, _, _, _, _ => rfl
  | i :: p, x, y, h1, h2, h3 => by
    have e1 : ((M.exact false).nextS y i).2 = (M.nextS x i).2 := by
      simp [Mend.nextS, Mend.ends, exact_job, exact_set, Job.exact, h1, h3]
    have e2 : ((M.exact false).nextS y i).1.late = (M.nextS x i).2 := by
      simp [Mend.nextS, Mend.next, Mend.ends, exact_job, exact_set, Job.exact, h1, h2]
    simp only [worksL, List.map_cons, e1, e2]
    rw [works_little M p (M.nextS x i) ((M.exact false).nextS y i) (by simp [Mend.nextS, Mend.next, exact_job, Job.exact]) e2 e1]
theorem works_much (M : Mend) : ∀ (p : List Nat) (x y : Sit), y.1.kind = x.1.kind → y.1.late = x.1.late → y.2 = x.1.late → (worksL (M.exact true) y p).map (fun z => (z.1.2, z.1.1.late)) = (worksL M x p).map fun z => (z.1.1.late, z.1.1.late)
  | [], _, _, _, _, _ => rfl
  | i :: p, x, y, h1, h2, h3 => by
    have e1 : ((M.exact true).nextS y i).2 = (M.nextS x i).1.late := by
      simp [Mend.nextS, Mend.next, Mend.ends, exact_job, exact_set, Job.exact, h1, h3]
    have e2 : ((M.exact true).nextS y i).1.late = (M.nextS x i).1.late := by
      simp [Mend.nextS, Mend.next, Mend.ends, exact_job, exact_set, Job.exact, h1, h2]
    simp only [worksL, List.map_cons, e1, e2]
    rw [works_much M p (M.nextS x i) ((M.exact true).nextS y i) (by simp [Mend.nextS, Mend.next, exact_job, Job.exact]) e2 e1]

/-- What is so of when jobs are done. -/
theorem works_get (M : Mend) : ∀ (p : List Nat) (x : Sit) (k : Nat), k < p.length → (worksL M x p).getD k (Sit.begin, 0) = ((p.take (k + 1)).foldl M.nextS x, p.getD k 0)
  | i :: p, x, 0, _ => rfl
  | i :: p, x, k + 1, h => by simpa [worksL] using works_get M p (M.nextS x i) k (by simpa using h)
  | [], _, _, h => by simp at h
theorem spans_get (M : Mend) (p : List Nat) (k : Nat) (h : k < p.length) : (spansOf M p).getD k (0, 0) = ((sitOf M (p.take (k + 1))).2, (sitOf M (p.take (k + 1))).1.late) := by
  have h1 := works_get M p Sit.begin k h
  rw [List.getD_eq_getElem?_getD] at h1
  rw [List.getD_eq_getElem?_getD]
  unfold spansOf
  rw [List.getElem?_map]
  rw [List.getElem?_eq_getElem (by rw [worksL_length]; exact h)] at h1 ⊢
  simp only [Option.getD_some] at h1
  simp [h1]
theorem spans_length (M : Mend) (p : List Nat) : (spansOf M p).length = p.length := by simp [spansOf, worksL_length]
theorem sit_grows {M : Mend} (hv : M.valid = true) {i : Nat} (hi : i < M.jobs.length) (x : Sit) : x.2 < (M.nextS x i).2 ∧ x.1.late < (M.nextS x i).1.late := by
  have h1 := valid_lo hv hi
  have h2 := set_in (Mend.valid_ok hv) (M.job i).kind
  simp only [Mend.nextS, Mend.next, Mend.ends]
  refine ⟨?_, ?_⟩ <;> split <;> omega
theorem sit_small {M : Mend} (hM : M.Ok) {p : List Nat} (hp : ∀ i, i ∈ p → i < M.jobs.length) (hl : p.length ≤ 6) (k : Nat) : 0 ≤ (sitOf M (p.take k)).2 ∧ (sitOf M (p.take k)).2 ≤ 12000 ∧ 0 ≤ (sitOf M (p.take k)).1.late ∧ (sitOf M (p.take k)).1.late ≤ 12000 := by
  have key : ∀ (q : List Nat) (n : Nat) (x : Sit), Sit.In M n x → (∀ i, i ∈ q → i < M.jobs.length) → Sit.In M (n + q.length) (q.foldl M.nextS x) := by
    intro q
    induction q with
    | nil => intro n x h _; exact h
    | cons i q ih =>
      intro n x h hq
      have := ih _ _ (Sit.next_in hM h (hq i (by simp))) (fun j hj => hq j (by simp [hj]))
      rw [show n + (i :: q).length = n + 1 + q.length by simp; omega]
      exact this
  have h := key (p.take k) 0 Sit.begin (Sit.begin_in M) (fun i hi => hp i (List.mem_of_mem_take hi))
  have h1 := h.soon0
  have h2 := h.soon1
  have h3 := h.late0
  have h4 := h.late1
  have h5 : (p.take k).length ≤ 6 := Nat.le_trans (List.length_take_le' _ _) hl
  have e : p.take k = List.take k p := rfl
  simp only [sitOf] at *
  refine ⟨h1, by omega, h3, by omega⟩

/-- What 'MendEnds' looks at. -/
theorem ends_law {M : Mend} (hv : M.valid = true) {l : List Int} (hl : ordB M.jobs.length l = true) :
    (timesOf M l).2 = 0 ∧ (timesOf (M.exact false) l).2 = 0 ∧ (timesOf (M.exact true) l).2 = 0 ∧ (timesOf M l).1.length = M.jobs.length ∧ (timesOf (M.exact false) l).1.length = M.jobs.length ∧ (timesOf (M.exact true) l).1.length = M.jobs.length ∧
    (∀ k, k < M.jobs.length → ∃ a b : Int, (timesOf M l).1.getD k (0, 0) = (a, b) ∧ (timesOf (M.exact false) l).1.getD k (0, 0) = (a, a) ∧ (timesOf (M.exact true) l).1.getD k (0, 0) = (b, b) ∧ (0 < k → ∃ a' b' : Int, (timesOf M l).1.getD (k - 1) (0, 0) = (a', b') ∧ a' < a ∧ b' < b)) ∧
    countOf (M.exact true) = countOf M ∧ (countOf M).2 = 0 ∧ (countOf (M.exact false)).2 = 0 ∧ (countOf M).1 ≤ (countOf (M.exact false)).1 ∧ bestOf (M.exact true) = bestOf M ∧ untilOf (M.exact true) = untilOf M ∧
    rightB (M.exact true) l = rightB M l ∧ (rightB M l = true → rightB (M.exact false) l = true) := by
  obtain ⟨p, rfl, hp, hpi, hpl, hpn⟩ := ord_nat hl
  have hv1 := exact_valid hv true
  have hv2 := exact_valid hv false
  have hl1 : ordB (M.exact true).jobs.length (ints p) = true := by rw [exact_len]; exact hl
  have hl2 : ordB (M.exact false).jobs.length (ints p) = true := by rw [exact_len]; exact hl
  have hA := exact_much M
  have hE := exact_little hv
  have et : ∀ X : Mend, X.valid = true → ordB X.jobs.length (ints p) = true → timesOf X (ints p) = (spansOf X p, 0) := fun X h1 h2 => by
    unfold timesOf; rw [if_pos h1, if_pos h2, hp]
  rw [et M hv hl, et _ hv1 hl1, et _ hv2 hl2]
  have s2 : spansOf (M.exact false) p = (spansOf M p).map fun z => (z.1, z.1) := by
    unfold spansOf
    rw [works_little M p Sit.begin Sit.begin rfl rfl rfl, List.map_map]
    rfl
  have s1 : spansOf (M.exact true) p = (spansOf M p).map fun z => (z.2, z.2) := by
    unfold spansOf
    rw [works_much M p Sit.begin Sit.begin rfl rfl rfl, List.map_map]
    rfl
  refine ⟨rfl, rfl, rfl, by rw [spans_length, hpl], by rw [spans_length, hpl], by rw [spans_length, hpl], ?_, ?_, ?_, ?_, ?_, ?_, ?_, ?_, ?_⟩
  · intro k hk
    have hkp : k < p.length := by omega
    have hg := spans_get M p k hkp
    refine ⟨_, _, hg, ?_, ?_, fun h0 => ?_⟩
    · simp only
      rw [s2, List.getD_eq_getElem?_getD, List.getElem?_map]
      rw [List.getD_eq_getElem?_getD, List.getElem?_eq_getElem (by rw [spans_length]; exact hkp)] at hg
      simp only [Option.getD_some] at hg
      rw [List.getElem?_eq_getElem (by rw [spans_length]; exact hkp), hg]
      rfl
    · simp only
      rw [s1, List.getD_eq_getElem?_getD, List.getElem?_map]
      rw [List.getD_eq_getElem?_getD, List.getElem?_eq_getElem (by rw [spans_length]; exact hkp)] at hg
      simp only [Option.getD_some] at hg
      rw [List.getElem?_eq_getElem (by rw [spans_length]; exact hkp), hg]
      rfl
    · obtain ⟨j, rfl⟩ : ∃ j, k = j + 1 := ⟨k - 1, by omega⟩
      have hg' := spans_get M p j (by omega)
      refine ⟨_, _, hg', ?_⟩
      have hs := sitOf_succ M (p := p) (k := j + 1) hkp
      rw [hs]
      have hm : p.getD (j + 1) 0 ∈ p := by
        rw [List.getD_eq_getElem?_getD, List.getElem?_eq_getElem hkp]
        exact List.getElem_mem _
      exact sit_grows hv (hpi _ hm) _
  · unfold countOf
    rw [if_pos hv, if_pos hv1]
    unfold ordersL
    rw [hA.rightL, hA.restN]
  · unfold countOf; rw [if_pos hv]
  · unfold countOf; rw [if_pos hv2]
  · unfold countOf
    rw [if_pos hv, if_pos hv2]
    have := (rightL_nodup M 0 (restN M 0) Bench.begin).length_le_of_subset (l₂ := ordersL (M.exact false) 0) (fun q hq => hE.orders hq)
    simp only
    unfold ordersL at this ⊢
    omega
  · unfold bestOf
    rw [if_pos hv, if_pos hv1, hA.costG, hA.found rfl rfl rfl, hA.restN]
    cases found M 0 (costG M) (restN M 0) Bench.begin with
    | none => rfl
    | some v => simp only; rw [hA.pick]
  · unfold untilOf
    rw [if_pos hv, if_pos hv1, hA.found rfl rfl rfl, hA.restN]
  · rw [rightB_eq hv hl, rightB_eq hv1 hl1]
    unfold badOf
    rw [hA.firstBad]
  · intro h
    rw [rightB_eq hv hl, decide_eq_true_eq, badOf_zero, firstBad_none, hp] at h
    rw [rightB_eq hv2 hl2, decide_eq_true_eq, badOf_zero, firstBad_none, hp]
    exact hE.good p _ _ (Bench.Le.refl _) hpi h

theorem pick_len (M : Mend) (left : Nat) (g : Goal Int) : ∀ (n : Nat) (b : Bench) (v : Int), (pick M left g n b v).length ≤ n
  | 0, _, _ => by simp [pick]
  | n + 1, b, v => by
    rw [pick]
    cases (stepsL M left b).find? (takes M left g n v) with
    | none => simp
    | some x => have := pick_len M left g n x.2 ((found M left g n x.2).getD 0); simp only [List.length_cons]; omega
theorem best_len {M : Mend} (hv : M.valid = true) : (bestOf M).2.1.length ≤ 6 := by
  unfold bestOf
  rw [if_pos hv]
  cases found M 0 (costG M) (restN M 0) Bench.begin with
  | none => simp
  | some v => exact Nat.le_trans (pick_len _ _ _ _ _ _) (restN_le (Mend.valid_ok hv) 0)

end Go.Proofs.Ytcgkglonnmkfcaa
