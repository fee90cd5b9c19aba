/- The plain mathematics of layer 10: easier mends, and the order that comes first. -/
import Derived.Test.YtcgkglonnmkfcaaGP
namespace Go.Proofs.Ytcgkglonnmkfcaa
open Go.RowKit

/-- N asks no more than M, job by job. -/
structure Easier (M N : Mend) : Prop where
  len : N.jobs.length = M.jobs.length
  set : ∀ k, N.set k = M.set k
  kind : ∀ i, i < M.jobs.length → (N.job i).kind = (M.job i).kind
  hi : ∀ i, i < M.jobs.length → (N.job i).hi ≤ (M.job i).hi
  from_ : ∀ i, i < M.jobs.length → (N.job i).from_ ≤ (M.job i).from_
  by_ : ∀ i, i < M.jobs.length → (M.job i).by_ ≤ (N.job i).by_
  after : ∀ i, i < M.jobs.length → ∀ k, (N.job i).after.toNat.testBit k = true → (M.job i).after.toNat.testBit k = true
  cost : ∀ i, i < M.jobs.length → 0 ≤ (N.job i).cost ∧ (N.job i).cost ≤ (M.job i).cost
  soft : ∀ i, i < M.jobs.length → (M.job i).soft ≤ (N.job i).soft
/-- A bench is no later than another one. -/
structure Bench.Le (b' b : Bench) : Prop where
  done : b'.done = b.done
  kind : b'.kind = b.kind
  late : b'.late ≤ b.late
theorem Bench.Le.refl (b : Bench) : Bench.Le b b := ⟨rfl, rfl, Int.le_refl _⟩

variable {M N : Mend}
theorem Easier.next (h : Easier M N) {b b' : Bench} (hb : Bench.Le b' b) {i : Nat} (hi : i < M.jobs.length) : Bench.Le (N.next b' i) (M.next b i) := by
  refine ⟨by simp [Mend.next, hb.done], h.kind i hi, ?_⟩
  have h1 := h.hi i hi
  have h2 := h.from_ i hi
  have h3 := h.kind i hi
  have h4 := hb.late
  simp only [Mend.next, Mend.ends, hb.kind, h3, h.set]
  split <;> omega
theorem Easier.waits (h : Easier M N) {left i : Nat} (hi : i < M.jobs.length) {b b' : Bench} (hb : b'.done = b.done) (hw : M.waits left b i = false) : N.waits left b' i = false := by
  unfold Mend.waits at hw ⊢
  rw [h.len]
  rw [List.any_eq_false] at hw ⊢
  intro k hk
  have h1 := hw k hk
  rw [hb]
  cases ha : (N.job i).after.toNat.testBit k
  · simp
  · rw [h.after i hi k ha] at h1
    simpa using h1
theorem Easier.broken (h : Easier M N) {left i : Nat} (hi : i < M.jobs.length) {b b' : Bench} (hb : Bench.Le b' b) (hw : M.broken left b i = 0) : N.broken left b' i = 0 := by
  unfold Mend.broken at hw ⊢
  cases hm : M.waits left b i
  · rw [hm] at hw
    rw [h.waits hi hb.done hm]
    have h1 := h.by_ i hi
    have h2 := hb.late
    simp only [Bool.false_eq_true, if_false] at hw ⊢
    split at hw
    · cases hw
    · rw [if_neg (by omega)]
  · rw [hm] at hw; cases hw
theorem Easier.good (h : Easier M N) {left : Nat} : ∀ (p : List Nat) (b b' : Bench), Bench.Le b' b → (∀ i, i ∈ p → i < M.jobs.length) → goodB M left b p = true → goodB N left b' p = true
  | [], _, _, _, _, _ => rfl
  | i :: p, b, b', hb, hp, hg => by
    have hi := hp i (by simp)
    have hn := h.next hb hi
    rw [goodB, Bool.and_eq_true, decide_eq_true_eq] at hg ⊢
    exact ⟨h.broken hi hn hg.1, h.good p _ _ hn (fun j hj => hp j (by simp [hj])) hg.2⟩
theorem Easier.bench (h : Easier M N) : ∀ (p : List Nat) (b b' : Bench), Bench.Le b' b → (∀ i, i ∈ p → i < M.jobs.length) → Bench.Le (p.foldl N.next b') (p.foldl M.next b)
  | [], _, _, hb, _ => hb
  | i :: p, _, _, hb, hp => h.bench p _ _ (h.next hb (hp i (by simp))) (fun j hj => hp j (by simp [hj]))
theorem Easier.pays (h : Easier M N) {b b' : Bench} (hb : Bench.Le b' b) {i : Nat} (hi : i < M.jobs.length) : N.pays b' i ≤ M.pays b i := by
  obtain ⟨h0, h1⟩ := h.cost i hi
  have h2 := h.soft i hi
  have h3 := hb.late
  unfold Mend.pays
  exact Int.mul_le_mul h1 (by omega) (by omega) (by omega)
theorem Easier.costs (h : Easier M N) : ∀ (p : List Nat) (b b' : Bench), Bench.Le b' b → (∀ i, i ∈ p → i < M.jobs.length) → costFrom N b' p ≤ costFrom M b p
  | [], _, _, _, _ => Int.le_refl _
  | i :: p, b, b', hb, hp => by
    have hi := hp i (by simp)
    have hn := h.next hb hi
    have h1 := h.costs p _ _ hn (fun j hj => hp j (by simp [hj]))
    have h2 := h.pays hn hi
    simp only [costFrom]
    omega

theorem rightL_in {left n : Nat} {b : Bench} {p : List Nat} (hp : p ∈ rightL M left n b) : (∀ i, i ∈ p → i < M.jobs.length) ∧ p.Nodup ∧ p.length = n ∧ (∀ i, i ∈ p → (left ||| b.done).testBit i = false) := by
  obtain ⟨⟨h1, h2⟩, _⟩ := mem_rightL.1 hp
  obtain ⟨h3, h4⟩ := freshB_iff.1 h2
  exact ⟨fun i hi => (h4 i hi).1, h3, h1, fun i hi => (h4 i hi).2⟩
theorem Easier.right (h : Easier M N) {left n : Nat} {p : List Nat} (hp : p ∈ rightL M left n Bench.begin) : p ∈ rightL N left n Bench.begin := by
  have hin := (rightL_in hp).1
  obtain ⟨⟨h1, h2⟩, h3⟩ := mem_rightL.1 hp
  exact mem_rightL.2 ⟨⟨h1, by rw [h.len]; exact h2⟩, h.good p _ _ (Bench.Le.refl _) hin h3⟩
theorem Easier.orders (h : Easier M N) {left : Nat} {p : List Nat} (hp : p ∈ ordersL M left) : p ∈ ordersL N left := by
  unfold ordersL restN at hp ⊢
  rw [h.len]
  exact h.right hp

/-- One list comes before another one. -/
def lexLt : List Nat → List Nat → Prop
  | a :: p, b :: q => a < b ∨ (a = b ∧ lexLt p q)
  | _, _ => False
theorem lexLt_get : ∀ {p q : List Nat}, lexLt p q → ∀ i, (∀ j, j < i → p.getD j 0 = q.getD j 0) → p.getD i 0 ≠ q.getD i 0 → p.getD i 0 < q.getD i 0
  | a :: p, b :: q, h, 0, _, hne => by
    rcases h with h | ⟨rfl, _⟩
    · simpa using h
    · simp at hne
  | a :: p, b :: q, h, i + 1, hj, hne => by
    have h0 := hj 0 (by omega)
    simp only [List.getD_cons_zero] at h0
    subst h0
    rcases h with h | ⟨_, h⟩
    · omega
    · simpa using lexLt_get h i (fun j hj' => by simpa using hj (j + 1) (by omega)) (by simpa using hne)
  | [], _, h, _, _, _ => h.elim
  | _ :: _, [], h, _, _, _ => h.elim
theorem lexLt_irrefl : ∀ p, ¬ lexLt p p
  | [], h => h
  | a :: p, h => by
    rcases h with h | ⟨_, h⟩
    · omega
    · exact lexLt_irrefl p h
theorem stepsTo_sorted (M : Mend) (left : Nat) (b : Bench) : ∀ k, (stepsTo M left b k).Pairwise fun x y => x.1 < y.1
  | 0 => List.Pairwise.nil
  | k + 1 => by
    rw [stepsTo, List.pairwise_append]
    refine ⟨stepsTo_sorted M left b k, ?_, ?_⟩
    · unfold stepTo; split <;> (try split) <;> simp
    · intro x hx y hy
      have h1 := (mem_stepsTo.1 hx).1
      have h2 : y.1 = k := by
        unfold stepTo at hy
        split at hy
        · simp at hy
        · split at hy
          · simp at hy; rw [hy]
          · simp at hy
      omega
theorem rightL_sorted (M : Mend) (left : Nat) : ∀ (n : Nat) (b : Bench), (rightL M left n b).Pairwise lexLt
  | 0, _ => by simp [rightL]
  | n + 1, b => by
    rw [rightL, List.pairwise_flatMap]
    refine ⟨fun x _ => ?_, (stepsTo_sorted M left b _).imp ?_⟩
    · rw [List.pairwise_map]
      exact (rightL_sorted M left n x.2).imp fun h => .inr ⟨rfl, h⟩
    · intro x y hxy p hp q hq
      obtain ⟨p', _, rfl⟩ := List.mem_map.1 hp
      obtain ⟨q', _, rfl⟩ := List.mem_map.1 hq
      exact .inl hxy
theorem find_before {α : Type} {R : α → α → Prop} {f : α → Bool} : ∀ {l : List α} {p : α}, l.Pairwise R → l.find? f = some p → p ∈ l ∧ f p = true ∧ ∀ q, q ∈ l → f q = true → q = p ∨ R p q
  | [], _, _, h => by cases h
  | a :: l, p, hl, h => by
    rw [List.pairwise_cons] at hl
    rw [List.find?_cons] at h
    cases hf : f a
    · rw [hf] at h
      obtain ⟨h1, h2, h3⟩ := find_before hl.2 h
      refine ⟨by simp [h1], h2, fun q hq hfq => ?_⟩
      rcases List.mem_cons.1 hq with rfl | hq
      · rw [hf] at hfq; cases hfq
      · exact h3 q hq hfq
    · rw [hf] at h
      obtain rfl : a = p := by simpa using h
      refine ⟨by simp, hf, fun q hq _ => ?_⟩
      rcases List.mem_cons.1 hq with rfl | hq
      · exact .inl rfl
      · exact .inr (hl.1 q hq)
theorem rightL_nodup (M : Mend) (left n : Nat) (b : Bench) : (rightL M left n b).Nodup :=
  List.Pairwise.imp (fun {a b} h => by rintro rfl; exact lexLt_irrefl _ h) (rightL_sorted M left n b)

/-- Of all right orders: the least cost, and the first one of it. -/
theorem cost_best {M : Mend} (hM : M.Ok) :
    (ordersL M 0 = [] ∧ found M 0 (costG M) (restN M 0) Bench.begin = none ∧ found M 0 lateG (restN M 0) Bench.begin = none) ∨
    (∃ v u : Int, ∃ p, found M 0 (costG M) (restN M 0) Bench.begin = some v ∧ found M 0 lateG (restN M 0) Bench.begin = some u ∧ pick M 0 (costG M) (restN M 0) Bench.begin v = p ∧
      p ∈ ordersL M 0 ∧ costFrom M Bench.begin p = v ∧ (∀ q, q ∈ ordersL M 0 → v ≤ costFrom M Bench.begin q ∧ (costFrom M Bench.begin q = v → q = p ∨ lexLt p q)) ∧
      (∃ q, q ∈ ordersL M 0 ∧ (benchOf M q).late = u) ∧ ∀ q, q ∈ ordersL M 0 → u ≤ (benchOf M q).late) := by
  have hb := begin_in M hM 0
  have hc := found_all (cost_low hM 0).alg _ _ hb
  have hl := found_all (late_low hM 0).alg _ _ hb
  rw [show free M.jobs.length 0 = restN M 0 from rfl] at hc hl
  have hlv : ∀ q, val M lateG Bench.begin q = (benchOf M q).late := fun q => val_late q _
  have hcv : ∀ q, q ∈ ordersL M 0 → val M (costG M) Bench.begin q = costFrom M Bench.begin q := fun q hq => val_cost hM 0 _ _ hb q hq
  by_cases he : ordersL M 0 = []
  · left
    refine ⟨he, ?_, ?_⟩
    · rw [hc]; unfold ordersL at he; rw [he]; rfl
    · rw [hl]; unfold ordersL at he; rw [he]; rfl
  · right
    obtain ⟨v, hv⟩ : ∃ v, found M 0 (costG M) (restN M 0) Bench.begin = some v := by
      cases h : found M 0 (costG M) (restN M 0) Bench.begin with
      | none => rw [h] at hc; exact (he (by simpa using joinAll_none.1 hc.symm)).elim
      | some v => exact ⟨v, rfl⟩
    obtain ⟨u, hu⟩ : ∃ u, found M 0 lateG (restN M 0) Bench.begin = some u := by
      cases h : found M 0 lateG (restN M 0) Bench.begin with
      | none => rw [h] at hl; exact (he (by simpa using joinAll_none.1 hl.symm)).elim
      | some u => exact ⟨u, rfl⟩
    have hpick := pick_first (cost_low hM 0) _ _ v hb hv
    obtain ⟨h1, h2, h3⟩ := find_before (rightL_sorted M 0 _ _) hpick
    rw [hv] at hc
    rw [hu] at hl
    obtain ⟨_, hcm⟩ := joinAll_min (fun _ _ => rfl) hc.symm
    obtain ⟨hlm, hlx⟩ := joinAll_min (fun _ _ => rfl) hl.symm
    refine ⟨v, u, _, hv, hu, rfl, h1, ?_, ?_, ?_, ?_⟩
    · exact (hcv _ h1).symm.trans (by simpa using h2)
    · intro q hq
      refine ⟨?_, fun e => h3 q hq ?_⟩
      · rw [← hcv q hq]; exact hcm _ (List.mem_map.2 ⟨q, hq, rfl⟩)
      · rw [hcv q hq, e]; simp
    · obtain ⟨q, hq, e⟩ := List.mem_map.1 hlm
      exact ⟨q, hq, by rw [← hlv]; exact e⟩
    · intro q hq
      rw [← hlv]
      exact hlx _ (List.mem_map.2 ⟨q, hq, rfl⟩)

def Job.exact (most : Bool) (j : Job) : Job := if most then { j with lo := j.hi } else { j with hi := j.lo }
def Mend.exact (M : Mend) (most : Bool) : Mend := { M with jobs := M.jobs.map (Job.exact most) }
theorem exact_len (M : Mend) (most : Bool) : (M.exact most).jobs.length = M.jobs.length := by simp [Mend.exact]
theorem exact_set (M : Mend) (most : Bool) (k : Int) : (M.exact most).set k = M.set k := rfl
theorem exact_job (M : Mend) (most : Bool) (i : Nat) : (M.exact most).job i = (M.job i).exact most := by
  unfold Mend.job Mend.exact
  simp only [List.getD_eq_getElem?_getD, List.getElem?_map]
  cases M.jobs[i]? with
  | none => cases most <;> rfl
  | some j => rfl
theorem exact_valid {M : Mend} (hv : M.valid = true) (most : Bool) : (M.exact most).valid = true := by
  have hj := fun i hi => valid_job hv (i := i) hi
  unfold Mend.valid at hv ⊢
  simp only [Bool.and_eq_true] at hv ⊢
  obtain ⟨⟨h1, h2⟩, h3⟩ := hv
  refine ⟨⟨?_, h2⟩, ?_⟩
  · unfold Mend.sizes at h1 ⊢
    rw [exact_len]
    exact h1
  · rw [List.all_eq_true]
    intro i hi
    rw [exact_len, List.mem_range] at hi
    have h := hj i hi
    rw [exact_len, exact_job]
    show ((M.job i).exact most).ok M.setup.length M.jobs.length i = true
    unfold Job.ok at h ⊢
    simp only [Bool.and_eq_true] at h ⊢
    obtain ⟨⟨ha, hb⟩, hc⟩ := h
    unfold Job.okA at ha ⊢
    simp only [Bool.and_eq_true, decide_eq_true_eq, inB_iff] at ha ⊢
    cases most
    · exact ⟨⟨⟨⟨ha.1.1, ha.1.2.1, Int.le_refl _⟩, Int.le_trans ha.1.2.2 ha.2⟩, hb⟩, hc⟩
    · exact ⟨⟨⟨⟨ha.1.1, Int.le_trans ha.1.2.1 ha.1.2.2, Int.le_refl _⟩, ha.2⟩, hb⟩, hc⟩

theorem valid_lo {M : Mend} (hv : M.valid = true) {i : Nat} (hi : i < M.jobs.length) : 1 ≤ (M.job i).lo ∧ (M.job i).lo ≤ (M.job i).hi ∧ (M.job i).hi ≤ 30 := by
  have h := valid_job hv hi
  unfold Job.ok Job.okA at h
  simp only [Bool.and_eq_true, decide_eq_true_eq, inB_iff] at h
  exact ⟨h.1.1.1.2.1, h.1.1.1.2.2, h.1.1.2⟩

section
variable {M N : Mend}
/-- Two mends that are the same but for the least numbers of minutes. -/
structure Alike (M N : Mend) : Prop where
  len : N.jobs.length = M.jobs.length
  next : ∀ b i, N.next b i = M.next b i
  broken : ∀ l b i, N.broken l b i = M.broken l b i
  pays : ∀ b i, N.pays b i = M.pays b i
theorem Alike.stepsTo (h : Alike M N) (left : Nat) (b : Bench) : ∀ k, stepsTo N left b k = stepsTo M left b k
  | 0 => rfl
  | k + 1 => by rw [Ytcgkglonnmkfcaa.stepsTo, Ytcgkglonnmkfcaa.stepsTo, h.stepsTo left b k]; unfold stepTo; rw [h.next, h.broken]
theorem Alike.steps (h : Alike M N) (left : Nat) (b : Bench) : stepsL N left b = stepsL M left b := by
  unfold stepsL; rw [h.len]; exact h.stepsTo left b _
theorem Alike.found (h : Alike M N) {T : Type} {g g' : Goal T} (hf : g'.fin = g.fin) (hs : g'.step = g.step) (hj : g'.join = g.join) (left : Nat) : ∀ n b, found N left g' n b = found M left g n b := by
  obtain rfl : g' = g := by cases g; cases g'; simp_all
  intro n
  induction n with
  | zero => intro b; rfl
  | succ n ih =>
    intro b
    rw [Ytcgkglonnmkfcaa.found, Ytcgkglonnmkfcaa.found, h.steps]
    congr 1
    funext k x
    rw [ih]
theorem Alike.costG (h : Alike M N) : costG N = costG M := by
  unfold Ytcgkglonnmkfcaa.costG
  simp only [h.pays]
theorem Alike.rightL (h : Alike M N) (left : Nat) : ∀ n b, rightL N left n b = rightL M left n b := by
  intro n
  induction n with
  | zero => intro b; rfl
  | succ n ih =>
    intro b
    rw [Ytcgkglonnmkfcaa.rightL, Ytcgkglonnmkfcaa.rightL, h.steps]
    congr 1
    funext x
    rw [ih]
theorem Alike.restN (h : Alike M N) (left : Nat) : restN N left = restN M left := by unfold Ytcgkglonnmkfcaa.restN; rw [h.len]
theorem Alike.pick (h : Alike M N) (left : Nat) (g : Goal Int) : ∀ n b v, pick N left g n b v = pick M left g n b v := by
  intro n
  induction n with
  | zero => intro b v; rfl
  | succ n ih =>
    intro b v
    rw [Ytcgkglonnmkfcaa.pick, Ytcgkglonnmkfcaa.pick, h.steps]
    have e : takes N left g n v = takes M left g n v := by
      funext x
      unfold takes
      rw [h.found rfl rfl rfl]
    rw [e]
    cases (stepsL M left b).find? (takes M left g n v) with
    | none => rfl
    | some x => simp only; rw [ih, h.found rfl rfl rfl]
theorem Alike.firstBad (h : Alike M N) (left : Nat) : ∀ p b, firstBad N left b p = firstBad M left b p
  | [], _ => rfl
  | i :: p, b => by rw [Ytcgkglonnmkfcaa.firstBad, Ytcgkglonnmkfcaa.firstBad, h.next, h.broken, h.firstBad left p]
end

theorem exact_much (M : Mend) : Alike M (M.exact true) := by
  have hn : ∀ b i, (M.exact true).next b i = M.next b i := fun b i => by
    simp [Mend.next, Mend.ends, exact_job, exact_set, Job.exact]
  refine ⟨exact_len _ _, hn, fun l b i => ?_, fun b i => ?_⟩
  · simp [Mend.broken, Mend.waits, exact_job, exact_len, Job.exact]
  · simp [Mend.pays, exact_job, Job.exact]
theorem exact_little {M : Mend} (hv : M.valid = true) : Easier M (M.exact false) := by
  have hM := Mend.valid_ok hv
  refine ⟨exact_len _ _, exact_set _ _, fun i _ => ?_, fun i hi => ?_, fun i _ => ?_, fun i _ => ?_, fun i _ k hk => ?_, fun i hi => ?_, fun i _ => ?_⟩
  · simp [exact_job, Job.exact]
  · have := valid_lo hv hi; simp [exact_job, Job.exact]; omega
  · simp [exact_job, Job.exact]
  · simp [exact_job, Job.exact]
  · rw [exact_job] at hk; exact hk
  · have := hM.cost i hi; simp [exact_job, Job.exact]; omega
  · simp [exact_job, Job.exact]

end Go.Proofs.Ytcgkglonnmkfcaa
