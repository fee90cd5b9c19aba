/- The plain mathematics of MendSlack. -/
import Derived.Test.YtcgkglonnmkfcaaR5
namespace Go.Proofs.Ytcgkglonnmkfcaa
open Go.RowKit

theorem longer_zero (M : Mend) : M.longer 0 = M := by
  unfold Mend.longer
  have : ∀ L : List Job, L.map (Job.longer 0) = L := fun L => by
    refine (List.map_congr_left (g := id) fun j _ => ?_).trans (by simp)
    cases j
    simp [Job.longer]
  rw [this]
theorem ord_nat {n : Nat} {l : List Int} (h : ordB n l = true) : ∃ p : List Nat, l = ints p ∧ l.map Int.toNat = p ∧ (∀ i, i ∈ p → i < n) ∧ p.length = n ∧ p.Nodup := by
  obtain ⟨p, rfl, h1, h2⟩ := ordB_ints.1 h
  obtain ⟨h3, h4⟩ := freshB_iff.1 h1
  refine ⟨p, rfl, ?_, fun i hi => (h4 i hi).1, h2, h3⟩
  unfold ints
  rw [List.map_map]
  exact (List.map_congr_left (g := id) fun x _ => rfl).trans (by simp)
theorem rightB_eq {M : Mend} (hv : M.valid = true) {l : List Int} (hl : ordB M.jobs.length l = true) : rightB M l = decide ((badOf M 0 (l.map Int.toNat)).2 = 0) := by
  unfold rightB checkOf
  rw [if_pos hv, if_pos hl]
  by_cases h : (badOf M 0 (l.map Int.toNat)).2 = 0
  · simp [h]
  · simp [h]
theorem longB_right {M : Mend} {k : Nat} (hv : (M.longer k).valid = true) {l : List Int} (hl : ordB M.jobs.length l = true) : rightB (M.longer k) l = longB M (l.map Int.toNat) k := by
  have e : (M.longer k).jobs.length = M.jobs.length := by simp [Mend.longer]
  rw [rightB_eq hv (by rw [e]; exact hl)]
  rfl
theorem longB_right0 {M : Mend} (hv : M.valid = true) {l : List Int} (hl : ordB M.jobs.length l = true) : rightB M l = longB M (l.map Int.toNat) 0 := by
  rw [rightB_eq hv hl]
  unfold longB
  rw [show ((0 : Nat) : Int) = 0 from rfl, longer_zero]

theorem slackFrom_spec (f : Nat → Bool) : ∀ (n k : Nat), k ≤ slackFrom f n k ∧ slackFrom f n k ≤ k + n ∧ (f k = true → f (slackFrom f n k) = true) ∧ (slackFrom f n k < k + n → f (slackFrom f n k + 1) = false)
  | 0, k => by simp [slackFrom]
  | n + 1, k => by
    rw [slackFrom]
    by_cases h : f (k + 1) = true
    · rw [if_pos h]
      obtain ⟨h1, h2, h3, h4⟩ := slackFrom_spec f n (k + 1)
      exact ⟨by omega, by omega, fun _ => h3 h, fun h5 => h4 (by omega)⟩
    · rw [if_neg h]
      exact ⟨Nat.le_refl _, by omega, fun h2 => h2, fun _ => by simpa using h⟩

theorem works_job (M : Mend) : ∀ (p : List Nat) (x : Sit), (worksL M x p).map (·.2) = p
  | [], _ => rfl
  | i :: p, x => by simp [worksL, works_job M p]
theorem longer_set (M : Mend) (n k : Int) : (M.longer n).set k = M.set k := rfl
theorem longer_len (M : Mend) (n : Int) : (M.longer n).jobs.length = M.jobs.length := by simp [Mend.longer]
/-- If all is right although each job takes longer, each is done as much ahead. -/
theorem longer_ahead (M : Mend) (n : Int) (hn : 0 ≤ n) : ∀ (p : List Nat) (x : Sit) (b : Bench), (∀ i, i ∈ p → i < M.jobs.length) → x.1.kind = b.kind → x.1.late ≤ b.late → goodB (M.longer n) 0 b p = true → ∀ y, y ∈ worksL M x p → y.1.1.late + n ≤ (M.job y.2).by_
  | [], _, _, _, _, _, _, _, hy => by simp [worksL] at hy
  | i :: p, x, b, hp, hk, hle, hg, y, hy => by
    have hi := hp i (by simp)
    rw [goodB, Bool.and_eq_true, decide_eq_true_eq] at hg
    have hkind : ((M.longer n).next b i).kind = (M.job i).kind := by simp [Mend.next, longer_job M n hi, Job.longer]
    have hlate : (M.nextS x i).1.late + n ≤ ((M.longer n).next b i).late := by
      simp only [Mend.nextS, Mend.next, longer_job M n hi, Job.longer, Mend.ends, longer_set, hk]
      split <;> omega
    rcases List.mem_cons.1 hy with rfl | hy
    · have hb := hg.1
      unfold Mend.broken at hb
      split at hb
      · cases hb
      · split at hb
        · cases hb
        · rename_i h2
          rw [longer_job M n hi] at h2
          simp only [Job.longer] at h2
          simp only
          omega
    · exact longer_ahead M n hn p (M.nextS x i) ((M.longer n).next b i) (fun j hj => hp j (by simp [hj])) (by rw [hkind]; rfl) (by omega) hg.2 y hy

/-- What 'MendSlack' looks at. -/
theorem slack_law {M : Mend} (hv : M.valid = true) {l : List Int} (hl : ordB M.jobs.length l = true) :
    (slackOf M l = (0, 4) ∧ rightB M l = false) ∨
    (∃ n : Nat, slackOf M l = ((n : Int), 0) ∧ n ≤ 30 ∧ rightB M l = true ∧ ((timesOf M l).2 = 0) ∧ (timesOf M l).1.length = M.jobs.length ∧
      (∀ k, k < M.jobs.length → 0 ≤ l.getD k 0 ∧ l.getD k 0 < M.jobs.length ∧ 0 ≤ ((timesOf M l).1.getD k (0, 0)).2 ∧ ((timesOf M l).1.getD k (0, 0)).2 + n ≤ (M.job (l.getD k 0).toNat).by_) ∧
      ((M.longer n).valid = true → rightB (M.longer n) l = true) ∧ ((M.longer (n + 1 : Nat)).valid = true → rightB (M.longer (n + 1 : Nat)) l = true → n = 30)) := by
  obtain ⟨p, rfl, hp, hpi, hpl, hpn⟩ := ord_nat hl
  have e0 := longB_right0 hv hl
  rw [hp] at e0
  have es : slackOf M (ints p) = if longB M p 0 then (((slackFrom (longB M p) 30 0 : Nat) : Int), 0) else (0, 4) := by
    unfold slackOf
    rw [if_pos hv, if_pos hl, hp]
  have et : timesOf M (ints p) = (spansOf M p, 0) := by
    unfold timesOf
    rw [if_pos hv, if_pos hl, hp]
  cases h : longB M p 0
  · left
    rw [es, h, e0, h]
    simp
  · right
    obtain ⟨h1, h2, h3, h4⟩ := slackFrom_spec (longB M p) 30 0
    refine ⟨slackFrom (longB M p) 30 0, by rw [es, h]; simp, by omega, by rw [e0, h], by rw [et], ?_, ?_, ?_, ?_⟩
    · rw [et]; simp [spansOf, worksL_length, hpl]
    · intro k hk
      rw [et]
      obtain ⟨y, hy⟩ : ∃ y, (worksL M Sit.begin p)[k]? = some y := ⟨_, List.getElem?_eq_getElem (by rw [worksL_length, hpl]; exact hk)⟩
      have hpk : p[k]? = some y.2 := by
        have := congrArg (fun l => l[k]?) (works_job M p Sit.begin)
        simp only [List.getElem?_map, hy] at this
        exact this.symm
      have hlk : (ints p).getD k 0 = (y.2 : Int) := by rw [List.getD_eq_getElem?_getD]; simp [ints, hpk]
      have hyl := hpi y.2 (List.mem_of_getElem? hpk)
      have hsk : (spansOf M p).getD k (0, 0) = (y.1.2, y.1.1.late) := by rw [List.getD_eq_getElem?_getD]; simp [spansOf, hy]
      rw [hlk, hsk]
      have hg : goodB (M.longer (slackFrom (longB M p) 30 0 : Nat)) 0 Bench.begin p = true := by
        have := h3 h
        unfold longB at this
        rw [decide_eq_true_eq, badOf_zero] at this
        exact firstBad_none.1 this
      have hmem := List.mem_of_getElem? hy
      have := longer_ahead M (slackFrom (longB M p) 30 0 : Nat) (by omega) p Sit.begin Bench.begin hpi rfl (Int.le_refl _) hg y hmem
      have hlate0 : 0 ≤ y.1.1.late := by
        have key : ∀ (q : List Nat) (m : Nat) (x : Sit), Sit.In M m x → (∀ i, i ∈ q → i < M.jobs.length) → ∀ z, z ∈ worksL M x q → 0 ≤ z.1.1.late := by
          intro q
          induction q with
          | nil => intro m x _ _ z hz; simp [worksL] at hz
          | cons i q ih =>
            intro m x hx hq z hz
            have hn := Sit.next_in (Mend.valid_ok hv) hx (hq i (by simp))
            rcases List.mem_cons.1 hz with rfl | hz
            · exact hn.late0
            · exact ih _ _ hn (fun j hj => hq j (by simp [hj])) z hz
        exact key p 0 _ (Sit.begin_in M) hpi y hmem
      refine ⟨by omega, by omega, hlate0, ?_⟩
      simpa using this
    · intro hv2
      rw [longB_right hv2 hl, hp]
      exact h3 h
    · intro hv2 hr
      rw [longB_right hv2 hl, hp] at hr
      by_cases e : slackFrom (longB M p) 30 0 < 30
      · have := h4 (by omega)
        rw [this] at hr; cases hr
      · omega
theorem slack_more {M : Mend} (hv : M.valid = true) {l : List Int} (hl : ordB M.jobs.length l = true) : slackOf M (0 :: l) = (0, 2) := by
  have h2 := (ordB_all.1 hl).2
  have : ordB M.jobs.length (0 :: l) = false := by
    cases h : ordB M.jobs.length (0 :: l)
    · rfl
    · have := (ordB_all.1 h).2
      simp at this; omega
  unfold slackOf
  rw [if_pos hv, this]
  simp

end Go.Proofs.Ytcgkglonnmkfcaa
