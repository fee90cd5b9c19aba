/- The plain mathematics of MendTrue: how long jobs truly take. -/
import Derived.Test.YtcgkglonnmkfcaaPB
import Derived.Test.YtcgkglonnmkfcaaR8
namespace Go.Proofs.Ytcgkglonnmkfcaa
open Go.RowKit

/-- A mend each of whose jobs takes its least number of minutes, and some more. -/
def Mend.truly (M : Mend) (e : Nat → Int) : Mend := { M with jobs := (List.range M.jobs.length).map fun i => { M.job i with hi := (M.job i).lo + e i } }
theorem truly_len (M : Mend) (e : Nat → Int) : (M.truly e).jobs.length = M.jobs.length := by simp [Mend.truly]
theorem truly_job (M : Mend) (e : Nat → Int) {i : Nat} (hi : i < M.jobs.length) : (M.truly e).job i = { M.job i with hi := (M.job i).lo + e i } := by
  show ((List.range M.jobs.length).map _).getD i Job.none = _
  rw [List.getD_eq_getElem?_getD, List.getElem?_map, List.getElem?_range hi]
  rfl
theorem truly_easier {M : Mend} (hM : M.Ok) {e : Nat → Int} (he : ∀ i, i < M.jobs.length → 0 ≤ e i ∧ e i ≤ (M.job i).hi - (M.job i).lo) : Easier M (M.truly e) := by
  refine ⟨truly_len M e, fun _ => rfl, ?_, ?_, ?_, ?_, ?_, ?_, ?_⟩ <;> intro i hi <;> rw [truly_job M e hi]
  · have := he i hi; simp only; omega
  · exact Int.le_refl _
  · exact Int.le_refl _
  · exact fun _ h => h
  · exact ⟨(hM.cost i hi).1, Int.le_refl _⟩
  · exact Int.le_refl _
theorem exact_least {M : Mend} (hM : M.Ok) {e : Nat → Int} (he : ∀ i, i < M.jobs.length → 0 ≤ e i ∧ e i ≤ (M.job i).hi - (M.job i).lo) : Easier (M.truly e) (M.exact false) := by
  refine ⟨by rw [exact_len, truly_len], fun _ => rfl, ?_, ?_, ?_, ?_, ?_, ?_, ?_⟩ <;> intro i hi <;> rw [truly_len] at hi <;> rw [truly_job M e hi, exact_job]
  · rfl
  · have := he i hi; simp only [Job.exact]; simp; omega
  · exact Int.le_refl _
  · exact Int.le_refl _
  · exact fun _ h => h
  · exact ⟨(hM.cost i hi).1, Int.le_refl _⟩
  · exact Int.le_refl _
theorem soon_exact (M : Mend) : ∀ (p : List Nat) (x : Sit) (b : Bench), b.kind = x.1.kind → b.late = x.2 → (p.foldl (M.exact false).next b).late = (p.foldl M.nextS x).2 ∧ (p.foldl (M.exact false).next b).kind = (p.foldl M.nextS x).1.kind
  | [], _, _, h1, h2 => ⟨h2, h1⟩
  | i :: p, x, b, h1, h2 => by
    simp only [List.foldl_cons]
    refine soon_exact M p _ _ ?_ ?_
    · simp [Mend.nextS, Mend.next, exact_job, Job.exact]
    · simp [Mend.nextS, Mend.next, Mend.ends, exact_job, exact_set, Job.exact, h1, h2]
/-- The true minute is one of those that are told. -/
theorem truly_between {M : Mend} (hM : M.Ok) {e : Nat → Int} (he : ∀ i, i < M.jobs.length → 0 ≤ e i ∧ e i ≤ (M.job i).hi - (M.job i).lo) {p : List Nat} (hp : ∀ i, i ∈ p → i < M.jobs.length) (k : Nat) :
    (sitOf M (p.take k)).2 ≤ (benchOf (M.truly e) (p.take k)).late ∧ (benchOf (M.truly e) (p.take k)).late ≤ (sitOf M (p.take k)).1.late := by
  have hq : ∀ i, i ∈ p.take k → i < M.jobs.length := fun i hi => hp i (List.mem_of_mem_take hi)
  have h1 := (truly_easier hM he).bench (p.take k) _ _ (Bench.Le.refl Bench.begin) hq
  have h2 := (exact_least hM he).bench (p.take k) _ _ (Bench.Le.refl Bench.begin) (fun i hi => by rw [truly_len]; exact hq i hi)
  have h3 := (soon_exact M (p.take k) Sit.begin Bench.begin rfl rfl).1
  rw [show sitOf M (p.take k) = (p.take k).foldl M.nextS Sit.begin from rfl, ← h3]
  refine ⟨h2.late, ?_⟩
  have h4 := benchOf_sit M (p.take k)
  rw [show (p.take k).foldl M.nextS Sit.begin = sitOf M (p.take k) from rfl, h4]
  exact h1.late
theorem done_same (M : Mend) (e : Nat → Int) : ∀ (p : List Nat) (b b' : Bench), b'.done = b.done → (p.foldl (M.truly e).next b').done = (p.foldl M.next b).done
  | [], _, _, h => h
  | i :: p, b, b', h => by simp only [List.foldl_cons]; exact done_same M e p _ _ (by simp [Mend.next, h])
theorem andNot_i (a b : Nat) (ha : a < 9223372036854775808) (hb : b < 9223372036854775808) : bits .andNot .i64 (a : Int) (b : Int) = ((Go.Lap.andN a b : Nat) : Int) := by
  have ea : (BitVec.ofInt 64 (a : Int)).toNat = a := by rw [BitVec.toNat_ofInt]; omega
  have eb : (BitVec.ofInt 64 (b : Int)).toNat = b := by rw [BitVec.toNat_ofInt]; omega
  have h3 := Nat.lt_of_le_of_lt (Go.Lap.andN_le a b) ha
  show IntKind.i64.wrap ((BitVec.ofInt 64 a &&& ~~~BitVec.ofInt 64 b).toNat : Nat) = _
  have e : (BitVec.ofInt 64 a &&& ~~~BitVec.ofInt 64 b).toNat = Go.Lap.andN a b := by
    apply Nat.eq_of_testBit_eq
    intro k
    rw [Go.Lap.andN_bit (by omega), BitVec.testBit_toNat, BitVec.getLsbD_and, BitVec.getLsbD_not, ← BitVec.testBit_toNat, ← BitVec.testBit_toNat, ea, eb]
    by_cases hk : k < 64
    · simp [hk]
    · have : a.testBit k = false := Nat.testBit_lt_two_pow (Nat.lt_of_lt_of_le (show a < 2 ^ 64 by omega) (by
        have := Nat.pow_le_pow_right (n := 2) (by decide) (Nat.le_of_not_lt hk)
        simpa using this))
      simp [this]
  rw [e, IntKind.wrap_i64]; omega
theorem after_small {M : Mend} (hM : M.Ok) {i : Nat} (hi : i < M.jobs.length) : (M.job i).after.toNat < 64 := by
  have h1 := (hM.after i hi).2
  have h2 : ((2 ^ M.jobs.length : Nat) : Int) = (2 : Int) ^ M.jobs.length := by simp
  have h3 : 2 ^ M.jobs.length ≤ 2 ^ 6 := Nat.pow_le_pow_right (by decide) hM.len
  have h4 : 0 < 2 ^ M.jobs.length := Nat.pow_pos (by decide)
  omega
/-- Does the next job come too early? -/
theorem waits_andN {M : Mend} (hM : M.Ok) (b : Bench) {i : Nat} (hi : i < M.jobs.length) : M.waits 0 (M.next b i) i = decide (Go.Lap.andN (M.job i).after.toNat b.done ≠ 0) := by
  rw [Bool.eq_iff_iff, decide_eq_true_eq]
  unfold Mend.waits
  rw [List.any_eq_true]
  have hown := hM.own i hi
  have h64 := after_small hM hi
  constructor
  · rintro ⟨k, hk, h⟩ h0
    simp only [Bool.and_eq_true, Bool.not_eq_true', Nat.zero_testBit, and_true, Bool.and_eq_false_iff, decide_eq_false_iff_not, Decidable.not_not] at h
    have h1 := congrArg (fun n : Nat => n.testBit k) h0
    simp only [Go.Lap.andN_bit (show (M.job i).after.toNat < 18446744073709551616 by omega), Nat.zero_testBit, h.1, Bool.true_and, Bool.not_eq_false'] at h1
    rcases h.2 with h2 | rfl
    · simp only [Mend.next, Nat.testBit_or, Bool.or_eq_false_iff] at h2
      rw [h2.1] at h1
      cases h1
    · rw [hown] at h; simp at h
  · intro h
    obtain ⟨k, hk⟩ := Nat.exists_testBit_of_ne_zero h
    rw [Go.Lap.andN_bit (by omega), Bool.and_eq_true, Bool.not_eq_true'] at hk
    have haf : k < M.jobs.length := by
      have h1 := (hM.after i hi).2
      have h2 : (M.job i).after.toNat < 2 ^ M.jobs.length := by
        have h3 : ((2 ^ M.jobs.length : Nat) : Int) = (2 : Int) ^ M.jobs.length := by simp
        have h4 : 0 < 2 ^ M.jobs.length := Nat.pow_pos (by decide)
        omega
      rcases Nat.lt_or_ge k M.jobs.length with h3 | h3
      · exact h3
      · have := Nat.testBit_lt_two_pow (Nat.lt_of_lt_of_le h2 (Nat.pow_le_pow_right (by decide) h3))
        rw [hk.1] at this; cases this
    refine ⟨k, List.mem_range.2 haf, ?_⟩
    rw [hk.1]
    by_cases e : k = i
    · subst e; rw [hown] at hk; simp at hk
    · simp [Mend.next, hk.2, Ne.symm e]
theorem truly_valid {M : Mend} (hv : M.valid = true) {e : Nat → Int} (he : ∀ i, i < M.jobs.length → 0 ≤ e i ∧ e i ≤ (M.job i).hi - (M.job i).lo) : (M.truly e).valid = true := by
  have hj := fun i hi => valid_job hv (i := i) hi
  unfold Mend.valid at hv ⊢
  simp only [Bool.and_eq_true] at hv ⊢
  obtain ⟨⟨h1, h2⟩, h3⟩ := hv
  refine ⟨⟨?_, h2⟩, ?_⟩
  · unfold Mend.sizes at h1 ⊢
    rw [truly_len]
    exact h1
  · rw [List.all_eq_true]
    intro i hi
    rw [truly_len, List.mem_range] at hi
    have h := hj i hi
    have h9 := he i hi
    rw [truly_len, truly_job M e hi]
    show ({ M.job i with hi := (M.job i).lo + e i } : Job).ok M.setup.length M.jobs.length i = true
    unfold Job.ok at h ⊢
    simp only [Bool.and_eq_true] at h ⊢
    obtain ⟨⟨ha, hb⟩, hc⟩ := h
    unfold Job.okA at ha ⊢
    simp only [Bool.and_eq_true, decide_eq_true_eq, inB_iff] at ha ⊢
    exact ⟨⟨⟨⟨ha.1.1, by omega, by omega⟩, by omega⟩, hb⟩, hc⟩
/-- Where what is told of the first job that breaks a rule stands, behind so many jobs. -/
def GS (M : Mend) (r : List Nat) (c1 c2 gv : Int) (k : Nat) : Prop :=
  (gv = 4 ∧ goodB M 0 (benchOf M (r.take k)) (r.drop k) = true) ∨ (gv = 0 ∧ ∃ jn : Nat, firstBad M 0 (benchOf M (r.take k)) (r.drop k) = some (jn, c2) ∧ c1 = jn) ∨ gv = 11
theorem gs_start {M : Mend} (hv : M.valid = true) {r : List Nat} (ho : ordB M.jobs.length (ints r) = true) : ∃ c1 c2 c3 : Int, checkOf M (ints r) = (c1, c2, c3) ∧ (c3 = 4 ∨ c3 = 0) ∧ (rightB M (ints r) = true → c3 = 4) ∧ GS M r c1 c2 c3 0 := by
  unfold checkOf
  rw [if_pos hv, if_pos ho, ints_toNat]
  by_cases h : (badOf M 0 r).2 = 0
  · rw [if_pos h]
    exact ⟨0, 0, 4, rfl, .inl rfl, fun _ => rfl, .inl ⟨rfl, firstBad_none.1 (badOf_zero.1 h)⟩⟩
  · rw [if_neg h]
    refine ⟨_, _, 0, rfl, .inr rfl, fun hr => ?_, .inr (.inl ⟨rfl, ?_⟩)⟩
    · rw [rightB_eq hv ho, ints_toNat, decide_eq_true_eq] at hr
      exact (h hr).elim
    · cases hb : firstBad M 0 Bench.begin r with
      | none => exact (h (badOf_zero.2 hb)).elim
      | some x =>
        obtain ⟨jn, c⟩ := x
        refine ⟨jn, ?_, ?_⟩
        · show firstBad M 0 Bench.begin r = _
          rw [hb]; unfold badOf; rw [hb]
        · unfold badOf; rw [hb]
theorem gs_end {M : Mend} {r : List Nat} {c1 c2 gv : Int} (h : GS M r c1 c2 gv r.length) : gv ≠ 0 := by
  rcases h with ⟨rfl, _⟩ | ⟨_, jn, hb, _⟩ | rfl
  · decide
  · rw [List.drop_length] at hb; cases hb
  · decide
/-- One job more: is it told to be wrong? A: others must come before it; B: it is late. -/
theorem gs_step {M : Mend} {r : List Nat} {c1 c2 gv : Int} {k : Nat} (hk : k < r.length) (h : GS M r c1 c2 gv k) :
    (gv = 4 ∧ brokenAt M 0 r k = 0 ∧ GS M r c1 c2 4 (k + 1)) ∨ (gv = 0 ∧ brokenAt M 0 r k = 0 ∧ GS M r c1 c2 0 (k + 1)) ∨ (gv = 0 ∧ brokenAt M 0 r k ≠ 0 ∧ c1 = ((r.getD k 0 : Nat) : Int) ∧ c2 = brokenAt M 0 r k) ∨ gv = 11 := by
  rcases h with ⟨rfl, hg⟩ | ⟨rfl, jn, hb, hc⟩ | rfl
  · rw [good_from M 0 r k hk, Bool.and_eq_true, decide_eq_true_eq] at hg
    exact .inl ⟨rfl, hg.1, .inl ⟨rfl, hg.2⟩⟩
  · rw [bad_from M 0 r k hk] at hb
    by_cases h0 : brokenAt M 0 r k = 0
    · rw [if_pos h0] at hb
      exact .inr (.inl ⟨rfl, h0, .inr (.inl ⟨rfl, jn, hb, hc⟩)⟩)
    · rw [if_neg h0] at hb
      simp only [Option.some.injEq, Prod.mk.injEq] at hb
      exact .inr (.inr (.inl ⟨rfl, h0, by rw [hc, hb.1], hb.2.symm⟩))
  · exact .inr (.inr (.inr rfl))
theorem broken_form {M : Mend} (hM : M.Ok) {r : List Nat} {k : Nat} (hk : k < r.length) (hi : r.getD k 0 < M.jobs.length) :
    brokenAt M 0 r k = if Go.Lap.andN (M.job (r.getD k 0)).after.toNat (benchOf M (r.take k)).done ≠ 0 then 1 else if (M.job (r.getD k 0)).by_ < (benchOf M (r.take (k + 1))).late then 2 else 0 := by
  unfold brokenAt Mend.broken
  rw [benchOf_succ M hk, waits_andN hM _ hi]
  by_cases h : Go.Lap.andN (M.job (r.getD k 0)).after.toNat (benchOf M (r.take k)).done = 0
  · simp [h]
  · simp [h]
/-- One job more, of a truth. -/
theorem true_step {M : Mend} (hv : M.valid = true) {e : Nat → Int} (he : ∀ i, i < M.jobs.length → 0 ≤ e i ∧ e i ≤ (M.job i).hi - (M.job i).lo) {r : List Nat} (ho : ordB M.jobs.length (ints r) = true) {j : Nat} (hj : j < r.length) :
    ∃ (now kq sm now3 sm3 late : Int) (D D3 : Nat), (benchOf (M.truly e) (r.take j)).late = now ∧ (benchOf (M.truly e) (r.take j)).kind = kq ∧ costFrom (M.truly e) Bench.begin (r.take j) = sm ∧ (benchOf M (r.take j)).done = D ∧
      (benchOf (M.truly e) (r.take (j + 1))).late = now3 ∧ (benchOf (M.truly e) (r.take (j + 1))).kind = (M.job (r.getD j 0)).kind ∧ costFrom (M.truly e) Bench.begin (r.take (j + 1)) = sm3 ∧ (benchOf M (r.take (j + 1))).done = D3 ∧ (benchOf M (r.take (j + 1))).late = late ∧
      now3 = max (if (M.job (r.getD j 0)).kind = kq then now else now + M.set (M.job (r.getD j 0)).kind) (M.job (r.getD j 0)).from_ + (M.job (r.getD j 0)).lo + e (r.getD j 0) ∧
      sm3 = sm + (M.job (r.getD j 0)).cost * max 0 (now3 - (M.job (r.getD j 0)).soft) ∧ D3 = D ||| 2 ^ (r.getD j 0) ∧
      0 ≤ now ∧ now ≤ 12000 ∧ 0 ≤ now3 ∧ now3 ≤ 12000 ∧ 0 ≤ sm ∧ sm ≤ 3600000 ∧ 0 ≤ (M.job (r.getD j 0)).cost * max 0 (now3 - (M.job (r.getD j 0)).soft) ∧ (M.job (r.getD j 0)).cost * max 0 (now3 - (M.job (r.getD j 0)).soft) ≤ 600000 ∧ D < 64 ∧
      (sitOf M (r.take (j + 1))).2 ≤ now3 ∧ now3 ≤ late ∧
      brokenAt M 0 r j = (if Go.Lap.andN (M.job (r.getD j 0)).after.toNat D ≠ 0 then 1 else if (M.job (r.getD j 0)).by_ < late then 2 else 0) := by
  obtain ⟨r2, e1, _, hin, hrl, _⟩ := ord_nat ho
  obtain rfl := ints_inj e1
  have hM := Mend.valid_ok hv
  have hvN := truly_valid hv he
  have hmem : r.getD j 0 ∈ r := by
    rw [List.getD_eq_getElem?_getD, List.getElem?_eq_getElem hj]
    exact List.getElem_mem _
  have him : r.getD j 0 < M.jobs.length := hin _ hmem
  have hNin : ∀ i, i ∈ r → i < (M.truly e).jobs.length := fun i h => by rw [truly_len]; exact hin i h
  have hl6 : r.length ≤ 6 := by rw [hrl]; exact hM.len
  have h1 := sit_small (Mend.valid_ok hvN) hNin hl6 j
  have h2 := sit_small (Mend.valid_ok hvN) hNin hl6 (j + 1)
  have h3 := cost_small hvN hNin hl6 j (by omega)
  have h4 := cost_take (M.truly e) hj
  have h5 := benchOf_succ (M.truly e) hj
  have h6 := truly_between hM he hin (j + 1)
  have h7 := broken_form hM hj him
  have h8 := benchOf_succ M hj
  have h9 := truly_job M e him
  have h10 := pays_small hvN (hNin _ hmem) (b := benchOf (M.truly e) (r.take (j + 1))) (by rw [← benchOf_sit]; exact h2.2.2.2)
  rw [benchOf_sit] at h1 h2 h6
  have hD : (benchOf M (r.take j)).done < 64 := by
    have : (benchOf M (r.take j)).done < 2 ^ 6 := by
      apply Nat.lt_pow_two_of_testBit
      intro k hk
      rw [done_fold]
      simp only [Bench.begin, Nat.zero_testBit, Bool.false_or, decide_eq_false_iff_not]
      intro hm
      have := hin k (List.mem_of_mem_take hm)
      have := hM.len
      omega
    exact this
  refine ⟨_, _, _, _, _, _, _, _, rfl, rfl, rfl, rfl, rfl, ?_, rfl, rfl, rfl, ?_, ?_, ?_, h1.2.2.1, h1.2.2.2, h2.2.2.1, h2.2.2.2, h3.1, by omega, ?_, ?_, hD, h6.1, h6.2, h7⟩
  · rw [h5]; simp only [Mend.next, h9]
  · rw [h5]
    simp only [Mend.next, Mend.ends, h9]
    rw [show (M.truly e).set (M.job (r.getD j 0)).kind = M.set (M.job (r.getD j 0)).kind from rfl]
    by_cases hk : (M.job (r.getD j 0)).kind = (benchOf (M.truly e) (r.take j)).kind
    · rw [if_pos hk, if_pos hk.symm]; omega
    · rw [if_neg hk, if_neg (fun h => hk h.symm)]; omega
  · rw [h4]; unfold Mend.pays; rw [h9]
  · rw [h8]; rfl
  · have := h10.1; unfold Mend.pays at this; rw [h9] at this; exact this
  · have := h10.2; unfold Mend.pays at this; rw [h9] at this; exact this
end Go.Proofs.Ytcgkglonnmkfcaa
