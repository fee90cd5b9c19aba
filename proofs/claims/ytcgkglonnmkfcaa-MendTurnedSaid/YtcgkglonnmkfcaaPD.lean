/- The plain mathematics of the fewest jobs that must be left. -/
import Derived.Test.YtcgkglonnmkfcaaPB
import Derived.Test.YtcgkglonnmkfcaaHD
namespace Go.Proofs.Ytcgkglonnmkfcaa
open Go.RowKit

theorem canB_iff {M : Mend} (hM : M.Ok) (left : Nat) : canB M left = true ↔ ∃ p, p ∈ ordersL M left := by
  unfold canB
  rw [count_orders hM, decide_eq_true_eq]
  constructor
  · intro h
    cases ho : ordersL M left with
    | nil => rw [ho] at h; simp at h
    | cons p l => exact ⟨p, by simp⟩
  · rintro ⟨p, hp⟩
    have := List.length_pos_of_mem hp
    omega
theorem findS_spec {ok : Nat → Bool} {N many q : Nat} (h : findS ok N many = some q) : q < N ∧ sizeN 6 q = many ∧ ok q = true ∧ ∀ s, s < N → sizeN 6 s = many → ok s = true → q ≤ s := by
  unfold findS at h
  obtain ⟨h1, h2, h3⟩ := find_before List.pairwise_lt_range h
  simp only [Bool.and_eq_true, beq_iff_eq] at h2
  refine ⟨List.mem_range.1 h1, h2.1, h2.2, fun s hs he ho => ?_⟩
  rcases h3 s (List.mem_range.2 hs) (by simp [he, ho]) with rfl | h
  · exact Nat.le_refl _
  · omega
theorem dropFind_spec {ok : Nat → Bool} {N : Nat} : ∀ {L q : Nat}, dropFind ok N L = some q → ∃ m, m < L ∧ findS ok N m = some q ∧ ∀ k, k < m → findS ok N k = none
  | 0, q, h => by simp [dropFind] at h
  | L + 1, q, h => by
    rw [dropFind, List.range_succ, List.findSome?_append] at h
    cases h0 : dropFind ok N L with
    | some x =>
      obtain ⟨m, h1, h2, h3⟩ := dropFind_spec h0
      rw [dropFind] at h0
      rw [h0] at h
      simp only [Option.some_or, Option.some.injEq] at h
      subst h
      exact ⟨m, by omega, h2, h3⟩
    | none =>
      rw [dropFind] at h0
      rw [h0] at h
      simp only [List.findSome?_cons, List.findSome?_nil, Option.none_or] at h
      refine ⟨L, by omega, ?_, fun k hk => List.findSome?_eq_none_iff.1 h0 k (List.mem_range.2 hk)⟩
      cases h1 : findS ok N L with
      | none => rw [h1] at h; cases h
      | some y => rw [h1] at h; simpa using h
theorem size_full : ∀ n, n ≤ 6 → sizeN 6 (2 ^ n - 1) = n := by
  intro n hn
  have key : ∀ n : Fin 7, sizeN 6 (2 ^ n.1 - 1) = n.1 := by decide +kernel
  exact key ⟨n, by omega⟩
theorem can_full {M : Mend} (hM : M.Ok) : canB M (2 ^ M.jobs.length - 1) = true := by
  rw [canB_iff hM]
  refine ⟨[], ?_⟩
  have h0 : restN M (2 ^ M.jobs.length - 1) = 0 := by
    unfold restN
    rw [free_zero]
    intro k hk
    rw [Nat.testBit_two_pow_sub_one]
    simpa using hk
  unfold ordersL
  rw [h0]
  simp [rightL]
/-- What 'Drop' tells: of all sets without which something can be, the first one of the fewest. -/
theorem drop_spec {M : Mend} (hM : M.Ok) : dropN M < 2 ^ M.jobs.length ∧ canB M (dropN M) = true ∧ ∀ t, t < 2 ^ M.jobs.length → canB M t = true → sizeN 6 (dropN M) < sizeN 6 t ∨ (sizeN 6 (dropN M) = sizeN 6 t ∧ dropN M ≤ t) := by
  have hpos : 0 < 2 ^ M.jobs.length := Nat.pow_pos (by decide)
  have hsz : ∀ t, t < 2 ^ M.jobs.length → sizeN 6 t ≤ M.jobs.length := by
    have hlen := hM.len
    generalize M.jobs.length = n at hlen
    have key : ∀ n : Fin 7, ∀ t : Fin 64, t.1 < 2 ^ n.1 → sizeN 6 t.1 ≤ n.1 := by decide +kernel
    intro t ht
    have h64 : 2 ^ n ≤ 2 ^ 6 := Nat.pow_le_pow_right (by decide) hlen
    exact key ⟨n, by omega⟩ ⟨t, by omega⟩ ht
  obtain ⟨q, hq⟩ : ∃ q, dropFind (canB M) (2 ^ M.jobs.length) (M.jobs.length + 1) = some q := by
    cases h : dropFind (canB M) (2 ^ M.jobs.length) (M.jobs.length + 1) with
    | some q => exact ⟨q, rfl⟩
    | none =>
      exfalso
      have h1 := List.findSome?_eq_none_iff.1 h M.jobs.length (List.mem_range.2 (by omega))
      unfold findS at h1
      have h2 := List.find?_eq_none.1 h1 (2 ^ M.jobs.length - 1) (List.mem_range.2 (by omega))
      rw [size_full _ hM.len, can_full hM] at h2
      simp at h2
  have hd : dropN M = q := by unfold dropN; rw [hq]; rfl
  obtain ⟨m, _, h2, h3⟩ := dropFind_spec hq
  obtain ⟨h4, h5, h6, h7⟩ := findS_spec h2
  rw [hd]
  refine ⟨h4, h6, fun t ht hc => ?_⟩
  rcases Nat.lt_or_ge (sizeN 6 t) m with h8 | h8
  · exfalso
    have h9 := h3 _ h8
    unfold findS at h9
    have h10 := List.find?_eq_none.1 h9 t (List.mem_range.2 ht)
    rw [hc] at h10
    simp at h10
  · rcases Nat.lt_or_ge m (sizeN 6 t) with h9 | h9
    · left; omega
    · right; exact ⟨by omega, h7 t ht (by omega) hc⟩
theorem Easier.can {M N : Mend} (h : Easier M N) (hM : M.Ok) (hN : N.Ok) {s : Nat} (hs : canB M s = true) : canB N s = true := by
  obtain ⟨p, hp⟩ := (canB_iff hM s).1 hs
  exact (canB_iff hN s).2 ⟨p, h.orders hp⟩
theorem Easier.drop {M N : Mend} (h : Easier M N) (hM : M.Ok) (hN : N.Ok) : sizeN 6 (dropN N) ≤ sizeN 6 (dropN M) := by
  obtain ⟨h1, h2, _⟩ := drop_spec hM
  obtain ⟨_, _, h3⟩ := drop_spec hN
  have := h3 (dropN M) (by rw [h.len]; exact h1) (h.can hM hN h2)
  omega

/-- What 'MendMore' looks at. -/
theorem more_law {M N : Mend} (hE : Easier M N) (hv : M.valid = true) (hvN : N.valid = true) :
    (∀ q, ordB M.jobs.length (ints q) = true → rightB M (ints q) = true → rightB N (ints q) = true ∧ costFrom N Bench.begin q ≤ costFrom M Bench.begin q) ∧
    (∃ a b : Int, countOf M = (a, 0) ∧ countOf N = (b, 0) ∧ a ≤ b) ∧ (∃ s t : Nat, dropOf M = ((s : Int), 0) ∧ dropOf N = ((t : Int), 0) ∧ s < 64 ∧ t < 64 ∧ sizeN 6 t ≤ sizeN 6 s) ∧
    ((bestOf M).2.2 ≠ 0 ∨ ∃ v v' u u' : Int, (bestOf M).1 = v ∧ (bestOf M).2.2 = 0 ∧ (bestOf N).1 = v' ∧ (bestOf N).2.2 = 0 ∧ v' ≤ v ∧ untilOf M = (u, 0) ∧ untilOf N = (u', 0) ∧ u' ≤ u) := by
  have hM := Mend.valid_ok hv
  have hN := Mend.valid_ok hvN
  have h64 : ∀ X : Mend, X.Ok → dropN X < 64 := fun X hX => by
    have h1 := (drop_spec hX).1
    have h2 : 2 ^ X.jobs.length ≤ 2 ^ 6 := Nat.pow_le_pow_right (by decide) hX.len
    omega
  refine ⟨fun q ho hr => ?_, ⟨_, _, by unfold countOf; rw [if_pos hv], by unfold countOf; rw [if_pos hvN], ?_⟩, ⟨dropN M, dropN N, by unfold dropOf; rw [if_pos hv], by unfold dropOf; rw [if_pos hvN], h64 M hM, h64 N hN, hE.drop hM hN⟩, ?_⟩
  · have hq := (right_mem hv).1 ⟨ho, hr⟩
    exact ⟨((right_mem hvN).2 (hE.orders hq)).2, hE.costs q _ _ (Bench.Le.refl _) (rightL_in hq).1⟩
  · have := (rightL_nodup M 0 (restN M 0) Bench.begin).length_le_of_subset (l₂ := ordersL N 0) (fun q hq => hE.orders hq)
    unfold ordersL at this ⊢
    omega
  · rcases cost_best hM with ⟨h1, h2, h3⟩ | ⟨v, u, p, h1, h2, h3, h4, h5, h6, ⟨x, hx, hxu⟩, h8⟩
    · left
      unfold bestOf; rw [if_pos hv, h2]; simp
    · right
      rcases cost_best hN with ⟨g1, _, _⟩ | ⟨v', u', p', g1, g2, g3, g4, g5, g6, ⟨x', hx', hxu'⟩, g8⟩
      · have := hE.orders h4; rw [g1] at this; cases this
      · refine ⟨v, v', u, u', by unfold bestOf; rw [if_pos hv, h1], by unfold bestOf; rw [if_pos hv, h1], by unfold bestOf; rw [if_pos hvN, g1], by unfold bestOf; rw [if_pos hvN, g1], ?_, by unfold untilOf; rw [if_pos hv, h2], by unfold untilOf; rw [if_pos hvN, g2], ?_⟩
        · have e1 := (g6 p (hE.orders h4)).1
          have e2 := hE.costs p _ _ (Bench.Le.refl Bench.begin) (rightL_in h4).1
          omega
        · have e1 := g8 x (hE.orders hx)
          have e2 := (hE.bench x _ _ (Bench.Le.refl Bench.begin) (rightL_in hx).1).late
          unfold benchOf at e1 hxu
          omega

/-- A job that asks no more than another one. -/
structure Eased (n : Nat) (j j' : Job) : Prop where
  kind : j'.kind = j.kind
  lo : j'.lo = j.lo
  hi : j.lo ≤ j'.hi ∧ j'.hi ≤ j.hi
  from_ : 0 ≤ j'.from_ ∧ j'.from_ ≤ j.from_
  by_ : j.by_ ≤ j'.by_ ∧ j'.by_ ≤ 300
  soft : j.soft ≤ j'.soft ∧ j'.soft ≤ 300
  cost : 0 ≤ j'.cost ∧ j'.cost ≤ j.cost
  after : 0 ≤ j'.after ∧ j'.after ≤ j.after
  bits : ∀ k, j'.after.toNat.testBit k = true → j.after.toNat.testBit k = true
def Mend.ease (M : Mend) (i : Nat) (j' : Job) : Mend := { M with jobs := M.jobs.set i j' }
theorem ease_job (M : Mend) {i : Nat} (j' : Job) (hi : i < M.jobs.length) (k : Nat) : (M.ease i j').job k = if k = i then j' else M.job k := by
  unfold Mend.job Mend.ease
  simp only [List.getD_eq_getElem?_getD, List.getElem?_set]
  by_cases h : i = k
  · subst h; simp [hi]
  · rw [if_neg h, if_neg (Ne.symm h)]
theorem ease_easier {M : Mend} (hv : M.valid = true) {i : Nat} {j' : Job} (hi : i < M.jobs.length) (h : Eased M.jobs.length (M.job i) j') : Easier M (M.ease i j') ∧ (M.ease i j').valid = true := by
  have hM := Mend.valid_ok hv
  have hlen : (M.ease i j').jobs.length = M.jobs.length := by simp [Mend.ease]
  have hj := fun k => ease_job M j' hi k
  constructor
  · refine ⟨hlen, fun _ => rfl, ?_, ?_, ?_, ?_, ?_, ?_, ?_⟩ <;> intro k hk <;> rw [hj] <;> (by_cases e : k = i)
    · subst e; rw [if_pos rfl]; exact h.kind
    · rw [if_neg e]
    · subst e; rw [if_pos rfl]; exact h.hi.2
    · rw [if_neg e]; exact Int.le_refl _
    · subst e; rw [if_pos rfl]; exact h.from_.2
    · rw [if_neg e]; exact Int.le_refl _
    · subst e; rw [if_pos rfl]; exact h.by_.1
    · rw [if_neg e]; exact Int.le_refl _
    · subst e; rw [if_pos rfl]; exact h.bits
    · rw [if_neg e]; exact fun _ h => h
    · subst e; rw [if_pos rfl]; exact h.cost
    · rw [if_neg e]; exact ⟨(hM.cost k hk).1, Int.le_refl _⟩
    · subst e; rw [if_pos rfl]; exact h.soft.1
    · rw [if_neg e]; exact Int.le_refl _
  · have hall := fun k hk => valid_job hv (i := k) hk
    unfold Mend.valid at hv ⊢
    simp only [Bool.and_eq_true] at hv ⊢
    refine ⟨⟨?_, hv.1.2⟩, ?_⟩
    · have := hv.1.1
      unfold Mend.sizes at this ⊢
      rw [hlen]
      exact this
    · rw [List.all_eq_true]
      intro k hk
      rw [hlen, List.mem_range] at hk
      rw [hlen, hj]
      have hok := hall k hk
      by_cases e : k = i
      · subst e
        rw [if_pos rfl]
        show j'.ok M.setup.length M.jobs.length k = true
        have hown := hM.own k hk
        unfold Job.ok Job.okA Job.okB Job.okC at hok ⊢
        simp only [Bool.and_eq_true, decide_eq_true_eq, inB_iff, Bool.not_eq_true'] at hok ⊢
        have h1 := h.kind
        have h2 := h.lo
        have h3 := h.hi
        have h4 := h.from_
        have h5 := h.by_
        have h6 := h.soft
        have h7 := h.cost
        have h8 := h.after
        refine ⟨⟨⟨⟨by omega, by omega⟩, by omega⟩, ⟨by omega, by omega⟩, by omega⟩, ⟨⟨by omega, by omega⟩, ?_⟩⟩
        cases hb : j'.after.toNat.testBit k
        · rfl
        · have := h.bits k hb; rw [hown] at this; cases this
      · rw [if_neg e]; exact hok
end Go.Proofs.Ytcgkglonnmkfcaa
