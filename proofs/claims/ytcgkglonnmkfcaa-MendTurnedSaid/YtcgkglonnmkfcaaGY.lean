/- The plain mathematics of MendTurned: jobs, and kinds, in the other order. What lies in memory while MendTurned runs. -/
import Derived.Test.YtcgkglonnmkfcaaGQ
import Derived.Test.YtcgkglonnmkfcaaGL
import Derived.Test.YtcgkglonnmkfcaaGV
import Derived.Test.YtcgkglonnmkfcaaGD
import Derived.Test.YtcgkglonnmkfcaaGX
import Derived.Test.YtcgkglonnmkfcaaGR
import Derived.Test.YtcgkglonnmkfcaaGK
namespace Go.Proofs.Ytcgkglonnmkfcaa
open Go.RowKit

/-- A set of jobs in the other order. -/
def mirTo (n a : Nat) (k : Nat) : Nat := (List.range k).foldl (fun s q => if a.testBit q then s ||| 2 ^ (n - 1 - q) else s) 0
theorem mirTo_succ (n a k : Nat) : mirTo n a (k + 1) = if a.testBit k then mirTo n a k ||| 2 ^ (n - 1 - k) else mirTo n a k := by
  unfold mirTo; rw [List.range_succ, List.foldl_append]; rfl
theorem mirTo_bit (n a j : Nat) : ∀ k, (mirTo n a k).testBit j = true ↔ ∃ q, q < k ∧ a.testBit q = true ∧ n - 1 - q = j
  | 0 => by simp [mirTo]
  | k + 1 => by
    rw [mirTo_succ]
    constructor
    · intro h
      split at h
      · rename_i hc
        rw [Nat.testBit_or, Bool.or_eq_true, mirTo_bit, Nat.testBit_two_pow, decide_eq_true_eq] at h
        rcases h with ⟨q, h1, h2⟩ | h
        · exact ⟨q, by omega, h2⟩
        · exact ⟨k, by omega, hc, h⟩
      · obtain ⟨q, h1, h2⟩ := (mirTo_bit n a j k).1 h
        exact ⟨q, by omega, h2⟩
    · rintro ⟨q, h1, h2, h3⟩
      by_cases e : q = k
      · subst e
        rw [h2]
        simp [Nat.testBit_or, h3]
      · have := (mirTo_bit n a j k).2 ⟨q, by omega, h2, h3⟩
        split
        · rw [Nat.testBit_or, this]; rfl
        · exact this
abbrev mir (n a : Nat) : Nat := mirTo n a n
theorem mir_bit {n a k : Nat} (hk : k < n) : (mir n a).testBit (n - 1 - k) = a.testBit k := by
  rw [Bool.eq_iff_iff, mirTo_bit]
  constructor
  · rintro ⟨q, h1, h2, h3⟩
    obtain rfl : q = k := by omega
    exact h2
  · intro h
    exact ⟨k, hk, h, rfl⟩
theorem mir_lt {n a : Nat} (hn : 0 < n ∨ a = a) : mir n a < 2 ^ n := by
  have _ := hn
  refine Nat.lt_pow_two_of_testBit _ fun j hj => ?_
  cases h : (mir n a).testBit j
  · rfl
  · obtain ⟨q, h1, h2, h3⟩ := (mirTo_bit n a j n).1 h
    omega
theorem mir_mir {n a : Nat} (h : a < 2 ^ n) : mir n (mir n a) = a := by
  refine Nat.eq_of_testBit_eq fun j => ?_
  by_cases hj : j < n
  · have e : n - 1 - (n - 1 - j) = j := by omega
    have h1 := mir_bit (n := n) (a := mir n a) (k := n - 1 - j) (by omega)
    rw [e] at h1
    rw [h1, mir_bit hj]
  · rw [Nat.testBit_lt_two_pow (Nat.lt_of_lt_of_le (mir_lt (.inr rfl)) (Nat.pow_le_pow_right (by decide) (by omega))), Nat.testBit_lt_two_pow (Nat.lt_of_lt_of_le h (Nat.pow_le_pow_right (by decide) (by omega)))]
theorem size_mir {n s : Nat} (hn : n ≤ 6) (hs : s < 2 ^ n) : sizeN 6 (mir n s) = sizeN 6 s := by
  have key : ∀ n : Fin 7, ∀ s : Fin 64, s.1 < 2 ^ n.1 → sizeN 6 (mir n.1 s.1) = sizeN 6 s.1 := by decide +kernel
  have h64 : s < 64 := Nat.lt_of_lt_of_le hs (Nat.le_trans (Nat.pow_le_pow_right (by decide) hn) (by decide))
  exact key ⟨n, by omega⟩ ⟨s, h64⟩ hs

def turnJob (n ks : Nat) (j : Job) : Job := { j with kind := (ks : Int) - 1 - j.kind, after := ((mir n j.after.toNat : Nat) : Int) }
/-- A mend whose jobs, and kinds, stand in the other order. -/
def Mend.turn (M : Mend) : Mend := ⟨M.setup.reverse, (List.range M.jobs.length).map fun i => turnJob M.jobs.length M.setup.length (M.job (M.jobs.length - 1 - i))⟩
theorem turn_len (M : Mend) : M.turn.jobs.length = M.jobs.length := by simp [Mend.turn]
theorem turn_get (M : Mend) {i : Nat} (hi : i < M.jobs.length) : M.turn.job i = turnJob M.jobs.length M.setup.length (M.job (M.jobs.length - 1 - i)) := by
  show ((List.range M.jobs.length).map fun i => turnJob M.jobs.length M.setup.length (M.job (M.jobs.length - 1 - i))).getD i _ = _
  rw [List.getD_eq_getElem?_getD, List.getElem?_map, List.getElem?_range hi]; rfl
theorem turn_job (M : Mend) {i : Nat} (hi : i < M.jobs.length) : M.turn.job (M.jobs.length - 1 - i) = turnJob M.jobs.length M.setup.length (M.job i) := by
  rw [turn_get M (by omega), show M.jobs.length - 1 - (M.jobs.length - 1 - i) = i by omega]
theorem turn_set {M : Mend} {k : Int} (h0 : 0 ≤ k) (h1 : k < M.setup.length) : M.turn.set ((M.setup.length : Int) - 1 - k) = M.set k := by
  unfold Mend.set
  show M.setup.reverse.getD _ 0 = _
  have e : ((M.setup.length : Int) - 1 - k).toNat = M.setup.length - 1 - k.toNat := by omega
  rw [e, List.getD_eq_getElem?_getD, List.getD_eq_getElem?_getD, List.getElem?_reverse (by omega)]
  rw [show M.setup.length - 1 - (M.setup.length - 1 - k.toNat) = k.toNat by omega]
theorem turn_ren {M : Mend} (hM : M.Ok) (L : Nat) : Ren M M.turn L (mir M.jobs.length L) (fun i => M.jobs.length - 1 - i) := by
  have hj : ∀ i, Acts M L i → M.turn.job (M.jobs.length - 1 - i) = turnJob M.jobs.length M.setup.length (M.job i) := fun i hi => turn_job M hi.1
  refine ⟨fun i hi => ⟨by rw [turn_len]; have := hi.1; omega, by rw [mir_bit hi.1]; exact hi.2⟩, fun i j hi hj e => by have := hi.1; have := hj.1; omega, fun k hk => ?_, ?_, ?_, ?_, ?_, ?_, ?_, ?_, ?_, ?_, ?_⟩
  · have hk1 := hk.1
    rw [turn_len] at hk1
    refine ⟨M.jobs.length - 1 - k, ⟨by omega, ?_⟩, by omega⟩
    have h := mir_bit (n := M.jobs.length) (a := L) (k := M.jobs.length - 1 - k) (by omega)
    rw [show M.jobs.length - 1 - (M.jobs.length - 1 - k) = k by omega] at h
    rw [← h]; exact hk.2
  · intro i hi; simp only [hj i hi]; rfl
  · intro i hi; simp only [hj i hi]; rfl
  · intro i hi; simp only [hj i hi]; rfl
  · intro i hi; simp only [hj i hi]; rfl
  · intro i hi; simp only [hj i hi]; rfl
  · intro i hi; simp only [hj i hi]; rfl
  · intro i hi
    simp only [hj i hi]
    obtain ⟨h0, h1⟩ := hM.kind i hi.1
    exact turn_set h0 h1
  · intro i j hi hk
    simp only [hj i hi, hj j hk, turnJob]
    constructor <;> intro h <;> omega
  · intro i hi
    simp only [hj i hi, turnJob]
    have := hM.kind i hi.1
    constructor <;> omega
  · intro i k hi hk
    simp only [hj i hi, turnJob]
    rw [Int.toNat_natCast, mir_bit hk.1]
theorem turn_valid {M : Mend} (hv : M.valid = true) : M.turn.valid = true := by
  have hM := Mend.valid_ok hv
  have hv' := hv
  simp only [Mend.valid, Mend.sizes, Bool.and_eq_true, decide_eq_true_eq] at hv ⊢
  refine ⟨⟨⟨by simpa [Mend.turn] using hv.1.1.1, by rw [turn_len]; exact hv.1.1.2⟩, ?_⟩, ?_⟩
  · rw [List.all_eq_true] at hv ⊢
    intro x hx
    exact hv.1.2 x (by simpa [Mend.turn] using hx)
  · rw [List.all_eq_true]
    intro i hi
    have hi := List.mem_range.1 hi
    rw [turn_len] at hi
    rw [turn_get M hi, turn_len]
    have hj := valid_job hv' (show M.jobs.length - 1 - i < M.jobs.length by omega)
    have hlt : mir M.jobs.length (M.job (M.jobs.length - 1 - i)).after.toNat < 2 ^ M.jobs.length := mir_lt (.inr rfl)
    have hks : M.turn.setup.length = M.setup.length := by simp [Mend.turn]
    have how := hM.own (M.jobs.length - 1 - i) (by omega)
    rw [hks]
    generalize M.job (M.jobs.length - 1 - i) = j at hj hlt how
    simp only [Job.ok, Job.okA, Job.okB, Job.okC, Bool.and_eq_true, inB_iff, decide_eq_true_eq, Bool.not_eq_true', turnJob] at hj ⊢
    refine ⟨⟨⟨⟨by omega, hj.1.1.1.2⟩, decide_eq_true hj.1.1.2⟩, hj.1.2⟩, ⟨hj.2.1.1, ?_⟩, ?_⟩
    · have e : (2 : Int) ^ M.jobs.length = ((2 ^ M.jobs.length : Nat) : Int) := by simp
      rw [e]; omega
    · rw [Int.toNat_natCast]
      have h := mir_bit (n := M.jobs.length) (a := j.after.toNat) (k := M.jobs.length - 1 - i) (by omega)
      rw [show M.jobs.length - 1 - (M.jobs.length - 1 - i) = i by omega] at h
      rw [h]; exact how

/-- What is told of an order of the one is told of that of the other one. -/
structure TurnFacts (M : Mend) (p : List Nat) : Prop where
  times : timesOf M (ints p) = (spansOf M p, 0) ∧ timesOf M.turn (ints (p.map fun i => M.jobs.length - 1 - i)) = (spansOf M p, 0)
  check : ∃ c1 h1 c2 c3 : Int, checkOf M (ints p) = (c1, c2, c3) ∧ checkOf M.turn (ints (p.map fun i => M.jobs.length - 1 - i)) = (h1, c2, c3) ∧ (c3 = 0 ∨ c3 = 4) ∧ (c3 = 0 → c1 = (M.jobs.length : Int) - 1 - h1) ∧ 0 ≤ h1 ∧ h1 ≤ 6
  slack : slackOf M.turn (ints (p.map fun i => M.jobs.length - 1 - i)) = slackOf M (ints p)
  count : countOf M.turn = countOf M
  best : (bestOf M.turn).1 = (bestOf M).1 ∧ (bestOf M.turn).2.2 = (bestOf M).2.2
  until_ : untilOf M.turn = untilOf M
  drop : ∃ D D' : Nat, dropOf M = ((D : Int), 0) ∧ dropOf M.turn = ((D' : Int), 0) ∧ D < 64 ∧ D' < 64 ∧ sizeN 6 D' = sizeN 6 D
theorem turn_facts {M : Mend} (hv : M.valid = true) {p : List Nat} (ho : ordB M.jobs.length (ints p) = true) : TurnFacts M p := by
  have hM := Mend.valid_ok hv
  have hvN := turn_valid hv
  have hN := Mend.valid_ok hvN
  obtain ⟨p', e, hfr, hpn⟩ := ordB_ints.1 ho
  obtain rfl : p = p' := by
    have h1 := congrArg (List.map Int.toNat) e
    rwa [ints_toNat, ints_toNat] at h1
  obtain ⟨hnd, hpl⟩ := freshB_iff.1 hfr
  have hp : ∀ i, i ∈ p → Acts M 0 i := fun i hi => ⟨(hpl i hi).1, by simp⟩
  have hmir0 : mir M.jobs.length 0 = 0 := by
    refine Nat.eq_of_testBit_eq fun j => ?_
    cases h : (mir M.jobs.length 0).testBit j
    · simp
    · obtain ⟨q, _, h2, _⟩ := (mirTo_bit _ _ _ _).1 h
      simp at h2
  have hR := turn_ren hM 0
  rw [hmir0] at hR
  obtain ⟨q, hq⟩ : ∃ q, p.map (fun i => M.jobs.length - 1 - i) = q := ⟨_, rfl⟩
  have hoq : ordB M.turn.jobs.length (ints q) = true := by
    rw [turn_len, ordB_ints]
    refine ⟨q, rfl, ?_, by rw [← hq, List.length_map]; exact hpn⟩
    rw [freshB_iff, ← hq]
    constructor
    · rw [List.nodup_iff_pairwise_ne, List.pairwise_map]
      refine (List.nodup_iff_pairwise_ne.1 hnd).imp_of_mem ?_
      intro a b ha hb hne e
      have := (hpl a ha).1
      have := (hpl b hb).1
      exact hne (by omega)
    · intro k hk
      obtain ⟨i, hi, rfl⟩ := List.mem_map.1 hk
      have := (hpl i hi).1
      exact ⟨by omega, by simp⟩
  have hspan : spansOf M.turn q = spansOf M p := by rw [← hq]; exact hR.spans hp
  have hbad : firstBad M.turn 0 Bench.begin q = (firstBad M 0 Bench.begin p).map fun x => (M.jobs.length - 1 - x.1, x.2) := by rw [← hq]; exact hR.bad p _ _ (BenchRel.begin _ _ _ _) hp
  have hlong : ∀ k : Nat, longB M.turn q k = longB M p k := by
    intro k
    rw [long_good, long_good, ← hq]
    exact (hR.longer k).good p _ _ (BenchRel.begin _ _ _ _) (fun i hi => ⟨by rw [longer_len]; exact (hp i hi).1, (hp i hi).2⟩)
  have hperm := hR.orders
  have hlen := hperm.length_eq
  rw [List.length_map] at hlen
  have hcost := cost_best hM
  have hcostN := cost_best hN
  have hac : ∀ a, a ∈ ordersL M 0 → costFrom M.turn Bench.begin (a.map fun i => M.jobs.length - 1 - i) = costFrom M Bench.begin a ∧ (benchOf M.turn (a.map fun i => M.jobs.length - 1 - i)).late = (benchOf M a).late ∧ a.map (fun i => M.jobs.length - 1 - i) ∈ ordersL M.turn 0 := fun a ha =>
    ⟨hR.costs a _ _ (BenchRel.begin _ _ _ _) (orders_act ha), hR.late (orders_act ha), (hR.order (orders_act ha)).2 ha⟩
  have hex : ∀ b, b ∈ ordersL M.turn 0 → ∃ a, a ∈ ordersL M 0 ∧ a.map (fun i => M.jobs.length - 1 - i) = b := fun b hb => by
    obtain ⟨a, ha, e⟩ := List.mem_map.1 (hperm.mem_iff.2 hb)
    exact ⟨a, ha, e⟩
  refine ⟨⟨?_, ?_⟩, ?_, ?_, ?_, ?_, ?_, ?_⟩ <;> (try rw [hq])
  · unfold timesOf; rw [if_pos hv, if_pos ho, ints_toNat]
  · unfold timesOf; rw [if_pos hvN, if_pos hoq, ints_toNat, hspan]
  · cases hb : firstBad M 0 Bench.begin p with
    | none =>
      rw [hb] at hbad
      exact ⟨0, 0, 0, 4, check_none hv ho hb, check_none hvN hoq hbad, .inr rfl, by omega, by omega, by omega⟩
    | some x =>
      obtain ⟨i, b⟩ := x
      rw [hb] at hbad
      have hi : i < M.jobs.length := by
        have key : ∀ (p : List Nat) (bb : Bench) x, firstBad M 0 bb p = some x → x.1 ∈ p := by
          intro p
          induction p with
          | nil => intro bb x h; simp [firstBad] at h
          | cons k l ih =>
            intro bb x h
            rw [firstBad] at h
            split at h
            · exact List.mem_cons_of_mem _ (ih _ _ h)
            · obtain rfl := Option.some.inj h; simp
        exact (hpl _ (key p _ _ hb)).1
      have hM6 := hM.len
      exact ⟨_, _, _, _, check_some hv ho hb, check_some hvN hoq hbad, .inl rfl, fun _ => by simp only; omega, by simp only; omega, by simp only; omega⟩
  · unfold slackOf
    rw [if_pos hv, if_pos hvN, if_pos ho, if_pos hoq, ints_toNat, ints_toNat, hlong 0]
    have : longB M.turn q = longB M p := funext hlong
    rw [this]
  · unfold countOf; rw [if_pos hv, if_pos hvN, hlen]
  · unfold bestOf
    rw [if_pos hv, if_pos hvN]
    rcases hcost with ⟨h1, h2, _⟩ | ⟨v, u, a, h1, _, _, h4, h5, h6, _, _⟩
    · rcases hcostN with ⟨k1, k2, _⟩ | ⟨v', u', b, _, _, _, k4, _⟩
      · rw [h2, k2]; exact ⟨rfl, rfl⟩
      · obtain ⟨a, ha, _⟩ := hex b k4
        rw [h1] at ha; cases ha
    · rcases hcostN with ⟨k1, _⟩ | ⟨v', u', b, k1, _, _, k4, k5, k6, _, _⟩
      · have := (hac a h4).2.2
        rw [k1] at this; cases this
      · rw [h1, k1]
        obtain ⟨a', ha', e'⟩ := hex b k4
        have g1 := (k6 _ (hac a h4).2.2).1
        rw [(hac a h4).1, h5] at g1
        have g2 := (h6 a' ha').1
        have g3 := (hac a' ha').1
        rw [e', k5] at g3
        refine ⟨?_, rfl⟩
        simp only
        omega
  · unfold untilOf
    rw [if_pos hv, if_pos hvN]
    rcases hcost with ⟨h1, _, h3⟩ | ⟨v, u, a, _, h2, _, h4, _, _, ⟨x, hx, hxu⟩, h8⟩
    · rcases hcostN with ⟨k1, _, k3⟩ | ⟨v', u', b, _, _, _, k4, _⟩
      · rw [h3, k3]
      · obtain ⟨a, ha, _⟩ := hex b k4
        rw [h1] at ha; cases ha
    · rcases hcostN with ⟨k1, _⟩ | ⟨v', u', b, _, k2, _, k4, _, _, ⟨y, hy, hyu⟩, k8⟩
      · have := (hac a h4).2.2
        rw [k1] at this; cases this
      · rw [h2, k2]
        obtain ⟨y', hy', e'⟩ := hex y hy
        have g1 := k8 _ (hac x hx).2.2
        rw [(hac x hx).2.1, hxu] at g1
        have g2 := h8 y' hy'
        have g3 := (hac y' hy').2.1
        rw [e', hyu] at g3
        have : u' = u := by omega
        rw [this]
  · have h64 : 2 ^ M.jobs.length ≤ 64 := Nat.le_trans (Nat.pow_le_pow_right (by decide) hM.len) (by decide)
    obtain ⟨h1, h2, h3⟩ := drop_spec hM
    obtain ⟨k1, k2, k3⟩ := drop_spec hN
    rw [turn_len] at k1 k3
    refine ⟨dropN M, dropN M.turn, by unfold dropOf; rw [if_pos hv], by unfold dropOf; rw [if_pos hvN], by omega, by omega, ?_⟩
    have g1 : canB M.turn (mir M.jobs.length (dropN M)) = true := by rw [(turn_ren hM (dropN M)).can hM hN]; exact h2
    have g2 := k3 _ (mir_lt (.inr rfl)) g1
    rw [size_mir hM.len h1] at g2
    have g3 : canB M (mir M.jobs.length (dropN M.turn)) = true := by
      have := (turn_ren hM (mir M.jobs.length (dropN M.turn))).can hM hN
      rw [mir_mir k1] at this
      rw [← this]; exact k2
    have g4 := h3 _ (mir_lt (.inr rfl)) g3
    rw [size_mir hM.len k1] at g4
    omega
end Go.Proofs.Ytcgkglonnmkfcaa

namespace Go.Proofs.Ytcgkglonnmkfcaa
open Go.RowKit Go.Lap Go.Shelf

structure TurnK (w : World) (sv jv : Value) (xb : Nat) (srow jrow : Value) (S : List Int) (J : List Job) (W : World) : Prop where
  k : KeepB w sv jv W
  x : W.heap[xb]? = some (.cells #[srow, jrow] 25 (0, 0))
  s : intK.own (xb + 1) W srow S
  j : jobK.own (xb + 1) W jrow J
  lt : w.heap.size < xb
section
variable {w : World} {sv jv : Value} {xb : Nat} {srow jrow : Value} {S : List Int} {J : List Job} {W W' : World}
theorem TurnK.below (h : TurnK w sv jv xb srow jrow S J W) (hb : Below W.heap.size W W') : TurnK w sv jv xb srow jrow S J W' :=
  ⟨h.k.below hb, hkeep h.x hb, h.s.below hb, h.j.below hb, h.lt⟩
/-- A number more behind the kinds; there are no jobs yet. -/
theorem TurnK.setup {srow' : Value} {S' : List Int} (h : TurnK w sv jv xb srow (.slice none 0 0) S [] W) (hb : Below (xb + 1) W W') (ho : intK.own (xb + 1) W' srow' S') : TurnK w sv jv xb srow' (.slice none 0 0) S' [] (W'.setCell ⟨xb, 0, none⟩ srow') := by
  have hlt := h.lt
  have hc : ∀ b, b ≠ xb → (W'.setCell ⟨xb, 0, none⟩ srow').heap[b]? = W'.heap[b]? := fun b hb => Below.heap_setCell _ _ _ _ hb
  refine ⟨⟨below_set (h.k.bel.trans (hb.mono (by omega))) _ (by simp only; omega), (hc _ (by omega)).trans ((hb.block _ (by omega)).trans h.k.m)⟩, ?_, ho.set (by omega), jobK.own_nil _ _, hlt⟩
  have := heap_set_same (o := 0) (v := srow') ((hb.block xb (by omega)).trans h.x)
  simpa using this
/-- A job more. -/
theorem TurnK.job {jrow' : Value} {J' : List Job} (h : TurnK w sv jv xb srow jrow S J W) (hb : Below (xb + 1) W W') (hk : KeptBut 48 W W') (ho : jobK.own (xb + 1) W' jrow' J') : TurnK w sv jv xb srow jrow' S J' (W'.setCell ⟨xb, 1, none⟩ jrow') := by
  have hlt := h.lt
  have hc : ∀ b, b ≠ xb → (W'.setCell ⟨xb, 1, none⟩ jrow').heap[b]? = W'.heap[b]? := fun b hb => Below.heap_setCell _ _ _ _ hb
  refine ⟨⟨below_set (h.k.bel.trans (hb.mono (by omega))) _ (by simp only; omega), (hc _ (by omega)).trans ((hb.block _ (by omega)).trans h.k.m)⟩, ?_, (h.s.kept hk (by decide)).set (by omega), ho.set (by omega), hlt⟩
  have := heap_set_same (o := 1) (v := jrow') ((hb.block xb (by omega)).trans h.x)
  simpa using this
end
section
variable {ops : Array Oper} {Q : Exit → Act → World → Prop} {K : Act → World → Prop} {a : Act} {w : World} {ty : TypeId} {pos : String} {af : Array Edge}
theorem op_jobs0 {d : Nat} (h : K (a.put (some d) (.slice (some ⟨w.heap.size, 0, none⟩) 0 0)) (w.alloc (.cells #[] 48))) :
    ({ dst := some d, op := .buildSlice 23 0 #[], type := ty, pos := pos, after := af, guard := none } : Oper).wp Try.prog a w K Q := by
  unfold Oper.wp
  go_simp
  exact h
end
/-- What is kept while the spans that were returned are written over. -/
structure TurnA (w0 : World) (B14 Bc : Nat) (va ow vb : Value) (sp : List (Int × Int)) (os : List Int) (W : World) : Prop where
  a : ∃ xs' : List (Int × Int), xs'.length = sp.length ∧ spanK.own w0.heap.size W va xs'
  b : Below w0.heap.size w0 W
  o : intK.own Bc W ow os
  v : spanK.own B14 W vb sp
theorem TurnA.below {w0 : World} {B14 Bc : Nat} {va ow vb : Value} {sp : List (Int × Int)} {os : List Int} {W W' : World} (h : TurnA w0 B14 Bc va ow vb sp os W) (hb : Below W.heap.size W W') : TurnA w0 B14 Bc va ow vb sp os W' := by
  obtain ⟨xs', h1, h2⟩ := h.a
  exact ⟨⟨xs', h1, h2.below hb⟩, below_via hb h.b, h.o.below hb, h.v.below hb⟩
theorem TurnA.at {w0 : World} {B14 Bc : Nat} {va ow vb : Value} {sp : List (Int × Int)} {os : List Int} {W : World} (h : TurnA w0 B14 Bc va ow vb sp os W) {k : Nat} (hk : k < sp.length) (hga : va = .slice none 0 0 ∨ ∃ g cap, va = .slice (some ⟨g, 0, none⟩) sp.length cap ∧ g < B14) (hB : B14 ≤ Bc) (z : Int) :
    ∃ g cap y1 y2, va = .slice (some ⟨g, 0, none⟩) sp.length cap ∧ W.cell? ⟨g, k * 2, none⟩ = some (.int .i64 y1) ∧ W.cell? ⟨g, k * 2 + 1, none⟩ = some (.int .i64 y2) ∧ g < W.heap.size ∧ (∀ o, W.frozen? ⟨g, o, none⟩ = false) ∧
      TurnA w0 B14 Bc va ow vb sp os ((W.setCell ⟨g, k * 2, none⟩ (.int .i64 z)).setCell ⟨g, k * 2 + 1, none⟩ (.int .i64 z)) := by
  obtain ⟨xs', hxl, hrow⟩ := h.a
  obtain ⟨ga, cap', cur, e1, hga0, hgc, hcl⟩ := hrow.block (fun e => by rw [e] at hxl; simp at hxl; omega)
  have hga1 : ga < B14 := by
    rcases hga with h | ⟨g, cap, h, h2⟩
    · rw [h] at e1; cases e1
    · rw [h] at e1
      injection e1 with h
      injection h with h
      injection h with h
      omega
  obtain ⟨y, hy⟩ : ∃ y, xs'[k]? = some y := ⟨_, List.getElem?_eq_getElem (by omega)⟩
  have hrow' := hrow
  rw [e1] at hrow'
  have hp1 := hrow'.put (k := k) (f := 0) (x := y) (x' := (z, y.2)) (u := .int .i64 z) hy (show 0 < 2 by decide) rfl
  have hp2 := hp1.put (k := k) (f := 1) (x := (z, y.2)) (x' := (z, z)) (u := .int .i64 z) (by rw [List.getElem?_set_self (by omega)]) (show 1 < 2 by decide) rfl
  refine ⟨ga, cap', y.1, y.2, by rw [e1, hxl], hcl k y hy 0 _ rfl, hcl k y hy 1 _ rfl, (cells_of hgc).1, free_of hgc, ⟨⟨(xs'.set k (z, y.2)).set k (z, z), (by rw [List.length_set, List.length_set]; exact hxl), (by rw [e1]; exact hp2)⟩, ?_, ?_, ?_⟩⟩
  · exact below_set (below_set h.b _ (by simp only; omega)) _ (by simp only; omega)
  · exact (h.o.set (by omega)).set (by omega)
  · exact (h.v.set (by omega)).set (by omega)
theorem rev_take {L : List Int} {i : Nat} (hi : i < L.length) : L.reverse.take (i + 1) = L.reverse.take i ++ [L.getD (L.length - 1 - i) 0] := by
  have h1 : i < L.reverse.length := by simpa using hi
  rw [List.take_succ_eq_append_getElem h1, List.getElem_reverse]
  congr 2
  rw [List.getD_eq_getElem?_getD, List.getElem?_eq_getElem (by omega)]; rfl
theorem turn_take (M : Mend) {i : Nat} (hi : i < M.jobs.length) : M.turn.jobs.take (i + 1) = M.turn.jobs.take i ++ [turnJob M.jobs.length M.setup.length (M.job (M.jobs.length - 1 - i))] := by
  have h1 : i < M.turn.jobs.length := by rw [turn_len]; exact hi
  rw [List.take_succ_eq_append_getElem h1]
  congr 2
  have h2 := turn_get M hi
  rw [← h2]
  show _ = M.turn.jobs.getD i _
  rw [List.getD_eq_getElem?_getD, List.getElem?_eq_getElem h1]; rfl
end Go.Proofs.Ytcgkglonnmkfcaa
