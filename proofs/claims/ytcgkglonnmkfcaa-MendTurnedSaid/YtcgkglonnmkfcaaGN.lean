/- The walk of 'next' of package mend. The walks of the rules of package mend. The walk of 'broken' and 'begin' of package mend. -/
import Derived.Test.YtcgkglonnmkfcaaC
import Derived.Test.YtcgkglonnmkfcaaGK
import Derived.Deep.DeepCutAuto
import Derived.Test.YtcgkglonnmkfcaaAt
import Derived.Test.YtcgkglonnmkfcaaGP
namespace Go.Proofs.Ytcgkglonnmkfcaa
open Go.RowKit Go.Lap

abbrev workV (b : Bench) (soon last : Int) : Value := .agg #[.int .u64 b.done, .int .i64 b.kind, .int .i64 b.late, .int .i64 soon, .int .i64 last]

/-- A shop lies in a block. -/
structure ShopAt (w : World) (sb : Nat) (M : Mend) (left : Nat) : Prop where
  ex : ∃ sv jv, w.heap[sb]? = some (.cells #[sv, jv, .int .u64 left] 103 (0, 0)) ∧ IntsAt w sv M.setup ∧ JobsAt w jv M.jobs

theorem both_at0 (a b : Int) (w : World) : (Instr.index 123 (.agg #[.int .i64 a, .int .i64 b]) (.int .i64 0)).run Try.prog w = .ok (.int .i64 a) w := by kernel_rfl
theorem both_at1 (a b : Int) (w : World) : (Instr.index 123 (.agg #[.int .i64 a, .int .i64 b]) (.int .i64 1)).run Try.prog w = .ok (.int .i64 b) w := by kernel_rfl

/-- What lies in memory while 'next' runs. -/
structure KeepN (w : World) (b : Bench) (soon last : Int) (j : Job) (p q : Int) (W : World) : Prop where
  bel : Below w.heap.size w W
  x : W.heap[w.heap.size]? = some (.cells #[.int .u64 b.done, .int .i64 b.kind, .int .i64 b.late, .int .i64 soon, .int .i64 last] 74 (0, 0))
  y : W.heap[w.heap.size + 1]? = some (.cells #[.int .u64 0, .int .i64 0, .int .i64 0, .int .i64 0, .int .i64 0] 74 (0, 0))
  j : W.heap[w.heap.size + 1 + 1]? = some (.cells #[.int .i64 j.kind, .int .i64 j.lo, .int .i64 j.hi, .int .i64 j.from_, .int .i64 j.soft, .int .i64 j.by_, .int .i64 j.cost, .int .i64 j.after] 48 (0, 0))
  e : W.heap[w.heap.size + 1 + 1 + 1]? = some (.cells #[.int .i64 p, .int .i64 q] 123 (0, 0))
theorem KeepN.start (w : World) (b : Bench) (soon last : Int) (j : Job) : KeepN w b soon last j soon b.late ((((w.alloc (.cells #[.int .u64 b.done, .int .i64 b.kind, .int .i64 b.late, .int .i64 soon, .int .i64 last] 74)).alloc (.cells #[.int .u64 0, .int .i64 0, .int .i64 0, .int .i64 0, .int .i64 0] 74)).alloc (.cells #[.int .i64 j.kind, .int .i64 j.lo, .int .i64 j.hi, .int .i64 j.from_, .int .i64 j.soft, .int .i64 j.by_, .int .i64 j.cost, .int .i64 j.after] 48)).alloc (.cells #[.int .i64 soon, .int .i64 b.late] 123)) :=
  ⟨below_alloc (below_alloc (below_alloc (below_alloc (Below.refl _ _) _) _) _) _, alloc_old (by simp <;> omega) (alloc_old (by simp <;> omega) (alloc_old (by simp) (alloc_at rfl))), alloc_old (by simp <;> omega) (alloc_old (by simp) (alloc_at (by simp))), alloc_old (by simp) (alloc_at (by simp)), alloc_at (by simp)⟩

theorem heap_set_same {W : World} {b o : Nat} {c : Array Value} {t : TypeId} {v : Value} (h : W.heap[b]? = some (.cells c t (0, 0))) : (W.setCell ⟨b, o, none⟩ v).heap[b]? = some (.cells (c.setIfInBounds o v) t (0, 0)) := by
  simp [World.setCell, Array.getElem?_modify, h]

theorem KeepN.set0 {w : World} {b : Bench} {soon last : Int} {j : Job} {p q : Int} {W : World} (h : KeepN w b soon last j p q W) {v u : Int} (e : u = v) : KeepN w b soon last j v q (W.setCell ⟨w.heap.size + 1 + 1 + 1, 0, none⟩ (.int .i64 u)).drew := by
  subst e
  exact ⟨(below_set h.bel _ (by simp only; omega)).drew, (Below.heap_setCell _ _ _ _ (by simp only; omega)).trans h.x, (Below.heap_setCell _ _ _ _ (by simp only; omega)).trans h.y, (Below.heap_setCell _ _ _ _ (by simp only; omega)).trans h.j, heap_set_same h.e⟩
theorem KeepN.set1 {w : World} {b : Bench} {soon last : Int} {j : Job} {p q : Int} {W : World} (h : KeepN w b soon last j p q W) {v u : Int} (e : u = v) : KeepN w b soon last j p v (W.setCell ⟨w.heap.size + 1 + 1 + 1, 1, none⟩ (.int .i64 u)).drew := by
  subst e
  exact ⟨(below_set h.bel _ (by simp only; omega)).drew, (Below.heap_setCell _ _ _ _ (by simp only; omega)).trans h.x, (Below.heap_setCell _ _ _ _ (by simp only; omega)).trans h.y, (Below.heap_setCell _ _ _ _ (by simp only; omega)).trans h.j, heap_set_same h.e⟩
theorem ends_same {M : Mend} {kind now : Int} {j : Job} {n : Int} (h : kind = j.kind) (hn : 0 ≤ now ∧ now ≤ 1000000) (hf : 0 ≤ j.from_ ∧ j.from_ ≤ 1000) (hm : 0 ≤ n ∧ n ≤ 1000) : wrap64 ((if now < j.from_ then j.from_ else now) + n) = M.ends kind now j n := by
  rw [IntWalk.wrap64_in _ (by split <;> omega), Mend.ends, if_pos h]
  split <;> omega

theorem add_in {a b : Int} (ha : 0 ≤ a ∧ a ≤ 1000000) (hb : 0 ≤ b ∧ b ≤ 1000) : wrap64 (a + b) = a + b := IntWalk.wrap64_in _ (by omega)
theorem ends_other {M : Mend} {kind now s : Int} {j : Job} {n : Int} (h : ¬ kind = j.kind) (hn : 0 ≤ now ∧ now ≤ 1000000) (hf : 0 ≤ j.from_ ∧ j.from_ ≤ 1000) (hm : 0 ≤ n ∧ n ≤ 1000) (hs : 0 ≤ s ∧ s ≤ 1000) (he : M.set j.kind = s) : wrap64 ((if now + s < j.from_ then j.from_ else now + s) + n) = M.ends kind now j n := by
  rw [IntWalk.wrap64_in _ (by split <;> omega), Mend.ends, if_neg h, he]
  split <;> omega

set_option maxRecDepth 100000 in
set_option maxHeartbeats 4000000 in
theorem next_any (M : Mend) (left : Nat) (sb : Nat) (b : Bench) (soon last : Int) (i : Nat) (hi : i < M.jobs.length) (hn : M.jobs.length ≤ 6) (hdn : b.done < 18446744073709551616) (w : World) (hs : ShopAt w sb M left) (hk0 : 0 ≤ (M.job i).kind) (hk1 : (M.job i).kind < M.setup.length) (hset : ∀ x, x ∈ M.setup → 0 ≤ x ∧ x ≤ 1000) (hf : 0 ≤ (M.job i).from_ ∧ (M.job i).from_ ≤ 1000) (hlo : 0 ≤ (M.job i).lo ∧ (M.job i).lo ≤ 1000) (hhi : 0 ≤ (M.job i).hi ∧ (M.job i).hi ≤ 1000) (hb0 : 0 ≤ b.late ∧ b.late ≤ 1000000) (hs0 : 0 ≤ soon ∧ soon ≤ 1000000) :
    Calls Try.prog 78 #[.pointer (some ⟨sb, 0, none⟩), workV b soon last, .int .i64 i] w fun e w' => e = .returned (workV (M.next b i) (M.ends b.kind soon (M.job i) (M.job i).lo) i) ∧ Below w.heap.size w w' := by
  obtain ⟨sv, jv, hsb, hsv, hjv⟩ := hs.ex
  obtain ⟨ls, cs⟩ := cells_of hsb
  obtain ⟨ja, jcap, rfl, hj⟩ := hjv
  obtain ⟨jb, jo, rfl, hjc⟩ := hj (fun h => by rw [h] at hi; simp at hi)
  have hc0 := hjc i hi 0 (by decide)
  have hc1 := hjc i hi 1 (by decide)
  have hc2 := hjc i hi 2 (by decide)
  have hc3 := hjc i hi 3 (by decide)
  have hc4 := hjc i hi 4 (by decide)
  have hc5 := hjc i hi 5 (by decide)
  have hc6 := hjc i hi 6 (by decide)
  have hc7 := hjc i hi 7 (by decide)
  obtain ⟨j, hjd⟩ : ∃ j, M.jobs.getD i Job.none = j := ⟨_, rfl⟩
  rw [hjd] at hc0 hc1 hc2 hc3 hc4 hc5 hc6 hc7
  simp only [Job.cells, List.getD_cons_zero, List.getD_cons_succ, Nat.add_zero] at hc0 hc1 hc2 hc3 hc4 hc5 hc6 hc7
  clear hjc hj
  have hjd2 : M.job i = j := hjd
  rw [hjd2] at hk0 hk1 hf hlo hhi
  have hf' := hid hf
  have hlo' := hid hlo
  have hhi' := hid hhi
  have hb0' := hid hb0
  have hs0' := hid hs0
  have hset' := hid hset
  have hjd' := hid hjd2
  clear hf hlo hhi hb0 hs0 hset hjd hjd2
  have ljb := cell_lt hc0
  obtain ⟨bs, os, caps, rfl, lbs, hsc⟩ := hsv.some (fun h => by rw [h] at hk1; simp at hk1; omega)
  have hsk := hsc j.kind.toNat (by omega)
  obtain ⟨sk, hsk3⟩ : ∃ k, M.setup.getD j.kind.toNat 0 = k := ⟨_, rfl⟩
  rw [hsk3] at hsk
  have hsk3' := hid hsk3
  have hsk4 : Hid (0 ≤ sk ∧ sk ≤ 1000) := hid (by
    rw [← hsk3]
    refine hset'.out _ ?_
    rw [List.getD_eq_getElem?_getD, List.getElem?_eq_getElem (by omega : j.kind.toNat < M.setup.length)]
    exact List.getElem_mem _)
  have hsk5 : Hid (M.set j.kind = sk) := hid hsk3
  clear hsk3 hsc
  have hi2 : (i : Int) < (M.jobs.length : Int) := by omega
  go_enter Try.func78, Try.ntmps78
  go_wp2
  have hk : KeepN w b soon last j soon b.late _ := KeepN.start w b soon last j
  go_loopw [9, 10, 32] (fun _ _ i wr => (i = .int .i64 0 ∧ KeepN w b soon last j soon b.late wr) ∨ (i = .int .i64 1 ∧ KeepN w b soon last j (M.ends b.kind soon j j.lo) b.late wr) ∨ (i = .int .i64 2 ∧ KeepN w b soon last j (M.ends b.kind soon j j.lo) (M.ends b.kind b.late j j.hi) wr)) (fun _ _ i _ => 2 - (intOf i).toNat)
  case atStart => exact .inl ⟨rfl, hk⟩
  case round =>
    rcases hrel with ⟨rfl, hk⟩ | ⟨rfl, hk⟩ | ⟨rfl, hk⟩
    · obtain ⟨hcW, hfW⟩ := bcell hk.bel
      obtain ⟨lx, cx⟩ := cells_of hk.x
      obtain ⟨lj, cj⟩ := cells_of hk.j
      obtain ⟨le, ce⟩ := cells_of hk.e
      have ze := free_of hk.e
      have ha0 := both_at0 j.lo j.hi
      by_cases hkd : b.kind = j.kind
      · have hkd' := hid hkd
        go_wp2
        go_region
        go_wp2
        go_roundw
        case rel =>
          exact .inr (.inl ⟨rfl, hk.set0 (ends_same hkd'.out hs0'.out hf'.out hlo'.out)⟩)
        case measure => simp [intOf]
      · have hkd' := hid hkd
        have hkd2 : (b.kind != j.kind) = true := by simpa using hkd
        clear hkd
        have hsk2 := (hcW bs (os + j.kind.toNat) lbs).trans hsk
        go_wp2
        go_region
        have hk2 := hk.set0 (v := soon + sk) (u := wrap64 (soon + sk)) (add_in hs0'.out hsk4.out)
        generalize hWx : (wr.setCell ⟨w.heap.size + 1 + 1 + 1, 0, none⟩ (.int .i64 (wrap64 (soon + sk)))).drew = wr2 at hk2 ⊢
        clear hWx ce ze cx cj hcW hfW
        obtain ⟨lj2, cj2⟩ := cells_of hk2.j
        obtain ⟨le2, ce2⟩ := cells_of hk2.e
        have ze2 := free_of hk2.e
        go_wp2
        go_region
        go_wp2
        go_roundw
        case rel =>
          exact .inr (.inl ⟨rfl, hk2.set0 (ends_other hkd'.out hs0'.out hf'.out hlo'.out hsk4.out hsk5.out)⟩)
        case measure => simp [intOf]
    · obtain ⟨hcW, hfW⟩ := bcell hk.bel
      obtain ⟨lx, cx⟩ := cells_of hk.x
      obtain ⟨lj, cj⟩ := cells_of hk.j
      obtain ⟨le, ce⟩ := cells_of hk.e
      have ze := free_of hk.e
      have ha1 := both_at1 j.lo j.hi
      by_cases hkd : b.kind = j.kind
      · have hkd' := hid hkd
        go_wp2
        go_region
        go_wp2
        go_roundw
        case rel =>
          exact .inr (.inr ⟨rfl, hk.set1 (ends_same hkd'.out hb0'.out hf'.out hhi'.out)⟩)
        case measure => simp [intOf]
      · have hkd' := hid hkd
        have hkd2 : (b.kind != j.kind) = true := by simpa using hkd
        clear hkd
        have hsk2 := (hcW bs (os + j.kind.toNat) lbs).trans hsk
        go_wp2
        go_region
        have hk2 := hk.set1 (v := b.late + sk) (u := wrap64 (b.late + sk)) (add_in hb0'.out hsk4.out)
        generalize hWx : (wr.setCell ⟨w.heap.size + 1 + 1 + 1, 1, none⟩ (.int .i64 (wrap64 (b.late + sk)))).drew = wr2 at hk2 ⊢
        clear hWx ce ze cx cj hcW hfW
        obtain ⟨lj2, cj2⟩ := cells_of hk2.j
        obtain ⟨le2, ce2⟩ := cells_of hk2.e
        have ze2 := free_of hk2.e
        go_wp2
        go_region
        go_wp2
        go_roundw
        case rel =>
          exact .inr (.inr ⟨rfl, hk2.set1 (ends_other hkd'.out hb0'.out hf'.out hhi'.out hsk4.out hsk5.out)⟩)
        case measure => simp [intOf]
    · obtain ⟨lx, cx⟩ := cells_of hk.x
      obtain ⟨ly, cy⟩ := cells_of hk.y
      obtain ⟨lj, cj⟩ := cells_of hk.j
      obtain ⟨le, ce⟩ := cells_of hk.e
      have zy := free_of hk.y
      have hor : bits .or .u64 (b.done : Int) (IntKind.u64.wrap (2 ^ i)) = ((b.done ||| 2 ^ i : Nat) : Int) := by
        have h2 := Nat.pow_le_pow_right (n := 2) (by decide) (show i ≤ 63 by omega)
        rw [← (bits_u b.done (2 ^ i) hdn (by omega)).2.1]
        congr 1
        rw [show (2 : Int) ^ i = ((2 ^ i : Nat) : Int) by simp, IntKind.wrap_u64]
        generalize 2 ^ i = t at h2 ⊢
        omega
      have hor' := hid hor
      clear hor
      go_wp2
      go_region
      rw [hor'.out]
      have hy := heap_set_same (o := 4) (v := .int .i64 i) (heap_set_same (o := 3) (v := .int .i64 (M.ends b.kind soon j j.lo)) (heap_set_same (o := 2) (v := .int .i64 (M.ends b.kind b.late j j.hi)) (heap_set_same (o := 1) (v := .int .i64 j.kind) (heap_set_same (o := 0) (v := .int .u64 ((b.done ||| 2 ^ i : Nat) : Int)) hk.y))))
      have hbl := (below_set (below_set (below_set (below_set (below_set hk.bel (.int .u64 ((b.done ||| 2 ^ i : Nat) : Int)) (p := ⟨w.heap.size + 1, 0, none⟩) (by simp)) (.int .i64 j.kind) (p := ⟨w.heap.size + 1, 1, none⟩) (by simp)) (.int .i64 (M.ends b.kind b.late j j.hi)) (p := ⟨w.heap.size + 1, 2, none⟩) (by simp)) (.int .i64 (M.ends b.kind soon j j.lo)) (p := ⟨w.heap.size + 1, 3, none⟩) (by simp)) (.int .i64 i) (p := ⟨w.heap.size + 1, 4, none⟩) (by simp)).drew
      generalize (((((wr.setCell ⟨w.heap.size + 1, 0, none⟩ (.int .u64 ((b.done ||| 2 ^ i : Nat) : Int))).setCell ⟨w.heap.size + 1, 1, none⟩ (.int .i64 j.kind)).setCell ⟨w.heap.size + 1, 2, none⟩ (.int .i64 (M.ends b.kind b.late j j.hi))).setCell ⟨w.heap.size + 1, 3, none⟩ (.int .i64 (M.ends b.kind soon j j.lo))).setCell ⟨w.heap.size + 1, 4, none⟩ (.int .i64 i)) = wz at hy hbl ⊢
      obtain ⟨l9, c9⟩ := cells_of hy
      have c90 := c9 0
      have c91 := c9 1
      have c92 := c9 2
      have c93 := c9 3
      have c94 := c9 4
      go_wp2
      refine bodyPost_ret (v := .agg #[.int .u64 ((b.done ||| 2 ^ i : Nat) : Int), .int .i64 j.kind, .int .i64 (M.ends b.kind b.late j j.hi), .int .i64 (M.ends b.kind soon j j.lo), .int .i64 i]) (by simp [results, Try.results78, go_sem, c90, c91, c92, c93, c94]) rfl ⟨?_, hbl⟩
      rw [Mend.next, hjd'.out]

end Go.Proofs.Ytcgkglonnmkfcaa

namespace Go.Proofs.Ytcgkglonnmkfcaa
open Go.RowKit Go.Lap

/-- The job that a shop's work names, in memory. -/
theorem ShopAt.open {w : World} {sb : Nat} {M : Mend} {left : Nat} (h : ShopAt w sb M left) {i : Nat} (hi : i < M.jobs.length) : ∃ sv jb jo jcap, w.heap[sb]? = some (.cells #[sv, .slice (some ⟨jb, jo, none⟩) M.jobs.length jcap, .int .u64 left] 103 (0, 0)) ∧
    ∀ f, f < 8 → w.cell? ⟨jb, jo + i * 8 + f, none⟩ = some (.int .i64 ((M.job i).cells.getD f 0)) := by
  obtain ⟨sv, jv, hsb, _, ja, jcap, rfl, hj⟩ := h.ex
  obtain ⟨jb, jo, rfl, hjc⟩ := hj (fun h => by rw [h] at hi; simp at hi)
  exact ⟨sv, jb, jo, jcap, hsb, fun f hf => hjc i hi f hf⟩
theorem ShopAt.below {w w' : World} {sb : Nat} {M : Mend} {left : Nat} (h : ShopAt w sb M left) (hb : Below w.heap.size w w') : ShopAt w' sb M left := by
  obtain ⟨sv, jv, hsb, h1, h2⟩ := h.ex
  exact ⟨sv, jv, (hb.block sb (cells_of hsb).1).trans hsb, h1.below hb, h2.below hb⟩

theorem ret_bool {a b : Bool} (h : a = b) : Ending.returned (.bool a) = .returned (.bool b) := by rw [h]
theorem waits_word {M : Mend} (hM : M.Ok) {left i an : Nat} {b : Bench} (hi : i < M.jobs.length) (ha : (M.job i).after = (an : Int)) (hd : b.done < 18446744073709551616) :
    (andN (andN an left) (andN b.done (2 ^ i)) ≠ 0) ↔ M.waits left b i = true := by
  obtain ⟨h1, h2⟩ := hM.after i hi
  have hlen := hM.len
  have h3 : (2 : Int) ^ M.jobs.length = ((2 ^ M.jobs.length : Nat) : Int) := by simp
  have h4 : an < 2 ^ M.jobs.length := by rw [ha, h3] at h2; exact Int.ofNat_lt.1 h2
  have h5 : 2 ^ M.jobs.length ≤ 2 ^ 6 := Nat.pow_le_pow_right (by decide) hlen
  have h6 := andN_le an left
  have e1 : ∀ k, (andN (andN an left) (andN b.done (2 ^ i))).testBit k = (an.testBit k && !left.testBit k && !(b.done.testBit k && decide (k ≠ i))) := by
    intro k
    rw [andN_bit (by omega), andN_bit (by omega), andN_bit hd, Nat.testBit_two_pow]
    congr 3
    by_cases h : i = k
    · simp [h]
    · have : ¬ k = i := fun e => h e.symm
      simp [h, this]
  have e2 : (M.job i).after.toNat = an := by omega
  unfold Mend.waits
  rw [e2, List.any_eq_true]
  constructor
  · intro hne
    obtain ⟨k, hk⟩ := Nat.exists_testBit_of_ne_zero hne
    rw [e1] at hk
    refine ⟨k, List.mem_range.2 ?_, hk⟩
    rcases Nat.lt_or_ge k M.jobs.length with h | h
    · exact h
    · have : an.testBit k = false := Nat.testBit_lt_two_pow (Nat.lt_of_lt_of_le h4 (Nat.pow_le_pow_right (by decide) h))
      rw [this] at hk; simp at hk
  · rintro ⟨k, _, hk⟩ h0
    rw [← e1, h0] at hk
    simp at hk

set_option maxHeartbeats 1000000 in
theorem late_any (M : Mend) (left : Nat) (sb : Nat) (b : Bench) (soon : Int) (i : Nat) (hi : i < M.jobs.length) (w : World) (hs : ShopAt w sb M left) :
    Calls Try.prog 106 #[.agg #[], .pointer (some ⟨sb, 0, none⟩), workV b soon i] w fun e w' => e = .returned (.bool (decide ((M.job i).by_ < b.late))) ∧ Below w.heap.size w w' := by
  obtain ⟨sv, jb, jo, jcap, hsb, hjc⟩ := hs.open hi
  obtain ⟨ls, cs⟩ := cells_of hsb
  have hc5 := hjc 5 (by decide)
  simp only [Job.cells, List.getD_cons_zero, List.getD_cons_succ] at hc5
  have ljb := cell_lt hc5
  have hi2 : (i : Int) < (M.jobs.length : Int) := by omega
  clear hjc
  go_enter Try.func106, Try.ntmps106
  go_wp2
  go_region
  go_wp2
  go_ret
  exact ⟨rfl, (below_alloc (below_alloc (Below.refl _ _) _) _).drew⟩

set_option maxHeartbeats 1000000 in
theorem after_any (M : Mend) (hM : M.Ok) (left : Nat) (hl : left < 18446744073709551616) (sb : Nat) (b : Bench) (hd : b.done < 18446744073709551616) (soon : Int) (i : Nat) (hi : i < M.jobs.length) (w : World) (hs : ShopAt w sb M left) :
    Calls Try.prog 105 #[.agg #[], .pointer (some ⟨sb, 0, none⟩), workV b soon i] w fun e w' => e = .returned (.bool (M.waits left b i)) ∧ Below w.heap.size w w' := by
  obtain ⟨sv, jb, jo, jcap, hsb, hjc⟩ := hs.open hi
  obtain ⟨ls, cs⟩ := cells_of hsb
  have hc6 := hjc 7 (by decide)
  simp only [Job.cells, List.getD_cons_zero, List.getD_cons_succ] at hc6
  have ljb := cell_lt hc6
  have hi2 : (i : Int) < (M.jobs.length : Int) := by omega
  clear hjc
  obtain ⟨an, ha⟩ : ∃ an : Nat, (M.job i).after = (an : Int) := ⟨(M.job i).after.toNat, by have := hM.after i hi; omega⟩
  have hi6 := hM.len
  have han : Hid (an < 18446744073709551616) := hid (by
    have h1 := (hM.after i hi).2
    rw [ha, show (2 : Int) ^ M.jobs.length = ((2 ^ M.jobs.length : Nat) : Int) by simp] at h1
    have h2 := Nat.pow_le_pow_right (n := 2) (by decide) (show M.jobs.length ≤ 63 by omega)
    have h3 := Int.ofNat_lt.1 h1
    omega)
  have hw := hid (waits_word hM (left := left) hi ha hd)
  rw [ha] at hc6
  clear ha
  go_enter Try.func105, Try.ntmps105
  go_wp2
  go_region
  go_wp2
  go_ret
  refine ⟨ret_bool ?_, (below_alloc (below_alloc (Below.refl _ _) _) _).drew⟩
  have han := han.out
  have e1 : IntKind.u64.wrap (an : Int) = (an : Int) := by rw [IntKind.wrap_u64]; omega
  have h2 := Nat.pow_le_pow_right (n := 2) (by decide) (show i ≤ 63 by omega)
  have e2 : IntKind.u64.wrap ((2 : Int) ^ i) = ((2 ^ i : Nat) : Int) := by
    rw [show (2 : Int) ^ i = ((2 ^ i : Nat) : Int) by simp, IntKind.wrap_u64]
    generalize 2 ^ i = t at h2 ⊢
    omega
  have h3 := andN_le an left
  have h4 := andN_le b.done (2 ^ i)
  rw [e1, e2, (bits_u an left (by omega) hl).2.2, (bits_u b.done (2 ^ i) hd (by omega)).2.2, (bits_u _ _ (by omega) (by omega)).2.2]
  have h5 := hw.out
  rw [Bool.eq_iff_iff, ← h5]
  simp

end Go.Proofs.Ytcgkglonnmkfcaa

namespace Go.Proofs.Ytcgkglonnmkfcaa
open Go.RowKit Go.Lap

theorem rule_at0 (w : World) : (Instr.index 129 (.agg #[.iface 125 (.agg #[]), .iface 126 (.agg #[])]) (.int .i64 0)).run Try.prog w = .ok (.iface 125 (.agg #[])) w := by kernel_rfl
theorem rule_at1 (w : World) : (Instr.index 129 (.agg #[.iface 125 (.agg #[]), .iface 126 (.agg #[])]) (.int .i64 1)).run Try.prog w = .ok (.iface 126 (.agg #[])) w := by kernel_rfl

theorem ahead0 (w : World) : (nilAhead 247 125 (.agg #[]) "lapworks/mend.broken").run Try.prog w = .ok (some false) w := by kernel_rfl
theorem meth0 (w : World) : (method 247 125 (.agg #[]) "lapworks/mend.broken").run Try.prog w = .ok (105, .agg #[]) w := by kernel_rfl
theorem ahead1 (w : World) : (nilAhead 247 126 (.agg #[]) "lapworks/mend.broken").run Try.prog w = .ok (some false) w := by kernel_rfl
theorem meth1 (w : World) : (method 247 126 (.agg #[]) "lapworks/mend.broken").run Try.prog w = .ok (106, .agg #[]) w := by kernel_rfl

set_option maxRecDepth 100000 in
set_option maxHeartbeats 1000000 in
theorem begin_any (w : World) : Calls Try.prog 58 #[] w fun e w' => e = .returned (workV Bench.begin 0 (-1)) ∧ Below w.heap.size w w' := by
  go_enter Try.func58, Try.ntmps58
  go_wp2
  exact bodyPost_ret (v := workV Bench.begin 0 (-1)) (by simp [results, Try.results58, go_sem, Bench.begin]) rfl ⟨rfl, below_alloc (Below.refl _ _) _⟩

set_option maxRecDepth 100000 in
set_option maxHeartbeats 1000000 in
theorem broken_any (M : Mend) (hM : M.Ok) (left : Nat) (hl : left < 18446744073709551616) (sb : Nat) (b : Bench) (hd : b.done < 18446744073709551616) (soon : Int) (i : Nat) (hi : i < M.jobs.length) (w : World) (hs : ShopAt w sb M left) :
    Calls Try.prog 79 #[.pointer (some ⟨sb, 0, none⟩), workV b soon i] w fun e w' => e = .returned (.int .i64 (M.broken left b i)) ∧ Below w.heap.size w w' := by
  have hs' := hid hs
  have i0 := rule_at0
  have i1 := rule_at1
  go_enter Try.func79, Try.ntmps79
  go_wp2
  have hx := alloc_at (w := w) (o := .cells #[.int .u64 b.done, .int .i64 b.kind, .int .i64 b.late, .int .i64 soon, .int .i64 i] 74) rfl
  have hb0 := below_alloc (Below.refl _ w) (.cells #[.int .u64 b.done, .int .i64 b.kind, .int .i64 b.late, .int .i64 soon, .int .i64 i] 74)
  generalize w.alloc (.cells #[.int .u64 b.done, .int .i64 b.kind, .int .i64 b.late, .int .i64 soon, .int .i64 i] 74) = w0 at hx hb0 ⊢
  obtain ⟨lx, cx⟩ := cells_of hx
  have n0 := ahead0
  have n1 := ahead1
  have m0 := meth0
  have m1 := meth1
  cases hW : M.waits left b i
  · have hW' := hid hW
    clear hW
    cases hL : decide ((M.job i).by_ < b.late)
    all_goals
      have hL' := hid hL
      clear hL
      refine wp_loop_rounds 3 ?_
      rw [rounds_succ]
      go_wp2_with (go_at_call 105; with_reducible refine (after_any M hM left hl sb b hd soon i hi _ (hs'.out.below hb0)).mono ?_; rw [hW'.out]; rintro e w1 ⟨rfl, hb1⟩)
      have hb2 := below_via hb1 hb0
      obtain ⟨lx1, cx1⟩ := cells_of ((hb1.block _ lx).trans hx)
      rw [rounds_succ]
      go_wp2_with (go_at_call 106; with_reducible refine (late_any M left sb b soon i hi _ (hs'.out.below hb2)).mono ?_; rw [hL'.out]; rintro e w2 ⟨rfl, hb3⟩)
      have hb4 := below_via hb3 hb2
    · rw [rounds_succ]
      go_wp2
      go_ret
      refine ⟨ret_int ?_, hb4⟩
      have := hW'.out
      have h2 : ¬ (M.job i).by_ < b.late := by simpa using hL'.out
      simp [Mend.broken, this, h2]
    · go_ret
      refine ⟨ret_int ?_, hb4⟩
      have := hW'.out
      have h2 : (M.job i).by_ < b.late := by simpa using hL'.out
      simp [Mend.broken, this, h2]
  · have hW' := hid hW
    clear hW
    refine wp_loop_rounds 1 ?_
    rw [rounds_succ]
    go_wp2_with (go_at_call 105; with_reducible refine (after_any M hM left hl sb b hd soon i hi _ (hs'.out.below hb0)).mono ?_; rw [hW'.out]; rintro e w1 ⟨rfl, hb1⟩)
    have hb2 := below_via hb1 hb0
    go_ret
    refine ⟨ret_int ?_, hb2⟩
    have := hW'.out
    simp [Mend.broken, this]

end Go.Proofs.Ytcgkglonnmkfcaa
