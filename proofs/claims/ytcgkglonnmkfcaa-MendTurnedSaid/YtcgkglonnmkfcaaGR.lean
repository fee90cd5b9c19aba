/- The reference's lists, walked. The reference's lists, walked whole. The reference's lists: all of them. The reference's orders, walked. -/
import Derived.Test.YtcgkglonnmkfcaaGL
import Derived.Test.YtcgkglonnmkfcaaGK
import Derived.Test.YtcgkglonnmkfcaaR7
import Derived.Test.YtcgkglonnmkfcaaR9
import Derived.Test.YtcgkglonnmkfcaaGD
import Derived.Test.YtcgkglonnmkfcaaGW
namespace Go.Proofs.Ytcgkglonnmkfcaa
open Go.RowKit Go.Lap Go.Shelf

/-- Rows of rows of integers. -/
def intN : NestKind Try.prog Int where
  K := intK
  t := 44
  ht := Try.underlying44
  hi := by kernel_rfl
  hne := by decide

section
variable {ops : Array Oper} {Q : Exit → Act → World → Prop} {K : Act → World → Prop} {a : Act} {w : World} {ty : TypeId} {pos : String} {af : Array Edge}
theorem op_ints0 {d : Nat} (h : K (a.put (some d) (.slice (some ⟨w.heap.size, 0, none⟩) 0 0)) (w.alloc (.cells #[] 3))) :
    ({ dst := some d, op := .buildSlice 22 0 #[], type := ty, pos := pos, after := af, guard := none } : Oper).wp Try.prog a w K Q := by
  unfold Oper.wp
  go_simp
  exact h
theorem op_ints1 {d x : Nat} {n : Int} (hx : a.eval (.tmp x) = .int .i64 n) (h : K (a.put (some d) (.slice (some ⟨w.heap.size, 0, none⟩) 1 1)) (w.alloc (.cells #[.int .i64 n] 3))) :
    ({ dst := some d, op := .buildSlice 22 1 #[(0, .tmp x)], type := ty, pos := pos, after := af, guard := none } : Oper).wp Try.prog a w K Q := by
  have hr : (Instr.buildSlice 22 1 #[(0, .int .i64 n)]).run Try.prog w = .ok (.slice (some ⟨w.heap.size, 0, none⟩) 1 1) (w.alloc (.cells #[.int .i64 n] 3)) := by
    go_simp
  unfold Oper.wp
  simp only [execOp, List.map_toArray, List.map_cons, List.map_nil, hx, Sem.run_bind, hr]
  exact h
theorem op_load25 {d x b : Nat} {v1 v2 : Value} (hx : a.eval (.tmp x) = .pointer (some ⟨b, 0, none⟩)) (hb : w.heap[b]? = some (.cells #[v1, v2] 25 (0, 0))) (h : K (a.put (some d) (.agg #[v1, v2])) w) :
    ({ dst := some d, op := .load 25 (.tmp x), type := ty, pos := pos, after := af, guard := none } : Oper).wp Try.prog a w K Q := by
  have hr : (Instr.loadAt 25 (.pointer (some ⟨b, 0, none⟩))).run Try.prog w = .ok (.agg #[v1, v2]) w := by
    have l1 := (cells_of hb).1
    have c1 := (cells_of hb).2
    go_simp
  unfold Oper.wp
  simp only [execOp, hx, Sem.run_bind, hr]
  exact h
end

/-- What is so on the way to the call of 'lists' itself, whichever operations are done. -/
structure ListsJ (w wr : World) (sv jv bv ov : Value) (R : Nat) (bg : List Nat) (i : Nat) (B : Nat) (LL : List (List Int)) (d : Nat → Bool) (vals : Nat → Value) (W : World) : Prop where
  q0 : d 0 = true → vals 0 = .agg #[sv, jv]
  q1 : d 1 = true → vals 1 = .int .i64 (R : Int)
  q3 : d 3 = true → vals 3 = bv
  q5 : d 5 = true → vals 5 = .int .i64 (i : Int)
  q8 : d 8 = true → vals 8 = ov
  q10 : d 10 = true → vals 10 = vals 9
  b0 : d 9 = false → Below wr.heap.size wr W
  b2 : d 9 = false → d 2 = true → d 4 = false → ∃ g, vals 2 = .slice (some ⟨g, 0, none⟩) 0 0 ∧ W.heap[g]? = some (.cells #[] 3 (0, 0)) ∧ wr.heap.size ≤ g
  b4 : d 9 = false → d 4 = true → d 7 = false → intK.own wr.heap.size W (vals 4) (ints bg)
  b6 : d 9 = false → d 6 = true → d 7 = false → ∃ g, vals 6 = .slice (some ⟨g, 0, none⟩) 1 1 ∧ W.heap[g]? = some (.cells #[.int .i64 (i : Int)] 3 (0, 0)) ∧ wr.heap.size ≤ g
  b7 : d 9 = false → d 7 = true → intK.own wr.heap.size W (vals 7) (ints (bg ++ [i]))
  last : d 9 = true → intN.own B W (vals 9) LL ∧ Below B wr W ∧ KeptBut 22 wr W

section
variable {w wr : World} {sv jv bv ov : Value} {R : Nat} {bg : List Nat} {i : Nat} {B : Nat} {LL : List (List Int)} {d : Nat → Bool} {vals : Nat → Value} {W W' : World}
/-- An operation that is none of those that make rows. -/
theorem ListsJ.pure {k : Nat} {v : Value} (h : ListsJ w wr sv jv bv ov R bg i B LL d vals W) (hk : k ∉ [2, 4, 6, 7, 9, 10])
    (h0 : k = 0 → v = .agg #[sv, jv]) (h1 : k = 1 → v = .int .i64 (R : Int)) (h3 : k = 3 → v = bv) (h5 : k = 5 → v = .int .i64 (i : Int)) (h8 : k = 8 → v = ov) :
    ListsJ w wr sv jv bv ov R bg i B LL (dset d k) (vset vals k v) W := by
  simp only [List.mem_cons, List.not_mem_nil, or_false, not_or] at hk
  obtain ⟨n2, n4, n6, n7, n9, n10⟩ := hk
  have e : ∀ x, x ∈ [2, 4, 6, 7, 9, 10] → dset d k x = d x ∧ vset vals k v x = vals x := by
    intro x hx
    have : x ≠ k := by
      simp only [List.mem_cons, List.not_mem_nil, or_false] at hx
      omega
    exact ⟨dset_ne this, vset_ne this⟩
  have own : ∀ (x : Nat) (u : Value), (d x = true → vals x = u) → (k = x → v = u) → dset d k x = true → vset vals k v x = u := by
    intro x u hx hk2
    by_cases hxk : x = k
    · subst hxk; intro _; rw [vset_same]; exact hk2 rfl
    · rw [dset_ne hxk, vset_ne hxk]; exact hx
  obtain ⟨e2, f2⟩ := e 2 (by simp)
  obtain ⟨e4, f4⟩ := e 4 (by simp)
  obtain ⟨e6, f6⟩ := e 6 (by simp)
  obtain ⟨e7, f7⟩ := e 7 (by simp)
  obtain ⟨e9, f9⟩ := e 9 (by simp)
  obtain ⟨e10, f10⟩ := e 10 (by simp)
  refine ⟨own 0 _ h.q0 h0, own 1 _ h.q1 h1, own 3 _ h.q3 h3, own 5 _ h.q5 h5, own 8 _ h.q8 h8, ?_, ?_, ?_, ?_, ?_, ?_, ?_⟩
  · rw [e10, f10, f9]; exact h.q10
  · rw [e9]; exact h.b0
  · rw [e9, e2, e4, f2]; exact h.b2
  · rw [e9, e4, e7, f4]; exact h.b4
  · rw [e9, e6, e7, f6]; exact h.b6
  · rw [e9, e7, f7]; exact h.b7
  · rw [e9, f9]; exact h.last
theorem heap_keep {W W' : World} {g : Nat} {p : Obj} (h : W.heap[g]? = some p) (hb : Below W.heap.size W W') : W'.heap[g]? = some p := (hb.block _ (heap_lt h)).trans h
theorem ListsJ.s2 (h : ListsJ w wr sv jv bv ov R bg i B LL d vals W) (d4 : d 4 = false) (d9 : d 9 = false) :
    ListsJ w wr sv jv bv ov R bg i B LL (dset d 2) (vset vals 2 (.slice (some ⟨W.heap.size, 0, none⟩) 0 0)) (W.alloc (.cells #[] 3)) := by
  have hb := below_alloc (Below.refl _ W) (.cells #[] 3)
  refine ⟨keepF h.q0 (by decide), keepF h.q1 (by decide), keepF h.q3 (by decide), keepF h.q5 (by decide), keepF h.q8 (by decide), (fun hd => by rw [dset_ne (by decide)] at hd; rw [vset_ne (by decide), vset_ne (by decide)]; exact h.q10 hd), fun _ => below_via hb (h.b0 d9), fun _ _ _ => ?_, fun _ h4 => ?_, fun _ h6 h7 => ?_, fun _ h7 => ?_, (fun h9 => by rw [dset_ne (by decide), d9] at h9; cases h9)⟩
  · exact ⟨W.heap.size, vset_same _ _ _, alloc_at rfl, (h.b0 d9).size⟩
  · rw [dset_ne (by decide), d4] at h4; cases h4
  · rw [dset_ne (by decide)] at h6 h7
    obtain ⟨g, h1, h2, h3⟩ := h.b6 d9 h6 h7
    exact ⟨g, by rw [vset_ne (by decide)]; exact h1, heap_keep h2 hb, h3⟩
  · rw [dset_ne (by decide)] at h7
    rw [vset_ne (by decide)]
    exact (h.b7 d9 h7).below hb
theorem ListsJ.s6 (h : ListsJ w wr sv jv bv ov R bg i B LL d vals W) (d7 : d 7 = false) (d9 : d 9 = false) :
    ListsJ w wr sv jv bv ov R bg i B LL (dset d 6) (vset vals 6 (.slice (some ⟨W.heap.size, 0, none⟩) 1 1)) (W.alloc (.cells #[.int .i64 (i : Int)] 3)) := by
  have hb := below_alloc (Below.refl _ W) (.cells #[.int .i64 (i : Int)] 3)
  refine ⟨keepF h.q0 (by decide), keepF h.q1 (by decide), keepF h.q3 (by decide), keepF h.q5 (by decide), keepF h.q8 (by decide), (fun hd => by rw [dset_ne (by decide)] at hd; rw [vset_ne (by decide), vset_ne (by decide)]; exact h.q10 hd), fun _ => below_via hb (h.b0 d9), fun _ h2 h4 => ?_, fun _ h4 h7 => ?_, fun _ _ _ => ?_, fun _ h7 => ?_, (fun h9 => by rw [dset_ne (by decide), d9] at h9; cases h9)⟩
  · rw [dset_ne (by decide)] at h2 h4
    obtain ⟨g, h1, h2, h3⟩ := h.b2 d9 h2 h4
    exact ⟨g, by rw [vset_ne (by decide)]; exact h1, heap_keep h2 hb, h3⟩
  · rw [dset_ne (by decide)] at h4 h7
    rw [vset_ne (by decide)]
    exact (h.b4 d9 h4 h7).below hb
  · exact ⟨W.heap.size, vset_same _ _ _, alloc_at rfl, (h.b0 d9).size⟩
  · rw [dset_ne (by decide), d7] at h7; cases h7
theorem ListsJ.s4 {v : Value} (h : ListsJ w wr sv jv bv ov R bg i B LL d vals W) (d2 : d 2 = true) (d4 : d 4 = false) (d7 : d 7 = false) (d9 : d 9 = false) (ho : intK.own wr.heap.size W' v (ints bg)) (hg : W.grownBy W' (vals 2).ownBlock) :
    ListsJ w wr sv jv bv ov R bg i B LL (dset d 4) (vset vals 4 v) W' := by
  obtain ⟨g2, e1, e2, e3⟩ := h.b2 d9 d2 d4
  have hs := (h.b0 d9).size
  have hb : Below wr.heap.size W W' := ⟨hg.os, hg.tape, hg.output, hg.size, fun k hk => hg.block k (by omega) (fun e => by rw [e1] at e; simp [Value.ownBlock] at e; omega)⟩
  refine ⟨keepF h.q0 (by decide), keepF h.q1 (by decide), keepF h.q3 (by decide), keepF h.q5 (by decide), keepF h.q8 (by decide), (fun hd => by rw [dset_ne (by decide)] at hd; rw [vset_ne (by decide), vset_ne (by decide)]; exact h.q10 hd), fun _ => (h.b0 d9).trans hb, fun _ _ h4 => ?_, fun _ _ _ => ?_, fun _ h6 h7 => ?_, fun _ h7 => ?_, (fun h9 => by rw [dset_ne (by decide), d9] at h9; cases h9)⟩
  · rw [dset_same] at h4; cases h4
  · rw [vset_same]; exact ho
  · rw [dset_ne (by decide)] at h6 h7
    obtain ⟨g, h1, h2, h3⟩ := h.b6 d9 h6 h7
    refine ⟨g, by rw [vset_ne (by decide)]; exact h1, (hg.block g (heap_lt h2) (fun e => ?_)).trans h2, h3⟩
    rw [e1] at e
    simp [Value.ownBlock] at e
    subst e
    rw [e2] at h2
    cases h2
  · rw [dset_ne (by decide), d7] at h7; cases h7
theorem ListsJ.s7 {v : Value} (h : ListsJ w wr sv jv bv ov R bg i B LL d vals W) (d4 : d 4 = true) (d7 : d 7 = false) (d9 : d 9 = false) (ho : intK.own wr.heap.size W' v (ints (bg ++ [i]))) (hg : W.grownBy W' (vals 4).ownBlock) :
    ListsJ w wr sv jv bv ov R bg i B LL (dset d 7) (vset vals 7 v) W' := by
  have hown := h.b4 d9 d4 d7
  have hs := (h.b0 d9).size
  have hb : Below wr.heap.size W W' := ⟨hg.os, hg.tape, hg.output, hg.size, fun k hk => hg.block k (by omega) (fun e => by have := hown.lt k e.symm; omega)⟩
  refine ⟨keepF h.q0 (by decide), keepF h.q1 (by decide), keepF h.q3 (by decide), keepF h.q5 (by decide), keepF h.q8 (by decide), (fun hd => by rw [dset_ne (by decide)] at hd; rw [vset_ne (by decide), vset_ne (by decide)]; exact h.q10 hd), fun _ => (h.b0 d9).trans hb, fun _ _ h4 => ?_, fun _ _ h7 => ?_, fun _ _ h7 => ?_, fun _ _ => ?_, (fun h9 => by rw [dset_ne (by decide), d9] at h9; cases h9)⟩
  · rw [dset_ne (by decide), d4] at h4; cases h4
  · rw [dset_same] at h7; cases h7
  · rw [dset_same] at h7; cases h7
  · rw [vset_same]; exact ho
theorem ListsJ.s9 {v : Value} (h : ListsJ w wr sv jv bv ov R bg i B LL d vals W) (d10 : d 10 = false) (h1 : intN.own B W' v LL) (h2 : Below B wr W') (h3 : KeptBut 22 wr W') :
    ListsJ w wr sv jv bv ov R bg i B LL (dset d 9) (vset vals 9 v) W' := by
  have no : dset d 9 9 = false → False := fun h => by rw [dset_same] at h; cases h
  refine ⟨keepF h.q0 (by decide), keepF h.q1 (by decide), keepF h.q3 (by decide), keepF h.q5 (by decide), keepF h.q8 (by decide), (fun hd => by rw [dset_ne (by decide), d10] at hd; cases hd), fun h => (no h).elim, fun h => (no h).elim, fun h => (no h).elim, fun h => (no h).elim, fun h => (no h).elim, fun _ => ?_⟩
  rw [vset_same]; exact ⟨h1, h2, h3⟩
theorem ListsJ.s10 (h : ListsJ w wr sv jv bv ov R bg i B LL d vals W) (d9 : d 9 = true) :
    ListsJ w wr sv jv bv ov R bg i B LL (dset d 10) (vset vals 10 (vals 9)) W := by
  have no : dset d 10 9 = false → False := fun h => by rw [dset_ne (by decide), d9] at h; cases h
  refine ⟨keepF h.q0 (by decide), keepF h.q1 (by decide), keepF h.q3 (by decide), keepF h.q5 (by decide), keepF h.q8 (by decide), fun _ => by rw [vset_same, vset_ne (by decide)], fun h => (no h).elim, fun h => (no h).elim, fun h => (no h).elim, fun h => (no h).elim, fun h => (no h).elim, fun _ => ?_⟩
  rw [vset_ne (by decide)]; exact h.last d9
end
end Go.Proofs.Ytcgkglonnmkfcaa

namespace Go.Proofs.Ytcgkglonnmkfcaa
open Go.RowKit Go.Lap Go.Shelf

/-- What 'lists' comes to. -/
def ListsPost (n R k B : Nat) (bg : List Nat) (LL : List (List Int)) (w : World) (e : Ending) (w' : World) : Prop := ∃ ov', e = .returned ov' ∧ intN.own B w' ov' (LL ++ (fromL n R k bg).map ints) ∧ Below B w w' ∧ KeptBut 22 w w'

set_option maxRecDepth 100000 in
set_option maxHeartbeats 4000000 in
theorem refLists_zero (M : Mend) (hM : M.Ok) (sv jv bv ov : Value) (bg : List Nat) (R : Nat) (hR : R < 2 ^ M.jobs.length) (hbg : bg.length + 0 = free M.jobs.length R) (w0 : World) (LL : List (List Int)) (hLL : LL.length ≤ 900000) (w : World) (hB : Below w0.heap.size w0 w) (hS : IntsAt w0 sv M.setup) (hJ : JobsAt w0 jv M.jobs) (hb : intK.own 0 w bv (ints bg)) (ho : intN.own w0.heap.size w ov LL) :
    Calls Try.prog 84 #[.agg #[sv, jv], .int .i64 (R : Int), bv, ov] w (ListsPost M.jobs.length R 0 w0.heap.size bg LL w) := by
  have hM6 := hM.len
  have hR6 : R < 64 := Nat.lt_of_lt_of_le hR (Nat.le_trans (Nat.pow_le_pow_right (by decide) hM.len) (by decide))
  have hsz := free_size hM.len hR
  rw [← hbg] at hsz
  obtain ⟨s, hs⟩ : ∃ s, sizeN 6 R = s := ⟨_, rfl⟩
  rw [hs] at hsz
  have c44 := hid (fun w => (show Calls Try.prog 44 #[.int .i64 (R : Int)] w fun e w' => e = .returned (.int .i64 (s : Nat)) ∧ w' = w by rw [← hs]; exact (refSize_any R hR6 w).mono fun e w' h => ⟨h.1, h.2.symm⟩))
  obtain ⟨sa, scap, rfl, _⟩ := hS
  obtain ⟨ja, jcap, rfl, _⟩ := hJ
  have hb' := hid hb
  obtain ⟨ba, bcap, rfl, _⟩ := ints_at.2 hb.at
  have hpL : (ints bg).length = bg.length := by simp
  rw [hpL] at hb' ⊢
  have ho' := hid ho
  have hB' := hid hB
  have hx := KeepB.start w (.slice sa M.setup.length scap) (.slice ja M.jobs.length jcap)
  have e1 : IntKind.i64.wrap ((M.jobs.length : Int) - (s : Int)) = ((bg.length : Nat) : Int) := by rw [IntWalk.i64_in _ (by omega)]; omega
  clear hb ho hs hR hbg hsz hM hpL
  go_enter Try.func84, Try.ntmps84
  go_upto_region 1 with fail
  generalize w.alloc (.cells #[.slice sa M.setup.length scap, .slice ja M.jobs.length jcap] 25) = w1 at hx ⊢
  have lm := (cells_of hx.m).1
  have cm := (cells_of hx.m).2
  go_quiet ((go_at_call 44; with_reducible exact Calls.quiet_of_same (c44.out _)))
  have hx := hx.below (below_drewN (Below.refl w1.heap.size w1) nq)
  clear lm cm
  generalize w1.drewN nq = w1 at hx ⊢
  go_upto_region 2 with fail
  have hbw := hx.bel
  have hbx := below_alloc (Below.refl _ w1) (.cells #[.slice ba bg.length bcap] 22)
  have hq2 := hid ((hb'.out.below hbw).below hbx)
  have hr2 := hid ((ho'.out.below hbw).below hbx)
  have hB1 : w0.heap.size ≤ w1.heap.size := Nat.le_trans hB'.out.size hbw.size
  have hB2 : w0.heap.size ≤ (w1.alloc (.cells #[.slice ba bg.length bcap] 22)).heap.size := Nat.le_trans hB1 hbx.size
  have hcell := hid (show (w1.alloc (.cells #[.slice ba bg.length bcap] 22)).cell? ((⟨w1.heap.size, 0, none⟩ : Addr).add 0) = some (.slice ba bg.length bcap) from by rw [addr_add0, (cells_of (alloc_at (w := w1) (n := w1.heap.size) rfl)).2]; rfl)
  have hbw' := hid hbw
  have hbx' := hid hbx
  have hl1 : LL.length + 1 ≤ 1000000 := by omega
  clear hbw hbx hx
  go_wp2_with (at_builtin; refine wpList_append_nest intN rfl _ _ rfl w0.heap.size ov _ LL (ints bg) rfl hr2.out hq2.out ⟨w1.heap.size, 0, none⟩ 1 rfl hcell.out hl1 hB2 ?_; intro v' w2 hr3 hb3 hk3; have hr3 := hid hr3)
  go_ret
  exact ⟨_, rfl, by rw [fromL_zero]; exact hr3.out, (hbw'.out.mono hB'.out.size).trans ((hbx'.out.mono hB1).trans hb3), (KeptBut.of hbw'.out).trans ((KeptBut.of hbx'.out).trans hk3)⟩

theorem own_made0 {B g : Nat} {W : World} (h : W.heap[g]? = some (.cells #[] 3 (0, 0))) (hB : B ≤ g) : intK.own B W (.slice (some ⟨g, 0, none⟩) 0 0) [] :=
  ⟨rfl, .inr ⟨g, 0, #[], rfl, hB, h, Nat.le_refl _, by decide, rfl, rfl⟩⟩
theorem own_made1 {g : Nat} {W : World} {x : Int} (h : W.heap[g]? = some (.cells #[.int .i64 x] 3 (0, 0))) : intK.own 0 W (.slice (some ⟨g, 0, none⟩) 1 1) [x] :=
  ⟨rfl, .inr ⟨g, 1, #[.int .i64 x], rfl, Nat.zero_le _, h, Nat.le_refl _, by decide, rfl, rfl⟩⟩
theorem ints_snoc (bg : List Nat) (i : Nat) : ints (bg ++ [i]) = ints bg ++ [(i : Int)] := by simp

set_option maxRecDepth 100000 in
set_option maxHeartbeats 4000000 in
theorem refLists_succ (M : Mend) (hM : M.Ok) (sv jv bv ov : Value) (bg : List Nat) (R k : Nat) (hR : R < 2 ^ M.jobs.length) (hbg : bg.length + (k + 1) = free M.jobs.length R) (w0 : World) (LL : List (List Int)) (hLL : LL.length + 6 ^ (k + 1) ≤ 900000) (w : World) (hB : Below w0.heap.size w0 w) (hS : IntsAt w0 sv M.setup) (hJ : JobsAt w0 jv M.jobs) (hb : intK.own 0 w bv (ints bg)) (ho : intN.own w0.heap.size w ov LL)
    (IH : ∀ (i : Nat) (bv ov : Value) (LL : List (List Int)) (w : World), i < M.jobs.length → (R ||| setOf bg).testBit i = false → LL.length + 6 ^ k ≤ 900000 → Below w0.heap.size w0 w → intK.own 0 w bv (ints (bg ++ [i])) → intN.own w0.heap.size w ov LL → Calls Try.prog 84 #[.agg #[sv, jv], .int .i64 (R : Int), bv, ov] w (ListsPost M.jobs.length R k w0.heap.size (bg ++ [i]) LL w)) :
    Calls Try.prog 84 #[.agg #[sv, jv], .int .i64 (R : Int), bv, ov] w (ListsPost M.jobs.length R (k + 1) w0.heap.size bg LL w) := by
  have IH' := hid IH
  clear IH
  have hS' := hid hS
  have hJ' := hid hJ
  have hall := hid (fromL_succ M.jobs.length R k bg)
  have hlen := hid (fun i => partL_len M.jobs.length R hM.len k bg i)
  have hM6 := hM.len
  have hR6 : R < 64 := Nat.lt_of_lt_of_le hR (Nat.le_trans (Nat.pow_le_pow_right (by decide) hM.len) (by decide))
  have hsz := free_size hM.len hR
  rw [← hbg] at hsz
  obtain ⟨s, hs⟩ : ∃ s, sizeN 6 R = s := ⟨_, rfl⟩
  rw [hs] at hsz
  have c44 := hid (fun w => (show Calls Try.prog 44 #[.int .i64 (R : Int)] w fun e w' => e = .returned (.int .i64 (s : Nat)) ∧ w' = w by rw [← hs]; exact (refSize_any R hR6 w).mono fun e w' h => ⟨h.1, h.2.symm⟩))
  have hbl : bg.length ≤ 6 := by omega
  have c75 := hid (fun (W : World) (h : IntsAt W bv (ints bg)) (i : Nat) => at_any bv (ints bg) (by simp; omega) (i : Int) W h)
  have c61 := hid (fun (W : World) (i : Nat) (hi : i ≤ 62) => has_as (s := (R : Int)) (b := R.testBit i) (by simp) (by omega) (by omega) hi W)
  obtain ⟨qq, hqq⟩ : ∃ q, bg.length + (k + 1) = q := ⟨_, rfl⟩
  obtain ⟨sa, scap, rfl, _⟩ := hS
  obtain ⟨ja, jcap, rfl, _⟩ := hJ
  have hb' := hid hb
  obtain ⟨ba, bcap, rfl, _⟩ := ints_at.2 hb.at
  have hpL : (ints bg).length = bg.length := by simp
  rw [hpL] at hb' c75 ⊢
  have ho' := hid ho
  have hB' := hid hB
  have hx := KeepB.start w (.slice sa M.setup.length scap) (.slice ja M.jobs.length jcap)
  have e1 : IntKind.i64.wrap ((M.jobs.length : Int) - (s : Int)) = ((qq : Nat) : Int) := by rw [IntWalk.i64_in _ (by omega)]; omega
  have hbe : ((bg.length : Int) == (qq : Int)) = false := by rw [beq_eq_false_iff_ne]; omega
  have hLL' := hid hLL
  clear hqq hb ho hs hR hbg hsz hM hpL hLL hB
  go_enter Try.func84, Try.ntmps84
  go_upto_region 1 with fail
  generalize w.alloc (.cells #[.slice sa M.setup.length scap, .slice ja M.jobs.length jcap] 25) = w1 at hx ⊢
  have lm := (cells_of hx.m).1
  have cm := (cells_of hx.m).2
  go_quiet ((go_at_call 44; with_reducible exact Calls.quiet_of_same (c44.out _)))
  have hx := hx.below (below_drewN (Below.refl w1.heap.size w1) nq)
  clear lm cm
  generalize w1.drewN nq = w1 at hx ⊢
  have hb1 := hid (hb'.out.below hx.bel)
  have hr1 := hid (ho'.out.below hx.bel)
  have hm1 := hid hx.m
  have hB1 := hid (hx.bel.mono hB'.out.size)
  have hk1 := hid (KeptBut.of (e := 22) hx.bel)
  clear hb' ho' hx
  go_wp2
  go_loopw [3, 9] (fun ov' ix wr => ∃ i : Nat, i ≤ M.jobs.length ∧ ix = .int .i64 i ∧ Hid (intN.own w0.heap.size wr ov' (LL ++ (partL M.jobs.length R k bg i).map ints)) ∧ Hid (intK.own 0 wr (.slice ba bg.length bcap) (ints bg)) ∧ Hid (Below w0.heap.size w wr) ∧ Hid (KeptBut 22 w wr) ∧ Hid (wr.heap[w.heap.size]? = some (.cells #[.slice sa M.setup.length scap, .slice ja M.jobs.length jcap] 25 (0, 0)))) (fun _ ix _ => M.jobs.length - (intOf ix).toNat)
  case atStart => exact ⟨0, by omega, rfl, hid (by rw [partL_zero, List.map_nil, List.append_nil]; exact hr1.out), hb1, hB1, hk1, hm1⟩
  case round =>
    obtain ⟨i, hik, rfl, hr, hb1, hbr, hkp, hm⟩ := hrel
    have lm := (cells_of hm.out).1
    have cm := (cells_of hm.out).2
    by_cases hlt : i < M.jobs.length
    · have hki : (i : Int) < (M.jobs.length : Int) := by omega
      obtain ⟨z, hz⟩ : ∃ z, atOf (i : Int) 0 (ints bg) = z := ⟨_, rfl⟩
      have c75i := c75.out wr (ints_at.2 hb1.out.at) i
      rw [hz] at c75i
      have c75i := hid c75i
      have hmem : z < 0 ↔ i ∉ bg := by rw [← hz, atOf_no, mem_ints]
      obtain ⟨t, ht⟩ : ∃ t, R.testBit i = t := ⟨_, rfl⟩
      have c61i := (c61.out wr i (by omega)).mono (fun e w' (h : e = _ ∧ w' = wr) => (⟨h.1, h.2.symm⟩ : e = _ ∧ wr = w'))
      rw [ht] at c61i
      have c61i := hid c61i
      have hbit : (R ||| setOf bg).testBit i = (t || decide (i ∈ bg)) := by rw [Nat.testBit_or, ht, setOf_bit]
      have hbit' := hid hbit
      clear hz ht hbit
      by_cases hz0 : z < 0
      · have hnm := hid (hmem.1 hz0)
        clear hmem
        cases t
        · go_upto_region 7 with (first | (go_at_call 75; with_reducible refine c75i.out.mono ?_; rintro e w2 ⟨rfl, rfl⟩) | (go_at_call 61; with_reducible refine c61i.out.mono ?_; rintro e w2 ⟨rfl, rfl⟩))
          have htb : (R ||| setOf bg).testBit i = false := by rw [hbit'.out, decide_eq_false hnm.out]; rfl
          have hcf : ∀ args w, (callFunc 84 args).run Try.prog w = .ok (.enter 84 args) w := fun _ _ => by go_simp
          have hBw := hB'.out.trans hbr.out
          have hLi : (LL ++ (partL M.jobs.length R k bg i).map ints).length + 6 ^ k ≤ 900000 := by
            have h1 := hLL'.out
            have h2 := hlen.out i
            have h3 : i * 6 ^ k ≤ 5 * 6 ^ k := Nat.mul_le_mul_right _ (by omega)
            rw [List.length_append, List.length_map]
            rw [Nat.pow_succ] at h1; omega
          refine wp_region_inv2 (ListsJ w wr (.slice sa M.setup.length scap) (.slice ja M.jobs.length jcap) (.slice ba bg.length bcap) u3 R bg i w0.heap.size (LL ++ (partL M.jobs.length R k bg (i + 1)).map ints)) (by kernel_rfl) (by kernel_rfl) (by kernel_rfl) ⟨by simp, by simp, by simp, by simp, by simp, by simp, fun _ => (Below.refl _ _).drew, by simp, by simp, by simp, by simp, by simp⟩ ?_ ?_
          · intro q o d vals a W ho hd hdep hcl hev hnd hold hJ
            have hi := (Array.getElem?_eq_some_iff.1 ho).1
            have c10 : d 10 = true → d 9 = true := fun h => hcl 10 _ rfl h { on := 9, ground := Ground.data } (by simp) rfl
            have c97 : d 9 = true → d 7 = true := fun h => hcl 9 _ rfl h { on := 7, ground := Ground.data } (by simp) rfl
            have c90 : d 9 = true → d 0 = true := fun h => hcl 9 _ rfl h { on := 0, ground := Ground.data } (by simp) rfl
            have c98 : d 9 = true → d 8 = true := fun h => hcl 9 _ rfl h { on := 8, ground := Ground.data } (by simp) rfl
            have c74 : d 7 = true → d 4 = true := fun h => hcl 7 _ rfl h { on := 4, ground := Ground.data } (by simp) rfl
            have c76 : d 7 = true → d 6 = true := fun h => hcl 7 _ rfl h { on := 6, ground := Ground.data } (by simp) rfl
            have c42 : d 4 = true → d 2 = true := fun h => hcl 4 _ rfl h { on := 2, ground := Ground.data } (by simp) rfl
            have no : ∀ x y, (d x = true → d y = true) → d y = false → d x = false := by
              intro x y hxy hy
              cases hx : d x
              · rfl
              · rw [hxy hx] at hy; cases hy
            rcases q with _ | _ | _ | _ | _ | _ | _ | _ | _ | _ | _ | q
            · obtain rfl := Option.some.inj ho
              exact wpOp_at rfl rfl (op_load25 ((hold 4 (by kernel_rfl)).trans rfl) (heap_keep hm.out (hJ.b0 (no 9 0 c90 hd))) ⟨_, rfl, hJ.pure (by decide) (fun h => by first | rfl | cases h) (fun h => by first | rfl | cases h) (fun h => by first | rfl | cases h) (fun h => by first | rfl | cases h) (fun h => by first | rfl | cases h)⟩)
            · obtain rfl := Option.some.inj ho
              exact wpOp_at rfl rfl (op_move ((hold 1 (by kernel_rfl)).trans rfl) ⟨_, rfl, hJ.pure (by decide) (fun h => by first | rfl | cases h) (fun h => by first | rfl | cases h) (fun h => by first | rfl | cases h) (fun h => by first | rfl | cases h) (fun h => by first | rfl | cases h)⟩)
            · obtain rfl := Option.some.inj ho
              have d4 := no 4 2 c42 hd
              exact wpOp_at rfl rfl (op_ints0 ⟨_, rfl, hJ.s2 d4 (no 9 7 c97 (no 7 4 c74 d4))⟩)
            · obtain rfl := Option.some.inj ho
              exact wpOp_at rfl rfl (op_move ((hold 2 (by kernel_rfl)).trans rfl) ⟨_, rfl, hJ.pure (by decide) (fun h => by first | rfl | cases h) (fun h => by first | rfl | cases h) (fun h => by first | rfl | cases h) (fun h => by first | rfl | cases h) (fun h => by first | rfl | cases h)⟩)
            · obtain rfl := Option.some.inj ho
              have d7 := no 7 4 c74 hd
              have d9 := no 9 7 c97 d7
              have d2 : d 2 = true := hdep { on := 2, ground := Ground.data } (by simp) rfl
              have d3 : d 3 = true := hdep { on := 3, ground := Ground.data } (by simp) rfl
              obtain ⟨g, e2, g2, l2⟩ := hJ.b2 d9 d2 hd
              have hrow : intK.own wr.heap.size W (vals 2) [] := by rw [e2]; exact own_made0 g2 l2
              refine wpOp_at rfl rfl (wp_rows_append intK _ _ rfl wr.heap.size 0 _ _ [] (ints bg) (hev 2 _ rfl d2) hrow ((hev 3 _ rfl d3).trans (hJ.q3 d3)) (hb1.out.below (hJ.b0 d9)) (by simp; omega) (hJ.b0 d9).size ?_)
              intro v' W' h1 h2
              exact ⟨_, rfl, hJ.s4 d2 hd d7 d9 (by simpa using h1) h2⟩
            · obtain rfl := Option.some.inj ho
              exact wpOp_at rfl rfl (op_move ((hold 9 (by kernel_rfl)).trans rfl) ⟨_, rfl, hJ.pure (by decide) (fun h => by first | rfl | cases h) (fun h => by first | rfl | cases h) (fun h => by first | rfl | cases h) (fun h => by first | rfl | cases h) (fun h => by first | rfl | cases h)⟩)
            · obtain rfl := Option.some.inj ho
              have d7 := no 7 6 c76 hd
              have d5 : d 5 = true := hdep { on := 5, ground := Ground.data } (by simp) rfl
              exact wpOp_at rfl rfl (op_ints1 ((hev 5 _ rfl d5).trans (hJ.q5 d5)) ⟨_, rfl, hJ.s6 d7 (no 9 7 c97 d7)⟩)
            · obtain rfl := Option.some.inj ho
              have d9 := no 9 7 c97 hd
              have d4 : d 4 = true := hdep { on := 4, ground := Ground.data } (by simp) rfl
              have d6 : d 6 = true := hdep { on := 6, ground := Ground.data } (by simp) rfl
              obtain ⟨g, e6, g6, l6⟩ := hJ.b6 d9 d6 hd
              refine wpOp_at rfl rfl (wp_rows_append intK _ _ rfl wr.heap.size 0 _ (.slice (some ⟨g, 0, none⟩) 1 1) (ints bg) [(i : Int)] (hev 4 _ rfl d4) (hJ.b4 d9 d4 hd) ((hev 6 _ rfl d6).trans e6) (own_made1 g6) (by simp; omega) (hJ.b0 d9).size ?_)
              intro v' W' h1 h2
              exact ⟨_, rfl, hJ.s7 d4 hd d9 (by rw [ints_snoc]; exact h1) h2⟩
            · obtain rfl := Option.some.inj ho
              have d9 := no 9 8 c98 hd
              exact wpOp_at rfl rfl (op_move ((hnd 10 3 rfl (no 10 9 c10 d9)).trans rfl) ⟨_, rfl, hJ.pure (by decide) (fun h => by first | rfl | cases h) (fun h => by first | rfl | cases h) (fun h => by first | rfl | cases h) (fun h => by first | rfl | cases h) (fun h => by first | rfl | cases h)⟩)
            · obtain rfl := Option.some.inj ho
              have d10 := no 10 9 c10 hd
              have d0 : d 0 = true := hdep { on := 0, ground := Ground.data } (by simp) rfl
              have d1 : d 1 = true := hdep { on := 1, ground := Ground.data } (by simp) rfl
              have d7 : d 7 = true := hdep { on := 7, ground := Ground.data } (by simp) rfl
              have d8 : d 8 = true := hdep { on := 8, ground := Ground.data } (by simp) rfl
              have hbW := hJ.b0 hd
              refine wpOp_at rfl rfl (op_call (vs := #[.agg #[.slice sa M.setup.length scap, .slice ja M.jobs.length jcap], .int .i64 (R : Int), vals 7, u3]) hcf ?_ (IH'.out i (vals 7) u3 (LL ++ (partL M.jobs.length R k bg i).map ints) W hlt htb hLi (hBw.trans (hbW.mono hBw.size)) ((hJ.b7 hd d7).low (Nat.zero_le _)) (hr.out.below hbW)) ?_)
              · simp only [List.map_toArray, List.map_cons, List.map_nil, (hev 0 _ rfl d0).trans (hJ.q0 d0), (hev 1 _ rfl d1).trans (hJ.q1 d1), hev 7 _ rfl d7, (hev 8 _ rfl d8).trans (hJ.q8 d8)]
              · rintro e W' ⟨ov2, rfl, h1, h2, h3⟩
                exact ⟨_, rfl, _, rfl, hJ.s9 d10 (by rw [partL_go htb, List.map_append, ← List.append_assoc]; exact h1) ((hbW.mono hBw.size).trans h2) ((KeptBut.of hbW).trans h3)⟩
            · obtain rfl := Option.some.inj ho
              have d9 : d 9 = true := hdep { on := 9, ground := Ground.data } (by simp) rfl
              exact wpOp_at rfl rfl (op_assign (hev 9 _ rfl d9) ⟨_, rfl, hJ.s10 d9⟩)
            · simp at hi
              omega
          · rintro d vals W hall hJ
            have d9 : d 9 = true := hall 9 (by simp)
            have d10 : d 10 = true := hall 10 (by simp)
            obtain ⟨h1, h2, h3⟩ := hJ.last d9
            have q10 := hJ.q10 d10
            clear hJ hall d9 d10
            change Exit.inBlock _ _ Exit.normal (Act.put (Act.put (Act.put (Act.put (Act.put (Act.put (Act.put (Act.put (Act.put (Act.put (Act.put _ (some 40) (vals 0)) (some 41) (vals 1)) (some 42) (vals 2)) (some 43) (vals 3)) (some 44) (vals 4)) (some 45) (vals 5)) (some 46) (vals 6)) (some 47) (vals 7)) (some 48) (vals 8)) (some 49) (vals 9)) (some 3) (vals 10)) W
            rw [q10]
            simp only [Act.put, List.setIfInBounds_toArray, List.set_cons_zero, List.set_cons_succ]
            clear q10
            generalize vals 9 = x9 at h1 ⊢
            generalize vals 0 = x0
            generalize vals 1 = x1
            generalize vals 2 = x2
            generalize vals 3 = x3
            generalize vals 4 = x4
            generalize vals 5 = x5
            generalize vals 6 = x6
            generalize vals 7 = x7
            generalize vals 8 = x8
            have h1' := hid h1
            have h2' := hid h2
            have h3' := hid h3
            have hb9 := hid (hb1.out.kept h3 (by decide))
            have hm9 := hid (h3.blk _ _ hm.out (fun c f e => by cases e))
            clear h1 h2 h3 lm cm
            go_wp2
            go_roundw
            case rel => exact ⟨i + 1, by omega, by go_num, h1', hb9, hid (hbr.out.trans h2'.out), hid (hkp.out.trans h3'.out), hm9⟩
            case measure => simp [intOf]; omega
        · go_wp2_with (first | (go_at_call 75; with_reducible refine c75i.out.mono ?_; rintro e w2 ⟨rfl, rfl⟩) | (go_at_call 61; with_reducible refine c61i.out.mono ?_; rintro e w2 ⟨rfl, rfl⟩))
          go_roundw
          case rel => exact ⟨i + 1, by omega, by go_num, hid (by rw [partL_skip (by rw [hbit'.out]; rfl)]; exact hr.out), hb1, hbr, hkp, hm⟩
          case measure => simp [intOf]; omega
      · have hnm := hid (Decidable.not_not.1 (fun h => hz0 (hmem.2 h)))
        clear hmem
        go_wp2_with (first | (go_at_call 75; with_reducible refine c75i.out.mono ?_; rintro e w2 ⟨rfl, rfl⟩) | (go_at_call 61; with_reducible refine c61i.out.mono ?_; rintro e w2 ⟨rfl, rfl⟩))
        go_roundw
        case rel => exact ⟨i + 1, by omega, by go_num, hid (by rw [partL_skip (by rw [hbit'.out, decide_eq_true hnm.out, Bool.or_true])]; exact hr.out), hb1, hbr, hkp, hm⟩
        case measure => simp [intOf]; omega
    · obtain rfl : i = M.jobs.length := by omega
      go_wp2
      go_ret
      exact ⟨_, rfl, by rw [hall.out]; exact hr.out, hbr.out, hkp.out⟩
end Go.Proofs.Ytcgkglonnmkfcaa

namespace Go.Proofs.Ytcgkglonnmkfcaa
open Go.RowKit Go.Lap Go.Shelf

theorem refLists_any (M : Mend) (hM : M.Ok) (sv jv : Value) (R : Nat) (hR : R < 2 ^ M.jobs.length) (w0 : World) (hS : IntsAt w0 sv M.setup) (hJ : JobsAt w0 jv M.jobs) : ∀ (k : Nat) (bg : List Nat) (bv ov : Value) (LL : List (List Int)) (w : World),
    bg.length + k = free M.jobs.length R → LL.length + 6 ^ k ≤ 900000 → Below w0.heap.size w0 w → intK.own 0 w bv (ints bg) → intN.own w0.heap.size w ov LL →
    Calls Try.prog 84 #[.agg #[sv, jv], .int .i64 (R : Int), bv, ov] w (ListsPost M.jobs.length R k w0.heap.size bg LL w) := by
  intro k
  induction k with
  | zero =>
    intro bg bv ov LL w hbg hLL hB hb ho
    exact refLists_zero M hM sv jv bv ov bg R hR hbg w0 LL (by omega) w hB hS hJ hb ho
  | succ k ih =>
    intro bg bv ov LL w hbg hLL hB hb ho
    exact refLists_succ M hM sv jv bv ov bg R k hR hbg w0 LL hLL w hB hS hJ hb ho (fun i bv ov LL w _ _ hLL hB hb ho => ih (bg ++ [i]) bv ov LL w (by simp; omega) hLL hB hb ho)

/-- All lists of the jobs that are not left. -/
def allL (M : Mend) (R : Nat) : List (List Nat) := listsL M.jobs.length R (restN M R) 0
theorem refLists_all (M : Mend) (hM : M.Ok) (sv jv : Value) (R : Nat) (hR : R < 2 ^ M.jobs.length) (w : World) (hS : IntsAt w sv M.setup) (hJ : JobsAt w jv M.jobs) :
    Calls Try.prog 84 #[.agg #[sv, jv], .int .i64 (R : Int), .slice none 0 0, .slice none 0 0] w fun e w' => ∃ ov, e = .returned ov ∧ intN.own w.heap.size w' ov ((allL M R).map ints) ∧ Below w.heap.size w w' := by
  have h6 : 6 ^ free M.jobs.length R ≤ 6 ^ 6 := Nat.pow_le_pow_right (by decide) (Nat.le_trans (free_le _ _) hM.len)
  refine (refLists_any M hM sv jv R hR w hS hJ (free M.jobs.length R) [] (.slice none 0 0) (.slice none 0 0) [] w (by simp) (by simp; omega) (Below.refl _ _) (intK.own_nil _ _) (intN.own_nil _ _)).mono ?_
  rintro e w' ⟨ov, rfl, h1, h2, _⟩
  refine ⟨ov, rfl, ?_, h2⟩
  rw [List.nil_append, fromL_all] at h1
  exact h1
theorem allL_len {M : Mend} (hM : M.Ok) (R : Nat) : (allL M R).length ≤ 46656 := by
  have h6 : 6 ^ free M.jobs.length R ≤ 6 ^ 6 := Nat.pow_le_pow_right (by decide) (Nat.le_trans (free_le _ _) hM.len)
  have := listsL_len M.jobs.length R hM.len (restN M R) 0
  unfold allL
  unfold restN at *
  omega
theorem allL_mem {M : Mend} (hM : M.Ok) {R : Nat} {p : List Nat} (h : p ∈ allL M R) : p.length ≤ 6 ∧ ∀ i, i ∈ p → i < M.jobs.length := by
  obtain ⟨h1, h2⟩ := mem_listsL.1 h
  exact ⟨by rw [h1]; exact restN_le hM R, fun i hi => ((freshB_iff.1 h2).2 i hi).1⟩
/-- Those that are right. -/
theorem orders_filter (M : Mend) (R : Nat) : ordersL M R = (allL M R).filter (goodB M R Bench.begin) := right_lists M R _ _
end Go.Proofs.Ytcgkglonnmkfcaa

namespace Go.Proofs.Ytcgkglonnmkfcaa
open Go.RowKit Go.Lap Go.Shelf

set_option maxRecDepth 100000 in
set_option maxHeartbeats 4000000 in
theorem refOrders_any (M : Mend) (hM : M.Ok) (sv jv : Value) (R : Nat) (hR : R < 2 ^ M.jobs.length) (w : World) (hS : IntsAt w sv M.setup) (hJ : JobsAt w jv M.jobs) :
    Calls Try.prog 59 #[.agg #[sv, jv], .int .i64 (R : Int)] w fun e w' => ∃ ov, e = .returned ov ∧ intN.own w.heap.size w' ov ((ordersL M R).map ints) ∧ Below w.heap.size w w' := by
  have HL := hid (fun W (h : Below w.heap.size w W) => refLists_all M hM sv jv R hR W (hS.below h) (hJ.below h))
  have hR63 : R ≤ 63 := Nat.le_of_lt_succ (Nat.lt_of_lt_of_le hR (Nat.le_trans (Nat.pow_le_pow_right (by decide) hM.len) (by decide)))
  have HR := hid (fun W (h : Below w.heap.size w W) (p : List Nat) (hp : p ∈ allL M R) (lv : Value) (hl : IntsAt W lv (ints p)) => refRight_any M hM sv jv lv p (allL_mem hM hp).2 (allL_mem hM hp).1 R hR63 W (hS.below h) (hJ.below h) hl)
  obtain ⟨sa, scap, rfl, _⟩ := hS
  obtain ⟨ja, jcap, rfl, _⟩ := hJ
  have hx := KeepB.start w (.slice sa M.setup.length scap) (.slice ja M.jobs.length jcap)
  have hof := orders_filter M R
  rw [hof]
  have hall := allL_len hM R
  obtain ⟨A, hA⟩ : ∃ A, allL M R = A := ⟨_, rfl⟩
  rw [hA] at HL HR hall ⊢
  clear hof hA hM hR hR63
  go_enter Try.func59, Try.ntmps59
  go_upto_region 1 with fail
  generalize w.alloc (.cells #[.slice sa M.setup.length scap, .slice ja M.jobs.length jcap] 25) = w1 at hx ⊢
  have lm := (cells_of hx.m).1
  have cm := (cells_of hx.m).2
  have H1 := hid (HL.out w1 hx.bel)
  go_wp2_with (go_at_call 84; with_reducible refine H1.out.mono ?_; rintro e w2 ⟨lv, rfl, hl, hb2⟩; have hl := hid hl; have hx := hx.below hb2)
  obtain ⟨la, lcap, rfl, hlc⟩ := hl.out.form
  rw [List.length_map] at hl ⊢
  have hlc' := hid hlc
  have hb12 := hid hb2
  clear hlc hb2 lm cm
  have hx2 := hid hx
  clear hx
  go_loopw [6, 7] (fun ov ix wr => ∃ k : Nat, k ≤ A.length ∧ ix = .int .i64 k ∧ Hid (intN.own w2.heap.size wr ov (((A.take k).filter (goodB M R Bench.begin)).map ints)) ∧ Hid (Below w2.heap.size w2 wr)) (fun _ ix _ => A.length - (intOf ix).toNat)
  case atStart => exact ⟨0, by omega, rfl, hid (intN.own_nil _ _), hid (Below.refl _ _)⟩
  case round =>
    obtain ⟨k, hkk, rfl, hrow, hbr⟩ := hrel
    have hxr := hx2.out.below hbr.out
    have lm := (cells_of hxr.m).1
    have cm := (cells_of hxr.m).2
    by_cases hlt : k < A.length
    · have hki : (k : Int) < (A.length : Int) := by omega
      obtain ⟨p, hpk⟩ : ∃ p, A[k]? = some p := ⟨_, List.getElem?_eq_getElem hlt⟩
      obtain ⟨g, rfl, lg, hgc⟩ := hlc'.out (fun e => by have := congrArg List.length e; simp only [List.length_map, List.length_nil] at this; omega)
      obtain ⟨u, hu, hown⟩ := hgc k (ints p) (by rw [List.getElem?_map, hpk]; rfl)
      have hown := hown.below hbr.out
      have hu := (hbr.out.cell (p := ⟨g, k, none⟩) lg).trans hu
      have lg := Nat.lt_of_lt_of_le lg hbr.out.size
      have hpA : p ∈ A := List.mem_of_getElem? hpk
      obtain ⟨ua, ucap, rfl, _⟩ := ints_at.2 hown.at
      have hpL : (ints p).length = p.length := by simp
      rw [hpL] at hown hu
      have hown := hid hown
      have HRk := fun W (h : Below wr.heap.size wr W) => HR.out W (below_via h hxr.bel) p hpA _ (ints_at.2 (hown.out.below h).at)
      obtain ⟨t, ht⟩ : ∃ t, goodB M R Bench.begin p = t := ⟨_, rfl⟩
      rw [ht] at HRk
      have HRk := hid HRk
      have htk := hid (show (A.take (k + 1)).filter (goodB M R Bench.begin) = (A.take k).filter (goodB M R Bench.begin) ++ (if t then [p] else []) from by
        rw [List.take_add_one, hpk, List.filter_append]
        cases t <;> simp [ht])
      have hfl : ((A.take k).filter (goodB M R Bench.begin)).length ≤ 46656 := Nat.le_trans (List.length_filter_le _ _) (by simp; omega)
      clear ht hgc hpk hpL
      go_upto_region 6 with fail
      refine wp_region_later (by kernel_rfl) (by kernel_rfl) ?_
      intro hxl
      repeat (go_big_quiet_step ((go_at_call 55; with_reducible exact Calls.later (HRk.out _ (Later.below _)))))
      refine wpQuiet_nil ?_
      rintro w9 ⟨x, hxw⟩
      have hb9 := x.below
      rw [← hxw] at hb9
      clear hxl hxw x
      have hxr := hxr.below hb9
      have hrow := hid (hrow.out.below hb9)
      have hbr := hid (below_via hb9 hbr.out)
      have hown := hid (hown.out.below hb9)
      have hu := (hb9.cell (p := ⟨g, k, none⟩) lg).trans hu
      have lg := Nat.lt_of_lt_of_le lg hb9.size
      clear lm cm
      have lm := (cells_of hxr.m).1
      have cm := (cells_of hxr.m).2
      cases t
      · go_wp2
        go_roundw
        case rel => exact ⟨k + 1, by omega, by go_num, hid (by rw [htk.out]; simpa using hrow.out), hbr⟩
        case measure => simp [intOf]; omega
      · have hbx := below_alloc (Below.refl _ w9) (.cells #[.slice ua p.length ucap] 22)
        have hrow3 := hid (hrow.out.below hbx)
        have hown3 := hid ((hown.out.below hbx).low (Nat.zero_le _))
        have hcell := hid (show (w9.alloc (.cells #[.slice ua p.length ucap] 22)).cell? ((⟨w9.heap.size, 0, none⟩ : Addr).add 0) = some (.slice ua p.length ucap) from by rw [addr_add0, (cells_of (alloc_at (w := w9) (n := w9.heap.size) rfl)).2]; rfl)
        have hbr3 := hid (below_via hbx hbr.out)
        have hB3 := hbr3.out.size
        have hfl2 : (((A.take k).filter (goodB M R Bench.begin)).map ints).length + 1 ≤ 1000000 := by rw [List.length_map]; omega
        clear hbx
        go_wp2_with (at_builtin; refine wpList_append_nest intN rfl _ _ rfl w2.heap.size _ _ _ (ints p) rfl hrow3.out hown3.out ⟨w9.heap.size, 0, none⟩ 1 rfl hcell.out hfl2 hB3 ?_; intro v' w6 hown6 hb6 _; have hown6 := hid hown6; have hb6 := hid (hbr3.out.trans hb6))
        go_roundw
        case rel => exact ⟨k + 1, by omega, by go_num, hid (by rw [htk.out, if_pos rfl, List.map_append]; exact hown6.out), hb6⟩
        case measure => simp [intOf]; omega
    · obtain rfl : k = A.length := by omega
      go_wp2
      go_ret
      rw [List.take_length] at hrow
      exact ⟨_, rfl, hrow.out.low (by have := hx2.out.bel.size; omega), hxr.bel⟩
end Go.Proofs.Ytcgkglonnmkfcaa
