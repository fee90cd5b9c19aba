/- The frame of 'Best' of package mend: where its variables lie, and what keeps them. The walk of 'Best' of package mend. 'Best' of package mend: what it tells. -/
import Derived.Test.YtcgkglonnmkfcaaGB
import Derived.Deep.RegionHeld3
import Derived.Deep.CutRange
import Derived.Deep.LoopGhost
import Derived.Laws.CopyOwn
import Derived.Laws.MakeOwn
namespace Go.Proofs.Ytcgkglonnmkfcaa
open Go.RowKit Go.Lap Go.Shelf

/-- Where the variables of 'Best' lie. -/
structure PV where
  rx : Nat
  gb : Nat
  ab : Nat
  ob : Nat
  m : Nat
  pa : Nat
  cb : Nat
  ps : Nat
  pl : Nat
  pw : Nat

abbrev intsV (l : List Int) : Array Value := (l.map (Value.int .i64)).toArray

/-- How it is before a job: the work, what is to come, the list so far; and where the number of the round lies. -/
structure PlanI (V : PV) (sb : Nat) (B : Nat × Nat) (M : Mend) (sv jv : Value) (w : World) (ds : List Nat) (sz : Nat) (ex : Option (Nat × Int)) (b : Bench) (soon last : Int) (want : Int) (l : List Int) (W : World) : Prop where
  bel : Below w.heap.size w W
  env : EnvI V.rx V.gb V.ab V.ob sb V.m B (bestFns V.cb) M 0 (BestE M 0 B sb V.cb) (kvOfI M 0 (costG M)) W
  clo : W.heap[V.pa]? = some (.cells #[onV V.rx V.gb V.ab V.ob] 82 (0, 0))
  st : W.heap[V.ps]? = some (.cells (wcells b soon last) 74 (0, 0))
  li : W.heap[V.pl]? = some (.cells (intsV l) 98 (0, 0))
  wa : W.heap[V.pw]? = some (.cells #[.int .i64 want] 3 (0, 0))
  mm : W.heap[w.heap.size]? = some (.cells #[sv, jv] 25 (0, 0))
  ee : W.heap[w.heap.size + 1]? = some (.cells #[.int .i64 0] 29 (0, 0))
  ho : ∀ p k, ex = some (p, k) → W.heap[p]? = some (.cells #[.int .i64 k] 3 (0, 0)) ∧ p ≠ V.pw
  dd : ∀ D, D ∈ ds → w.heap.size + 2 ≤ D ∧ D < sz ∧ W.heap[D]? = some (.deferred (some []))
  nd : ds.Nodup
  nn : B.1 ≤ V.ps ∧ B.1 ≤ V.pl ∧ B.1 ≤ V.pw ∧ w.heap.size + 2 ≤ B.1 ∧ V.m < sz ∧ B.2 = B.1 ∧ V.cb < B.1
  szl : sz ≤ W.heap.size

theorem heap_lt {W : World} {b : Nat} {o : Obj} (h : W.heap[b]? = some o) : b < W.heap.size := (Array.getElem?_eq_some_iff.1 h).1
/-- Blocks of different contents are different. -/
theorem blk_ne {W : World} {a b : Nat} {p q : Obj} (ha : W.heap[a]? = some p) (hb : W.heap[b]? = some q) (h : p ≠ q) : a ≠ b := by
  rintro rfl
  rw [ha] at hb
  exact h (Option.some.inj hb)

section
variable {V : PV} {sb : Nat} {B : Nat × Nat} {M : Mend} {sv jv : Value} {w : World} {ds : List Nat} {sz : Nat} {ex : Option (Nat × Int)} {b : Bench} {soon last want : Int} {l : List Int} {W W' : World}

theorem PlanI.go (h : PlanI V sb B M sv jv w ds sz ex b soon last want l W) (hbel : Below w.heap.size w W') (hk : ∀ (b : Nat) (c : Array Value) (t : TypeId), W.heap[b]? = some (Obj.cells c t (0, 0)) → W'.heap[b]? = some (Obj.cells c t (0, 0)))
    (hlow : ∀ k, k < B.1 → ∀ o, W.heap[k]? = some o → W'.heap[k]? = some o) (hle : W.heap.size ≤ W'.heap.size)
    (hd : ∀ (b : Nat), b < sz → W.heap[b]? = some (Obj.deferred (some [])) → W'.heap[b]? = some (Obj.deferred (some []))) (hm : ∃ es c, W'.heap[V.m]? = some (.map es c) ∧ Memo (kvOfI M 0 (costG M)) es) (hs : sz ≤ W'.heap.size) :
    PlanI V sb B M sv jv w ds sz ex b soon last want l W' :=
  ⟨hbel, ⟨hk _ _ _ h.env.g, hk _ _ _ h.env.a, hk _ _ _ h.env.r, h.env.sh.keep (fun k hk2 => hlow k hk2.1), ⟨hk _ _ _ h.env.e.1, h.env.e.2.keep (fun k hk2 => hlow k hk2.1)⟩, h.env.ge, Nat.le_trans h.env.le hle, hk _ _ _ h.env.o, hm⟩, hk _ _ _ h.clo, hk _ _ _ h.st, hk _ _ _ h.li, hk _ _ _ h.wa, hk _ _ _ h.mm, hk _ _ _ h.ee,
    fun p k e => ⟨hk _ _ _ (h.ho p k e).1, (h.ho p k e).2⟩, fun D hD => ⟨(h.dd D hD).1, (h.dd D hD).2.1, hd D (h.dd D hD).2.1 (h.dd D hD).2.2⟩, h.nd, h.nn, hs⟩

theorem PlanI.below (h : PlanI V sb B M sv jv w ds sz ex b soon last want l W) (hb : Below W.heap.size W W') : PlanI V sb B M sv jv w ds sz ex b soon last want l W' := by
  obtain ⟨es, c, hm, hes⟩ := h.env.m
  exact h.go (below_via hb h.bel) (fun b c t hc => (hb.block b (heap_lt hc)).trans hc) (fun k _ o ho => (hb.block k (heap_lt ho)).trans ho) hb.size (fun b _ hc => (hb.block b (heap_lt hc)).trans hc) ⟨es, c, (hb.block _ (heap_lt hm)).trans hm, hes⟩ (Nat.le_trans h.szl hb.size)

theorem PlanI.keep (h : PlanI V sb B M sv jv w ds sz ex b soon last want l W) (hk : KeepI V.m (kvOfI M 0 (costG M)) W W') : PlanI V sb B M sv jv w ds sz ex b soon last want l W' := by
  obtain ⟨es, c, hm, hes⟩ := h.env.m
  have hge := h.env.ge
  have h4 := h.nn.2.2.2.1
  refine h.go (below_keep h.bel (by omega) hk) (fun b c t hc => hk.blk h.env.m hc) (hk.low h.env.ge |> fun f k hk2 o ho => f k ⟨hk2, by rw [h.nn.2.2.2.2.2.1]; omega⟩ o ho) hk.1.size (fun b _ hc => ?_) hk.2 (Nat.le_trans h.szl hk.1.size)
  refine (hk.1.block b (heap_lt hc) ?_).trans hc
  intro e; cases e; rw [hm] at hc; cases hc

theorem PlanI.grown (h : PlanI V sb B M sv jv w ds sz ex b soon last want l W) {row : Option Nat} (hg : W.grownBy W' row) (hr : ∀ r, row = some r → sz ≤ r ∧ ∃ o : Obj, W.heap[r]? = some o ∧ o.isCells = false) : PlanI V sb B M sv jv w ds sz ex b soon last want l W' := by
  obtain ⟨es, c, hm, hes⟩ := h.env.m
  have hge := h.env.ge
  have h4 := h.nn.2.2.2.1
  have h5 := h.nn.2.2.2.2.1
  have hlow : ∀ (b : Nat), b < sz → W'.heap[b]? = W.heap[b]? := fun b hb => hg.block b (Nat.lt_of_lt_of_le hb h.szl) (fun e => by have := (hr b e.symm).1; omega)
  refine h.go ⟨hg.os.trans h.bel.os, hg.tape.trans h.bel.tape, hg.output.trans h.bel.output, Nat.le_trans h.bel.size hg.size, fun k hk => (hlow k (by omega)).trans (h.bel.block k hk)⟩ (fun b c t hc => ?_) (fun k hk o ho => (hlow k (by omega)).trans ho) hg.size (fun b hb hc => (hlow b hb).trans hc)
    ⟨es, c, (hlow _ h5).trans hm, hes⟩ (Nat.le_trans h.szl hg.size)
  refine (hg.block b (heap_lt hc) ?_).trans hc
  intro e
  obtain ⟨_, o, ho, hn⟩ := hr b e.symm
  rw [hc] at ho; cases ho; cases hn

theorem PlanI.drew (h : PlanI V sb B M sv jv w ds sz ex b soon last want l W) : PlanI V sb B M sv jv w ds sz ex b soon last want l W.drew :=
  h.go ⟨h.bel.os, h.bel.tape, h.bel.output, h.bel.size, h.bel.block⟩ (fun _ _ _ hc => hc) (fun _ _ _ h => h) (Nat.le_refl _) (fun _ _ hc => hc) h.env.m h.szl
theorem PlanI.wider (h : PlanI V sb B M sv jv w ds sz ex b soon last want l W) {sz' : Nat} (h1 : sz ≤ sz') (h2 : sz' ≤ W.heap.size) : PlanI V sb B M sv jv w ds sz' ex b soon last want l W :=
  ⟨h.bel, h.env, h.clo, h.st, h.li, h.wa, h.mm, h.ee, h.ho, fun D hD => ⟨(h.dd D hD).1, Nat.lt_of_lt_of_le (h.dd D hD).2.1 h1, (h.dd D hD).2.2⟩, h.nd, ⟨h.nn.1, h.nn.2.1, h.nn.2.2.1, h.nn.2.2.2.1, Nat.lt_of_lt_of_le h.nn.2.2.2.2.1 h1, h.nn.2.2.2.2.2⟩, h2⟩
theorem PlanI.forget (h : PlanI V sb B M sv jv w ds sz ex b soon last want l W) : PlanI V sb B M sv jv w ds sz none b soon last want l W :=
  ⟨h.bel, h.env, h.clo, h.st, h.li, h.wa, h.mm, h.ee, fun _ _ e => (by cases e), h.dd, h.nd, h.nn, h.szl⟩
theorem PlanI.put (h : PlanI V sb B M sv jv w ds sz none b soon last want l W) (k : Int) : PlanI V sb B M sv jv w ds sz (some (W.heap.size, k)) b soon last want l (W.alloc (.cells #[.int .i64 k] 3)) := by
  have h2 := h.below (below_alloc (Below.refl _ _) (.cells #[.int .i64 k] 3))
  refine ⟨h2.bel, h2.env, h2.clo, h2.st, h2.li, h2.wa, h2.mm, h2.ee, ?_, h2.dd, h2.nd, h2.nn, h2.szl⟩
  intro p k' e
  cases e
  exact ⟨alloc_at rfl, by have := heap_lt h.wa; omega⟩
theorem PlanI.mark (h : PlanI V sb B M sv jv w ds sz ex b soon last want l W) {D : Nat} (h1 : w.heap.size + 2 ≤ D) (h2 : sz ≤ D) (hD : W.heap[D]? = some (.deferred (some []))) : PlanI V sb B M sv jv w (D :: ds) W.heap.size ex b soon last want l W := by
  have hw := h.wider h.szl (Nat.le_refl _)
  refine ⟨h.bel, h.env, h.clo, h.st, h.li, h.wa, h.mm, h.ee, h.ho, ?_, ?_, hw.nn, Nat.le_refl _⟩
  · intro E hE
    rcases List.mem_cons.1 hE with rfl | hE
    · exact ⟨h1, heap_lt hD, hD⟩
    · exact hw.dd E hE
  · refine List.nodup_cons.2 ⟨fun hm => ?_, h.nd⟩
    have := (h.dd D hm).2.1
    omega

/-- A work that is stored. -/
abbrev wput (W : World) (p : Nat) (b : Bench) (soon last : Int) : World := ((((W.setCell ⟨p, 0, none⟩ (.int .u64 b.done)).setCell ⟨p, 1, none⟩ (.int .i64 b.kind)).setCell ⟨p, 2, none⟩ (.int .i64 b.late)).setCell ⟨p, 3, none⟩ (.int .i64 soon)).setCell ⟨p, 4, none⟩ (.int .i64 last)
theorem wput_other {W : World} {p k : Nat} {b : Bench} {soon last : Int} (h : k ≠ p) : (wput W p b soon last).heap[k]? = W.heap[k]? := by
  unfold wput
  repeat rw [Below.heap_setCell _ _ _ _ h]
theorem wput_own {W : World} {p : Nat} {b b' : Bench} {soon soon' last last' : Int} (h : W.heap[p]? = some (.cells (wcells b soon last) 74 (0, 0))) : (wput W p b' soon' last').heap[p]? = some (.cells (wcells b' soon' last') 74 (0, 0)) := by
  unfold wput
  rw [heap_set_same (heap_set_same (heap_set_same (heap_set_same (heap_set_same h))))]
  simp
theorem wput_below {a W : World} {p : Nat} {b : Bench} {soon last : Int} (h : Below a.heap.size a W) (hb : a.heap.size ≤ p) : Below a.heap.size a (wput W p b soon last) :=
  below_set (below_set (below_set (below_set (below_set h _ hb) _ hb) _ hb) _ hb) _ hb

/-- The world after a step is taken. -/
abbrev takeW (V : PV) (k : Nat) (r : Int) (t : Bench) (soon : Int) (y : Int) (W : World) : World := (wput (W.setCell ⟨V.pl, k, none⟩ (.int .i64 r)) V.ps t soon r).setCell ⟨V.pw, 0, none⟩ (.int .i64 y)

theorem PlanI.take {k : Nat} (h : PlanI V sb B M sv jv w ds sz ex b soon last want l W) (r : Int) (t : Bench) (soon' : Int) (y : Int) : PlanI V sb B M sv jv w ds sz ex t soon' r y (l.set k r) (takeW V k r t soon' y W) := by
  have e1 : V.pl ≠ V.ps := blk_ne h.li h.st (by simp)
  have e2 : V.pl ≠ V.pw := blk_ne h.li h.wa (by simp)
  have e3 : V.ps ≠ V.pw := blk_ne h.st h.wa (by simp)
  obtain ⟨n1, n2, n3, n4, n5, n6, n7⟩ := h.nn
  have far : ∀ b, b ≠ V.pl → b ≠ V.ps → b ≠ V.pw → (takeW V k r t soon' y W).heap[b]? = W.heap[b]? := fun b h1 h2 h3 =>
    (Below.heap_setCell _ _ _ _ h3).trans ((wput_other h2).trans (Below.heap_setCell _ _ _ _ h1))
  have hs : (takeW V k r t soon' y W).heap.size = W.heap.size := by simp [takeW, World.setCell]
  have hne : ∀ {d : Nat} {p : Obj}, W.heap[d]? = some p → p ≠ .cells (intsV l) 98 (0, 0) → p ≠ .cells (wcells b soon last) 74 (0, 0) → p ≠ .cells #[.int .i64 want] 3 (0, 0) → (takeW V k r t soon' y W).heap[d]? = some p := fun hb h1 h2 h3 =>
    (far _ (blk_ne hb h.li h1) (blk_ne hb h.st h2) (blk_ne hb h.wa h3)).trans hb
  have hlow : ∀ k', k' < B.1 → ∀ o, W.heap[k']? = some o → (takeW V k r t soon' y W).heap[k']? = some o := fun k' hk' o ho => (far k' (by omega) (by omega) (by omega)).trans ho
  obtain ⟨es, c, hm, hes⟩ := h.env.m
  refine ⟨below_set (wput_below (below_set h.bel _ (by simp only; omega)) (by omega)) _ (by simp only; omega), ⟨hne h.env.g (by simp) (by simp) (by simp), hne h.env.a (by simp) (by simp) (by simp), hne h.env.r (by simp) (by simp) (by simp), h.env.sh.keep (fun k' hk2 => hlow k' hk2.1), ⟨hlow _ n7 _ h.env.e.1, h.env.e.2.keep (fun k' hk2 => hlow k' hk2.1)⟩, h.env.ge, by rw [hs]; exact h.env.le, hne h.env.o (by simp) (by simp) (by simp), es, c, hne hm (by simp) (by simp) (by simp), hes⟩,
    hne h.clo (by simp) (by simp) (by simp), ?_, ?_, ?_, (far _ (by omega) (by omega) (by omega)).trans h.mm, (far _ (by omega) (by omega) (by omega)).trans h.ee, ?_, ?_, h.nd, h.nn, by rw [hs]; exact h.szl⟩
  · refine (Below.heap_setCell _ _ _ _ e3).trans (wput_own (b := b) (soon := soon) (last := last) ?_)
    exact (Below.heap_setCell _ _ _ _ e1.symm).trans h.st
  · refine (Below.heap_setCell _ _ _ _ e2).trans ((wput_other e1).trans ?_)
    rw [heap_set_same h.li]
    rw [show (intsV l).setIfInBounds k (.int .i64 r) = intsV (l.set k r) by simp [intsV, List.map_set]]
  · rw [heap_set_same ((wput_other e3.symm).trans ((Below.heap_setCell _ _ _ _ e2.symm).trans h.wa))]
    simp
  · intro p k' e
    obtain ⟨h1, h2⟩ := h.ho p k' e
    exact ⟨(far p (blk_ne h1 h.li (by simp)) (blk_ne h1 h.st (by simp)) h2).trans h1, h2⟩
  · intro D hD
    have := h.dd D hD
    exact ⟨this.1, this.2.1, hne this.2.2 (by simp) (by simp) (by simp)⟩

theorem keeps_take {k : Nat} {r : Int} {t : Bench} {soon' y : Int} {C : Nat} : KeepsFrom C W (takeW V k r t soon' y W).drew := by
  have h : ∀ (A : World), KeepsFrom C A A.drew := fun A => ⟨Nat.le_refl _, fun k o _ hk _ => hk⟩
  refine KeepsFrom.trans ?_ (h _)
  have hk : ∀ (A : World) (b o : Nat) (v : Value), KeepsFrom C A (A.setCell ⟨b, o, none⟩ v) := fun A b o v => (KeepsOthers.setCell A _ _).from _
  exact .trans (.trans (.trans (.trans (.trans (.trans (hk _ _ _ _) (hk _ _ _ _)) (hk _ _ _ _)) (hk _ _ _ _)) (hk _ _ _ _)) (hk _ _ _ _)) (hk _ _ _ _)
end

end Go.Proofs.Ytcgkglonnmkfcaa

namespace Go.Proofs.Ytcgkglonnmkfcaa
open Go.RowKit Go.Lap Go.Shelf
attribute [local go_sem] Oper.semAt_some

/-- A mark among the deferred calls. -/
abbrev mkD (D : Nat) : Deferred := { target := .collected D, args := #[] }

/-- A new slice: its block is new, and holds a list of integers alone. -/
def NewInts (B : Nat) (W : World) (sv : Value) (xs : List Int) : Prop := ∃ b, B ≤ b ∧ sv = .slice (some ⟨b, 0, none⟩) xs.length xs.length ∧ W.heap[b]? = some (.cells (intsV xs) 3 (0, 0))

/-- The marks are taken up one by one; then what is deferred behind them. -/
theorem leaves_marks {fn : Func} {tmps : Array Value} {R : Ending → World → Prop} (B : Nat) (u : FrameMode) (hu : u ≠ .run) (rest : List Deferred) : ∀ (ds : List Nat) (w : World), ds.Nodup → (∀ D, D ∈ ds → B ≤ D ∧ w.heap[D]? = some (.deferred (some []))) →
    (∀ w', w'.heap.size = w.heap.size ∧ w'.os = w.os ∧ w'.tape = w.tape ∧ w'.output = w.output ∧ (∀ b : Nat, (∀ D, D ∈ ds → b ≠ D) → w'.heap[b]? = w.heap[b]?) → LeavesInM Fence.wide 5 Try.prog fn tmps R rest u w') →
    LeavesInM Fence.wide 5 Try.prog fn tmps R (ds.map mkD ++ rest) u w
  | [], w, _, _, h => h w ⟨rfl, rfl, rfl, rfl, fun _ _ => rfl⟩
  | D :: ds, w, hn, hd, h => by
    obtain ⟨hD, hn'⟩ := List.nodup_cons.1 hn
    refine ⟨hu, .inl ⟨D, _, rfl, run_takeDeferred (hd D (by simp)).2, ?_⟩⟩
    refine leaves_marks B u hu rest ds _ hn' (fun E hE => ⟨(hd E (by simp [hE])).1, ?_⟩) (fun w' ⟨h1, h2, h3, h4, h5⟩ => h w' ⟨by simpa using h1, h2, h3, h4, fun b hb => (h5 b (fun E hE => hb E (by simp [hE]))).trans (World.putObj_heap_other (hb D (by simp)))⟩)
    exact (World.putObj_heap_other (fun e => hD (by rw [← e]; exact hE))).trans (hd E (by simp [hE])).2

theorem make_ints (n : Int) (h0 : 0 ≤ n) (hn : n ≤ 65536) (w : World) : (Instr.makeSlice 22 (.int .i64 n) (.int .i64 n)).run Try.prog w = .ok (.slice (some ⟨w.heap.size, 0, none⟩) n.toNat n.toNat) (w.alloc (.cells (intsV (List.replicate n.toNat 0)) 3)) := by
  obtain ⟨k, rfl⟩ : ∃ k : Nat, n = k := ⟨n.toNat, by omega⟩
  have hq : (Try.prog.info? 3).map (fun i => (i.size, i.bytes, i.zero)) = some (1, 8, some (.int .i64 0)) := by kernel_rfl
  obtain ⟨i, hi, he⟩ := Option.map_eq_some_iff.1 hq
  obtain ⟨hs, hb, hz⟩ : i.size = 1 ∧ i.bytes = 8 ∧ i.zero = some (.int .i64 0) := by simpa using he
  have hr := run_make (P := Try.prog) w 22 3 i _ (by kernel_rfl) hi hz .i64 .i64 k k (by omega) (by omega) (by rw [hb]; omega) (by omega)
  rw [hr]
  simp only [Int.toNat_natCast, hs, Nat.mul_one]
  have hm : madeCells #[.int .i64 0] k = intsV (List.replicate k 0) := by
    apply Array.ext
    · simp [madeCells]
    · intro i h1 h2
      simp [madeCells, Nat.mod_one]
  exact congrArg (fun c => Result.ok (Value.slice (some ⟨w.heap.size, 0, none⟩) k k) (w.alloc (.cells c 3))) hm

theorem find_first {α : Type} {p : α → Bool} {l pre0 post : List α} {x : α} (h : pre0 ++ [x] ++ post = l) (h1 : ∀ y, y ∈ pre0 → p y = false) (h2 : p x = true) : l.find? p = some x := by
  subst h
  rw [List.append_assoc, List.find?_append, List.find?_eq_none.2 (fun y hy => by simp [h1 y hy])]
  simp [h2]

theorem take_set_succ {l : List Int} {k : Nat} {r : Int} (h : k < l.length) : (l.set k r).take (k + 1) = l.take k ++ [r] := by
  rw [List.take_add_one, List.take_set, List.set_eq_of_length_le (by simp; omega), List.getElem?_set_self (by simpa using h)]
  rfl

set_option maxRecDepth 100000 in
set_option maxHeartbeats 2000000 in
theorem Best_bad (M : Mend) (hv : M.valid = false) (sv jv : Value) (w : World) (hS : IntsAt w sv M.setup) (hJ : JobsAt w jv M.jobs) :
    Calls Try.prog 26 #[.agg #[sv, jv]] w fun e w' => e = .returned (.tuple #[.int .i64 0, .slice none 0 0, .int .i64 1]) ∧ Below w.heap.size w w' := by
  have hv' := hid hv
  clear hv
  have hS' := hid hS
  have hJ' := hid hJ
  obtain ⟨sa, scap, rfl, _⟩ := hS
  obtain ⟨ja, jcap, rfl, _⟩ := hJ
  have hk := KeepT.start w (.slice sa M.setup.length scap) (.slice ja M.jobs.length jcap)
  refine calls_of_wp_marks 5 Try.func26 rfl ?_
  simp only [Try.ntmps26, List.size_toArray, List.length_cons, List.length_nil, Nat.reduceAdd, Nat.reduceSub, Array.replicate_succ, Array.replicate_zero, List.push_toArray, List.append_toArray, List.nil_append, List.cons_append]
  go_upto_region 2 with fail
  generalize ((w.alloc (.cells #[.slice sa M.setup.length scap, .slice ja M.jobs.length jcap] 25)).alloc (.cells #[.int .i64 0] 29)) = w1 at hk ⊢
  obtain ⟨lm, cm⟩ := cells_of hk.m
  go_wp2_with (go_at_call 47; refine (open_always (hS'.out.below hk.bel) (hJ'.out.below hk.bel)).mono ?_; intro e w3 hp; obtain ⟨he, hb3⟩ := openPost_arg hv'.out hp; subst he; clear hp)
  have hk3 := hk.below hb3
  obtain ⟨l7, c7⟩ := cells_of hk3.e
  have z7 := free_of hk3.e
  refine leaves_told (by omega) (by simp) ?_
  refine (told_panicking_in 4 (w.heap.size + 1) 1 0 _ l7 (by rw [c7]; rfl) (z7 0)).mono ?_
  rintro e u' w'' ⟨rfl, rfl, rfl⟩
  have hfin : Below w.heap.size w ((w3.setCell ⟨w.heap.size + 1, 0, none⟩ (.int .i64 1)).alloc (.cells #[.int .i64 1] 107)) := below_alloc (below_set hk3.bel _ (by simp)) _
  simp [LeavesInM, LeavesIn, settle, results, Try.results26, go_sem, c7, hfin, l7]

set_option maxRecDepth 100000 in
set_option maxHeartbeats 4000000 in
theorem Best_none (M : Mend) (hv : M.valid = true) (ho : found M 0 (costG M) (restN M 0) Bench.begin = none) (sv jv : Value) (w : World) (hS : IntsAt w sv M.setup) (hJ : JobsAt w jv M.jobs) :
    Calls Try.prog 26 #[.agg #[sv, jv]] w fun e w' => e = .returned (.tuple #[.int .i64 0, .slice none 0 0, .int .i64 4]) ∧ Below w.heap.size w w' := by
  have hv' := hid hv
  have ho' := hid ho
  have hM := hid (Mend.valid_ok hv)
  clear hv ho
  have hS' := hid hS
  have hJ' := hid hJ
  obtain ⟨sa, scap, rfl, _⟩ := hS
  obtain ⟨ja, jcap, rfl, _⟩ := hJ
  have hk := KeepT.start w (.slice sa M.setup.length scap) (.slice ja M.jobs.length jcap)
  refine calls_of_wp_marks 5 Try.func26 rfl ?_
  simp only [Try.ntmps26, List.size_toArray, List.length_cons, List.length_nil, Nat.reduceAdd, Nat.reduceSub, Array.replicate_succ, Array.replicate_zero, List.push_toArray, List.append_toArray, List.nil_append, List.cons_append]
  go_upto_region 2 with fail
  generalize ((w.alloc (.cells #[.slice sa M.setup.length scap, .slice ja M.jobs.length jcap] 25)).alloc (.cells #[.int .i64 0] 29)) = w1 at hk ⊢
  obtain ⟨lm, cm⟩ := cells_of hk.m
  go_upto_region 4 with (first
    | (go_at_call 47; refine (open_always (hS'.out.below hk.bel) (hJ'.out.below hk.bel)).mono ?_; intro e w3 hp; obtain ⟨sb, he, hsb, hsc, hb3⟩ := openPost_yes hv'.out hp; subst he; clear hp; have hk3 := hk.below hb3; have hsh : ShopAt w3 sb M 0 := ⟨_, _, hsc, hS'.out.below hk3.bel, hJ'.out.below hk3.bel⟩; have hbw3 := below_alloc (Below.refl w3.heap.size w3) (.cells #[.pointer (some ⟨sb, 0, none⟩)] 66); have hbx3 : (w3.alloc (.cells #[.pointer (some ⟨sb, 0, none⟩)] 66)).heap[w3.heap.size]? = some (.cells #[.pointer (some ⟨sb, 0, none⟩)] 66 (0, 0)) := alloc_at rfl; have hsu := (hsh.below hbw3).under; have hok := best_ok M hM.out 0 ((w3.alloc (.cells #[.pointer (some ⟨sb, 0, none⟩)] 66)).heap.size, (w3.alloc (.cells #[.pointer (some ⟨sb, 0, none⟩)] 66)).heap.size) sb w3.heap.size (by simp) (by simp))
    | (go_at_call 64; refine (find_any _ sb (bestFns w3.heap.size) (costG M) M 0 (BestE M 0 ((w3.alloc (.cells #[.pointer (some ⟨sb, 0, none⟩)] 66)).heap.size, (w3.alloc (.cells #[.pointer (some ⟨sb, 0, none⟩)] 66)).heap.size) sb w3.heap.size) _ hok hsu ⟨hbx3, hsu⟩).mono ?_; intro e w4 hp; obtain ⟨rx, gb, ab, ob, m, he, hE, hb4⟩ := hp; subst he; have hk4 := (hk3.below hbw3).below hb4))
  have hof := alloc_at (w := w4) (o := .cells #[onV rx gb ab ob] 82) rfl
  have hb44 := below_alloc (Below.refl _ w4) (.cells #[onV rx gb ab ob] 82)
  generalize w4.alloc (.cells #[onV rx gb ab ob] 82) = w5 at hof hb44 ⊢
  refine wp_region_seg (by kernel_rfl) ?_
  intro w6 hb6
  have hof6 := (hb6.block _ (cells_of hof).1).trans hof
  obtain ⟨l6, c6⟩ := cells_of hof6
  have hb46 := below_via hb6 hb44
  refine wpSeg_barrier_later 0 2 _ rfl (by kernel_rfl) ?_
  intro hx
  simp only [List.take_succ_cons, List.take_zero, List.drop_zero, Nat.reduceSub]
  repeat (any_goals (first | go_big_quiet_step ((go_at_call 58; exact Calls.later (begin_any _))) | quiet_step ((go_at_call 58; exact Calls.later (begin_any _)))))
  refine wpQuiet_nil ?_
  rintro w7 ⟨x, hxw⟩
  have hb7 := x.below
  rw [← hxw] at hb7
  clear hx hxw x
  have hb47 := below_via hb7 hb46
  have hE7 := hE.keep hok (KeepI.of_below hE.m hb47)
  have hk7 := hk4.below hb47
  have hof7 := (hb7.block _ l6).trans hof6
  clear l6 c6 hof6
  go_wp2_with (go_at_call 86; refine (on_any rx gb ab ob sb m _ (bestFns w3.heap.size) (costG M) M hM.out 0 (by decide) _ hok (restN M 0) Bench.begin 0 (-1) _ (begin_work hM.out 0) hE7).mono ?_; rw [ho'.out]; intro e w8 hp; obtain ⟨he, hki⟩ := hp; subst he)
  have hmg : w3.heap.size < m := by have := hE.ge; simp at this; omega
  have hw3 : w.heap.size + 2 ≤ w3.heap.size := (cells_of hk3.e).1
  have hk8 := hk7.keepI hki (by omega)
  refine wpSeg_end_later 3 (by kernel_rfl) ?_
  intro hx
  simp only [List.drop_succ_cons, List.drop_zero]
  repeat (any_goals (first | go_big_quiet_step (fail) | quiet_step (fail)))
  refine wpQuiet_nil ?_
  rintro w9 ⟨x, hxw⟩
  have hb9 := x.below
  rw [← hxw] at hb9
  clear hx hxw x
  have hk9 := hk8.below hb9
  go_wp2_with (go_at_call 52; with_reducible refine (must_no _ _).mono ?_; rintro e w' ⟨rfl, rfl⟩)
  obtain ⟨l7, c7⟩ := cells_of hk9.e
  have z7 := free_of hk9.e
  refine leaves_told (by omega) (by simp) ?_
  refine (told_panicking_in 4 (w.heap.size + 1) 4 0 _ l7 (by rw [c7]; rfl) (z7 0)).mono ?_
  rintro e u' w'' ⟨rfl, rfl, rfl⟩
  have hfin : Below w.heap.size w ((w9.setCell ⟨w.heap.size + 1, 0, none⟩ (.int .i64 4)).alloc (.cells #[.int .i64 4] 107)) := below_alloc (below_set hk9.bel _ (by simp)) _
  simp [LeavesInM, LeavesIn, settle, results, Try.results26, go_sem, c7, hfin, l7]

set_option maxRecDepth 100000 in
set_option maxHeartbeats 8000000 in
theorem Best_some (M : Mend) (hv : M.valid = true) (v : Int) (ho : found M 0 (costG M) (restN M 0) Bench.begin = some v) (sv jv : Value) (w : World) (hS : IntsAt w sv M.setup) (hJ : JobsAt w jv M.jobs) :
    Calls Try.prog 26 #[.agg #[sv, jv]] w fun e w' => ∃ sv', e = .returned (.tuple #[.int .i64 v, sv', .int .i64 0]) ∧ NewInts w.heap.size w' sv' (ints (pick M 0 (costG M) (restN M 0) Bench.begin v)) ∧ Below w.heap.size w w' := by
  have hv' := hid hv
  have ho' := hid ho
  have hM := hid (Mend.valid_ok hv)
  clear hv ho
  have hS' := hid hS
  have hJ' := hid hJ
  obtain ⟨sa, scap, rfl, _⟩ := hS
  obtain ⟨ja, jcap, rfl, _⟩ := hJ
  have hk := KeepT.start w (.slice sa M.setup.length scap) (.slice ja M.jobs.length jcap)
  refine calls_of_wp_marks 5 Try.func26 rfl ?_
  simp only [Try.ntmps26, List.size_toArray, List.length_cons, List.length_nil, Nat.reduceAdd, Nat.reduceSub, Array.replicate_succ, Array.replicate_zero, List.push_toArray, List.append_toArray, List.nil_append, List.cons_append]
  go_upto_region 2 with fail
  generalize ((w.alloc (.cells #[.slice sa M.setup.length scap, .slice ja M.jobs.length jcap] 25)).alloc (.cells #[.int .i64 0] 29)) = w1 at hk ⊢
  obtain ⟨lm, cm⟩ := cells_of hk.m
  go_upto_region 4 with (first
    | (go_at_call 47; refine (open_always (hS'.out.below hk.bel) (hJ'.out.below hk.bel)).mono ?_; intro e w3 hp; obtain ⟨sb, he, hsb, hsc, hb3⟩ := openPost_yes hv'.out hp; subst he; clear hp; have hk3 := hk.below hb3; have hsh : ShopAt w3 sb M 0 := ⟨_, _, hsc, hS'.out.below hk3.bel, hJ'.out.below hk3.bel⟩; have hbw3 := below_alloc (Below.refl w3.heap.size w3) (.cells #[.pointer (some ⟨sb, 0, none⟩)] 66); have hbx3 : (w3.alloc (.cells #[.pointer (some ⟨sb, 0, none⟩)] 66)).heap[w3.heap.size]? = some (.cells #[.pointer (some ⟨sb, 0, none⟩)] 66 (0, 0)) := alloc_at rfl; have hsu := (hsh.below hbw3).under; have hok := best_ok M hM.out 0 ((w3.alloc (.cells #[.pointer (some ⟨sb, 0, none⟩)] 66)).heap.size, (w3.alloc (.cells #[.pointer (some ⟨sb, 0, none⟩)] 66)).heap.size) sb w3.heap.size (by simp) (by simp))
    | (go_at_call 64; refine (find_any _ sb (bestFns w3.heap.size) (costG M) M 0 (BestE M 0 ((w3.alloc (.cells #[.pointer (some ⟨sb, 0, none⟩)] 66)).heap.size, (w3.alloc (.cells #[.pointer (some ⟨sb, 0, none⟩)] 66)).heap.size) sb w3.heap.size) _ hok hsu ⟨hbx3, hsu⟩).mono ?_; intro e w4 hp; obtain ⟨rx, gb, ab, ob, m, he, hE, hb4⟩ := hp; subst he; have hk4 := (hk3.below hbw3).below hb4))
  have hof := alloc_at (w := w4) (o := .cells #[onV rx gb ab ob] 82) rfl
  have hb44 := below_alloc (Below.refl _ w4) (.cells #[onV rx gb ab ob] 82)
  generalize w4.alloc (.cells #[onV rx gb ab ob] 82) = w5 at hof hb44 ⊢
  refine wp_region_seg (by kernel_rfl) ?_
  intro w6 hb6
  have hof6 := (hb6.block _ (cells_of hof).1).trans hof
  obtain ⟨l6, c6⟩ := cells_of hof6
  have hb46 := below_via hb6 hb44
  refine wpSeg_barrier_later 0 2 _ rfl (by kernel_rfl) ?_
  intro hx
  simp only [List.take_succ_cons, List.take_zero, List.drop_zero, Nat.reduceSub]
  repeat (any_goals (first | go_big_quiet_step ((go_at_call 58; exact Calls.later (begin_any _))) | quiet_step ((go_at_call 58; exact Calls.later (begin_any _)))))
  refine wpQuiet_nil ?_
  rintro w7 ⟨x, hxw⟩
  have hb7 := x.below
  rw [← hxw] at hb7
  clear hx hxw x
  have hb47 := below_via hb7 hb46
  have hE7 := hE.keep hok (KeepI.of_below hE.m hb47)
  have hk7 := hk4.below hb47
  have hof7 := (hb7.block _ l6).trans hof6
  clear l6 c6 hof6
  go_wp2_with (go_at_call 86; refine (on_any rx gb ab ob sb m _ (bestFns w3.heap.size) (costG M) M hM.out 0 (by decide) _ hok (restN M 0) Bench.begin 0 (-1) _ (begin_work hM.out 0) hE7).mono ?_; rw [ho'.out]; intro e w8 hp; obtain ⟨he, hki⟩ := hp; subst he)
  have hmg : w3.heap.size < m := by have := hE.ge; simp at this; omega
  have hw3 : w.heap.size + 2 ≤ w3.heap.size := (cells_of hk3.e).1
  have hk8 := hk7.keepI hki (by omega)
  refine wpSeg_end_later 3 (by kernel_rfl) ?_
  intro hx
  simp only [List.drop_succ_cons, List.drop_zero]
  repeat (any_goals (first | go_big_quiet_step (fail) | quiet_step (fail)))
  refine wpQuiet_nil ?_
  rintro w9 ⟨x, hxw⟩
  have hb9 := x.below
  rw [← hxw] at hb9
  clear hx hxw x
  have hk9 := hk8.below hb9
  have hE8 := hE7.keep hok hki
  have hE9 := hE8.keep hok (KeepI.of_below hE8.m hb9)
  have hof9 := (hb9.block _ (heap_lt (hki.blk hE7.m hof7))).trans (hki.blk hE7.m hof7)
  have hml9 : m < w9.heap.size := by obtain ⟨_, _, h, _⟩ := hE9.m; exact heap_lt h
  go_upto_region 8 with (first
    | (go_at_call 52; with_reducible refine (must_yes _ _).mono ?_; rintro e w' ⟨rfl, rfl⟩)
    | (go_at_call 58; with_reducible refine (begin_any _).mono ?_; rintro e wa ⟨rfl, hba⟩))
  have hlen := hM.out.len
  have hrest : Hid (restN M 0 = M.jobs.length) := hid (free_none _)
  have hBeq : (w3.alloc (.cells #[.pointer (some ⟨sb, 0, none⟩)] 66)).heap.size = w3.heap.size + 1 := by simp
  obtain ⟨B, hB⟩ : ∃ B : Nat, (w3.alloc (.cells #[.pointer (some ⟨sb, 0, none⟩)] 66)).heap.size = B := ⟨_, rfl⟩
  rw [hB] at hE9 hok hBeq
  have hbl := alloc_at (w := w9) (o := .cells #[.int .i64 0, .int .i64 0, .int .i64 0, .int .i64 0, .int .i64 0, .int .i64 0] 98) rfl
  have hb9a := below_via hba (below_alloc (Below.refl w9.heap.size w9) (.cells #[.int .i64 0, .int .i64 0, .int .i64 0, .int .i64 0, .int .i64 0, .int .i64 0] 98))
  have hbla := (hba.block _ (heap_lt hbl)).trans hbl
  have hfin := below_alloc (below_alloc (Below.refl wa.heap.size wa) (.cells (wcells Bench.begin 0 (-1)) 74)) (.cells #[.int .i64 v] 3)
  have hb9f := below_via hfin hb9a
  have hP0 : PlanI ⟨rx, gb, ab, ob, m, w4.heap.size, w3.heap.size, wa.heap.size, w9.heap.size, wa.heap.size + 1⟩ sb (B, B) M (.slice sa M.setup.length scap) (.slice ja M.jobs.length jcap) w [] ((wa.alloc (.cells (wcells Bench.begin 0 (-1)) 74)).alloc (.cells #[.int .i64 v] 3)).heap.size none Bench.begin 0 (-1) v [0, 0, 0, 0, 0, 0] ((wa.alloc (.cells (wcells Bench.begin 0 (-1)) 74)).alloc (.cells #[.int .i64 v] 3)) := by
    have hk9f := hk9.below hb9f
    have hmm := heap_lt hof9
    have hz := hb9a.size
    have hz2 := hE9.le
    have hmg2 := hE9.ge
    simp only at hz2 hmg2
    exact ⟨hk9f.bel, hE9.keep hok (KeepI.of_below hE9.m hb9f), (hb9f.block _ hmm).trans hof9, alloc_old (by simp) (alloc_at rfl), (hfin.block _ (heap_lt hbla)).trans hbla, alloc_at (by simp), hk9f.m, hk9f.e, fun _ _ e => (by cases e), by simp, by simp,
      ⟨by simp only; omega, by simp only; omega, by simp only; omega, by simp only; omega, by simp; omega, rfl, by simp only; omega⟩, Nat.le_refl _⟩
  have hPb := hid hP0
  clear hE9 hof9 hbl hbla hb9a hb9f hfin hk9 hE8 hE7 hk8 hk7 hof7 hE hk4 hb44 hof hb46 hb6 hb7 hb9 hki hP0
  generalize ((wa.alloc (.cells (wcells Bench.begin 0 (-1)) 74)).alloc (.cells #[.int .i64 v] 3)) = wl at hPb ⊢
  obtain ⟨lm9, cm9⟩ := cells_of hPb.out.mm
  go_wp2
  refine wp_loop_ghost (fun n a W => ∃ (ds : List Nat) (k : Nat) (b : Bench) (soon last want : Int) (l : List Int) (x12 x37 x38 x39 x40 x41 x66 : Value), a = { tmps := #[.agg #[.slice sa M.setup.length scap, .slice ja M.jobs.length jcap], .pointer (some ⟨w.heap.size, 0, none⟩), .int .i64 0, .slice none 0 0, .pointer (some ⟨w.heap.size + 1, 0, none⟩), .pointer (some ⟨w3.heap.size, 0, none⟩), .pointer (some ⟨w4.heap.size, 0, none⟩), .int .i64 v, .bool true, .pointer (some ⟨w9.heap.size, 0, none⟩), .pointer (some ⟨wa.heap.size, 0, none⟩), .pointer (some ⟨wa.heap.size + 1, 0, none⟩), x12, undef, undef, undef, undef, .agg #[.slice sa M.setup.length scap, .slice ja M.jobs.length jcap], .pointer (some ⟨sb, 0, none⟩), .pointer (some ⟨sb, 0, none⟩), .func (.func 66) #[] #[.pointer (some ⟨w3.heap.size, 0, none⟩)], .agg #[.func (.func 65) #[] #[], .func (.func 66) #[] #[.pointer (some ⟨w3.heap.size, 0, none⟩)], .func (.func 69) #[] #[]], onV rx gb ab ob, .tuple #[.int .i64 v, .bool true], onV rx gb ab ob, workV Bench.begin 0 (-1), .tuple #[.int .i64 v, .bool true], .int .i64 v, .bool true, .bool true, .tuple #[], workV Bench.begin 0 (-1), .int .i64 v, .pointer (some ⟨w.heap.size, 1, none⟩), .slice ja M.jobs.length jcap, .int .i64 M.jobs.length, .int .i64 (k : Nat), x37, x38, x39, x40, x41, undef, undef, undef, undef, undef, undef, undef, undef, undef, undef, undef, undef, undef, undef, undef, undef, undef, undef, undef, undef, undef, undef, undef, undef, x66, undef, undef, undef, undef, undef, undef, undef, undef, undef], defers := ds.map mkD ++ [{ target := .fn (.func 46) #[], args := #[.pointer (some ⟨w.heap.size + 1, 0, none⟩)] }] } ∧
    PlanI ⟨rx, gb, ab, ob, m, w4.heap.size, w3.heap.size, wa.heap.size, w9.heap.size, wa.heap.size + 1⟩ sb (B, B) M (.slice sa M.setup.length scap) (.slice ja M.jobs.length jcap) w ds W.heap.size none b soon last want l W ∧ n = M.jobs.length - k ∧ k ≤ M.jobs.length ∧ WorkIn M 0 (M.jobs.length - k) b soon ∧ Hid (found M 0 (costG M) (M.jobs.length - k) b = some want) ∧ Hid (l.length = 6) ∧
    Hid (ints (pick M 0 (costG M) M.jobs.length Bench.begin v) = l.take k ++ ints (pick M 0 (costG M) (M.jobs.length - k) b want))) M.jobs.length ?_ ?_
  · exact ⟨[], 0, Bench.begin, 0, -1, v, [0, 0, 0, 0, 0, 0], undef, undef, undef, undef, undef, undef, undef, rfl, hPb.out.wider (Nat.le_refl _) (Nat.le_refl _) |> fun h => h, by omega, by omega, by have h := begin_work hM.out 0; rw [hrest.out] at h; exact h, hid (by have h := ho'.out; rw [hrest.out] at h; exact h), hid rfl, hid (by simp)⟩
  · rintro n a W ⟨ds, k, b, soon, last, want, l, x12, x37, x38, x39, x40, x41, x66, rfl, hI, rfl, hk, hwi, hfo, hll, hpk⟩
    by_cases hlt : k < M.jobs.length
    · have hki : (k : Int) < (M.jobs.length : Int) := by omega
      have hIp := hI.put (k : Nat)
      obtain ⟨lb, cb2⟩ := cells_of hIp.env.e.1
      obtain ⟨lc, cc⟩ := cells_of hIp.st
      obtain ⟨n, hn⟩ : ∃ n, M.jobs.length - k = n + 1 := ⟨M.jobs.length - k - 1, by omega⟩
      go_wp2_with (go_at_call 60; refine (steps_at sb b soon last _).mono ?_; rintro e W5 ⟨sbx, rbx, rfl, hb5, hsb5, hrb5, hcs, hcr⟩)
      have hz5 : W.heap.size + 1 ≤ W5.heap.size := by have := hb5.size; simpa using this
      have hsb' : W.heap.size + 1 ≤ sbx := by simpa using hsb5
      have hrb' : W.heap.size + 1 ≤ rbx := by simpa using hrb5
      have hI5 := (hIp.below hb5).wider (sz' := W5.heap.size) (by omega) (Nat.le_refl _)
      have hl1 := heap_lt hcs
      have hl2 := heap_lt hcr
      have hmW : m < W.heap.size := hI.nn.2.2.2.2.1
      have hBW : B ≤ W.heap.size := hI.env.le
      have hBm : B ≤ m := hI.env.ge
      have hwi' := hwi
      rw [hn] at hwi'
      clear cc cb2
      refine (wpIn_wide (n := 5)).1 (wpIn_rangeFunc_ownH (α := Step M 0 b) (encs := encStep soon) (w0 := W5) rfl (by omega) (gf := 85) (lb := #[.pointer (some ⟨rbx, 0, none⟩), .pointer (some ⟨sbx, 0, none⟩)]) rfl trivial (enters_of Try.func85 (by kernel_rfl) rfl)
        (steps_stops 4 (by omega) sbx rbx sb (B, B) M hM.out 0 (by decide) b soon last n (.inr hwi') W5 hcs hcr hI5.env.sh) stepKp_t (stepKp_b (by omega) (by omega) (by simp only; omega)) (Below.refl _ _) (fun _ => rfl)
        (fun pre W' => PlanI ⟨rx, gb, ab, ob, m, w4.heap.size, w3.heap.size, wa.heap.size, w9.heap.size, wa.heap.size + 1⟩ sb (B, B) M (.slice sa M.setup.length scap) (.slice ja M.jobs.length jcap) w ds W5.heap.size (some (W.heap.size, (k : Nat))) b soon last want l W' ∧ Hid (∀ x, x ∈ pre → takes M 0 (costG M) n want x.1 = false))
        (fun c pre W' => c = .exit 2 ∧ ∃ pre0 x, pre = pre0 ++ [x] ∧ Hid (∀ y, y ∈ pre0 → takes M 0 (costG M) n want y.1 = false) ∧ Hid (takes M 0 (costG M) n want x.1 = true) ∧ PlanI ⟨rx, gb, ab, ob, m, w4.heap.size, w3.heap.size, wa.heap.size, w9.heap.size, wa.heap.size + 1⟩ sb (B, B) M (.slice sa M.setup.length scap) (.slice ja M.jobs.length jcap) w ds W5.heap.size (some (W.heap.size, (k : Nat))) x.1.2 (M.ends b.kind soon (M.job x.1.1) (M.job x.1.1).lo) x.1.1 ((found M 0 (costG M) n x.1.2).getD 0) (l.set k x.1.1) W')
        ?hI ?hIx ⟨hI5, hid (by simp)⟩
        (fun x a' W' => ∃ bx, W5.heap.size ≤ bx ∧ W'.heap[bx]? = some (.cells (wcells x.1.2 (M.ends b.kind soon (M.job x.1.1) (M.job x.1.1).lo) x.1.1) 74 (0, 0)) ∧ a' = { tmps := #[.agg #[.slice sa M.setup.length scap, .slice ja M.jobs.length jcap], .pointer (some ⟨w.heap.size, 0, none⟩), .int .i64 0, .slice none 0 0, .pointer (some ⟨w.heap.size + 1, 0, none⟩), .pointer (some ⟨w3.heap.size, 0, none⟩), .pointer (some ⟨w4.heap.size, 0, none⟩), .int .i64 v, .bool true, .pointer (some ⟨w9.heap.size, 0, none⟩), .pointer (some ⟨wa.heap.size, 0, none⟩), .pointer (some ⟨wa.heap.size + 1, 0, none⟩), .pointer (some ⟨W.heap.size, 0, none⟩), .int .i64 x.1.1, .pointer (some ⟨bx, 0, none⟩), undef, undef, .agg #[.slice sa M.setup.length scap, .slice ja M.jobs.length jcap], .pointer (some ⟨sb, 0, none⟩), .pointer (some ⟨sb, 0, none⟩), .func (.func 66) #[] #[.pointer (some ⟨w3.heap.size, 0, none⟩)], .agg #[.func (.func 65) #[] #[], .func (.func 66) #[] #[.pointer (some ⟨w3.heap.size, 0, none⟩)], .func (.func 69) #[] #[]], onV rx gb ab ob, .tuple #[.int .i64 v, .bool true], onV rx gb ab ob, workV Bench.begin 0 (-1), .tuple #[.int .i64 v, .bool true], .int .i64 v, .bool true, .bool true, .tuple #[], workV Bench.begin 0 (-1), .int .i64 v, .pointer (some ⟨w.heap.size, 1, none⟩), .slice ja M.jobs.length jcap, .int .i64 M.jobs.length, .int .i64 (k : Nat), .bool true, .int .i64 (k : Nat), .pointer (some ⟨sb, 0, none⟩), workV b soon last, .func (.func 85) #[] #[.pointer (some ⟨rbx, 0, none⟩), .pointer (some ⟨sbx, 0, none⟩)], .int .i64 x.1.1, workV x.1.2 (M.ends b.kind soon (M.job x.1.1) (M.job x.1.1).lo) x.1.1, undef, undef, undef, undef, undef, undef, undef, undef, undef, undef, undef, undef, undef, undef, undef, undef, undef, undef, undef, undef, undef, undef, x66, undef, undef, undef, undef, undef, undef, undef, undef, undef], defers := [] })
        ?hAx ?assign ?body ?done ?stop)
      case hI =>
        rintro pre A C row ⟨h1, h2⟩ hg' hr
        exact ⟨h1.grown hg' hr, h2⟩
      case hIx =>
        rintro c pre A C row ⟨h0, pre0, x, h1, h2, h3, h4⟩ hg' hr
        exact ⟨h0, pre0, x, h1, h2, h3, h4.grown hg' hr⟩
      case hAx =>
        rintro x a' _ A C row ⟨bx, h1, h2, h3⟩ hg' hr
        refine ⟨bx, h1, (hg'.block bx (cells_of h2).1 ?_).trans h2, h3⟩
        intro e
        obtain ⟨_, o, ho, hc⟩ := hr bx e.symm
        rw [h2] at ho; cases ho; cases hc
      case assign =>
        rintro l0 pre x W' K ⟨hi, hi2⟩ hK
        gi_wp2
        exact hK _ _ ((keepsFrom_below (below_alloc (Below.refl _ _) _))) (stepKp_below (below_alloc (Below.refl _ _) _)) ⟨hi.below (below_alloc (Below.refl _ _) _), hi2⟩ ⟨W'.heap.size, hi.szl, alloc_at rfl, rfl⟩
      case body =>
        rintro l0 pre x a' W' hl _ ⟨hP, hpre⟩ ⟨bx, hbx, hxc, rfl⟩ _
        have hx := mem_stepsTo.1 x.2
        have hnin := hwi'.next hM.out hx.1 hx.2.1
        rw [← hx.2.2.1] at hnin
        obtain ⟨q1, d1⟩ := cells_of hP.clo
        obtain ⟨q2, d2⟩ := cells_of hxc
        have HC := hid (on_any rx gb ab ob sb m (B, B) (bestFns w3.heap.size) (costG M) M hM.out 0 (by decide) _ hok n x.1.2 _ x.1.1 W' hnin hP.env)
        have hx' := hid hx
        have hnin' := hid hnin
        clear hx hnin
        gi_wp2_with fail
        refine ⟨trivial, ?_⟩
        with_reducible refine (CallsIn.inRound l0 ((callsIn_wide (n := 2)).2 HC.out)).mono ?_
        intro e W1 hp
        obtain ⟨he, hk1⟩ := hp
        subst he
        have hP1 := hP.keep hk1
        have hxc1 := hk1.blk hP.env.m hxc
        have hf1 : KeepsFrom W5.heap.size W' W1 := KeepsFrom.of_grownBy hk1.1 (fun j e => by cases e; omega)
        have hp1 : StepKp sbx rbx (B, B) W' W1 := ⟨hk1.1.size, fun k hk o ho => (hk1.1.block k (Array.getElem?_eq_some_iff.1 ho).1 (by
          intro e; cases e
          simp only at hk
          rcases hk with h | h | h <;> omega)).trans ho⟩
        clear d1 d2
        cases hfx : found M 0 (costG M) n x.1.2 with
        | none =>
          have hfx' := hid hfx
          clear hfx
          gi_wp2
          refine wpIn_region_later_round (by kernel_rfl) (by kernel_rfl) (by kernel_rfl) ?_
          intro hx
          repeat (any_goals (first | go_big_quiet_step (fail) | quiet_step (fail)))
          refine wpQuiet_nil ?_
          rintro w2 ⟨x2, hxw⟩
          have hb2 := x2.below
          rw [← hxw] at hb2
          clear hx hxw x2
          gi_wp2
          refine ⟨hf1.trans (keepsFrom_below hb2), stepKp_t hp1 (stepKp_below hb2), hP1.below hb2, hid ?_⟩
          intro z hz
          rcases List.mem_append.1 hz with hz | hz
          · exact hpre.out z hz
          · obtain rfl := List.mem_singleton.1 hz
            simp [takes, hfx'.out]
        | some y =>
          have hfx' := hid hfx
          clear hfx
          obtain ⟨q3, d3⟩ := cells_of hP1.env.e.1
          obtain ⟨q5, d5⟩ := cells_of hxc1
          obtain ⟨q6, d6⟩ := cells_of hP1.wa
          have hS1 : W1.drew.heap[w3.heap.size]? = some (.cells #[.pointer (some ⟨sb, 0, none⟩)] 66 (0, 0)) ∧ W1.drew.heap[bx]? = some (.cells (wcells x.1.2 (M.ends b.kind soon (M.job x.1.1) (M.job x.1.1).lo) x.1.1) 74 (0, 0)) ∧ W1.drew.heap[wa.heap.size + 1]? = some (.cells #[.int .i64 want] 3 (0, 0)) := ⟨hP1.env.e.1, hxc1, hP1.wa⟩
          by_cases hq : (costG M).step x.1.2 x.1.1 y = want
          · have hq1 : (wrap64 (y + M.pays x.1.2 x.1.1) == want) = true := by rw [beq_iff_eq]; exact hq
            gi_wp2
            refine wpIn_region_round (by kernel_rfl) (by kernel_rfl) (by rintro ⟨_, _, h⟩; exact h) ?_
            refine wpAny_of_held (S := fun W2 => W2.heap[w3.heap.size]? = some (.cells #[.pointer (some ⟨sb, 0, none⟩)] 66 (0, 0)) ∧ W2.heap[bx]? = some (.cells (wcells x.1.2 (M.ends b.kind soon (M.job x.1.1) (M.job x.1.1).lo) x.1.1) 74 (0, 0)) ∧ W2.heap[wa.heap.size + 1]? = some (.cells #[.int .i64 want] 3 (0, 0))) _ _ _ _ ?_
            refine wpAnyH_take (i := 0) (v := .bool true) rfl (by kernel_rfl) (by kernel_rfl) (by kernel_rfl) (fun _ _ _ h => h) (Or.inl ⟨by rfl, fun _ _ => by go_simp⟩) hS1 ?_
            refine wpAnyH_take (i := 1) (v := .bool true) rfl (by kernel_rfl) (by kernel_rfl) (by kernel_rfl) (fun _ _ _ h => h) (Or.inl ⟨by rfl, fun _ _ => by go_simp⟩) hS1 ?_
            refine wpAnyH_take (i := 2) (v := .int .i64 y) rfl (by kernel_rfl) (by kernel_rfl) (by kernel_rfl) (fun _ _ _ h => h) (Or.inl ⟨by rfl, fun _ _ => by go_simp⟩) hS1 ?_
            refine wpAnyH_take (i := 3) (v := .pointer (some ⟨sb, 0, none⟩)) rfl (by kernel_rfl) (by kernel_rfl) (by kernel_rfl) (fun _ _ _ h => h) (Or.inl ⟨by rfl, fun W2 hW => by obtain ⟨h1, h2, h3⟩ := hW; obtain ⟨lq, cq⟩ := cells_of h1; go_simp⟩) hS1 ?_
            refine wpAnyH_take (i := 4) (v := workV x.1.2 (M.ends b.kind soon (M.job x.1.1) (M.job x.1.1).lo) x.1.1) rfl (by kernel_rfl) (by kernel_rfl) (by kernel_rfl) (fun _ _ _ h => h) (Or.inl ⟨by rfl, fun W2 hW => by obtain ⟨h1, h2, h3⟩ := hW; obtain ⟨lq, cq⟩ := cells_of h2; go_simp⟩) hS1 ?_
            refine wpAnyH_take (i := 8) (v := .int .i64 want) rfl (by kernel_rfl) (by kernel_rfl) (by kernel_rfl) (fun _ _ _ h => h) (Or.inl ⟨by rfl, fun W2 hW => by obtain ⟨h1, h2, h3⟩ := hW; obtain ⟨lq, cq⟩ := cells_of h3; go_simp⟩) hS1 ?_
            refine wpAnyH_all (rs := [5]) (by kernel_rfl) (by simp) ?_
            intro ii hii
            obtain rfl : ii = 5 := by simpa using hii
            unfold wpOp
            go_simp
            refine Or.inl ((cost_any M hM.out 0 n sb x.1.2 hnin'.out.b (M.ends b.kind soon (M.job x.1.1) (M.job x.1.1).lo) x.1.1 hx'.out.1 W1.drew hP1.drew.env.sh.at).mono ?_)
            rintro e w2 ⟨rfl, hb2⟩
            have hP2 := hP1.drew.below hb2
            have hxc2 := (hb2.block bx (heap_lt hxc1)).trans hxc1
            refine ⟨⟨hP2.env.e.1, hxc2, hP2.wa⟩, ?_⟩
            refine wpAnyH_all (rs := [6]) (by kernel_rfl) (by simp) ?_
            intro ii hii
            obtain rfl : ii = 6 := by simpa using hii
            unfold wpOp
            go_simp
            have hb2a := below_alloc (Below.refl w2.heap.size w2) (.cells #[.int .i64 y, .int .i64 (M.pays x.1.2 x.1.1)] 3)
            have hP3 := hP2.below hb2a
            have hxc3 := (hb2a.block bx (heap_lt hxc2)).trans hxc2
            have hpi := pair_ints (w := w2) (x := y) (y := M.pays x.1.2 x.1.1)
            have hS3 : _ ∧ _ ∧ _ := ⟨hP3.env.e.1, hxc3, hP3.wa⟩
            refine Or.inl ⟨hS3, ?_⟩
            have hb2z := below_via hb2a (below_via hb2 (Below.refl W1.heap.size W1).drew)
            have hco := coins_any (.slice (some ⟨w2.heap.size, 0, none⟩) 2 2) [y, M.pays x.1.2 x.1.1] (by simp) _ hpi
            rw [coins_two] at hco
            generalize w2.alloc (.cells #[.int .i64 y, .int .i64 (M.pays x.1.2 x.1.1)] 3) = wv at hb2a hP3 hxc3 hpi hS3 hb2z hco ⊢
            refine wpAnyH_all (rs := [7]) (by kernel_rfl) (by simp) ?_
            intro ii hii
            obtain rfl : ii = 7 := by simpa using hii
            unfold wpOp
            go_simp
            refine Or.inl (hco.mono ?_)
            rintro e wv' ⟨rfl, rfl⟩
            refine ⟨hS3, ?_⟩
            refine wpAnyH_take (i := 9) (v := .bool true) rfl (by kernel_rfl) (by kernel_rfl) (by kernel_rfl) (fun _ _ _ h => h) (Or.inl ⟨by rfl, fun _ _ => by go_simp⟩) hS3 ?_
            refine wpAnyH_take (i := 10) (v := .bool true) rfl (by kernel_rfl) (by kernel_rfl) (by kernel_rfl) (fun _ _ _ h => h) (Or.inl ⟨by rfl, fun _ _ => by go_simp⟩) hS3 ?_
            refine wpAnyH_done (by kernel_rfl) ?_ _
            have hP9 := hid hP3
            have hx9 := hid hxc3
            clear hS3 hpi hco hP3 hxc3 hb2a hP2 hxc2 hS1 d3 d5 d6
            go_simp
            have hP3 := hP9.out
            have hxc3 := hx9.out
            obtain ⟨q3, d3⟩ := cells_of (hP3.ho _ _ rfl).1
            obtain ⟨q4, d4⟩ := cells_of hP3.st
            have z4 := free_of hP3.st
            obtain ⟨q5, d5⟩ := cells_of hxc3
            obtain ⟨q6, d6⟩ := cells_of hP3.wa
            have z6 := free_of hP3.wa
            obtain ⟨q7, d7'⟩ := cells_of hP3.li
            have z7 := free_of hP3.li
            have hk6 : k < 6 := by omega
            have hk6' : (k : Int) < 6 := by omega
            have hkl : k < l.length := by have := hll.out; omega
            obtain ⟨vk, d7⟩ : ∃ u, wv.cell? ⟨w9.heap.size, k, none⟩ = some u := ⟨.int .i64 l[k], by rw [d7']; simp [hkl]⟩
            clear d7'
            have e1 : ¬ wa.heap.size = w9.heap.size := blk_ne hP3.st hP3.li (by simp)
            have e7 : ¬ bx = w9.heap.size := blk_ne hxc3 hP3.li (by simp)
            have e8 : ¬ w9.heap.size = bx := fun e => e7 e.symm
            have e2 : ¬ wa.heap.size + 1 = w9.heap.size := blk_ne hP3.wa hP3.li (by simp)
            have e3 : ¬ wa.heap.size + 1 = wa.heap.size := by omega
            have e4 : ¬ w9.heap.size = wa.heap.size := fun e => e1 e.symm
            have e5 : ¬ w9.heap.size = wa.heap.size + 1 := fun e => e2 e.symm
            have e6 : ¬ wa.heap.size = wa.heap.size + 1 := by omega
            have hq' := hid hq
            have hq1' := hid hq1
            clear hq hq1 hP3 hxc3
            gi_wp2
            refine wpIn_mono (Q := fun e _ wz => e = .normal ∧ wz = (takeW ⟨rx, gb, ab, ob, m, w4.heap.size, w3.heap.size, wa.heap.size, w9.heap.size, wa.heap.size + 1⟩ k x.1.1 x.1.2 (M.ends b.kind soon (M.job x.1.1) (M.job x.1.1).lo) y wv).drew) ?_ ?_
            · gi_region
              all_goals exact ⟨rfl, rfl⟩
            · rintro e az wz ⟨rfl, rfl⟩
              gi_wp2
              have hPT := ((hP9.out.take (k := k) x.1.1 x.1.2 (M.ends b.kind soon (M.job x.1.1) (M.job x.1.1).lo) y)).drew
              refine ⟨?_, rfl, pre, x, rfl, hpre, hid (by simp [takes, hfx'.out, hq'.out]), by rw [hfx'.out]; exact hPT⟩
              exact (hf1.trans (keepsFrom_below hb2z)).trans keeps_take
          · have hq1 : (wrap64 (y + M.pays x.1.2 x.1.1) == want) = false := by rw [beq_eq_false_iff_ne]; exact hq
            gi_wp2
            refine wpIn_region_round (by kernel_rfl) (by kernel_rfl) (by rintro ⟨_, _, h⟩; exact h) ?_
            refine wpAny_of_held (S := fun W2 => W2.heap[w3.heap.size]? = some (.cells #[.pointer (some ⟨sb, 0, none⟩)] 66 (0, 0)) ∧ W2.heap[bx]? = some (.cells (wcells x.1.2 (M.ends b.kind soon (M.job x.1.1) (M.job x.1.1).lo) x.1.1) 74 (0, 0)) ∧ W2.heap[wa.heap.size + 1]? = some (.cells #[.int .i64 want] 3 (0, 0))) _ _ _ _ ?_
            refine wpAnyH_take (i := 0) (v := .bool true) rfl (by kernel_rfl) (by kernel_rfl) (by kernel_rfl) (fun _ _ _ h => h) (Or.inl ⟨by rfl, fun _ _ => by go_simp⟩) hS1 ?_
            refine wpAnyH_take (i := 1) (v := .bool true) rfl (by kernel_rfl) (by kernel_rfl) (by kernel_rfl) (fun _ _ _ h => h) (Or.inl ⟨by rfl, fun _ _ => by go_simp⟩) hS1 ?_
            refine wpAnyH_take (i := 2) (v := .int .i64 y) rfl (by kernel_rfl) (by kernel_rfl) (by kernel_rfl) (fun _ _ _ h => h) (Or.inl ⟨by rfl, fun _ _ => by go_simp⟩) hS1 ?_
            refine wpAnyH_take (i := 3) (v := .pointer (some ⟨sb, 0, none⟩)) rfl (by kernel_rfl) (by kernel_rfl) (by kernel_rfl) (fun _ _ _ h => h) (Or.inl ⟨by rfl, fun W2 hW => by obtain ⟨h1, h2, h3⟩ := hW; obtain ⟨lq, cq⟩ := cells_of h1; go_simp⟩) hS1 ?_
            refine wpAnyH_take (i := 4) (v := workV x.1.2 (M.ends b.kind soon (M.job x.1.1) (M.job x.1.1).lo) x.1.1) rfl (by kernel_rfl) (by kernel_rfl) (by kernel_rfl) (fun _ _ _ h => h) (Or.inl ⟨by rfl, fun W2 hW => by obtain ⟨h1, h2, h3⟩ := hW; obtain ⟨lq, cq⟩ := cells_of h2; go_simp⟩) hS1 ?_
            refine wpAnyH_take (i := 8) (v := .int .i64 want) rfl (by kernel_rfl) (by kernel_rfl) (by kernel_rfl) (fun _ _ _ h => h) (Or.inl ⟨by rfl, fun W2 hW => by obtain ⟨h1, h2, h3⟩ := hW; obtain ⟨lq, cq⟩ := cells_of h3; go_simp⟩) hS1 ?_
            refine wpAnyH_all (rs := [5]) (by kernel_rfl) (by simp) ?_
            intro ii hii
            obtain rfl : ii = 5 := by simpa using hii
            unfold wpOp
            go_simp
            refine Or.inl ((cost_any M hM.out 0 n sb x.1.2 hnin'.out.b (M.ends b.kind soon (M.job x.1.1) (M.job x.1.1).lo) x.1.1 hx'.out.1 W1.drew hP1.drew.env.sh.at).mono ?_)
            rintro e w2 ⟨rfl, hb2⟩
            have hP2 := hP1.drew.below hb2
            have hxc2 := (hb2.block bx (heap_lt hxc1)).trans hxc1
            refine ⟨⟨hP2.env.e.1, hxc2, hP2.wa⟩, ?_⟩
            refine wpAnyH_all (rs := [6]) (by kernel_rfl) (by simp) ?_
            intro ii hii
            obtain rfl : ii = 6 := by simpa using hii
            unfold wpOp
            go_simp
            have hb2a := below_alloc (Below.refl w2.heap.size w2) (.cells #[.int .i64 y, .int .i64 (M.pays x.1.2 x.1.1)] 3)
            have hP3 := hP2.below hb2a
            have hxc3 := (hb2a.block bx (heap_lt hxc2)).trans hxc2
            have hpi := pair_ints (w := w2) (x := y) (y := M.pays x.1.2 x.1.1)
            have hS3 : _ ∧ _ ∧ _ := ⟨hP3.env.e.1, hxc3, hP3.wa⟩
            refine Or.inl ⟨hS3, ?_⟩
            have hb2z := below_via hb2a (below_via hb2 (Below.refl W1.heap.size W1).drew)
            have hco := coins_any (.slice (some ⟨w2.heap.size, 0, none⟩) 2 2) [y, M.pays x.1.2 x.1.1] (by simp) _ hpi
            rw [coins_two] at hco
            generalize w2.alloc (.cells #[.int .i64 y, .int .i64 (M.pays x.1.2 x.1.1)] 3) = wv at hb2a hP3 hxc3 hpi hS3 hb2z hco ⊢
            refine wpAnyH_all (rs := [7]) (by kernel_rfl) (by simp) ?_
            intro ii hii
            obtain rfl : ii = 7 := by simpa using hii
            unfold wpOp
            go_simp
            refine Or.inl (hco.mono ?_)
            rintro e wv' ⟨rfl, rfl⟩
            refine ⟨hS3, ?_⟩
            refine wpAnyH_take (i := 9) (v := .bool false) rfl (by kernel_rfl) (by kernel_rfl) (by kernel_rfl) (fun _ _ _ h => h) (Or.inl ⟨by rfl, fun _ _ => by go_simp⟩) hS3 ?_
            refine wpAnyH_take (i := 10) (v := .bool false) rfl (by kernel_rfl) (by kernel_rfl) (by kernel_rfl) (fun _ _ _ h => h) (Or.inl ⟨by rfl, fun _ _ => by go_simp⟩) hS3 ?_
            refine wpAnyH_done (by kernel_rfl) ?_ _
            have hP9 := hid hP3
            have hx9 := hid hxc3
            clear hS3 hpi hco hP3 hxc3 hb2a hP2 hxc2 hS1 d3 d5 d6
            go_simp
            have hq' := hid hq
            clear hq hq1
            gi_wp2
            refine ⟨hf1.trans (keepsFrom_below hb2z), stepKp_t hp1 (stepKp_below hb2z), hP9.out, hid ?_⟩
            intro z hz
            rcases List.mem_append.1 hz with hz | hz
            · exact hpre.out z hz
            · obtain rfl := List.mem_singleton.1 hz
              simp [takes, hfx'.out, hq'.out]
      case done =>
        intro D xs W' hD hS hI' hK
        exfalso
        obtain ⟨x, hx, ht⟩ := takes_some (cost_low hM.out 0) (n := n) (by rw [← hn]; exact hfo.out)
        rw [← hS] at hx
        obtain ⟨y, hy, rfl⟩ := List.mem_map.1 hx
        rw [hI'.2.out y hy] at ht
        cases ht
      case stop =>
        rintro D c pre W' hD ⟨post, hSp⟩ ⟨rfl, pre0, x, hpre, hno, hyes, hP⟩ hK
        refine (wpIn_wide (n := 5)).2 ?_
        have hn1 : M.jobs.length - (k + 1) = n := by omega
        have hn1' := hid hn1
        clear hn1
        go_wp2
        have hn1 := hn1'.out
        have hfi : (stepsL M 0 b).find? (takes M 0 (costG M) n want) = some x.1 := by
          refine find_first (pre0 := pre0.map (fun x => x.1)) (post := post) (Eq.trans (by rw [hpre]; simp) hSp) ?_ hyes.out
          intro y hy
          obtain ⟨z, hz, rfl⟩ := List.mem_map.1 hy
          exact hno.out z hz
        have hfs : found M 0 (costG M) n x.1.2 = some ((found M 0 (costG M) n x.1.2).getD 0) := by
          have := hyes.out
          unfold takes at this
          split at this
          · rename_i hy; rw [hy]; rfl
          · cases this
        have hx := mem_stepsTo.1 x.2
        have hnin := hwi'.next hM.out hx.1 hx.2.1
        rw [← hx.2.2.1] at hnin
        have hll1 := hll.out
        refine ⟨n, by omega, D :: ds, k + 1, x.1.2, M.ends b.kind soon (M.job x.1.1) (M.job x.1.1).lo, x.1.1, (found M 0 (costG M) n x.1.2).getD 0, l.set k x.1.1, _, _, _, _, _, _, _, rfl, hP.forget.mark (D := D) (by omega) (by omega) hK, by omega, by omega, by rw [hn1]; exact hnin, hid (by rw [hn1]; exact hfs), hid (by simpa using hll1), hid ?_⟩
        rw [hpk.out, hn, hn1, take_set_succ (by omega)]
        conv => lhs; unfold pick
        rw [hfi]
        simp [ints]
    · have hke : k = M.jobs.length := by omega
      have hmm := hI.mm
      have lm := (cells_of hmm).1
      have cm := (cells_of hmm).2
      clear cm9 lm9
      have hmk := make_ints M.jobs.length (by omega) (by omega) W
      rw [Int.toNat_natCast] at hmk
      have hll' := hll.out
      have hbz : ∀ o, Below W.heap.size W (W.alloc o) := fun o => below_alloc (Below.refl _ _) o
      go_wp2_with (with_reducible refine wpList_copy_splice (o := ⟨some 73, _, _, _, _, _⟩) rfl (.tmp 71) (.tmp 72) 22 22 rfl 3 (by kernel_rfl) (by kernel_rfl) _ _ _ _ _ _ rfl rfl W.heap.size 0 ((List.replicate M.jobs.length 0).map (Value.int .i64)) 3 (alloc_at rfl) ((l.take M.jobs.length).map (Value.int .i64)) ?c1 ?c2 ?c3 ?c4 W.heap.size W (hbz _) (Nat.le_refl _) ?c5)
      case c1 => simp [hll', Nat.min_comm]
      case c2 =>
        intro _ j u hj
        have hli := alloc_old (o := .cells (intsV (List.replicate M.jobs.length 0)) 3) (heap_lt hI.li) hI.li
        have h2 := (cells_of hli).2 j
        have h4 : (intsV l)[j]? = some u := by
          rw [List.getElem?_take] at hj
          split at hj
          · simpa [intsV] using hj
          · cases hj
        exact h2.trans h4
      case c3 => simp; omega
      case c4 =>
        intro u hu
        obtain ⟨i, _, rfl⟩ := List.mem_map.1 hu
        rfl
      case c5 =>
        intro w' hw5 hb5
        have hPf := hI.below hb5
        have hee := hPf.ee
        obtain ⟨q8, c8⟩ := cells_of hee
        have z8 := free_of hee
        go_wp2
        have hpl : ints (pick M 0 (costG M) (restN M 0) Bench.begin v) = l.take M.jobs.length := by
          rw [hrest.out, hpk.out, show M.jobs.length - k = 0 by omega, hke]
          simp [pick, ints]
        have hll2 : (ints (pick M 0 (costG M) (restN M 0) Bench.begin v)).length = M.jobs.length := by
          rw [hpl, List.length_take, hll', Nat.min_eq_left (by omega)]
        have hWm := hI.bel.size
        refine leaves_marks w.heap.size .returning (by simp) _ ds _ hPf.nd (fun D hD => ⟨by have := (hPf.dd D hD).1; omega, (Below.heap_setCell _ _ _ _ (by have := (hPf.dd D hD).1; simp only; omega)).trans (hPf.dd D hD).2.2⟩) ?_
        rintro w6 ⟨h1, h2, h3, h4, h5⟩
        have hbl := below_set hPf.bel (.int .i64 0) (p := ⟨w.heap.size + 1, 0, none⟩) (by simp only; omega)
        have hbf : Below w.heap.size w w6 := ⟨h2.trans hbl.os, h3.trans hbl.tape, h4.trans hbl.output, by rw [h1]; exact hbl.size, fun i hi => (h5 i (fun D hD e => by have := (hPf.dd D hD).1; omega)).trans (hbl.block i hi)⟩
        have hez : w6.heap[w.heap.size + 1]? = some (.cells #[.int .i64 0] 29 (0, 0)) := (h5 _ (fun D hD e => by have := (hPf.dd D hD).1; omega)).trans (by simpa using heap_set_same (o := 0) (v := .int .i64 0) hee)
        have hw6 : w6.heap[W.heap.size]? = some (.cells (intsV (ints (pick M 0 (costG M) (restN M 0) Bench.begin v))) 3 (0, 0)) := by
          rw [h5 _ (fun D hD e => by have := (hPf.dd D hD).2.1; omega), Below.heap_setCell _ _ _ _ (by have := heap_lt hI.ee; simp only; omega), hw5.out, hpl]
          have hml : min M.jobs.length 6 = M.jobs.length := Nat.min_eq_left (by omega)
          simp [splice, intsV, hll', hml]
        refine leaves_told (by omega) (by simp) ?_
        refine (told_idle_in 4 ⟨w.heap.size + 1, 0, none⟩ _).mono ?_
        rintro e u' w'' ⟨rfl, rfl, rfl⟩
        have cz2 := (cells_of hez).2
        have lz2 := (cells_of hez).1
        have hni : NewInts w.heap.size w'' (.slice (some ⟨W.heap.size, 0, none⟩) M.jobs.length M.jobs.length) (ints (pick M 0 (costG M) (restN M 0) Bench.begin v)) := ⟨W.heap.size, hWm, by rw [hll2], hw6⟩
        simp [LeavesInM, LeavesIn, settle, results, Try.results26, go_sem, cz2, hbf, hni]
end Go.Proofs.Ytcgkglonnmkfcaa

namespace Go.Proofs.Ytcgkglonnmkfcaa
open Go.RowKit Go.Lap Go.Shelf

/-- What 'Best' tells: the coins, the order, and why not. -/
def bestOf (M : Mend) : Int × List Nat × Int :=
  if M.valid then match found M 0 (costG M) (restN M 0) Bench.begin with
    | some v => (v, pick M 0 (costG M) (restN M 0) Bench.begin v, 0)
    | none => (0, [], 4)
  else (0, [], 1)

/-- A slice that nobody else holds: nothing at all, or a new block. -/
def NewList (B : Nat) (W : World) (sv : Value) (xs : List Int) : Prop := (xs = [] ∧ sv = .slice none 0 0) ∨ NewInts B W sv xs
theorem NewList.at {B : Nat} {W : World} {sv : Value} {xs : List Int} (h : NewList B W sv xs) : IntsAt W sv xs := by
  rcases h with ⟨rfl, rfl⟩ | ⟨b, hb, rfl, hc⟩
  · exact ⟨none, 0, rfl, fun h => (h rfl).elim⟩
  · refine ⟨_, _, rfl, fun _ => ⟨b, 0, rfl, fun k hk => ?_⟩⟩
    have h2 := (cells_of hc).2 (0 + k)
    simp only [Nat.zero_add] at h2 ⊢
    rw [h2]
    simp [intsV, hk]
theorem NewList.below {B : Nat} {W W' : World} {sv : Value} {xs : List Int} (h : NewList B W sv xs) (hb : Below W.heap.size W W') : NewList B W' sv xs := by
  rcases h with h | ⟨b, h1, h2, h3⟩
  · exact .inl h
  · exact .inr ⟨b, h1, h2, (hb.block b (heap_lt h3)).trans h3⟩

theorem Best_any (M : Mend) (sv jv : Value) (w : World) (hS : IntsAt w sv M.setup) (hJ : JobsAt w jv M.jobs) :
    Calls Try.prog 26 #[.agg #[sv, jv]] w fun e w' => ∃ lv, e = .returned (.tuple #[.int .i64 (bestOf M).1, lv, .int .i64 (bestOf M).2.2]) ∧ NewList w.heap.size w' lv (ints (bestOf M).2.1) ∧ Below w.heap.size w w' := by
  unfold bestOf
  cases hv : M.valid
  · exact (Best_bad M hv sv jv w hS hJ).mono fun e w' ⟨h1, h2⟩ => ⟨_, h1, .inl ⟨rfl, rfl⟩, h2⟩
  · cases ho : found M 0 (costG M) (restN M 0) Bench.begin with
    | none => exact (Best_none M hv ho sv jv w hS hJ).mono fun e w' ⟨h1, h2⟩ => ⟨_, h1, .inl ⟨rfl, rfl⟩, h2⟩
    | some v => exact (Best_some M hv v ho sv jv w hS hJ).mono fun e w' ⟨lv, h1, h2, h3⟩ => ⟨lv, h1, .inr h2, h3⟩

end Go.Proofs.Ytcgkglonnmkfcaa
