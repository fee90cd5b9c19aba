/- The frame of 'plan' of package rest: where its variables lie, and what keeps them. -/
import Derived.Test.YtkgdejhooghknaaH4
import Derived.Test.YtkgdejhooghknaaH3
namespace Go.Proofs.Ytkgdejhooghknaa
open Go.RowKit Go.Lap Go.Shelf

theorem cell_set_far {W : World} {b b' o o' : Nat} {v : Value} (h : ¬ b' = b) : (W.setCell ⟨b, o, none⟩ v).cell? ⟨b', o', none⟩ = W.cell? ⟨b', o', none⟩ :=
  by apply World.cell?_setCell_other; intro e; cases e; exact h rfl

/-- A closure's cell that is still empty is none of the closure's variables. -/
theorem EnvI.set {ub gb ab rx ob rb m : Nat} {G : GoalFns} {R : Rest} {til : Int} {kv : St → Value} {w : World} (h : EnvI ub gb ab rx ob rb m G R til kv w) {b o : Nat} (hb : w.heap[b]? = some (.cells #[.nilFunc] 76 (0, 0))) (v : Value) :
    EnvI ub gb ab rx ob rb m G R til kv (w.setCell ⟨b, o, none⟩ v) := by
  have key : ∀ (k : Nat) (p : Obj), w.heap[k]? = some p → p ≠ Obj.cells #[.nilFunc] 76 (0, 0) → (w.setCell ⟨b, o, none⟩ v).heap[k]? = some p := by
    intro k p hk hne
    refine (Below.heap_setCell _ _ _ _ ?_).trans hk
    rintro rfl
    rw [hb] at hk
    exact hne (Option.some.inj hk).symm
  obtain ⟨es, c, hm, hes⟩ := h.m
  exact ⟨key _ _ h.u (by simp), key _ _ h.g (by simp), key _ _ h.a (by simp), key _ _ h.r (by simp), key _ _ h.rr (by simp), key _ _ h.o (by simp), es, c, key _ _ hm (by simp), hes⟩

/-- Where the variables of 'plan' lie. -/
structure PV where
  ub : Nat
  gb : Nat
  ab : Nat
  rx : Nat
  ob : Nat
  m : Nat
  pa : Nat
  ps : Nat
  pl : Nat
  ph : Nat
  pw : Nat

abbrev intsV (l : List Int) : Array Value := (l.map (Value.int .i64)).toArray

/-- How it is before an hour: the state, what is to come, the list so far. -/
structure PlanI (V : PV) (rb : Nat) (G : GoalFns) (g : Goal Int) (R : Rest) (w : World) (ds : List Nat) (sz : Nat) (k : Int) (s : St) (want : Int) (l : List Int) (W : World) : Prop where
  bel : Below w.heap.size w W
  env : EnvI V.ub V.gb V.ab V.rx V.ob rb V.m G R R.hours (kvOfI R g R.hours) W
  gx : W.heap[w.heap.size]? = some (.cells #[.func (.func G.fe) #[] G.ce, .func (.func G.fh) #[] G.ch, .func (.func G.fj) #[] G.cj] 86 (0, 0))
  clo : W.heap[V.pa]? = some (.cells #[ofV V.ub V.gb V.ab V.rx V.ob] 76 (0, 0))
  st : W.heap[V.ps]? = some (.cells (scells s) 71 (0, 0))
  li : W.heap[V.pl]? = some (.cells (intsV l) 129 (0, 0))
  ho : W.heap[V.ph]? = some (.cells #[.int .i64 k] 3 (0, 0))
  wa : W.heap[V.pw]? = some (.cells #[.int .i64 want] 3 (0, 0))
  dd : ∀ D, D ∈ ds → w.heap.size ≤ D ∧ D < sz ∧ W.heap[D]? = some (.deferred (some []))
  nd : ds.Nodup
  nn : w.heap.size ≤ V.m ∧ w.heap.size ≤ V.ps ∧ w.heap.size ≤ V.pl ∧ w.heap.size ≤ V.ph ∧ w.heap.size ≤ V.pw ∧ V.ph ≠ V.pw ∧ V.m < sz ∧ V.ub ≠ V.pw
  szl : sz ≤ W.heap.size

section
variable {V : PV} {rb : Nat} {G : GoalFns} {g : Goal Int} {R : Rest} {w : World} {ds : List Nat} {sz : Nat} {k : Int} {s : St} {want : Int} {l : List Int} {W W' : World}

theorem PlanI.go (h : PlanI V rb G g R w ds sz k s want l W) (hbel : Below w.heap.size w W') (hk : ∀ (b : Nat) (c : Array Value) (t : TypeId), W.heap[b]? = some (Obj.cells c t (0, 0)) → W'.heap[b]? = some (Obj.cells c t (0, 0)))
    (hd : ∀ (b : Nat), b < sz → W.heap[b]? = some (Obj.deferred (some [])) → W'.heap[b]? = some (Obj.deferred (some []))) (hm : ∃ es c, W'.heap[V.m]? = some (.map es c) ∧ Memo (kvOfI R g R.hours) es) (hs : sz ≤ W'.heap.size) :
    PlanI V rb G g R w ds sz k s want l W' :=
  ⟨hbel, ⟨hk _ _ _ h.env.u, hk _ _ _ h.env.g, hk _ _ _ h.env.a, hk _ _ _ h.env.r, hk _ _ _ h.env.rr, hk _ _ _ h.env.o, hm⟩, hk _ _ _ h.gx, hk _ _ _ h.clo, hk _ _ _ h.st, hk _ _ _ h.li, hk _ _ _ h.ho, hk _ _ _ h.wa,
    fun D hD => ⟨(h.dd D hD).1, (h.dd D hD).2.1, hd D (h.dd D hD).2.1 (h.dd D hD).2.2⟩, h.nd, h.nn, hs⟩

theorem heap_lt {W : World} {b : Nat} {o : Obj} (h : W.heap[b]? = some o) : b < W.heap.size := (Array.getElem?_eq_some_iff.1 h).1

theorem PlanI.below (h : PlanI V rb G g R w ds sz k s want l W) (hb : Below W.heap.size W W') : PlanI V rb G g R w ds sz k s want l W' := by
  obtain ⟨es, c, hm, hes⟩ := h.env.m
  exact h.go (below_via hb h.bel) (fun b c t hc => (hb.block b (heap_lt hc)).trans hc) (fun b _ hc => (hb.block b (heap_lt hc)).trans hc) ⟨es, c, (hb.block _ (heap_lt hm)).trans hm, hes⟩ (Nat.le_trans h.szl hb.size)

theorem PlanI.keep (h : PlanI V rb G g R w ds sz k s want l W) (hk : KeepI V.m (kvOfI R g R.hours) W W') : PlanI V rb G g R w ds sz k s want l W' := by
  obtain ⟨es, c, hm, hes⟩ := h.env.m
  refine h.go (below_keep h.bel h.nn.1 hk) (fun b c t hc => hk.blk h.env.m hc) (fun b _ hc => ?_) hk.2 (Nat.le_trans h.szl hk.1.size)
  refine (hk.1.block b (heap_lt hc) ?_).trans hc
  intro e; cases e; rw [hm] at hc; cases hc

theorem PlanI.grown (h : PlanI V rb G g R w ds sz k s want l W) {row : Option Nat} (hg : W.grownBy W' row) (hr : ∀ r, row = some r → sz ≤ r ∧ ∃ o : Obj, W.heap[r]? = some o ∧ o.isCells = false) (hw : w.heap.size ≤ sz) : PlanI V rb G g R w ds sz k s want l W' := by
  obtain ⟨es, c, hm, hes⟩ := h.env.m
  have hlow : ∀ (b : Nat), b < sz → W'.heap[b]? = W.heap[b]? := fun b hb => hg.block b (Nat.lt_of_lt_of_le hb h.szl) (fun e => by have := (hr b e.symm).1; omega)
  refine h.go ⟨hg.os.trans h.bel.os, hg.tape.trans h.bel.tape, hg.output.trans h.bel.output, Nat.le_trans h.bel.size hg.size, fun k hk => (hlow k (by omega)).trans (h.bel.block k hk)⟩ (fun b c t hc => ?_) (fun b hb hc => (hlow b hb).trans hc)
    ⟨es, c, (hlow _ h.nn.2.2.2.2.2.2.1).trans hm, hes⟩ (Nat.le_trans h.szl hg.size)
  refine (hg.block b (heap_lt hc) ?_).trans hc
  intro e
  obtain ⟨_, o, ho, hn⟩ := hr b e.symm
  rw [hc] at ho; cases ho; cases hn

theorem PlanI.drewN (h : PlanI V rb G g R w ds sz k s want l W) (n : Nat) : PlanI V rb G g R w ds sz k s want l (W.drewN n) :=
  h.go ⟨h.bel.os, h.bel.tape, h.bel.output, h.bel.size, h.bel.block⟩ (fun _ _ _ hc => hc) (fun _ _ hc => hc) h.env.m h.szl

theorem PlanI.wider (h : PlanI V rb G g R w ds sz k s want l W) {sz' : Nat} (h1 : sz ≤ sz') (h2 : sz' ≤ W.heap.size) : PlanI V rb G g R w ds sz' k s want l W :=
  ⟨h.bel, h.env, h.gx, h.clo, h.st, h.li, h.ho, h.wa, fun D hD => ⟨(h.dd D hD).1, Nat.lt_of_lt_of_le (h.dd D hD).2.1 h1, (h.dd D hD).2.2⟩, h.nd, ⟨h.nn.1, h.nn.2.1, h.nn.2.2.1, h.nn.2.2.2.1, h.nn.2.2.2.2.1, h.nn.2.2.2.2.2.1, Nat.lt_of_lt_of_le h.nn.2.2.2.2.2.2.1 h1, h.nn.2.2.2.2.2.2.2⟩, h2⟩

theorem PlanI.mark (h : PlanI V rb G g R w ds sz k s want l W) {D : Nat} (h1 : w.heap.size ≤ D) (h2 : sz ≤ D) (hD : W.heap[D]? = some (.deferred (some []))) : PlanI V rb G g R w (D :: ds) W.heap.size k s want l W := by
  have hw := h.wider h.szl (Nat.le_refl _)
  refine ⟨h.bel, h.env, h.gx, h.clo, h.st, h.li, h.ho, h.wa, ?_, ?_, hw.nn, Nat.le_refl _⟩
  · intro E hE
    rcases List.mem_cons.1 hE with rfl | hE
    · exact ⟨h1, heap_lt hD, hD⟩
    · exact hw.dd E hE
  · refine List.nodup_cons.2 ⟨fun hm => ?_, h.nd⟩
    have := (h.dd D hm).2.1
    omega

/-- Blocks of different contents are different. -/
theorem blk_ne {W : World} {a b : Nat} {p q : Obj} (ha : W.heap[a]? = some p) (hb : W.heap[b]? = some q) (h : p ≠ q) : a ≠ b := by
  rintro rfl
  rw [ha] at hb
  exact h (Option.some.inj hb)

/-- The world after a step is taken. -/
abbrev takeW (V : PV) (k : Nat) (r : Int) (t : St) (y : Int) (W : World) : World := (sput (W.setCell ⟨V.pl, k, none⟩ (.int .i64 r)) V.ps t).setCell ⟨V.pw, 0, none⟩ (.int .i64 y)

theorem PlanI.take {k : Nat} (h : PlanI V rb G g R w ds sz k s want l W) (r : Int) (t : St) (y : Int) : PlanI V rb G g R w ds sz k t y (l.set k r) (takeW V k r t y W) := by
  have e1 : V.pl ≠ V.ps := blk_ne h.li h.st (by simp)
  have e2 : V.pl ≠ V.pw := blk_ne h.li h.wa (by simp)
  have e3 : V.ps ≠ V.pw := blk_ne h.st h.wa (by simp)
  have far : ∀ b, b ≠ V.pl → b ≠ V.ps → b ≠ V.pw → (takeW V k r t y W).heap[b]? = W.heap[b]? := fun b h1 h2 h3 =>
    (Below.heap_setCell _ _ _ _ h3).trans ((sput_other h2).trans (Below.heap_setCell _ _ _ _ h1))
  have hs : (takeW V k r t y W).heap.size = W.heap.size := by simp [takeW, World.setCell]
  have hne : ∀ {b : Nat} {p : Obj}, W.heap[b]? = some p → p ≠ .cells (intsV l) 129 (0, 0) → p ≠ .cells (scells s) 71 (0, 0) → p ≠ .cells #[.int .i64 want] 3 (0, 0) → (takeW V k r t y W).heap[b]? = some p := fun hb h1 h2 h3 =>
    (far _ (blk_ne hb h.li h1) (blk_ne hb h.st h2) (blk_ne hb h.wa h3)).trans hb
  obtain ⟨es, c, hm, hes⟩ := h.env.m
  refine ⟨below_set (sput_below (below_set h.bel _ h.nn.2.2.1) h.nn.2.1) _ h.nn.2.2.2.2.1, ⟨?_, hne h.env.g (by simp) (by simp) (by simp), hne h.env.a (by simp) (by simp) (by simp), hne h.env.r (by simp) (by simp) (by simp), hne h.env.rr (by simp) (by simp) (by simp), hne h.env.o (by simp) (by simp) (by simp), es, c, hne hm (by simp) (by simp) (by simp), hes⟩,
    hne h.gx (by simp) (by simp) (by simp), hne h.clo (by simp) (by simp) (by simp), ?_, ?_, ?_, ?_, ?_, h.nd, h.nn, by rw [hs]; exact h.szl⟩
  · exact (far _ (blk_ne h.env.u h.li (by simp)) (blk_ne h.env.u h.st (by simp)) h.nn.2.2.2.2.2.2.2).trans h.env.u
  · refine (Below.heap_setCell _ _ _ _ e3).trans (sput_own (s := s) ?_)
    exact (Below.heap_setCell _ _ _ _ e1.symm).trans h.st
  · refine (Below.heap_setCell _ _ _ _ e2).trans ((sput_other e1).trans ?_)
    rw [heap_setCell_same h.li]
    rw [show (intsV l).setIfInBounds k (.int .i64 r) = intsV (l.set k r) by simp [intsV, List.map_set]]
  · exact (far _ (blk_ne h.ho h.li (by simp)) (blk_ne h.ho h.st (by simp)) h.nn.2.2.2.2.2.1).trans h.ho
  · rw [heap_setCell_same ((sput_other e3.symm).trans ((Below.heap_setCell _ _ _ _ e2.symm).trans h.wa))]
    simp
  · intro D hD
    have := h.dd D hD
    exact ⟨this.1, this.2.1, hne this.2.2 (by simp) (by simp) (by simp)⟩
end

end Go.Proofs.Ytkgdejhooghknaa
