/- The walk of find's closure, at counts. -/
import Derived.Test.YtkgdejhooghknaaE
import Derived.Test.YtkgdejhooghknaaM
namespace Go.Proofs.Ytkgdejhooghknaa
open Go.RowKit Go.Lap Go.Shelf
attribute [local go_sem] Oper.semAt_some

/-- What is known of a state, as a value. -/
abbrev kvI (o : Option Int) : Value := .agg #[.int .i64 (o.getD 0), .bool o.isSome]

/-- The functions of a goal, as values. -/
structure GoalFns where
  fe : Nat
  ce : Array Value
  fh : Nat
  ch : Array Value
  fj : Nat
  cj : Array Value

/-- They compute what the goal says. -/
structure GoalOkI (G : GoalFns) (g : Goal Int) : Prop where
  he : ∀ args w, (callFunc G.fe args).run Try.prog w = .ok (.enter G.fe args) w
  hh : ∀ args w, (callFunc G.fh args).run Try.prog w = .ok (.enter G.fh args) w
  hj : ∀ args w, (callFunc G.fj args).run Try.prog w = .ok (.enter G.fj args) w
  ke : ∀ (s : St) w, s.Ok → Calls Try.prog G.fe (#[sval s] ++ G.ce) w fun e w' => e = .returned (.int .i64 (g.fin s)) ∧ Below w.heap.size w w'
  kh : ∀ (s nx : St) x w, s.Ok → nx.Ok → 0 ≤ nx.rider → Calls Try.prog G.fh (#[sval s, sval nx, .int .i64 x] ++ G.ch) w fun e w' => e = .returned (.int .i64 (g.hour s nx x)) ∧ Below w.heap.size w w'
  kj : ∀ a b w, Calls Try.prog G.fj (#[.int .i64 a, .int .i64 b] ++ G.cj) w fun e w' => e = .returned (.int .i64 (g.join a b)) ∧ Below w.heap.size w w'

/-- Where the closure's variables lie. -/
structure EnvI (ub gb ab rx ob rb m : Nat) (G : GoalFns) (R : Rest) (til : Int) (kv : St → Value) (w : World) : Prop where
  u : w.heap[ub]? = some (.cells #[.int .i64 til] 3 (0, 0))
  g : w.heap[gb]? = some (.cells #[.func (.func G.fe) #[] G.ce, .func (.func G.fh) #[] G.ch, .func (.func G.fj) #[] G.cj] 86 (0, 0))
  a : w.heap[ab]? = some (.cells #[.map (some m)] 122 (0, 0))
  r : w.heap[rx]? = some (.cells #[.pointer (some ⟨rb, 0, none⟩)] 64 (0, 0))
  rr : w.heap[rb]? = some (.cells (restCells R) 82 (0, 0))
  o : w.heap[ob]? = some (.cells #[.func (.func 85) #[] #[.pointer (some ⟨ub, 0, none⟩), .pointer (some ⟨gb, 0, none⟩), .pointer (some ⟨ab, 0, none⟩), .pointer (some ⟨rx, 0, none⟩), .pointer (some ⟨ob, 0, none⟩)]] 76 (0, 0))
  m : ∃ es c, w.heap[m]? = some (.map es c) ∧ Memo kv es

/-- The map's block and new ones apart, all lies as it lay; and the map tells the truth. -/
def KeepI (m : Nat) (kv : St → Value) (w w' : World) : Prop := w.grownBy w' (some m) ∧ ∃ es c, w'.heap[m]? = some (.map es c) ∧ Memo kv es

theorem KeepI.blk {m : Nat} {kv : St → Value} {w w' : World} (h : KeepI m kv w w') {b : Nat} {c : Array Value} {t : TypeId} {fr : Nat × Nat} (hm : ∃ es k, w.heap[m]? = some (.map es k) ∧ Memo kv es) (hb : w.heap[b]? = some (.cells c t fr)) : w'.heap[b]? = some (.cells c t fr) := by
  obtain ⟨es, k, hm, _⟩ := hm
  refine (h.1.block b (cells_of hb).1 ?_).trans hb
  intro e
  cases e
  rw [hm] at hb; cases hb

theorem EnvI.keep {ub gb ab rx ob rb m : Nat} {G : GoalFns} {R : Rest} {til : Int} {kv : St → Value} {w w' : World} (h : EnvI ub gb ab rx ob rb m G R til kv w) (k : KeepI m kv w w') : EnvI ub gb ab rx ob rb m G R til kv w' :=
  ⟨k.blk h.m h.u, k.blk h.m h.g, k.blk h.m h.a, k.blk h.m h.r, k.blk h.m h.rr, k.blk h.m h.o, k.2⟩

theorem KeepI.of_below {m : Nat} {kv : St → Value} {w w' : World} (hm : ∃ es c, w.heap[m]? = some (.map es c) ∧ Memo kv es) (hb : Below w.heap.size w w') : KeepI m kv w w' := by
  refine ⟨⟨hb.os, hb.tape, hb.output, hb.size, fun k hk _ => hb.block k hk⟩, ?_⟩
  obtain ⟨es, c, h, hes⟩ := hm
  exact ⟨es, c, (hb.block m (Array.getElem?_eq_some_iff.1 h).1).trans h, hes⟩

theorem grownBy_trans {a b c : World} {m : Nat} (h : a.grownBy b (some m)) (k : b.grownBy c (some m)) : a.grownBy c (some m) :=
  ⟨k.os.trans h.os, k.tape.trans h.tape, k.output.trans h.output, Nat.le_trans h.size k.size, fun i hi hm => (k.block i (Nat.lt_of_lt_of_le hi h.size) hm).trans (h.block i hi hm)⟩

theorem KeepI.trans {m : Nat} {kv : St → Value} {a b c : World} (h : KeepI m kv a b) (k : KeepI m kv b c) : KeepI m kv a c := ⟨grownBy_trans h.1 k.1, k.2⟩

theorem calls_of_wp_marks {P : Program} {f : FuncId} {fn : Func} {c : Code} {args : Array Value} {w : World} {R : Ending → World → Prop} (n : Nat) (hf : P.funcs[f]? = some fn) (hb : fn.body = some c)
    (h : c.wp P (bodyPostM Fence.wide n P fn R) { tmps := args ++ Array.replicate (fn.ntmps - args.size) undef, defers := [] } w) : Calls P f args w R :=
  (callsIn_wide (n := n)).1 (callsIn_of_wp_marks hf hb trivial ((wpIn_wide (n := n)).2 h) rfl)

abbrev argsI (s : St) (ub gb ab rx ob : Nat) : Array Value := #[sval s, .pointer (some ⟨ub, 0, none⟩), .pointer (some ⟨gb, 0, none⟩), .pointer (some ⟨ab, 0, none⟩), .pointer (some ⟨rx, 0, none⟩), .pointer (some ⟨ob, 0, none⟩)]

def OnPostI (m : Nat) (kv : St → Value) (o : Option Int) (w : World) (e : Ending) (w' : World) : Prop :=
  e = .returned (.tuple #[.int .i64 (o.getD 0), .bool o.isSome]) ∧ KeepI m kv w w'

set_option maxRecDepth 100000 in
set_option maxHeartbeats 2000000 in
theorem on_end (ub gb ab rx ob rb m : Nat) (G : GoalFns) (g : Goal Int) (R : Rest) (kv : St → Value) (hG : GoalOkI G g) (s : St) (hs : s.Ok) (w : World) (hE : EnvI ub gb ab rx ob rb m G R s.hour kv w) :
    Calls Try.prog 85 (argsI s ub gb ab rx ob) w (OnPostI m kv (found R g 0 s) w) := by
  obtain ⟨l1, c1⟩ := cells_of hE.u
  obtain ⟨l2, c2⟩ := cells_of hE.g
  have e1 := hG.he
  have k1 := hid hG.ke
  refine calls_of_wp_marks 5 Try.func85 rfl ?_
  simp only [Try.ntmps85, List.size_toArray, List.length_cons, List.length_nil, Nat.reduceAdd, Nat.reduceSub, Array.replicate_succ, Array.replicate_zero, List.push_toArray, List.append_toArray, List.nil_append, List.cons_append]
  go_wp2_with fail
  refine (k1.out s _ hs).mono ?_
  rintro e w1 ⟨rfl, hb⟩
  go_wp2
  exact ⟨_, results_tmp2 rfl _ _ _, rfl, KeepI.of_below hE.m (below_via hb (below_alloc (Below.refl _ _) _))⟩

theorem zeroK (w : World) : (zeroValue 124).run Try.prog w = .ok (kvI none) w := by kernel_rfl

/-- Between two rounds of the loop over the steps. -/
def LoopI (m : Nat) (kv : St → Value) (w : World) (b kb : Nat) (s : St) (sz : Nat) (o : Option Int) (W : World) : Prop :=
  KeepI m kv w W ∧ W.heap[b]? = some (.cells #[.int .i64 s.rider, .int .i64 s.run, .int .i64 s.before, .int .i64 s.hour, .int .i64 s.h0, .int .i64 s.h1] 71 (0, 0)) ∧
    W.heap[kb]? = some (.cells #[.int .i64 (o.getD 0), .bool o.isSome] 124 (0, 0)) ∧ sz ≤ W.heap.size

theorem loopI_own {β : Type} {m : Nat} {kv : St → Value} {w : World} {b kb : Nat} {s : St} {sz : Nat} {f : β → Option Int} (h1 : b < sz) (h2 : kb < sz) (h3 : w.heap.size ≤ sz) (hm : m < sz) : OwnFrom sz (fun (x : β) W => LoopI m kv w b kb s sz (f x) W) := by
  intro x A B row hs hg hr
  obtain ⟨⟨k1, es, c, k2, k3⟩, hb, hk, hz⟩ := hs
  have hkeep : ∀ k, k < sz → B.heap[k]? = A.heap[k]? := fun k hk => hg.block k (by omega) (fun e => by have := (hr k e.symm).1; omega)
  refine ⟨⟨⟨hg.os.trans k1.os, hg.tape.trans k1.tape, hg.output.trans k1.output, Nat.le_trans k1.size hg.size, fun k hk hne => (hkeep k (by omega)).trans (k1.block k hk hne)⟩, es, c, (hkeep m hm).trans k2, k3⟩, (hkeep b h1).trans hb, (hkeep kb h2).trans hk, Nat.le_trans hz hg.size⟩

theorem LoopI.below {m : Nat} {kv : St → Value} {w W W' : World} {b kb : Nat} {s : St} {sz : Nat} {o : Option Int} (h : LoopI m kv w b kb s sz o W) (hb : Below W.heap.size W W') : LoopI m kv w b kb s sz o W' :=
  ⟨h.1.trans (KeepI.of_below h.1.2 hb), (hb.block b (cells_of h.2.1).1).trans h.2.1, (hb.block kb (cells_of h.2.2.1).1).trans h.2.2.1, Nat.le_trans h.2.2.2 hb.size⟩

theorem heap_setCell_same {W : World} {b o : Nat} {c : Array Value} {t : TypeId} {v : Value} (h : W.heap[b]? = some (.cells c t (0, 0))) : (W.setCell ⟨b, o, none⟩ v).heap[b]? = some (.cells (c.setIfInBounds o v) t (0, 0)) := by
  simp [World.setCell, Array.getElem?_modify, h]

theorem LoopI.store {m : Nat} {kv : St → Value} {w W : World} {b kb : Nat} {s : St} {sz : Nat} {o : Option Int} (h : LoopI m kv w b kb s sz o W) (hkb : w.heap.size ≤ kb) (hne : b ≠ kb) (hm : m < w.heap.size) (y : Int) :
    LoopI m kv w b kb s sz (some y) ((W.setCell ⟨kb, 0, none⟩ (.int .i64 y)).setCell ⟨kb, 1, none⟩ (.bool true)) := by
  obtain ⟨⟨k1, es, c, k2, k3⟩, hb, hk, hz⟩ := h
  have ho : ∀ k, k ≠ kb → ((W.setCell ⟨kb, 0, none⟩ (.int .i64 y)).setCell ⟨kb, 1, none⟩ (.bool true)).heap[k]? = W.heap[k]? := fun k hk => (Below.heap_setCell _ _ _ _ hk).trans (Below.heap_setCell _ _ _ _ hk)
  have hs : ((W.setCell ⟨kb, 0, none⟩ (.int .i64 y)).setCell ⟨kb, 1, none⟩ (.bool true)).heap.size = W.heap.size := by simp [World.setCell]
  refine ⟨⟨⟨k1.os, k1.tape, k1.output, by rw [hs]; exact k1.size, fun k hk hne' => (ho k (by omega)).trans (k1.block k hk hne')⟩, es, c, (ho m (by omega)).trans k2, k3⟩, (ho b hne).trans hb, ?_, by rw [hs]; exact hz⟩
  rw [heap_setCell_same (heap_setCell_same hk)]
  simp

theorem stepKp_set {sbx rbx rb kb : Nat} (h1 : sbx ≠ kb) (h2 : rbx ≠ kb) (h3 : rb ≠ kb) (W : World) (o : Nat) (v : Value) : StepKp sbx rbx rb W (W.setCell ⟨kb, o, none⟩ v) :=
  ⟨by simp [World.setCell], fun k hk p hp => (Below.heap_setCell _ _ _ _ (by rcases hk with rfl | rfl | rfl <;> assumption)).trans hp⟩

theorem KeepI.put {m : Nat} {kv : St → Value} {w W : World} (h : KeepI m kv w W) {D : Nat} (hD : w.heap.size ≤ D) (hm : D ≠ m) (o : Obj) : KeepI m kv w (W.putObj D o) := by
  obtain ⟨k1, es, c, k2, k3⟩ := h
  exact ⟨⟨k1.os, k1.tape, k1.output, by simpa using k1.size, fun k hk hne => (World.putObj_heap_other (by omega)).trans (k1.block k hk hne)⟩, es, c, (World.putObj_heap_other (Ne.symm hm)).trans k2, k3⟩

theorem KeepI.map {m : Nat} {kv : St → Value} {w W : World} (h : KeepI m kv w W) {es : Array MapEntry} {c : Nat} (hes : Memo kv es) : KeepI m kv w (W.putObj m (.map es c)) := by
  obtain ⟨k1, es0, c0, k2, _⟩ := h
  have hlt := (Array.getElem?_eq_some_iff.1 k2).1
  exact ⟨⟨k1.os, k1.tape, k1.output, by simpa using k1.size, fun k hk hne => (World.putObj_heap_other (fun e => hne (by rw [e]))).trans (k1.block k hk hne)⟩, es, c, World.putObj_heap_same hlt, hes⟩

theorem KeepI.drewN {m : Nat} {kv : St → Value} {w W : World} (h : KeepI m kv w W) (n : Nat) : KeepI m kv w (W.drewN n) := ⟨⟨h.1.os, h.1.tape, h.1.output, h.1.size, h.1.block⟩, h.2⟩

theorem keepsFrom_below {B : Nat} {W W' : World} (h : Below W.heap.size W W') : KeepsFrom B W W' :=
  ⟨h.size, fun k _o _ hk _ => (h.block k (Array.getElem?_eq_some_iff.1 hk).1).trans hk⟩

theorem stepKp_below {sbx rbx rb : Nat} {W W' : World} (h : Below W.heap.size W W') : StepKp sbx rbx rb W W' :=
  ⟨h.size, fun k _ _o hk => (h.block k (Array.getElem?_eq_some_iff.1 hk).1).trans hk⟩

set_option maxRecDepth 100000 in
set_option maxHeartbeats 1000000 in
theorem on_step (ub gb ab rx ob rb m : Nat) (G : GoalFns) (g : Goal Int) (R : Rest) (til : Int) (kv : St → Value) (hG : GoalOkI G g) (hR0 : R.r0.Ok) (hR1 : R.r1.Ok) (n : Nat) (s : St) (hs : s.Ok) (w : World) (hE : EnvI ub gb ab rx ob rb m G R til kv w) (ht : s.hour < til) (htil : til ≤ 16)
    (hkv : kv s = kvI (found R g (n + 1) s))
    (ih : ∀ s' w', s'.Ok → s'.hour = s.hour + 1 → EnvI ub gb ab rx ob rb m G R til kv w' → Calls Try.prog 85 (argsI s' ub gb ab rx ob) w' (OnPostI m kv (found R g n s') w')) :
    Calls Try.prog 85 (argsI s ub gb ab rx ob) w (OnPostI m kv (found R g (n + 1) s) w) := by
  obtain ⟨l1, c1⟩ := cells_of hE.u
  obtain ⟨l2, c2⟩ := cells_of hE.a
  have hne : (s.hour == til) = false := by simp; omega
  have hb1 : Below w.heap.size w (w.alloc (.cells #[.int .i64 s.rider, .int .i64 s.run, .int .i64 s.before, .int .i64 s.hour, .int .i64 s.h0, .int .i64 s.h1] 71)) := below_alloc (Below.refl _ _) _
  have hE1 := hE.keep (KeepI.of_below hE.m hb1)
  obtain ⟨es, c, hm, hes⟩ := hE1.m
  obtain ⟨ok, v, hrun, hv⟩ := lookup_memo (T := 122) (E := 124) (by kernel_rfl) zeroK hm hes s
  have hes := hid hes
  have hm := hid hm
  have hE := hid hE
  have hE1 := hid hE1
  have hh1 := hG.hh
  have hj1 := hG.hj
  have ih := hid ih
  have hkv := hid hkv
  have hne2 : ¬ s.hour = til := by omega
  rcases hv with ⟨rfl, rfl⟩ | ⟨rfl, rfl⟩
  · rw [hkv.out] at hrun
    generalize found R g (n + 1) s = o at hrun
    have ht := hid ht
    have hne2 := hid hne2
    refine calls_of_wp_marks 5 Try.func85 rfl ?_
    simp only [Try.ntmps85, List.size_toArray, List.length_cons, List.length_nil, Nat.reduceAdd, Nat.reduceSub, Array.replicate_succ, Array.replicate_zero, List.push_toArray, List.append_toArray, List.nil_append, List.cons_append]
    go_wp2_with fail
    go_quiet (fail)
    go_wp2
    exact ⟨_, results_tmp2 rfl _ _ _, rfl, KeepI.of_below hE.out.m (below_drewN (below_alloc hb1 _) _)⟩
  · have ht := hid ht
    have hne2 := hid hne2
    obtain ⟨l3, c3⟩ := cells_of hE.out.r
    have l31 : rx < w.heap.size + 1 := by omega
    have l32 : rx < w.heap.size + 1 + 1 := by omega
    refine calls_of_wp_marks 5 Try.func85 rfl ?_
    simp only [Try.ntmps85, List.size_toArray, List.length_cons, List.length_nil, Nat.reduceAdd, Nat.reduceSub, Array.replicate_succ, Array.replicate_zero, List.push_toArray, List.append_toArray, List.nil_append, List.cons_append]
    go_wp2_with (go_at_call 86; refine (steps_any _ _ _).mono ?_; rintro e w' ⟨rfl, rfl⟩)
    have hW5 : (((((w.alloc (.cells #[.int .i64 s.rider, .int .i64 s.run, .int .i64 s.before, .int .i64 s.hour, .int .i64 s.h0, .int .i64 s.h1] 71)).alloc (.cells #[.int .i64 0, .bool false] 124)).alloc (.cells #[.int .i64 0, .bool false] 124)).alloc (.cells #[.pointer (some ⟨rb, 0, none⟩)] 64)).alloc (.cells #[.int .i64 s.rider, .int .i64 s.run, .int .i64 s.before, .int .i64 s.hour, .int .i64 s.h0, .int .i64 s.h1] 71)).heap.size = w.heap.size + 5 := by simp
    have hsz5 : (((((w.alloc (.cells #[.int .i64 s.rider, .int .i64 s.run, .int .i64 s.before, .int .i64 s.hour, .int .i64 s.h0, .int .i64 s.h1] 71)).alloc (.cells #[.int .i64 0, .bool false] 124)).alloc (.cells #[.int .i64 0, .bool false] 124)).alloc (.cells #[.pointer (some ⟨rb, 0, none⟩)] 64)).alloc (.cells #[.int .i64 s.rider, .int .i64 s.run, .int .i64 s.before, .int .i64 s.hour, .int .i64 s.h0, .int .i64 s.h1] 71)).heap.size = (((((w.alloc (.cells #[.int .i64 s.rider, .int .i64 s.run, .int .i64 s.before, .int .i64 s.hour, .int .i64 s.h0, .int .i64 s.h1] 71)).alloc (.cells #[.int .i64 0, .bool false] 124)).alloc (.cells #[.int .i64 0, .bool false] 124)).alloc (.cells #[.pointer (some ⟨rb, 0, none⟩)] 64)).alloc (.cells #[.int .i64 s.rider, .int .i64 s.run, .int .i64 s.before, .int .i64 s.hour, .int .i64 s.h0, .int .i64 s.h1] 71)).heap.size := rfl
    have f0 : (((((w.alloc (.cells #[.int .i64 s.rider, .int .i64 s.run, .int .i64 s.before, .int .i64 s.hour, .int .i64 s.h0, .int .i64 s.h1] 71)).alloc (.cells #[.int .i64 0, .bool false] 124)).alloc (.cells #[.int .i64 0, .bool false] 124)).alloc (.cells #[.pointer (some ⟨rb, 0, none⟩)] 64)).alloc (.cells #[.int .i64 s.rider, .int .i64 s.run, .int .i64 s.before, .int .i64 s.hour, .int .i64 s.h0, .int .i64 s.h1] 71)).heap[w.heap.size]? = some (.cells #[.int .i64 s.rider, .int .i64 s.run, .int .i64 s.before, .int .i64 s.hour, .int .i64 s.h0, .int .i64 s.h1] 71 (0, 0)) :=
      alloc_old (by simp <;> omega) (alloc_old (by simp <;> omega) (alloc_old (by simp <;> omega) (alloc_old (by simp <;> omega) (alloc_at rfl))))
    have f2 : (((((w.alloc (.cells #[.int .i64 s.rider, .int .i64 s.run, .int .i64 s.before, .int .i64 s.hour, .int .i64 s.h0, .int .i64 s.h1] 71)).alloc (.cells #[.int .i64 0, .bool false] 124)).alloc (.cells #[.int .i64 0, .bool false] 124)).alloc (.cells #[.pointer (some ⟨rb, 0, none⟩)] 64)).alloc (.cells #[.int .i64 s.rider, .int .i64 s.run, .int .i64 s.before, .int .i64 s.hour, .int .i64 s.h0, .int .i64 s.h1] 71)).heap[w.heap.size + 1 + 1]? = some (.cells #[.int .i64 0, .bool false] 124 (0, 0)) :=
      alloc_old (by simp <;> omega) (alloc_old (by simp <;> omega) (alloc_at (by simp)))
    have f3 : (((((w.alloc (.cells #[.int .i64 s.rider, .int .i64 s.run, .int .i64 s.before, .int .i64 s.hour, .int .i64 s.h0, .int .i64 s.h1] 71)).alloc (.cells #[.int .i64 0, .bool false] 124)).alloc (.cells #[.int .i64 0, .bool false] 124)).alloc (.cells #[.pointer (some ⟨rb, 0, none⟩)] 64)).alloc (.cells #[.int .i64 s.rider, .int .i64 s.run, .int .i64 s.before, .int .i64 s.hour, .int .i64 s.h0, .int .i64 s.h1] 71)).heap[w.heap.size + 1 + 1 + 1]? = some (.cells #[.pointer (some ⟨rb, 0, none⟩)] 64 (0, 0)) :=
      alloc_old (by simp <;> omega) (alloc_at (by simp))
    have f4 : (((((w.alloc (.cells #[.int .i64 s.rider, .int .i64 s.run, .int .i64 s.before, .int .i64 s.hour, .int .i64 s.h0, .int .i64 s.h1] 71)).alloc (.cells #[.int .i64 0, .bool false] 124)).alloc (.cells #[.int .i64 0, .bool false] 124)).alloc (.cells #[.pointer (some ⟨rb, 0, none⟩)] 64)).alloc (.cells #[.int .i64 s.rider, .int .i64 s.run, .int .i64 s.before, .int .i64 s.hour, .int .i64 s.h0, .int .i64 s.h1] 71)).heap[w.heap.size + 1 + 1 + 1 + 1]? = some (.cells #[.int .i64 s.rider, .int .i64 s.run, .int .i64 s.before, .int .i64 s.hour, .int .i64 s.h0, .int .i64 s.h1] 71 (0, 0)) := alloc_at (by simp)
    have hb5 : Below w.heap.size w (((((w.alloc (.cells #[.int .i64 s.rider, .int .i64 s.run, .int .i64 s.before, .int .i64 s.hour, .int .i64 s.h0, .int .i64 s.h1] 71)).alloc (.cells #[.int .i64 0, .bool false] 124)).alloc (.cells #[.int .i64 0, .bool false] 124)).alloc (.cells #[.pointer (some ⟨rb, 0, none⟩)] 64)).alloc (.cells #[.int .i64 s.rider, .int .i64 s.run, .int .i64 s.before, .int .i64 s.hour, .int .i64 s.h0, .int .i64 s.h1] 71)) := below_alloc (below_alloc (below_alloc (below_alloc hb1 _) _) _) _
    have f5 : (((((w.alloc (.cells #[.int .i64 s.rider, .int .i64 s.run, .int .i64 s.before, .int .i64 s.hour, .int .i64 s.h0, .int .i64 s.h1] 71)).alloc (.cells #[.int .i64 0, .bool false] 124)).alloc (.cells #[.int .i64 0, .bool false] 124)).alloc (.cells #[.pointer (some ⟨rb, 0, none⟩)] 64)).alloc (.cells #[.int .i64 s.rider, .int .i64 s.run, .int .i64 s.before, .int .i64 s.hour, .int .i64 s.h0, .int .i64 s.h1] 71)).heap[rb]? = some (.cells (restCells R) 82 (0, 0)) := (hb5.block rb (cells_of hE.out.rr).1).trans hE.out.rr
    have f6 := KeepI.of_below hE.out.m hb5
    have hml : m < (((((w.alloc (.cells #[.int .i64 s.rider, .int .i64 s.run, .int .i64 s.before, .int .i64 s.hour, .int .i64 s.h0, .int .i64 s.h1] 71)).alloc (.cells #[.int .i64 0, .bool false] 124)).alloc (.cells #[.int .i64 0, .bool false] 124)).alloc (.cells #[.pointer (some ⟨rb, 0, none⟩)] 64)).alloc (.cells #[.int .i64 s.rider, .int .i64 s.run, .int .i64 s.before, .int .i64 s.hour, .int .i64 s.h0, .int .i64 s.h1] 71)).heap.size := by obtain ⟨_, _, h, _⟩ := f6.2; exact (Array.getElem?_eq_some_iff.1 h).1
    clear hsz5 hrun hm hes
    generalize (((((w.alloc (.cells #[.int .i64 s.rider, .int .i64 s.run, .int .i64 s.before, .int .i64 s.hour, .int .i64 s.h0, .int .i64 s.h1] 71)).alloc (.cells #[.int .i64 0, .bool false] 124)).alloc (.cells #[.int .i64 0, .bool false] 124)).alloc (.cells #[.pointer (some ⟨rb, 0, none⟩)] 64)).alloc (.cells #[.int .i64 s.rider, .int .i64 s.run, .int .i64 s.before, .int .i64 s.hour, .int .i64 s.h0, .int .i64 s.h1] 71)) = W5 at *
    have hrbl := (cells_of f5).1
    refine (wpIn_wide (n := 5)).1 (wpIn_rangeFunc_ownH (α := Step R s) (encs := encStep) (w0 := W5) rfl (by omega) (gf := 102) (lb := #[.pointer (some ⟨w.heap.size + 1 + 1 + 1 + 1, 0, none⟩), .pointer (some ⟨w.heap.size + 1 + 1 + 1, 0, none⟩)]) rfl trivial (enters_of Try.func102 (by kernel_rfl) rfl)
      (steps_stops 4 (by omega) (w.heap.size + 1 + 1 + 1 + 1) (w.heap.size + 1 + 1 + 1) rb R s hs (by have := ht.out; omega) hR0 hR1 W5 f4 f3 f5) stepKp_t (stepKp_b (by omega) (by omega) hrbl) (Below.refl _ _) (fun _ => rfl)
      (fun pre W => LoopI m kv w w.heap.size (w.heap.size + 1 + 1) s W5.heap.size (foundOn R g n s (pre.map (fun x => x.1))) W) (fun _ _ _ => False) (loopI_own (by omega) (by omega) (by omega) hml) (fun _ _ _ _ _ h _ _ => h.elim) ⟨f6, f0, f2, Nat.le_refl _⟩
      (fun x a' W => ∃ bx, W5.heap.size ≤ bx ∧ W.heap[bx]? = some (.cells #[.int .i64 x.1.2.rider, .int .i64 x.1.2.run, .int .i64 x.1.2.before, .int .i64 x.1.2.hour, .int .i64 x.1.2.h0, .int .i64 x.1.2.h1] 71 (0, 0)) ∧ a' = { tmps := #[sval s, .pointer (some ⟨ub, 0, none⟩), .pointer (some ⟨gb, 0, none⟩), .pointer (some ⟨ab, 0, none⟩), .pointer (some ⟨rx, 0, none⟩), .pointer (some ⟨ob, 0, none⟩), .pointer (some ⟨w.heap.size, 0, none⟩), .int .i64 0, .bool false, .pointer (some ⟨w.heap.size + 1, 0, none⟩), .bool false, .pointer (some ⟨w.heap.size + 1 + 1, 0, none⟩), undef, .pointer (some ⟨bx, 0, none⟩), undef, undef, .pointer (some ⟨w.heap.size, 3, none⟩), .int .i64 s.hour, .int .i64 til, .bool false, undef, undef, undef, undef, .tuple #[kvI none, .bool false], .map (some m), .agg #[.int .i64 s.rider, .int .i64 s.run, .int .i64 s.before, .int .i64 s.hour, .int .i64 s.h0, .int .i64 s.h1], .tuple #[kvI none, .bool false], kvI none, .bool false, .bool false, undef, undef, undef, undef, .pointer (some ⟨rb, 0, none⟩), .agg #[.int .i64 s.rider, .int .i64 s.run, .int .i64 s.before, .int .i64 s.hour, .int .i64 s.h0, .int .i64 s.h1], .func (.func 102) #[] #[.pointer (some ⟨w.heap.size + 1 + 1 + 1 + 1, 0, none⟩), .pointer (some ⟨w.heap.size + 1 + 1 + 1, 0, none⟩)], .int .i64 x.1.1, sval x.1.2, undef, undef, undef, undef, undef, undef, undef, undef, undef, undef, undef, undef, undef, undef, undef, undef, undef, undef, undef, undef, undef, undef, undef, undef, undef, undef, undef, undef, undef, undef, undef], defers := [] })
      ?hAx ?assign ?body ?done ?stop)
    case hAx =>
      rintro x a' _ A B row ⟨bx, h1, h2, h3⟩ hg hr
      refine ⟨bx, h1, (hg.block bx (cells_of h2).1 ?_).trans h2, h3⟩
      intro e
      obtain ⟨_, o, ho, hc⟩ := hr bx e.symm
      rw [h2] at ho; cases ho; cases hc
    case assign =>
      intro l pre x W K hi hK
      gi_wp2
      exact hK _ _ ((keepsFrom_below (below_alloc (Below.refl _ _) _))) (stepKp_below (below_alloc (Below.refl _ _) _)) (hi.below (below_alloc (Below.refl _ _) _)) ⟨W.heap.size, hi.2.2.2, alloc_at rfl, rfl⟩
    case body =>
      rintro l pre x a' W hl _ hI ⟨bx, hbx, hxc, rfl⟩ _
      have hx := mem_steps x.2
      have hEW := hE.out.keep hI.1
      obtain ⟨q1, d1⟩ := cells_of hEW.o
      obtain ⟨q2, d2⟩ := cells_of hxc
      have hnok := St.next_ok hs (r := x.1.1) (by omega) (by omega) (by have := ht.out; omega)
      rw [← hx.2.1] at hnok
      have hnh : x.1.2.hour = s.hour + 1 := by rw [hx.2.1]; rfl
      have hnr : 0 ≤ x.1.2.rider := by rw [hx.2.1]; show 0 ≤ x.1.1; omega
      have HC := hid (ih.out x.1.2 W hnok hnh hEW)
      have hx' := hid hx
      have hnh' := hid hnh
      clear hx hnh
      gi_wp2_with fail
      refine ⟨trivial, ?_⟩
      have HC2 := CallsIn.inRound l ((callsIn_wide (n := 2)).2 HC.out)
      with_reducible refine HC2.mono ?_
      intro e W1 hp
      obtain ⟨he, hk1⟩ := hp
      subst he
      have hI1 : LoopI m kv w w.heap.size (w.heap.size + 1 + 1) s W5.heap.size (foundOn R g n s (pre.map (fun x => x.1))) W1 := ⟨hI.1.trans hk1, hk1.blk hI.1.2 hI.2.1, hk1.blk hI.1.2 hI.2.2.1, Nat.le_trans hI.2.2.2 hk1.1.size⟩
      have hxc1 := hk1.blk hI.1.2 hxc
      have hEW1 := hE.out.keep hI1.1
      have hf1 : KeepsFrom W5.heap.size W W1 := KeepsFrom.of_grownBy hk1.1 (fun j e => by cases e; exact hml)
      have hp1 : StepKp (w.heap.size + 1 + 1 + 1 + 1) (w.heap.size + 1 + 1 + 1) rb W W1 := ⟨hk1.1.size, fun k hk o ho => (hk1.1.block k (Array.getElem?_eq_some_iff.1 ho).1 (by
        intro e; cases e
        obtain ⟨_, _, hmm, _⟩ := hE.out.m
        have := (Array.getElem?_eq_some_iff.1 hmm).1
        rcases hk with h | h | h
        · omega
        · omega
        · have := hE.out.rr; rw [← h, hmm] at this; cases this)).trans ho⟩
      obtain ⟨q3, d3⟩ := cells_of hEW1.g
      obtain ⟨q4, d4⟩ := cells_of hI1.2.1
      obtain ⟨q5, d5⟩ := cells_of hxc1
      have hml' : m < w.heap.size := by obtain ⟨_, _, h, _⟩ := hE.out.m; exact (Array.getElem?_eq_some_iff.1 h).1
      have hrl' : rb < w.heap.size := (cells_of hE.out.rr).1
      cases ho : found R g n x.1.2 with
      | none =>
        gi_wp2
        refine ⟨hf1, hp1, ?_⟩
        simp only [List.map_append, List.map_cons, List.map_nil]
        rw [foundOn_snoc, ho]
        exact hI1
      | some y =>
        have ho' := hid ho
        clear ho
        gi_wp2_with fail
        refine ⟨trivial, ?_⟩
        with_reducible refine (CallsIn.inRound l ((callsIn_wide (n := 2)).2 (hG.kh s x.1.2 y _ hs hnok hnr))).mono ?_
        intro e W2 hp
        obtain ⟨he, hb2⟩ := hp
        subst he
        have hI2 := hI1.below hb2
        have hf2 : KeepsFrom W5.heap.size W W2 := hf1.trans (keepsFrom_below hb2)
        have hp2 : StepKp (w.heap.size + 1 + 1 + 1 + 1) (w.heap.size + 1 + 1 + 1) rb W W2 := stepKp_t hp1 (stepKp_below hb2)
        have hEW2 := hE.out.keep hI2.1
        generalize hfo : foundOn R g n s (pre.map (fun x => x.1)) = k0 at hI2
        have hfo' := hid hfo
        clear hfo d1 d2 d3 d4 d5 hI hI1
        obtain ⟨q6, d6⟩ := cells_of hI2.2.2.1
        have z6 := free_of hI2.2.2.1
        obtain ⟨q7, d7⟩ := cells_of hEW2.g
        cases k0 with
        | none =>
          gi_wp2
          refine ⟨(hf2.trans ((KeepsOthers.setCell _ _ _).from _)).trans ((KeepsOthers.setCell _ _ _).from _), stepKp_t (stepKp_t hp2 (stepKp_set (by omega) (by omega) (by omega) _ _ _)) (stepKp_set (by omega) (by omega) (by omega) _ _ _), ?_⟩
          simp only [List.map_append, List.map_cons, List.map_nil]
          rw [foundOn_snoc, ho'.out, hfo'.out]
          exact hI2.store (by omega) (by omega) hml' _
        | some z =>
          gi_wp2_with fail
          refine ⟨trivial, ?_⟩
          with_reducible refine (CallsIn.inRound l ((callsIn_wide (n := 2)).2 (hG.kj z _ _))).mono ?_
          intro e W3 hp
          obtain ⟨he, hb3⟩ := hp
          subst he
          have hI3 := hI2.below hb3
          obtain ⟨q8, d8⟩ := cells_of hI3.2.2.1
          have z8 := free_of hI3.2.2.1
          clear d6 z6
          gi_wp2
          refine ⟨((hf2.trans (keepsFrom_below hb3)).trans ((KeepsOthers.setCell _ _ _).from _)).trans ((KeepsOthers.setCell _ _ _).from _), stepKp_t (stepKp_t (stepKp_t hp2 (stepKp_below hb3)) (stepKp_set (by omega) (by omega) (by omega) _ _ _)) (stepKp_set (by omega) (by omega) (by omega) _ _ _), ?_⟩
          simp only [List.map_append, List.map_cons, List.map_nil]
          rw [foundOn_snoc, ho'.out, hfo'.out]
          exact hI3.store (by omega) (by omega) hml' _
    case done =>
      intro D ys W hD hS hI hK
      have hml' : m < w.heap.size := by obtain ⟨_, _, h, _⟩ := hE.out.m; exact (Array.getElem?_eq_some_iff.1 h).1
      rw [hS, ← found_succ] at hI
      generalize hfo : found R g (n + 1) s = o at hI
      have hfo' := hid hfo
      obtain ⟨es, c, hm, hes⟩ := hI.1.2
      obtain ⟨es', c', hrun, hes'⟩ := update_memo (T := 122) (E := 124) (by kernel_rfl) hm hes s
      rw [hkv.out, hfo] at hrun
      have hEW := hE.out.keep hI.1
      obtain ⟨q3, d3⟩ := cells_of hEW.a
      obtain ⟨q4, d4⟩ := cells_of hI.2.1
      obtain ⟨q5, d5⟩ := cells_of hI.2.2.1
      have hk2 : (W.putObj m (.map es' c')).heap[w.heap.size + 1 + 1]? = some (.cells #[.int .i64 (o.getD 0), .bool o.isSome] 124 (0, 0)) := (World.putObj_heap_other (by omega)).trans hI.2.2.1
      obtain ⟨q6, d6⟩ := cells_of hk2
      have hKP := (hI.1.map (c := c') hes')
      have hD2 : (W.putObj m (.map es' c')).heap[D]? = some (.deferred (some [])) := (World.putObj_heap_other (by omega)).trans hK
      have hm' := hid hm
      clear hm hfo hk2
      go_wp2
      go_quiet (fail)
      go_wp2
      refine ⟨by simp, .inl ⟨_, _, rfl, run_takeDeferred hD2, ?_⟩⟩
      refine ⟨_, results_tmp2 rfl _ _ _, ?_⟩
      rw [hfo'.out]
      exact ⟨rfl, (hKP.drewN nq).put (by omega) (by omega) _⟩
    case stop =>
      rintro D c pre W _ _ h _
      exact h.elim

end Go.Proofs.Ytkgdejhooghknaa
