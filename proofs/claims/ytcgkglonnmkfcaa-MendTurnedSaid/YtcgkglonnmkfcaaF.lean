/- The walk of find's closure of package mend. -/
import Derived.Test.YtcgkglonnmkfcaaE2
import Derived.Test.YtcgkglonnmkfcaaM
namespace Go.Proofs.Ytcgkglonnmkfcaa
open Go.RowKit Go.Lap Go.Shelf
attribute [local go_sem] Oper.semAt_some

/-- What is known of a bench, as a value. -/
abbrev kvI (o : Option Int) : Value := .agg #[.int .i64 (o.getD 0), .bool o.isSome]

/-- The functions of a goal, as values. -/
structure GoalFns where
  fe : Nat
  ce : Array Value
  fh : Nat
  ch : Array Value
  fj : Nat
  cj : Array Value

/-- They compute what the goal says, where what they need lies in memory. -/
structure GoalOkI (G : GoalFns) (g : Goal Int) (M : Mend) (left : Nat) (B : Nat × Nat) (E : World → Prop) : Prop where
  he : ∀ args w, (callFunc G.fe args).run Try.prog w = .ok (.enter G.fe args) w
  hh : ∀ args w, (callFunc G.fh args).run Try.prog w = .ok (.enter G.fh args) w
  hj : ∀ args w, (callFunc G.fj args).run Try.prog w = .ok (.enter G.fj args) w
  ke : ∀ (b : Bench) (soon last : Int) w, Calls Try.prog G.fe (#[workV b soon last] ++ G.ce) w fun e w' => e = .returned (.int .i64 (g.fin b)) ∧ Below w.heap.size w w'
  kh : ∀ (n : Nat) (b : Bench) (soon : Int) (i : Nat) x w, Bench.In M left n b → i < M.jobs.length → E w → Calls Try.prog G.fh (#[workV b soon i, .int .i64 x] ++ G.ch) w fun e w' => e = .returned (.int .i64 (g.step b i x)) ∧ Below w.heap.size w w'
  kj : ∀ a b w, Calls Try.prog G.fj (#[.int .i64 a, .int .i64 b] ++ G.cj) w fun e w' => e = .returned (.int .i64 (g.join a b)) ∧ Below w.heap.size w w'
  keep : ∀ W W', E W → (∀ k, (k < B.1 ∧ k ≠ B.2) → ∀ o, W.heap[k]? = some o → W'.heap[k]? = some o) → E W'

abbrev onV (rx gb ab ob : Nat) : Value := .func (.func 86) #[] #[.pointer (some ⟨rx, 0, none⟩), .pointer (some ⟨gb, 0, none⟩), .pointer (some ⟨ab, 0, none⟩), .pointer (some ⟨ob, 0, none⟩)]

/-- Where the closure's variables lie. -/
structure EnvI (rx gb ab ob sb m : Nat) (B : Nat × Nat) (G : GoalFns) (M : Mend) (left : Nat) (E : World → Prop) (kv : Bench → Value) (w : World) : Prop where
  g : w.heap[gb]? = some (.cells #[.func (.func G.fe) #[] G.ce, .func (.func G.fh) #[] G.ch, .func (.func G.fj) #[] G.cj] 97 (0, 0))
  a : w.heap[ab]? = some (.cells #[.map (some m)] 113 (0, 0))
  r : w.heap[rx]? = some (.cells #[.pointer (some ⟨sb, 0, none⟩)] 66 (0, 0))
  sh : ShopUnder B w sb M left
  e : E w
  ge : B.1 ≤ m
  le : B.1 ≤ w.heap.size
  o : w.heap[ob]? = some (.cells #[onV rx gb ab ob] 82 (0, 0))
  m : ∃ es c, w.heap[m]? = some (.map es c) ∧ Memo kv es

/-- The map's block and new ones apart, all lies as it lay; and the map tells the truth. -/
def KeepI (m : Nat) (kv : Bench → Value) (w w' : World) : Prop := w.grownBy w' (some m) ∧ ∃ es c, w'.heap[m]? = some (.map es c) ∧ Memo kv es

theorem KeepI.blk {m : Nat} {kv : Bench → Value} {w w' : World} (h : KeepI m kv w w') {b : Nat} {c : Array Value} {t : TypeId} {fr : Nat × Nat} (hm : ∃ es k, w.heap[m]? = some (.map es k) ∧ Memo kv es) (hb : w.heap[b]? = some (.cells c t fr)) : w'.heap[b]? = some (.cells c t fr) := by
  obtain ⟨es, k, hm, _⟩ := hm
  refine (h.1.block b (cells_of hb).1 ?_).trans hb
  intro e
  cases e
  rw [hm] at hb; cases hb
theorem KeepI.low {m : Nat} {B : Nat × Nat} {kv : Bench → Value} {w w' : World} (h : KeepI m kv w w') (hB : B.1 ≤ m) : ∀ k, (k < B.1 ∧ k ≠ B.2) → ∀ o, w.heap[k]? = some o → w'.heap[k]? = some o :=
  fun k hk o ho => (h.1.block k (Array.getElem?_eq_some_iff.1 ho).1 (fun e => by cases e; omega)).trans ho

theorem EnvI.keep {rx gb ab ob sb m : Nat} {B : Nat × Nat} {G : GoalFns} {g : Goal Int} {M : Mend} {left : Nat} {E : World → Prop} {kv : Bench → Value} {w w' : World} (hG : GoalOkI G g M left B E) (h : EnvI rx gb ab ob sb m B G M left E kv w) (k : KeepI m kv w w') : EnvI rx gb ab ob sb m B G M left E kv w' :=
  ⟨k.blk h.m h.g, k.blk h.m h.a, k.blk h.m h.r, h.sh.keep (k.low h.ge), hG.keep _ _ h.e (k.low h.ge), h.ge, Nat.le_trans h.le k.1.size, k.blk h.m h.o, k.2⟩

theorem KeepI.of_below {m : Nat} {kv : Bench → Value} {w w' : World} (hm : ∃ es c, w.heap[m]? = some (.map es c) ∧ Memo kv es) (hb : Below w.heap.size w w') : KeepI m kv w w' := by
  refine ⟨⟨hb.os, hb.tape, hb.output, hb.size, fun k hk _ => hb.block k hk⟩, ?_⟩
  obtain ⟨es, c, h, hes⟩ := hm
  exact ⟨es, c, (hb.block m (Array.getElem?_eq_some_iff.1 h).1).trans h, hes⟩
theorem grownBy_trans {a b c : World} {m : Nat} (h : a.grownBy b (some m)) (k : b.grownBy c (some m)) : a.grownBy c (some m) :=
  ⟨k.os.trans h.os, k.tape.trans h.tape, k.output.trans h.output, Nat.le_trans h.size k.size, fun i hi hm => (k.block i (Nat.lt_of_lt_of_le hi h.size) hm).trans (h.block i hi hm)⟩
theorem KeepI.trans {m : Nat} {kv : Bench → Value} {a b c : World} (h : KeepI m kv a b) (k : KeepI m kv b c) : KeepI m kv a c := ⟨grownBy_trans h.1 k.1, k.2⟩
theorem calls_of_wp_marks {P : Program} {f : FuncId} {fn : Func} {c : Code} {args : Array Value} {w : World} {R : Ending → World → Prop} (n : Nat) (hf : P.funcs[f]? = some fn) (hb : fn.body = some c)
    (h : c.wp P (bodyPostM Fence.wide n P fn R) { tmps := args ++ Array.replicate (fn.ntmps - args.size) undef, defers := [] } w) : Calls P f args w R :=
  (callsIn_wide (n := n)).1 (callsIn_of_wp_marks hf hb trivial ((wpIn_wide (n := n)).2 h) rfl)

abbrev argsI (b : Bench) (soon last : Int) (rx gb ab ob : Nat) : Array Value := #[workV b soon last, .pointer (some ⟨rx, 0, none⟩), .pointer (some ⟨gb, 0, none⟩), .pointer (some ⟨ab, 0, none⟩), .pointer (some ⟨ob, 0, none⟩)]
def OnPostI (m : Nat) (kv : Bench → Value) (o : Option Int) (w : World) (e : Ending) (w' : World) : Prop :=
  e = .returned (.tuple #[.int .i64 (o.getD 0), .bool o.isSome]) ∧ KeepI m kv w w'

set_option maxRecDepth 100000 in
set_option maxHeartbeats 2000000 in
theorem on_end (rx gb ab ob sb m : Nat) (B : Nat × Nat) (G : GoalFns) (g : Goal Int) (M : Mend) (hM : M.Ok) (left : Nat) (hl : left < 64) (E : World → Prop) (kv : Bench → Value) (hG : GoalOkI G g M left B E) (b : Bench) (soon last : Int) (hb : Bench.In M left 0 b) (w : World) (hE : EnvI rx gb ab ob sb m B G M left E kv w) :
    Calls Try.prog 86 (argsI b soon last rx gb ab ob) w (OnPostI m kv (found M left g 0 b) w) := by
  have hall := hid ((In.done_all hb).2 rfl)
  obtain ⟨l1, c1⟩ := cells_of hE.r
  obtain ⟨l2, c2⟩ := cells_of hE.g
  have e1 := hG.he
  have k1 := hid hG.ke
  have hE' := hid hE
  have hbx := alloc_at (w := w) (o := .cells (wcells b soon last) 74) rfl
  have hb0 := below_alloc (Below.refl _ w) (.cells (wcells b soon last) 74)
  have hE0 := hid (hE.keep hG (KeepI.of_below hE.m hb0))
  refine calls_of_wp_marks 5 Try.func86 rfl ?_
  simp only [Try.ntmps86, List.size_toArray, List.length_cons, List.length_nil, Nat.reduceAdd, Nat.reduceSub, Array.replicate_succ, Array.replicate_zero, List.push_toArray, List.append_toArray, List.nil_append, List.cons_append]
  go_wp2
  generalize w.alloc (.cells (wcells b soon last) 74) = w0 at hbx hb0 hE0 ⊢
  obtain ⟨lx, cx⟩ := cells_of hbx
  obtain ⟨lr, cr⟩ := cells_of hE0.out.r
  refine wp_region_later (by kernel_rfl) (by kernel_rfl) ?_
  intro hx
  repeat (any_goals (first | go_big_quiet_step ((go_at_call 87; exact Calls.later (all_any sb M hM left (by omega) _ (hE0.out.sh.below (Later.below _)).at))) | quiet_step ((go_at_call 87; exact Calls.later (all_any sb M hM left (by omega) _ (hE0.out.sh.below (Later.below _)).at)))))
  refine wpQuiet_nil ?_
  rintro w2 ⟨x, hxw⟩
  have hb2 := x.below
  rw [← hxw] at hb2
  clear hx hxw x
  have hE2 := hid (hE0.out.keep hG (KeepI.of_below hE0.out.m hb2))
  have hbx2 := (hb2.block _ lx).trans hbx
  have hbw2 := below_via hb2 hb0
  clear lx cx lr cr l1 c1 l2 c2
  obtain ⟨lx, cx⟩ := cells_of hbx2
  obtain ⟨l2, c2⟩ := cells_of hE2.out.g
  have hdq : ((b.done : Int) == ((allN M.jobs.length left : Nat) : Int)) = true := by rw [hall.out]; simp
  go_wp2_with fail
  refine (k1.out b soon last _).mono ?_
  rintro e w1 ⟨rfl, hb⟩
  go_wp2
  exact ⟨_, results_tmp2 rfl _ _ _, rfl, KeepI.of_below hE'.out.m (below_via hb hbw2)⟩

theorem zeroK (w : World) : (zeroValue 116).run Try.prog w = .ok (kvI none) w := by kernel_rfl

/-- Between two rounds of the loop over the steps. -/
def LoopI (m : Nat) (kv : Bench → Value) (w : World) (bb kb : Nat) (b : Bench) (soon last : Int) (sz : Nat) (o : Option Int) (W : World) : Prop :=
  KeepI m kv w W ∧ W.heap[bb]? = some (.cells (wcells b soon last) 74 (0, 0)) ∧
    W.heap[kb]? = some (.cells #[.int .i64 (o.getD 0), .bool o.isSome] 116 (0, 0)) ∧ sz ≤ W.heap.size

theorem loopI_own {β : Type} {m : Nat} {kv : Bench → Value} {w : World} {bb kb : Nat} {b : Bench} {soon last : Int} {sz : Nat} {f : β → Option Int} (h1 : bb < sz) (h2 : kb < sz) (h3 : w.heap.size ≤ sz) (hm : m < sz) : OwnFrom sz (fun (x : β) W => LoopI m kv w bb kb b soon last sz (f x) W) := by
  intro x A B row hs hg hr
  obtain ⟨⟨k1, es, c, k2, k3⟩, hb, hk, hz⟩ := hs
  have hkeep : ∀ k, k < sz → B.heap[k]? = A.heap[k]? := fun k hk => hg.block k (by omega) (fun e => by have := (hr k e.symm).1; omega)
  refine ⟨⟨⟨hg.os.trans k1.os, hg.tape.trans k1.tape, hg.output.trans k1.output, Nat.le_trans k1.size hg.size, fun k hk hne => (hkeep k (by omega)).trans (k1.block k hk hne)⟩, es, c, (hkeep m hm).trans k2, k3⟩, (hkeep bb h1).trans hb, (hkeep kb h2).trans hk, Nat.le_trans hz hg.size⟩

theorem LoopI.below {m : Nat} {kv : Bench → Value} {w W W' : World} {bb kb : Nat} {b : Bench} {soon last : Int} {sz : Nat} {o : Option Int} (h : LoopI m kv w bb kb b soon last sz o W) (hb : Below W.heap.size W W') : LoopI m kv w bb kb b soon last sz o W' :=
  ⟨h.1.trans (KeepI.of_below h.1.2 hb), (hb.block bb (cells_of h.2.1).1).trans h.2.1, (hb.block kb (cells_of h.2.2.1).1).trans h.2.2.1, Nat.le_trans h.2.2.2 hb.size⟩

theorem LoopI.store {m : Nat} {kv : Bench → Value} {w W : World} {bb kb : Nat} {b : Bench} {soon last : Int} {sz : Nat} {o : Option Int} (h : LoopI m kv w bb kb b soon last sz o W) (hkb : w.heap.size ≤ kb) (hne : bb ≠ kb) (hm : m < w.heap.size) (y : Int) :
    LoopI m kv w bb kb b soon last sz (some y) ((W.setCell ⟨kb, 0, none⟩ (.int .i64 y)).setCell ⟨kb, 1, none⟩ (.bool true)) := by
  obtain ⟨⟨k1, es, c, k2, k3⟩, hb, hk, hz⟩ := h
  have ho : ∀ k, k ≠ kb → ((W.setCell ⟨kb, 0, none⟩ (.int .i64 y)).setCell ⟨kb, 1, none⟩ (.bool true)).heap[k]? = W.heap[k]? := fun k hk => (Below.heap_setCell _ _ _ _ hk).trans (Below.heap_setCell _ _ _ _ hk)
  have hs : ((W.setCell ⟨kb, 0, none⟩ (.int .i64 y)).setCell ⟨kb, 1, none⟩ (.bool true)).heap.size = W.heap.size := by simp [World.setCell]
  refine ⟨⟨⟨k1.os, k1.tape, k1.output, by rw [hs]; exact k1.size, fun k hk hne' => (ho k (by omega)).trans (k1.block k hk hne')⟩, es, c, (ho m (by omega)).trans k2, k3⟩, (ho bb hne).trans hb, ?_, by rw [hs]; exact hz⟩
  rw [heap_set_same (heap_set_same hk)]
  simp

theorem KeepI.put {m : Nat} {kv : Bench → Value} {w W : World} (h : KeepI m kv w W) {D : Nat} (hD : w.heap.size ≤ D) (hm : D ≠ m) (o : Obj) : KeepI m kv w (W.putObj D o) := by
  obtain ⟨k1, es, c, k2, k3⟩ := h
  exact ⟨⟨k1.os, k1.tape, k1.output, by simpa using k1.size, fun k hk hne => (World.putObj_heap_other (by omega)).trans (k1.block k hk hne)⟩, es, c, (World.putObj_heap_other (Ne.symm hm)).trans k2, k3⟩
theorem KeepI.map {m : Nat} {kv : Bench → Value} {w W : World} (h : KeepI m kv w W) {es : Array MapEntry} {c : Nat} (hes : Memo kv es) : KeepI m kv w (W.putObj m (.map es c)) := by
  obtain ⟨k1, es0, c0, k2, _⟩ := h
  have hlt := (Array.getElem?_eq_some_iff.1 k2).1
  exact ⟨⟨k1.os, k1.tape, k1.output, by simpa using k1.size, fun k hk hne => (World.putObj_heap_other (fun e => hne (by rw [e]))).trans (k1.block k hk hne)⟩, es, c, World.putObj_heap_same hlt, hes⟩
theorem KeepI.drewN {m : Nat} {kv : Bench → Value} {w W : World} (h : KeepI m kv w W) (n : Nat) : KeepI m kv w (W.drewN n) := ⟨⟨h.1.os, h.1.tape, h.1.output, h.1.size, h.1.block⟩, h.2⟩
theorem keepsFrom_below {B : Nat} {W W' : World} (h : Below W.heap.size W W') : KeepsFrom B W W' :=
  ⟨h.size, fun k _o _ hk _ => (h.block k (Array.getElem?_eq_some_iff.1 hk).1).trans hk⟩

set_option maxRecDepth 100000 in
set_option maxHeartbeats 2000000 in
theorem on_step (rx gb ab ob sb m : Nat) (B : Nat × Nat) (G : GoalFns) (g : Goal Int) (M : Mend) (hM : M.Ok) (left : Nat) (hl : left < 64) (E : World → Prop) (kv : Bench → Value) (hG : GoalOkI G g M left B E) (n : Nat) (b : Bench) (soon last : Int) (hin : WorkIn M left (n + 1) b soon) (w : World) (hE : EnvI rx gb ab ob sb m B G M left E kv w)
    (hkv : kv b = kvI (found M left g (n + 1) b))
    (ih : ∀ b' soon' last' w', WorkIn M left n b' soon' → EnvI rx gb ab ob sb m B G M left E kv w' → Calls Try.prog 86 (argsI b' soon' last' rx gb ab ob) w' (OnPostI m kv (found M left g n b') w')) :
    Calls Try.prog 86 (argsI b soon last rx gb ab ob) w (OnPostI m kv (found M left g (n + 1) b) w) := by
  have hne : Hid (¬ b.done = allN M.jobs.length left) := hid (fun e => by have := (In.done_all hin.b).1 e; omega)
  have hE' := hid hE
  have hbx := alloc_at (w := w) (o := .cells (wcells b soon last) 74) rfl
  have hb0 := below_alloc (Below.refl _ w) (.cells (wcells b soon last) 74)
  have hE0 := hid (hE.keep hG (KeepI.of_below hE.m hb0))
  have hlw : w.heap.size < (w.alloc (.cells (wcells b soon last) 74)).heap.size := by simp
  have hh1 := hG.hh
  have hj1 := hG.hj
  have ih := hid ih
  have hkv := hid hkv
  have hin' := hid hin
  clear hin
  refine calls_of_wp_marks 5 Try.func86 rfl ?_
  simp only [Try.ntmps86, List.size_toArray, List.length_cons, List.length_nil, Nat.reduceAdd, Nat.reduceSub, Array.replicate_succ, Array.replicate_zero, List.push_toArray, List.append_toArray, List.nil_append, List.cons_append]
  go_wp2
  generalize w.alloc (.cells (wcells b soon last) 74) = w0 at hbx hb0 hE0 hlw ⊢
  obtain ⟨lx, cx⟩ := cells_of hbx
  obtain ⟨lr, cr⟩ := cells_of hE0.out.r
  refine wp_region_later (by kernel_rfl) (by kernel_rfl) ?_
  intro hx
  repeat (any_goals (first | go_big_quiet_step ((go_at_call 87; exact Calls.later (all_any sb M hM left (by omega) _ (hE0.out.sh.below (Later.below _)).at))) | quiet_step ((go_at_call 87; exact Calls.later (all_any sb M hM left (by omega) _ (hE0.out.sh.below (Later.below _)).at)))))
  refine wpQuiet_nil ?_
  rintro w1 ⟨x, hxw⟩
  have hb2 := x.below
  rw [← hxw] at hb2
  clear hx hxw x
  have hE1 := hid (hE0.out.keep hG (KeepI.of_below hE0.out.m hb2))
  have hbx1 := (hb2.block _ lx).trans hbx
  have hbw1 := below_via hb2 hb0
  have hsz1 : w.heap.size < w1.heap.size := Nat.lt_of_lt_of_le hlw hb2.size
  clear lx cx lr cr hbx hb2 hlw hb0
  obtain ⟨lx, cx⟩ := cells_of hbx1
  obtain ⟨l2, c2⟩ := cells_of hE1.out.a
  have hdq : ((b.done : Int) == ((allN M.jobs.length left : Nat) : Int)) = false := by have := hne.out; simp; omega
  obtain ⟨es, c, hm, hes⟩ := hE1.out.m
  obtain ⟨ok, v, hrun, hv⟩ := lookup_memo (T := 113) (E := 116) (by kernel_rfl) zeroK hm hes b
  have hes := hid hes
  have hm := hid hm
  rcases hv with ⟨rfl, rfl⟩ | ⟨rfl, rfl⟩
  · rw [hkv.out] at hrun
    go_wp2_with fail
    go_quiet (fail)
    go_wp2
    exact ⟨_, results_tmp2 rfl _ _ _, rfl, KeepI.of_below hE'.out.m (below_drewN (below_alloc hbw1 _) _)⟩
  · obtain ⟨l3, c3⟩ := cells_of hE1.out.r
    have l31 : rx < w1.heap.size + 1 := by omega
    have l32 : rx < w1.heap.size + 1 + 1 := by omega
    go_wp2_with (go_at_call 60; refine (steps_any _ _ _ _ _).mono ?_; rintro e w' ⟨rfl, rfl⟩)
    have hW5 : ((((w1.alloc (.cells #[.int .i64 0, .bool false] 116)).alloc (.cells #[.int .i64 0, .bool false] 116)).alloc (.cells #[.pointer (some ⟨sb, 0, none⟩)] 66)).alloc (.cells (wcells b soon last) 74)).heap.size = w1.heap.size + 4 := by simp
    have f0 : ((((w1.alloc (.cells #[.int .i64 0, .bool false] 116)).alloc (.cells #[.int .i64 0, .bool false] 116)).alloc (.cells #[.pointer (some ⟨sb, 0, none⟩)] 66)).alloc (.cells (wcells b soon last) 74)).heap[w.heap.size]? = some (.cells (wcells b soon last) 74 (0, 0)) := alloc_old (by simp <;> omega) (alloc_old (by simp <;> omega) (alloc_old (by simp <;> omega) (alloc_old lx hbx1)))
    have f2 : ((((w1.alloc (.cells #[.int .i64 0, .bool false] 116)).alloc (.cells #[.int .i64 0, .bool false] 116)).alloc (.cells #[.pointer (some ⟨sb, 0, none⟩)] 66)).alloc (.cells (wcells b soon last) 74)).heap[w1.heap.size + 1]? = some (.cells #[.int .i64 0, .bool false] 116 (0, 0)) := alloc_old (by simp <;> omega) (alloc_old (by simp <;> omega) (alloc_at (by simp)))
    have f3 : ((((w1.alloc (.cells #[.int .i64 0, .bool false] 116)).alloc (.cells #[.int .i64 0, .bool false] 116)).alloc (.cells #[.pointer (some ⟨sb, 0, none⟩)] 66)).alloc (.cells (wcells b soon last) 74)).heap[w1.heap.size + 1 + 1]? = some (.cells #[.pointer (some ⟨sb, 0, none⟩)] 66 (0, 0)) := alloc_old (by simp <;> omega) (alloc_at (by simp))
    have f4 : ((((w1.alloc (.cells #[.int .i64 0, .bool false] 116)).alloc (.cells #[.int .i64 0, .bool false] 116)).alloc (.cells #[.pointer (some ⟨sb, 0, none⟩)] 66)).alloc (.cells (wcells b soon last) 74)).heap[w1.heap.size + 1 + 1 + 1]? = some (.cells (wcells b soon last) 74 (0, 0)) := alloc_at (by simp)
    have hb5 : Below w1.heap.size w1 ((((w1.alloc (.cells #[.int .i64 0, .bool false] 116)).alloc (.cells #[.int .i64 0, .bool false] 116)).alloc (.cells #[.pointer (some ⟨sb, 0, none⟩)] 66)).alloc (.cells (wcells b soon last) 74)) := below_alloc (below_alloc (below_alloc (below_alloc (Below.refl _ _) _) _) _) _
    have hbw5 := below_via hb5 hbw1
    have f5 : ShopUnder B ((((w1.alloc (.cells #[.int .i64 0, .bool false] 116)).alloc (.cells #[.int .i64 0, .bool false] 116)).alloc (.cells #[.pointer (some ⟨sb, 0, none⟩)] 66)).alloc (.cells (wcells b soon last) 74)) sb M left := hE1.out.sh.below hb5
    have f6 := KeepI.of_below hE'.out.m hbw5
    have hml' : m < w.heap.size := by obtain ⟨_, _, h, _⟩ := hE'.out.m; exact (Array.getElem?_eq_some_iff.1 h).1
    have hge := hE'.out.ge
    have hle := hE'.out.le
    clear hrun hm hes
    generalize ((((w1.alloc (.cells #[.int .i64 0, .bool false] 116)).alloc (.cells #[.int .i64 0, .bool false] 116)).alloc (.cells #[.pointer (some ⟨sb, 0, none⟩)] 66)).alloc (.cells (wcells b soon last) 74)) = W5 at *
    refine (wpIn_wide (n := 5)).1 (wpIn_rangeFunc_ownH (α := Step M left b) (encs := encStep soon) (w0 := W5) rfl (by omega) (gf := 85) (lb := #[.pointer (some ⟨w1.heap.size + 1 + 1, 0, none⟩), .pointer (some ⟨w1.heap.size + 1 + 1 + 1, 0, none⟩)]) rfl trivial (enters_of Try.func85 (by kernel_rfl) rfl)
      (steps_stops 4 (by omega) (w1.heap.size + 1 + 1 + 1) (w1.heap.size + 1 + 1) sb B M hM left hl b soon last n (.inr hin'.out) W5 f4 f3 f5) stepKp_t (stepKp_b (by omega) (by omega) (by omega)) (Below.refl _ _) (fun _ => rfl)
      (fun pre W => LoopI m kv w w.heap.size (w1.heap.size + 1) b soon last W5.heap.size (foundOn M left g n (pre.map (fun x => x.1))) W) (fun _ _ _ => False) (loopI_own (by omega) (by omega) (by omega) (by omega)) (fun _ _ _ _ _ h _ _ => h.elim) ⟨f6, f0, f2, Nat.le_refl _⟩
      (fun x a' W => ∃ bx, W5.heap.size ≤ bx ∧ W.heap[bx]? = some (.cells (wcells x.1.2 (M.ends b.kind soon (M.job x.1.1) (M.job x.1.1).lo) x.1.1) 74 (0, 0)) ∧ a' = { tmps := #[workV b soon last, .pointer (some ⟨rx, 0, none⟩), .pointer (some ⟨gb, 0, none⟩), .pointer (some ⟨ab, 0, none⟩), .pointer (some ⟨ob, 0, none⟩), .pointer (some ⟨w.heap.size, 0, none⟩), .int .i64 0, .bool false, .pointer (some ⟨w1.heap.size, 0, none⟩), .bool false, .pointer (some ⟨w1.heap.size + 1, 0, none⟩), undef, .pointer (some ⟨bx, 0, none⟩), undef, undef, .pointer (some ⟨w.heap.size, 0, none⟩), .pointer (some ⟨w.heap.size, 0, none⟩), .int .u64 b.done, .pointer (some ⟨sb, 0, none⟩), .int .u64 (allN M.jobs.length left : Nat), .bool false, undef, undef, undef, undef, .tuple #[kvI none, .bool false], .map (some m), .pointer (some ⟨w.heap.size, 0, none⟩), .agg #[.int .u64 b.done, .int .i64 b.kind, .int .i64 b.late], .tuple #[kvI none, .bool false], kvI none, .bool false, .bool false, undef, undef, undef, undef, .pointer (some ⟨sb, 0, none⟩), workV b soon last, .func (.func 85) #[] #[.pointer (some ⟨w1.heap.size + 1 + 1, 0, none⟩), .pointer (some ⟨w1.heap.size + 1 + 1 + 1, 0, none⟩)], .int .i64 x.1.1, workV x.1.2 (M.ends b.kind soon (M.job x.1.1) (M.job x.1.1).lo) x.1.1, undef, undef, undef, undef, undef, undef, undef, undef, undef, undef, undef, undef, undef, undef, undef, undef, undef, undef, undef, undef, undef, undef, undef, undef, undef, undef, undef, undef, undef, undef, undef], defers := [] })
      ?hAx ?assign ?body ?done ?stop)
    case hAx =>
      rintro x a' _ A B row ⟨bx, h1, h2, h3⟩ hg hr
      refine ⟨bx, h1, (hg.block bx (cells_of h2).1 ?_).trans h2, h3⟩
      intro e
      obtain ⟨_, o, ho, hc⟩ := hr bx e.symm
      rw [h2] at ho; cases ho; cases hc
    case assign =>
      intro l pre x W K hi hK
      gi_wp2
      exact hK _ _ ((keepsFrom_below (below_alloc (Below.refl _ _) _))) (stepKp_below (below_alloc (Below.refl _ _) _)) (hi.below (below_alloc (Below.refl _ _) _)) ⟨W.heap.size, hi.2.2.2, alloc_at rfl, rfl⟩
    case body =>
      rintro l pre x a' W hl2 _ hI ⟨bx, hbx, hxc, rfl⟩ _
      have hx := mem_stepsTo.1 x.2
      have hEW := hE'.out.keep hG hI.1
      obtain ⟨q1, d1⟩ := cells_of hEW.o
      obtain ⟨q2, d2⟩ := cells_of hxc
      have hnin := hin'.out.next hM hx.1 hx.2.1
      rw [← hx.2.2.1] at hnin
      have HC := hid (ih.out x.1.2 _ x.1.1 W hnin hEW)
      have hx' := hid hx
      have hnin' := hid hnin
      clear hx hnin
      gi_wp2_with fail
      refine ⟨trivial, ?_⟩
      have HC2 := CallsIn.inRound l ((callsIn_wide (n := 2)).2 HC.out)
      with_reducible refine HC2.mono ?_
      intro e W1 hp
      obtain ⟨he, hk1⟩ := hp
      subst he
      have hI1 : LoopI m kv w w.heap.size (w1.heap.size + 1) b soon last W5.heap.size (foundOn M left g n (pre.map (fun x => x.1))) W1 := ⟨hI.1.trans hk1, hk1.blk hI.1.2 hI.2.1, hk1.blk hI.1.2 hI.2.2.1, Nat.le_trans hI.2.2.2 hk1.1.size⟩
      have hxc1 := hk1.blk hI.1.2 hxc
      have hEW1 := hE'.out.keep hG hI1.1
      have hf1 : KeepsFrom W5.heap.size W W1 := KeepsFrom.of_grownBy hk1.1 (fun j e => by cases e; omega)
      have hp1 : StepKp (w1.heap.size + 1 + 1 + 1) (w1.heap.size + 1 + 1) B W W1 := ⟨hk1.1.size, fun k hk o ho => (hk1.1.block k (Array.getElem?_eq_some_iff.1 ho).1 (by
        intro e; cases e
        rcases hk with h | h | h <;> omega)).trans ho⟩
      obtain ⟨q3, d3⟩ := cells_of hEW1.g
      obtain ⟨q4, d4⟩ := cells_of hI1.2.1
      obtain ⟨q5, d5⟩ := cells_of hxc1
      cases ho : found M left g n x.1.2 with
      | none =>
        gi_wp2
        refine ⟨hf1, hp1, ?_⟩
        simp only [List.map_append, List.map_cons, List.map_nil]
        rw [foundOn_snoc, ho]
        exact hI1
      | some y =>
        have ho' := hid ho
        clear ho
        gi_wp2_with fail
        refine ⟨trivial, ?_⟩
        with_reducible refine (CallsIn.inRound l ((callsIn_wide (n := 2)).2 (hG.kh n x.1.2 _ x.1.1 y _ hnin'.out.b hx'.out.1 hEW1.e))).mono ?_
        intro e W2 hp
        obtain ⟨he, hb2⟩ := hp
        subst he
        have hI2 := hI1.below hb2
        have hf2 : KeepsFrom W5.heap.size W W2 := hf1.trans (keepsFrom_below hb2)
        have hp2 : StepKp (w1.heap.size + 1 + 1 + 1) (w1.heap.size + 1 + 1) B W W2 := stepKp_t hp1 (stepKp_below hb2)
        have hEW2 := hE'.out.keep hG hI2.1
        generalize hfo : foundOn M left g n (pre.map (fun x => x.1)) = k0 at hI2
        have hfo' := hid hfo
        clear hfo d1 d2 d3 d4 d5 hI hI1
        obtain ⟨q6, d6⟩ := cells_of hI2.2.2.1
        have z6 := free_of hI2.2.2.1
        obtain ⟨q7, d7⟩ := cells_of hEW2.g
        cases k0 with
        | none =>
          gi_wp2
          refine ⟨(hf2.trans ((KeepsOthers.setCell _ _ _).from _)).trans ((KeepsOthers.setCell _ _ _).from _), stepKp_t (stepKp_t hp2 (stepKp_set (by omega) (by omega) (by omega) _ _ _)) (stepKp_set (by omega) (by omega) (by omega) _ _ _), ?_⟩
          simp only [List.map_append, List.map_cons, List.map_nil]
          rw [foundOn_snoc, ho'.out, hfo'.out]
          exact hI2.store (by omega) (by omega) hml' _
        | some z =>
          gi_wp2_with fail
          refine ⟨trivial, ?_⟩
          with_reducible refine (CallsIn.inRound l ((callsIn_wide (n := 2)).2 (hG.kj z _ _))).mono ?_
          intro e W3 hp
          obtain ⟨he, hb3⟩ := hp
          subst he
          have hI3 := hI2.below hb3
          obtain ⟨q8, d8⟩ := cells_of hI3.2.2.1
          have z8 := free_of hI3.2.2.1
          clear d6 z6
          gi_wp2
          refine ⟨((hf2.trans (keepsFrom_below hb3)).trans ((KeepsOthers.setCell _ _ _).from _)).trans ((KeepsOthers.setCell _ _ _).from _), stepKp_t (stepKp_t (stepKp_t hp2 (stepKp_below hb3)) (stepKp_set (by omega) (by omega) (by omega) _ _ _)) (stepKp_set (by omega) (by omega) (by omega) _ _ _), ?_⟩
          simp only [List.map_append, List.map_cons, List.map_nil]
          rw [foundOn_snoc, ho'.out, hfo'.out]
          exact hI3.store (by omega) (by omega) hml' _
    case done =>
      intro D ys W hD hS hI hK
      rw [hS, ← found_succ] at hI
      generalize hfo : found M left g (n + 1) b = o at hI
      have hfo' := hid hfo
      obtain ⟨es, c, hm, hes⟩ := hI.1.2
      obtain ⟨es', c', hrun, hes'⟩ := update_memo (T := 113) (E := 116) (by kernel_rfl) hm hes b
      rw [hkv.out, hfo] at hrun
      have hEW := hE'.out.keep hG hI.1
      obtain ⟨q3, d3⟩ := cells_of hEW.a
      obtain ⟨q4, d4⟩ := cells_of hI.2.1
      obtain ⟨q5, d5⟩ := cells_of hI.2.2.1
      have hk2 : (W.putObj m (.map es' c')).heap[w1.heap.size + 1]? = some (.cells #[.int .i64 (o.getD 0), .bool o.isSome] 116 (0, 0)) := (World.putObj_heap_other (by omega)).trans hI.2.2.1
      obtain ⟨q6, d6⟩ := cells_of hk2
      have hKP := (hI.1.map (c := c') hes')
      have hD2 : (W.putObj m (.map es' c')).heap[D]? = some (.deferred (some [])) := (World.putObj_heap_other (by omega)).trans hK
      have hm' := hid hm
      clear hm hfo hk2
      go_wp2
      go_quiet (fail)
      go_wp2
      refine ⟨by simp, .inl ⟨_, _, rfl, run_takeDeferred hD2, ?_⟩⟩
      refine ⟨_, results_tmp2 rfl _ _ _, ?_⟩
      rw [hfo'.out]
      exact ⟨rfl, (hKP.drewN nq).put (by omega) (by omega) _⟩
    case stop =>
      rintro D c pre W _ _ h _
      exact h.elim

end Go.Proofs.Ytcgkglonnmkfcaa
