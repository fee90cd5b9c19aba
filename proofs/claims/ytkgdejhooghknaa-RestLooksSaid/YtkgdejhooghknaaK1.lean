/- The walk of find and of its closure, at spans. -/
import Derived.Test.YtkgdejhooghknaaKP
import Derived.Laws.EntriesVeiled
namespace Go.Proofs.Ytkgdejhooghknaa
open Go.RowKit Go.Lap Go.Shelf
attribute [local go_sem] Oper.semAt_some

/-- Where the closure's variables lie. -/
structure EnvS (ub gb ab rx ob rb m : Nat) (G : GoalFns) (R : Rest) (til : Int) (kv : St → Value) (w : World) : Prop where
  u : w.heap[ub]? = some (.cells #[.int .i64 til] 3 (0, 0))
  g : w.heap[gb]? = some (.cells #[.func (.func G.fe) #[] G.ce, .func (.func G.fh) #[] G.ch, .func (.func G.fj) #[] G.cj] 102 (0, 0))
  a : w.heap[ab]? = some (.cells #[.map (some m)] 130 (0, 0))
  r : w.heap[rx]? = some (.cells #[.pointer (some ⟨rb, 0, none⟩)] 64 (0, 0))
  rr : w.heap[rb]? = some (.cells (restCells R) 82 (0, 0))
  o : w.heap[ob]? = some (.cells #[.func (.func 95) #[] #[.pointer (some ⟨ub, 0, none⟩), .pointer (some ⟨gb, 0, none⟩), .pointer (some ⟨ab, 0, none⟩), .pointer (some ⟨rx, 0, none⟩), .pointer (some ⟨ob, 0, none⟩)]] 96 (0, 0))
  m : ∃ es c, w.heap[m]? = some (.map es c) ∧ Memo kv es

theorem EnvS.keep {ub gb ab rx ob rb m : Nat} {G : GoalFns} {R : Rest} {til : Int} {kv : St → Value} {w w' : World} (h : EnvS ub gb ab rx ob rb m G R til kv w) (k : KeepI m kv w w') : EnvS ub gb ab rx ob rb m G R til kv w' :=
  ⟨k.blk h.m h.u, k.blk h.m h.g, k.blk h.m h.a, k.blk h.m h.r, k.blk h.m h.rr, k.blk h.m h.o, k.2⟩

def OnPostS (m : Nat) (kv : St → Value) (o : Option (Int × Int)) (w : World) (e : Ending) (w' : World) : Prop :=
  e = .returned (.tuple #[pV (o.getD (0, 0)), .bool o.isSome]) ∧ KeepI m kv w w'

set_option maxRecDepth 100000 in
set_option maxHeartbeats 2000000 in
theorem on_endS (ub gb ab rx ob rb m : Nat) (G : GoalFns) (g : Goal (Int × Int)) (C : World → Prop) (hC : Lasts C m) (R : Rest) (kv : St → Value) (hG : GoalOkP G g) (hP : GoalRunP G g C) (s : St) (hs : s.Ok) (w : World) (hE : EnvS ub gb ab rx ob rb m G R s.hour kv w) (hw : C w) :
    Calls Try.prog 95 (argsI s ub gb ab rx ob) w (OnPostS m kv (found R g 0 s) w) := by
  obtain ⟨l1, c1⟩ := cells_of hE.u
  obtain ⟨l2, c2⟩ := cells_of hE.g
  have e1 := hG.he
  have k1 := hid hP.ke
  have hb2 : Below w.heap.size w ((w.alloc (.cells #[.int .i64 s.rider, .int .i64 s.run, .int .i64 s.before, .int .i64 s.hour, .int .i64 s.h0, .int .i64 s.h1] 71)).alloc (.cells #[.int .i64 0, .int .i64 0] 41)) := below_alloc (below_alloc (Below.refl _ _) _) _
  have hC2 := hC.keep hE.m (KeepI.of_below hE.m hb2) hw
  have hA : ((w.alloc (.cells #[.int .i64 s.rider, .int .i64 s.run, .int .i64 s.before, .int .i64 s.hour, .int .i64 s.h0, .int .i64 s.h1] 71)).alloc (.cells #[.int .i64 0, .int .i64 0] 41)).heap[w.heap.size + 1]? = some (.cells #[.int .i64 0, .int .i64 0] 41 (0, 0)) := alloc_at (by simp)
  have hA' := hid hA
  have hb2' := hid hb2
  clear hA hb2
  refine calls_of_wp_marks 5 Try.func95 rfl ?_
  simp only [Try.ntmps95, List.size_toArray, List.length_cons, List.length_nil, Nat.reduceAdd, Nat.reduceSub, Array.replicate_succ, Array.replicate_zero, List.push_toArray, List.append_toArray, List.nil_append, List.cons_append]
  go_wp2_with fail
  refine (k1.out s _ hs hC2).mono ?_
  rintro e w1 ⟨rfl, hb⟩
  have hA1 := (hb.block _ (cells_of hA'.out).1).trans hA'.out
  obtain ⟨l7, c7⟩ := cells_of hA1
  have z7 := free_of hA1
  go_wp2
  refine ⟨.tuple #[pV (g.fin s), .bool true], by simp [results, Try.results95, go_sem, c7], rfl, KeepI.of_below hE.m (below_set (below_set (below_via hb hb2'.out) _ (by simp)) _ (by simp))⟩

theorem zeroS (w : World) : (zeroValue 132).run Try.prog w = .ok (kvP none) w := by kernel_rfl

set_option maxRecDepth 100000 in
set_option maxHeartbeats 1000000 in
theorem on_stepS (ub gb ab rx ob rb m : Nat) (G : GoalFns) (g : Goal (Int × Int)) (C : World → Prop) (hC : Lasts C m) (R : Rest) (til : Int) (kv : St → Value) (hG : GoalOkP G g) (hP : GoalRunP G g C) (hR0 : R.r0.Ok) (hR1 : R.r1.Ok) (n : Nat) (s : St) (hs : s.Ok) (w : World) (hE : EnvS ub gb ab rx ob rb m G R til kv w) (hw : C w) (ht : s.hour < til) (htil : til ≤ 16)
    (hkv : kv s = kvP (found R g (n + 1) s))
    (ih : ∀ s' w', s'.Ok → s'.hour = s.hour + 1 → EnvS ub gb ab rx ob rb m G R til kv w' → C w' → Calls Try.prog 95 (argsI s' ub gb ab rx ob) w' (OnPostS m kv (found R g n s') w')) :
    Calls Try.prog 95 (argsI s ub gb ab rx ob) w (OnPostS m kv (found R g (n + 1) s) w) := by
  obtain ⟨l1, c1⟩ := cells_of hE.u
  obtain ⟨l2, c2⟩ := cells_of hE.a
  have hne : (s.hour == til) = false := by simp; omega
  have hb1 : Below w.heap.size w ((w.alloc (.cells #[.int .i64 s.rider, .int .i64 s.run, .int .i64 s.before, .int .i64 s.hour, .int .i64 s.h0, .int .i64 s.h1] 71)).alloc (.cells #[.int .i64 0, .int .i64 0] 41)) := below_alloc (below_alloc (Below.refl _ _) _) _
  have hE1 := hE.keep (KeepI.of_below hE.m hb1)
  obtain ⟨es, c, hm, hes⟩ := hE1.m
  obtain ⟨ok, v, hrun, hv⟩ := lookup_memo (T := 130) (E := 132) (by kernel_rfl) zeroS hm hes s
  have hes := hid hes
  have hm := hid hm
  have hE := hid hE
  have hE1 := hid hE1
  have hh1 := hG.hh
  have hj1 := hG.hj
  have ih := hid ih
  have hkv := hid hkv
  have hne2 : ¬ s.hour = til := by omega
  rcases hv with ⟨rfl, rfl⟩ | ⟨rfl, rfl⟩
  · rw [hkv.out] at hrun
    generalize found R g (n + 1) s = o at hrun
    have ht := hid ht
    have hne2 := hid hne2
    refine calls_of_wp_marks 5 Try.func95 rfl ?_
    simp only [Try.ntmps95, List.size_toArray, List.length_cons, List.length_nil, Nat.reduceAdd, Nat.reduceSub, Array.replicate_succ, Array.replicate_zero, List.push_toArray, List.append_toArray, List.nil_append, List.cons_append]
    go_wp2_with fail
    go_region
    all_goals
      go_wp2
      refine ⟨.tuple #[pV (o.getD (0, 0)), .bool o.isSome], by simp [results, Try.results95, go_sem], rfl, KeepI.of_below hE.out.m ?_⟩
      (repeat (first | exact Below.refl _ _ | exact hb1 | refine Below.drew ?_ | refine below_set ?_ _ (by simp) | refine below_alloc ?_ _))
  · have ht := hid ht
    have hne2 := hid hne2
    obtain ⟨l3, c3⟩ := cells_of hE.out.r
    have l31 : rx < w.heap.size + 1 := by omega
    have l32 : rx < w.heap.size + 1 + 1 := by omega
    have l33 : rx < w.heap.size + 1 + 1 + 1 := by omega
    refine calls_of_wp_marks 5 Try.func95 rfl ?_
    simp only [Try.ntmps95, List.size_toArray, List.length_cons, List.length_nil, Nat.reduceAdd, Nat.reduceSub, Array.replicate_succ, Array.replicate_zero, List.push_toArray, List.append_toArray, List.nil_append, List.cons_append]
    go_wp2_with (go_at_call 86; refine (steps_any _ _ _).mono ?_; rintro e w' ⟨rfl, rfl⟩)
    have hW5 : ((((((w.alloc (.cells #[.int .i64 s.rider, .int .i64 s.run, .int .i64 s.before, .int .i64 s.hour, .int .i64 s.h0, .int .i64 s.h1] 71)).alloc (.cells #[.int .i64 0, .int .i64 0] 41)).alloc (.cells #[.int .i64 0, .int .i64 0, .bool false] 132)).alloc (.cells #[.int .i64 0, .int .i64 0, .bool false] 132)).alloc (.cells #[.pointer (some ⟨rb, 0, none⟩)] 64)).alloc (.cells #[.int .i64 s.rider, .int .i64 s.run, .int .i64 s.before, .int .i64 s.hour, .int .i64 s.h0, .int .i64 s.h1] 71)).heap.size = w.heap.size + 6 := by simp
    have f0 : ((((((w.alloc (.cells #[.int .i64 s.rider, .int .i64 s.run, .int .i64 s.before, .int .i64 s.hour, .int .i64 s.h0, .int .i64 s.h1] 71)).alloc (.cells #[.int .i64 0, .int .i64 0] 41)).alloc (.cells #[.int .i64 0, .int .i64 0, .bool false] 132)).alloc (.cells #[.int .i64 0, .int .i64 0, .bool false] 132)).alloc (.cells #[.pointer (some ⟨rb, 0, none⟩)] 64)).alloc (.cells #[.int .i64 s.rider, .int .i64 s.run, .int .i64 s.before, .int .i64 s.hour, .int .i64 s.h0, .int .i64 s.h1] 71)).heap[w.heap.size]? = some (.cells #[.int .i64 s.rider, .int .i64 s.run, .int .i64 s.before, .int .i64 s.hour, .int .i64 s.h0, .int .i64 s.h1] 71 (0, 0)) := (alloc_old (by simp <;> omega) (alloc_old (by simp <;> omega) (alloc_old (by simp <;> omega) (alloc_old (by simp <;> omega) (alloc_old (by simp <;> omega) (alloc_at rfl))))))
    have f1 : ((((((w.alloc (.cells #[.int .i64 s.rider, .int .i64 s.run, .int .i64 s.before, .int .i64 s.hour, .int .i64 s.h0, .int .i64 s.h1] 71)).alloc (.cells #[.int .i64 0, .int .i64 0] 41)).alloc (.cells #[.int .i64 0, .int .i64 0, .bool false] 132)).alloc (.cells #[.int .i64 0, .int .i64 0, .bool false] 132)).alloc (.cells #[.pointer (some ⟨rb, 0, none⟩)] 64)).alloc (.cells #[.int .i64 s.rider, .int .i64 s.run, .int .i64 s.before, .int .i64 s.hour, .int .i64 s.h0, .int .i64 s.h1] 71)).heap[w.heap.size + 1]? = some (.cells #[.int .i64 0, .int .i64 0] 41 (0, 0)) := (alloc_old (by simp <;> omega) (alloc_old (by simp <;> omega) (alloc_old (by simp <;> omega) (alloc_old (by simp <;> omega) (alloc_at (by simp))))))
    have f2 : ((((((w.alloc (.cells #[.int .i64 s.rider, .int .i64 s.run, .int .i64 s.before, .int .i64 s.hour, .int .i64 s.h0, .int .i64 s.h1] 71)).alloc (.cells #[.int .i64 0, .int .i64 0] 41)).alloc (.cells #[.int .i64 0, .int .i64 0, .bool false] 132)).alloc (.cells #[.int .i64 0, .int .i64 0, .bool false] 132)).alloc (.cells #[.pointer (some ⟨rb, 0, none⟩)] 64)).alloc (.cells #[.int .i64 s.rider, .int .i64 s.run, .int .i64 s.before, .int .i64 s.hour, .int .i64 s.h0, .int .i64 s.h1] 71)).heap[w.heap.size + 1 + 1 + 1]? = some (.cells #[.int .i64 0, .int .i64 0, .bool false] 132 (0, 0)) := (alloc_old (by simp <;> omega) (alloc_old (by simp <;> omega) (alloc_at (by simp))))
    have f3 : ((((((w.alloc (.cells #[.int .i64 s.rider, .int .i64 s.run, .int .i64 s.before, .int .i64 s.hour, .int .i64 s.h0, .int .i64 s.h1] 71)).alloc (.cells #[.int .i64 0, .int .i64 0] 41)).alloc (.cells #[.int .i64 0, .int .i64 0, .bool false] 132)).alloc (.cells #[.int .i64 0, .int .i64 0, .bool false] 132)).alloc (.cells #[.pointer (some ⟨rb, 0, none⟩)] 64)).alloc (.cells #[.int .i64 s.rider, .int .i64 s.run, .int .i64 s.before, .int .i64 s.hour, .int .i64 s.h0, .int .i64 s.h1] 71)).heap[w.heap.size + 1 + 1 + 1 + 1]? = some (.cells #[.pointer (some ⟨rb, 0, none⟩)] 64 (0, 0)) := (alloc_old (by simp <;> omega) (alloc_at (by simp)))
    have f4 : ((((((w.alloc (.cells #[.int .i64 s.rider, .int .i64 s.run, .int .i64 s.before, .int .i64 s.hour, .int .i64 s.h0, .int .i64 s.h1] 71)).alloc (.cells #[.int .i64 0, .int .i64 0] 41)).alloc (.cells #[.int .i64 0, .int .i64 0, .bool false] 132)).alloc (.cells #[.int .i64 0, .int .i64 0, .bool false] 132)).alloc (.cells #[.pointer (some ⟨rb, 0, none⟩)] 64)).alloc (.cells #[.int .i64 s.rider, .int .i64 s.run, .int .i64 s.before, .int .i64 s.hour, .int .i64 s.h0, .int .i64 s.h1] 71)).heap[w.heap.size + 1 + 1 + 1 + 1 + 1]? = some (.cells #[.int .i64 s.rider, .int .i64 s.run, .int .i64 s.before, .int .i64 s.hour, .int .i64 s.h0, .int .i64 s.h1] 71 (0, 0)) := alloc_at (by simp)
    have hb5 : Below w.heap.size w ((((((w.alloc (.cells #[.int .i64 s.rider, .int .i64 s.run, .int .i64 s.before, .int .i64 s.hour, .int .i64 s.h0, .int .i64 s.h1] 71)).alloc (.cells #[.int .i64 0, .int .i64 0] 41)).alloc (.cells #[.int .i64 0, .int .i64 0, .bool false] 132)).alloc (.cells #[.int .i64 0, .int .i64 0, .bool false] 132)).alloc (.cells #[.pointer (some ⟨rb, 0, none⟩)] 64)).alloc (.cells #[.int .i64 s.rider, .int .i64 s.run, .int .i64 s.before, .int .i64 s.hour, .int .i64 s.h0, .int .i64 s.h1] 71)) := below_alloc (below_alloc (below_alloc (below_alloc hb1 _) _) _) _
    have f5 : ((((((w.alloc (.cells #[.int .i64 s.rider, .int .i64 s.run, .int .i64 s.before, .int .i64 s.hour, .int .i64 s.h0, .int .i64 s.h1] 71)).alloc (.cells #[.int .i64 0, .int .i64 0] 41)).alloc (.cells #[.int .i64 0, .int .i64 0, .bool false] 132)).alloc (.cells #[.int .i64 0, .int .i64 0, .bool false] 132)).alloc (.cells #[.pointer (some ⟨rb, 0, none⟩)] 64)).alloc (.cells #[.int .i64 s.rider, .int .i64 s.run, .int .i64 s.before, .int .i64 s.hour, .int .i64 s.h0, .int .i64 s.h1] 71)).heap[rb]? = some (.cells (restCells R) 82 (0, 0)) := (hb5.block rb (cells_of hE.out.rr).1).trans hE.out.rr
    have f6 := KeepI.of_below hE.out.m hb5
    have hml : m < ((((((w.alloc (.cells #[.int .i64 s.rider, .int .i64 s.run, .int .i64 s.before, .int .i64 s.hour, .int .i64 s.h0, .int .i64 s.h1] 71)).alloc (.cells #[.int .i64 0, .int .i64 0] 41)).alloc (.cells #[.int .i64 0, .int .i64 0, .bool false] 132)).alloc (.cells #[.int .i64 0, .int .i64 0, .bool false] 132)).alloc (.cells #[.pointer (some ⟨rb, 0, none⟩)] 64)).alloc (.cells #[.int .i64 s.rider, .int .i64 s.run, .int .i64 s.before, .int .i64 s.hour, .int .i64 s.h0, .int .i64 s.h1] 71)).heap.size := by obtain ⟨_, _, h, _⟩ := f6.2; exact (Array.getElem?_eq_some_iff.1 h).1
    clear hrun hm hes
    generalize ((((((w.alloc (.cells #[.int .i64 s.rider, .int .i64 s.run, .int .i64 s.before, .int .i64 s.hour, .int .i64 s.h0, .int .i64 s.h1] 71)).alloc (.cells #[.int .i64 0, .int .i64 0] 41)).alloc (.cells #[.int .i64 0, .int .i64 0, .bool false] 132)).alloc (.cells #[.int .i64 0, .int .i64 0, .bool false] 132)).alloc (.cells #[.pointer (some ⟨rb, 0, none⟩)] 64)).alloc (.cells #[.int .i64 s.rider, .int .i64 s.run, .int .i64 s.before, .int .i64 s.hour, .int .i64 s.h0, .int .i64 s.h1] 71)) = W5 at *
    have hrbl := (cells_of f5).1
    refine (wpIn_wide (n := 5)).1 (wpIn_rangeFunc_ownH (α := Step R s) (encs := encStep) (w0 := W5) rfl (by omega) (gf := 102) (lb := #[.pointer (some ⟨w.heap.size + 1 + 1 + 1 + 1 + 1, 0, none⟩), .pointer (some ⟨w.heap.size + 1 + 1 + 1 + 1, 0, none⟩)]) rfl trivial (enters_of Try.func102 (by kernel_rfl) rfl)
      (steps_stops 4 (by omega) (w.heap.size + 1 + 1 + 1 + 1 + 1) (w.heap.size + 1 + 1 + 1 + 1) rb R s hs (by have := ht.out; omega) hR0 hR1 W5 f4 f3 f5) stepKp_t (stepKp_b (by omega) (by omega) hrbl) (Below.refl _ _) (fun _ => rfl)
      (fun pre W => LoopP 41 132 m kv w w.heap.size (w.heap.size + 1) (w.heap.size + 1 + 1 + 1) s W5.heap.size (foundOn R g n s (pre.map (fun x => x.1))) W) (fun _ _ _ => False) (loopP_own (by omega) (by omega) (by omega) (by omega) hml) (fun _ _ _ _ _ h _ _ => h.elim) ⟨f6, f0, f2, Nat.le_refl _, f1⟩
      (fun x a' W => ∃ bx, W5.heap.size ≤ bx ∧ W.heap[bx]? = some (.cells #[.int .i64 x.1.2.rider, .int .i64 x.1.2.run, .int .i64 x.1.2.before, .int .i64 x.1.2.hour, .int .i64 x.1.2.h0, .int .i64 x.1.2.h1] 71 (0, 0)) ∧ a' = { tmps := #[sval s, .pointer (some ⟨ub, 0, none⟩), .pointer (some ⟨gb, 0, none⟩), .pointer (some ⟨ab, 0, none⟩), .pointer (some ⟨rx, 0, none⟩), .pointer (some ⟨ob, 0, none⟩), .pointer (some ⟨w.heap.size, 0, none⟩), .pointer (some ⟨w.heap.size + 1, 0, none⟩), .bool false, .pointer (some ⟨w.heap.size + 1 + 1, 0, none⟩), .bool false, .pointer (some ⟨w.heap.size + 1 + 1 + 1, 0, none⟩), undef, .pointer (some ⟨bx, 0, none⟩), undef, undef, .pointer (some ⟨w.heap.size, 3, none⟩), .int .i64 s.hour, .int .i64 til, .bool false, undef, undef, undef, undef, .tuple #[kvP none, .bool false], .map (some m), .agg #[.int .i64 s.rider, .int .i64 s.run, .int .i64 s.before, .int .i64 s.hour, .int .i64 s.h0, .int .i64 s.h1], .tuple #[kvP none, .bool false], kvP none, .bool false, .bool false, undef, undef, undef, undef, .pointer (some ⟨rb, 0, none⟩), .agg #[.int .i64 s.rider, .int .i64 s.run, .int .i64 s.before, .int .i64 s.hour, .int .i64 s.h0, .int .i64 s.h1], .func (.func 102) #[] #[.pointer (some ⟨w.heap.size + 1 + 1 + 1 + 1 + 1, 0, none⟩), .pointer (some ⟨w.heap.size + 1 + 1 + 1 + 1, 0, none⟩)], .int .i64 x.1.1, sval x.1.2, undef, undef, undef, undef, undef, undef, undef, undef, undef, undef, undef, undef, undef, undef, undef, undef, undef, undef, undef, undef, undef, undef, undef, undef, undef, undef, undef, undef, undef, undef, undef], defers := [] })
      ?hAx ?assign ?body ?done ?stop)
    case hAx =>
      rintro x a' _ A B row ⟨bx, h1, h2, h3⟩ hg hr
      refine ⟨bx, h1, (hg.block bx (cells_of h2).1 ?_).trans h2, h3⟩
      intro e
      obtain ⟨_, o, ho, hc⟩ := hr bx e.symm
      rw [h2] at ho; cases ho; cases hc
    case assign =>
      intro l pre x W K hi hK
      gi_wp2
      exact hK _ _ ((keepsFrom_below (below_alloc (Below.refl _ _) _))) (stepKp_below (below_alloc (Below.refl _ _) _)) (hi.below (below_alloc (Below.refl _ _) _)) ⟨W.heap.size, hi.2.2.2.1, alloc_at rfl, rfl⟩
    case body =>
      rintro l pre x a' W hl _ hI ⟨bx, hbx, hxc, rfl⟩ _
      have hx := mem_steps x.2
      have hEW := hE.out.keep hI.1
      have hCW := hC.keep hE.out.m hI.1 hw
      obtain ⟨q1, d1⟩ := cells_of hEW.o
      obtain ⟨q2, d2⟩ := cells_of hxc
      have hnok := St.next_ok hs (r := x.1.1) (by omega) (by omega) (by have := ht.out; omega)
      rw [← hx.2.1] at hnok
      have hnh : x.1.2.hour = s.hour + 1 := by rw [hx.2.1]; rfl
      have hnr : 0 ≤ x.1.2.rider := by rw [hx.2.1]; show 0 ≤ x.1.1; omega
      have HC := hid (ih.out x.1.2 W hnok hnh hEW hCW)
      have hx' := hid hx
      have hnh' := hid hnh
      clear hx hnh
      gi_wp2_with fail
      refine ⟨trivial, ?_⟩
      have HC2 := CallsIn.inRound l ((callsIn_wide (n := 2)).2 HC.out)
      with_reducible refine HC2.mono ?_
      intro e W1 hp
      obtain ⟨he, hk1⟩ := hp
      subst he
      have hI1 : LoopP 41 132 m kv w w.heap.size (w.heap.size + 1) (w.heap.size + 1 + 1 + 1) s W5.heap.size (foundOn R g n s (pre.map (fun x => x.1))) W1 := ⟨hI.1.trans hk1, hk1.blk hI.1.2 hI.2.1, hk1.blk hI.1.2 hI.2.2.1, Nat.le_trans hI.2.2.2.1 hk1.1.size, hk1.blk hI.1.2 hI.2.2.2.2⟩
      have hxc1 := hk1.blk hI.1.2 hxc
      have hEW1 := hE.out.keep hI1.1
      have hf1 : KeepsFrom W5.heap.size W W1 := KeepsFrom.of_grownBy hk1.1 (fun j e => by cases e; exact hml)
      have hp1 : StepKp (w.heap.size + 1 + 1 + 1 + 1 + 1) (w.heap.size + 1 + 1 + 1 + 1) rb W W1 := ⟨hk1.1.size, fun k hk o ho => (hk1.1.block k (Array.getElem?_eq_some_iff.1 ho).1 (by
        intro e; cases e
        obtain ⟨_, _, hmm, _⟩ := hE.out.m
        have := (Array.getElem?_eq_some_iff.1 hmm).1
        rcases hk with h | h | h
        · omega
        · omega
        · have := hE.out.rr; rw [← h, hmm] at this; cases this)).trans ho⟩
      obtain ⟨q3, d3⟩ := cells_of hEW1.g
      obtain ⟨q4, d4⟩ := cells_of hI1.2.1
      obtain ⟨q5, d5⟩ := cells_of hxc1
      have hml' : m < w.heap.size := by obtain ⟨_, _, h, _⟩ := hE.out.m; exact (Array.getElem?_eq_some_iff.1 h).1
      have hrl' : rb < w.heap.size := (cells_of hE.out.rr).1
      have hW51 := hI1.2.2.2.1
      cases ho : found R g n x.1.2 with
      | none =>
        gi_wp2
        have hbz := below_alloc (a := W1) (Below.refl _ _) (.cells #[.int .i64 0, .int .i64 0] 41)
        refine ⟨hf1.trans (keepsFrom_below hbz), stepKp_t hp1 (stepKp_below hbz), ?_⟩
        simp only [List.map_append, List.map_cons, List.map_nil]
        rw [foundOn_snoc, ho]
        exact hI1.below hbz
      | some y =>
        have ho' := hid ho
        clear ho
        have hbz := below_alloc (a := W1) (Below.refl _ _) (.cells #[.int .i64 y.1, .int .i64 y.2] 41)
        have hIz := hI1.below hbz
        have hEz := hE.out.keep hIz.1
        have hCz := hC.keep hE.out.m hIz.1 hw
        have hXz : (W1.alloc (.cells #[.int .i64 y.1, .int .i64 y.2] 41)).heap[W1.heap.size]? = some (.cells #[.int .i64 y.1, .int .i64 y.2] 41 (0, 0)) := alloc_at rfl
        have hbz' := hid hbz
        have hXz' := hid hXz
        clear hbz hXz
        gi_wp2_with fail
        refine ⟨trivial, ?_⟩
        with_reducible refine (CallsIn.inRound l ((callsIn_wide (n := 2)).2 (hP.kh s x.1.2 y _ hs hnok hnr hCz))).mono ?_
        intro e W2 hp
        obtain ⟨he, hb2⟩ := hp
        subst he
        have hX2 := (hb2.block _ (cells_of hXz'.out).1).trans hXz'.out
        have hbb2 := below_via hb2 hbz'.out
        have hI2 := hI1.below hbb2
        have hEW2 := hE.out.keep hI2.1
        generalize hfo : foundOn R g n s (pre.map (fun x => x.1)) = k0 at hI2
        have hfo' := hid hfo
        clear hfo d1 d2 d3 d4 d5 hI hI1 hIz hEz
        obtain ⟨q6, d6⟩ := cells_of hI2.2.2.1
        have z6 := free_of hI2.2.2.1
        obtain ⟨q7, d7⟩ := cells_of hEW2.g
        obtain ⟨q8, d8⟩ := cells_of hX2
        have z8 := free_of hX2
        have e1 : ¬ w.heap.size + 1 + 1 + 1 = W1.heap.size := by omega
        have e2 : ¬ W1.heap.size = w.heap.size + 1 + 1 + 1 := by omega
        have hgb : gb < w.heap.size := (cells_of hE.out.g).1
        have e3 : ¬ gb = W1.heap.size := by omega
        have e4 : ¬ W1.heap.size = gb := by omega
        cases k0 with
        | none =>
          gi_wp2
          have hbS : Below W1.heap.size W1 ((W2.setCell ⟨W1.heap.size, 0, none⟩ (.int .i64 (g.hour s x.1.2 y).1)).setCell ⟨W1.heap.size, 1, none⟩ (.int .i64 (g.hour s x.1.2 y).2)) := below_set (below_set hbb2 _ (Nat.le_refl _)) _ (Nat.le_refl _)
          have hI3 : LoopP 41 132 m kv w w.heap.size (w.heap.size + 1) (w.heap.size + 1 + 1 + 1) s W5.heap.size none _ := (⟨hI2.1, hI2.2.1, hI2.2.2.1, hI2.2.2.2.1, hI2.2.2.2.2⟩ : LoopP 41 132 m kv w w.heap.size (w.heap.size + 1) (w.heap.size + 1 + 1 + 1) s W5.heap.size none W2)
          refine ⟨(((hf1.trans (keepsFrom_below hbS)).trans ((KeepsOthers.setCell _ _ _).from _)).trans ((KeepsOthers.setCell _ _ _).from _)).trans ((KeepsOthers.setCell _ _ _).from _), stepKp_t (stepKp_t (stepKp_t (stepKp_t hp1 (stepKp_below hbS)) (stepKp_set (by omega) (by omega) (by omega) _ _ _)) (stepKp_set (by omega) (by omega) (by omega) _ _ _)) (stepKp_set (by omega) (by omega) (by omega) _ _ _), ?_⟩
          simp only [List.map_append, List.map_cons, List.map_nil]
          rw [foundOn_snoc, ho'.out, hfo'.out]
          exact (hI2.box (by omega) (by omega) (by omega) (by omega)).store (by omega) (by omega) (by omega) hml' _
        | some z =>
          have hCS := hC.keep hE.out.m (hI2.box (y := g.hour s x.1.2 y) (b' := W1.heap.size) (by omega) (by omega) (by omega) (by omega)).1 hw
          gi_wp2_with fail
          refine ⟨trivial, ?_⟩
          with_reducible refine (CallsIn.inRound l ((callsIn_wide (n := 2)).2 (hP.kj z _ _ hCS))).mono ?_
          intro e W3 hp
          obtain ⟨he, hb3⟩ := hp
          subst he
          have hbS : Below W1.heap.size W1 ((W2.setCell ⟨W1.heap.size, 0, none⟩ (.int .i64 (g.hour s x.1.2 y).1)).setCell ⟨W1.heap.size, 1, none⟩ (.int .i64 (g.hour s x.1.2 y).2)) := below_set (below_set hbb2 _ (Nat.le_refl _)) _ (Nat.le_refl _)
          have hIS := hI2.box (y := g.hour s x.1.2 y) (b' := W1.heap.size) (by omega) (by omega) (by omega) (by omega)
          have hI3 := hIS.below hb3
          have hX3 := (hb3.block _ (by simpa [World.setCell] using q8)).trans (heap_setCell_same (o := 1) (v := .int .i64 (g.hour s x.1.2 y).2) (heap_setCell_same (o := 0) (v := .int .i64 (g.hour s x.1.2 y).1) hX2))
          have hbb3 := below_via hb3 hbS
          clear d6 z6 d8 z8
          obtain ⟨q9, d9⟩ := cells_of hI3.2.2.1
          have z9 := free_of hI3.2.2.1
          obtain ⟨q8, d8⟩ := cells_of hX3
          have z8 := free_of hX3
          gi_wp2
          have hbT : Below W1.heap.size W1 ((W3.setCell ⟨W1.heap.size, 0, none⟩ (.int .i64 (g.join z (g.hour s x.1.2 y)).1)).setCell ⟨W1.heap.size, 1, none⟩ (.int .i64 (g.join z (g.hour s x.1.2 y)).2)) := below_set (below_set hbb3 _ (Nat.le_refl _)) _ (Nat.le_refl _)
          refine ⟨(((hf1.trans (keepsFrom_below hbT)).trans ((KeepsOthers.setCell _ _ _).from _)).trans ((KeepsOthers.setCell _ _ _).from _)).trans ((KeepsOthers.setCell _ _ _).from _), stepKp_t (stepKp_t (stepKp_t (stepKp_t hp1 (stepKp_below hbT)) (stepKp_set (by omega) (by omega) (by omega) _ _ _)) (stepKp_set (by omega) (by omega) (by omega) _ _ _)) (stepKp_set (by omega) (by omega) (by omega) _ _ _), ?_⟩
          simp only [List.map_append, List.map_cons, List.map_nil]
          rw [foundOn_snoc, ho'.out, hfo'.out]
          exact (hI3.box (by omega) (by omega) (by omega) (by omega)).store (by omega) (by omega) (by omega) hml' _
    case done =>
      intro D ys W hD hS hI hK
      have hml' : m < w.heap.size := by obtain ⟨_, _, h, _⟩ := hE.out.m; exact (Array.getElem?_eq_some_iff.1 h).1
      rw [hS, ← found_succ] at hI
      generalize hfo : found R g (n + 1) s = o at hI
      have hfo' := hid hfo
      obtain ⟨es, c, hm, hes⟩ := hI.1.2
      obtain ⟨es', c', hrun, hes'⟩ := update_memo (T := 130) (E := 132) (by kernel_rfl) hm hes s
      rw [hkv.out, hfo] at hrun
      have hEW := hE.out.keep hI.1
      obtain ⟨q3, d3⟩ := cells_of hEW.a
      obtain ⟨q4, d4⟩ := cells_of hI.2.1
      obtain ⟨q5, d5⟩ := cells_of hI.2.2.1
      have hk2 : (W.putObj m (.map es' c')).heap[w.heap.size + 1 + 1 + 1]? = some (.cells (kcells o) 132 (0, 0)) := (World.putObj_heap_other (by omega)).trans hI.2.2.1
      have hk3 : (W.putObj m (.map es' c')).heap[w.heap.size + 1]? = some (.cells #[.int .i64 0, .int .i64 0] 41 (0, 0)) := (World.putObj_heap_other (by omega)).trans hI.2.2.2.2
      obtain ⟨q6, d6⟩ := cells_of hk2
      obtain ⟨q7, d7⟩ := cells_of hk3
      have z7 := free_of hk3
      have hKP := (hI.1.map (c := c') hes')
      have hD2 : (W.putObj m (.map es' c')).heap[D]? = some (.deferred (some [])) := (World.putObj_heap_other (by omega)).trans hK
      have hm' := hid hm
      have hk3' := hid hk3
      clear hm hfo hk2 hk3
      go_wp2
      go_region
      all_goals
        go_wp2
        have hD3 : (((W.putObj m (.map es' c')).setCell ⟨w.heap.size + 1, 0, none⟩ (.int .i64 (o.getD (0, 0)).1)).setCell ⟨w.heap.size + 1, 1, none⟩ (.int .i64 (o.getD (0, 0)).2)).drew.heap[D]? = some (.deferred (some [])) := (Below.heap_setCell _ _ _ _ (by simp only; omega)).trans ((Below.heap_setCell _ _ _ _ (by simp only; omega)).trans hD2)
        refine ⟨by simp, .inl ⟨_, _, rfl, run_takeDeferred hD3, ?_⟩⟩
        have hR : ((((W.putObj m (.map es' c')).setCell ⟨w.heap.size + 1, 0, none⟩ (.int .i64 (o.getD (0, 0)).1)).setCell ⟨w.heap.size + 1, 1, none⟩ (.int .i64 (o.getD (0, 0)).2)).drew.putObj D (.deferred none)).heap[w.heap.size + 1]? = some (.cells #[.int .i64 (o.getD (0, 0)).1, .int .i64 (o.getD (0, 0)).2] 41 (0, 0)) := (World.putObj_heap_other (by omega)).trans (by have := heap_setCell_same (o := 1) (v := .int .i64 (o.getD (0, 0)).2) (heap_setCell_same (o := 0) (v := .int .i64 (o.getD (0, 0)).1) hk3'.out); simp at this; exact this)
        obtain ⟨q9, d9⟩ := cells_of hR
        refine ⟨.tuple #[pV (o.getD (0, 0)), .bool o.isSome], by simp [results, Try.results95, go_sem, d9], ?_⟩
        rw [hfo'.out]
        exact ⟨rfl, (((hKP.set (by omega) (by omega)).set (by omega) (by omega)).drewN 1).put (by omega) (by omega) _⟩
    case stop =>
      rintro D c pre W _ _ h _
      exact h.elim

theorem on_anyS (ub gb ab rx ob rb m : Nat) (G : GoalFns) (g : Goal (Int × Int)) (C : World → Prop) (hC : Lasts C m) (R : Rest) (til : Int) (hG : GoalOkP G g) (hP : GoalRunP G g C) (hR0 : R.r0.Ok) (hR1 : R.r1.Ok) (htil : til ≤ 16) : ∀ (n : Nat) (s : St) (w : World), s.Ok → s.hour + n = til → EnvS ub gb ab rx ob rb m G R til (kvOfP R g til) w → C w →
    Calls Try.prog 95 (argsI s ub gb ab rx ob) w (OnPostS m (kvOfP R g til) (found R g n s) w) := by
  intro n
  induction n with
  | zero =>
    intro s w hs ht hE hw
    obtain rfl : s.hour = til := by simpa using ht
    exact on_endS ub gb ab rx ob rb m G g C hC R _ hG hP s hs w hE hw
  | succ n ih =>
    intro s w hs ht hE hw
    refine on_stepS ub gb ab rx ob rb m G g C hC R til _ hG hP hR0 hR1 n s hs w hE hw (by omega) htil ?_ (fun s' w' h1 h2 h3 h4 => ih s' w' h1 (by omega) h3 h4)
    unfold kvOfP
    rw [show (til - s.hour).toNat = n + 1 by omega]

abbrev ofVS (ub gb ab rx ob : Nat) : Value := .func (.func 95) #[] #[.pointer (some ⟨ub, 0, none⟩), .pointer (some ⟨gb, 0, none⟩), .pointer (some ⟨ab, 0, none⟩), .pointer (some ⟨rx, 0, none⟩), .pointer (some ⟨ob, 0, none⟩)]

def FindPostS (rb : Nat) (G : GoalFns) (g : Goal (Int × Int)) (R : Rest) (til : Int) (w : World) (e : Ending) (w' : World) : Prop :=
  ∃ ub gb ab rx ob m, e = .returned (ofVS ub gb ab rx ob) ∧ EnvS ub gb ab rx ob rb m G R til (kvOfP R g til) w' ∧ w.heap.size ≤ m ∧ Below w.heap.size w w'

set_option maxHeartbeats 1000000 in
theorem find_anyS (rb : Nat) (G : GoalFns) (g : Goal (Int × Int)) (R : Rest) (til : Int) (w : World) (h : w.heap[rb]? = some (.cells (restCells R) 82 (0, 0))) :
    Calls Try.prog 68 #[.pointer (some ⟨rb, 0, none⟩), .int .i64 til, .agg #[.func (.func G.fe) #[] G.ce, .func (.func G.fh) #[] G.ch, .func (.func G.fj) #[] G.cj]] w (FindPostS rb G g R til w) := by
  have hlt := (cells_of h).1
  have hmf := hmf
  have hmm := @run_makeMap Try.prog
  go_enter Try.func68, Try.ntmps68
  go_wp2
  go_ret
  refine ⟨w.heap.size + 1, w.heap.size + 1 + 1, w.heap.size + 1 + 1 + 1 + 1, w.heap.size, w.heap.size + 1 + 1 + 1 + 1 + 1, w.heap.size + 1 + 1 + 1, rfl, ⟨?_, ?_, ?_, ?_, ?_, ?_, ?_⟩, by omega, ?_⟩
  case refine_7 =>
    refine ⟨#[], 0, ?_, memo_empty _⟩
    repeat (first | exact alloc_at (by simp) | refine alloc_old (by simp <;> omega) ?_)
  case refine_8 => repeat (first | exact Below.refl _ _ | apply below_alloc)
  all_goals (repeat (first | exact h | exact alloc_at (by simp) | refine alloc_old (by first | omega | (simp <;> omega)) ?_))

end Go.Proofs.Ytkgdejhooghknaa
