/- The walk of 'plan' of package rest, where no plan is right. -/
import Derived.Test.YtkgdejhooghknaaI1
import Derived.Test.YtkgdejhooghknaaKit3
import Derived.Deep.RegionHeld3
import Derived.Deep.CutRange
namespace Go.Proofs.Ytkgdejhooghknaa
open Go.RowKit Go.Lap Go.Shelf
attribute [local go_sem] Oper.semAt_some

set_option maxRecDepth 100000 in
set_option maxHeartbeats 4000000 in
theorem plan_none (rb : Nat) (G : GoalFns) (g : Goal Int) (R : Rest) (hv : R.valid = true) (hG : GoalOkI G g) (hf : found R g R.hours.toNat St.begin = none) (w : World) (hw : w.heap[rb]? = some (.cells (restCells R) 82 (0, 0))) :
    Calls Try.prog 60 #[.pointer (some ⟨rb, 0, none⟩), goalV G] w fun e w' => e = .panicked [{ v := failV 4, recovered := false }] ∧ Below w.heap.size w w' := by
  obtain ⟨lr, cr⟩ := cells_of hw
  have hw' := hid hw
  clear hw
  have hh := Rest.valid_hours hv
  have ho := Rest.valid_ok hv
  have hv' := hid hv
  have hf' := hid hf
  clear hv hf
  have lr1 : rb < w.heap.size + 1 := by omega
  have lr2 : rb < w.heap.size + 1 + 1 := by omega
  have hne1 : ¬ rb = w.heap.size + 1 := by omega
  have hne2 : ¬ rb = w.heap.size := by omega
  have hrbW := hid (fun W' (h : Below w.heap.size w W') => (h.block rb lr).trans hw'.out)
  refine calls_of_wp_marks 5 Try.func60 rfl ?_
  simp only [Try.ntmps60, List.size_toArray, List.length_cons, List.length_nil, Nat.reduceAdd, Nat.reduceSub, Array.replicate_succ, Array.replicate_zero, List.push_toArray, List.append_toArray, List.nil_append, List.cons_append]
  go_upto_region 1 with fail
  go_cut [6] from 16 to 23 (fun p6 wx => ∃ ub gb ab rx ob m pa, p6 = .pointer (some ⟨pa, 0, none⟩) ∧ w.heap.size < pa ∧ Hid (wx.heap[pa]? = some (.cells #[ofV ub gb ab rx ob] 76 (0, 0))) ∧ OfI ub gb ab rx ob rb m w.heap.size G g R R.hours wx ∧ Below w.heap.size w wx ∧ Hid (wx.heap[w.heap.size]? = some (.cells #[.func (.func G.fe) #[] G.ce, .func (.func G.fh) #[] G.ch, .func (.func G.fj) #[] G.cj] 86 (0, 0))))
  case first =>
    go_region_held3 (fun w' => w'.cell? ⟨rb, 0, none⟩ = some (.int .i64 R.hours) ∧ w'.cell? ⟨w.heap.size, 0, none⟩ = some (.func (.func G.fe) #[] G.ce) ∧ w'.cell? ⟨w.heap.size, 1, none⟩ = some (.func (.func G.fh) #[] G.ch) ∧ w'.cell? ⟨w.heap.size, 2, none⟩ = some (.func (.func G.fj) #[] G.cj)) (simp [*, cell_set_far, World.cell?_alloc_some]) (first
      | (go_at_call 55; refine (find_any rb G g R R.hours _ (hrbW.out _ (below_alloc (Below.refl _ _) _).drew)).mono ?_; intro e w2 hp; obtain ⟨ub, gb, ab, rx, ob, m, he, hof, hb2⟩ := hp; subst he; have gN : (w.alloc (.cells #[.func (.func G.fe) #[] G.ce, .func (.func G.fh) #[] G.ch, .func (.func G.fj) #[] G.cj] 86)).drew.heap[w.heap.size]? = some (.cells #[.func (.func G.fe) #[] G.ce, .func (.func G.fh) #[] G.ch, .func (.func G.fj) #[] G.cj] 86 (0, 0)) := alloc_at rfl; have gN2 := (hb2.block w.heap.size (cells_of gN).1).trans gN; have hbw2 := below_via hb2 (below_alloc (Below.refl _ _) _).drew; obtain ⟨lN2, cN2⟩ := cells_of gN2; obtain ⟨lR2, cR2⟩ := cells_of (hrbW.out _ hbw2); have hne3 : ¬ rb = w2.heap.size := (by omega); have hne4 : ¬ w.heap.size = w2.heap.size := (by omega); clear gN; have gN2' := hid gN2; clear gN2)
      | (go_at_call 55; refine (find_any rb G g R R.hours _ (hrbW.out _ (below_alloc (below_alloc (Below.refl _ _) _) _).drew)).mono ?_; intro e w2 hp; obtain ⟨ub, gb, ab, rx, ob, m, he, hof, hb2⟩ := hp; subst he; have gN : ((w.alloc (.cells #[.func (.func G.fe) #[] G.ce, .func (.func G.fh) #[] G.ch, .func (.func G.fj) #[] G.cj] 86)).alloc (.cells #[.nilFunc] 76)).drew.heap[w.heap.size]? = some (.cells #[.func (.func G.fe) #[] G.ce, .func (.func G.fh) #[] G.ch, .func (.func G.fj) #[] G.cj] 86 (0, 0)) := alloc_old (by simp) (alloc_at rfl); have gN2 := (hb2.block w.heap.size (cells_of gN).1).trans gN; have hbw2 := below_via hb2 (below_alloc (below_alloc (Below.refl _ _) _) _).drew; obtain ⟨lN2, cN2⟩ := cells_of gN2; obtain ⟨lR2, cR2⟩ := cells_of (hrbW.out _ hbw2); have hne3 : ¬ rb = w2.heap.size := (by omega); have hne4 : ¬ w.heap.size = w2.heap.size := (by omega); clear gN; have gN2' := hid gN2; clear gN2; have gA : ((w.alloc (.cells #[.func (.func G.fe) #[] G.ce, .func (.func G.fh) #[] G.ch, .func (.func G.fj) #[] G.cj] 86)).alloc (.cells #[.nilFunc] 76)).drew.heap[w.heap.size + 1]? = some (.cells #[.nilFunc] 76 (0, 0)) := alloc_at (by simp); have gA2 := (hb2.block _ (cells_of gA).1).trans gA; obtain ⟨lA2, cA2⟩ := cells_of gA2; have zA2 := free_of gA2; clear gA; have gA2' := hid gA2; clear gA2))
    all_goals (go_wp2_with fail)
    · go_meet
      refine ⟨ub, gb, ab, rx, ob, m, w2.heap.size, rfl, by omega, hid (alloc_at rfl), ⟨hof.env.keep (KeepI.of_below hof.env.m (below_alloc (Below.refl _ _) _)), by have := hof.new; simp at this; omega⟩, below_alloc hbw2 _, hid (alloc_old lN2 gN2'.out)⟩
    · go_meet
      refine ⟨ub, gb, ab, rx, ob, m, w.heap.size + 1, rfl, by omega, hid (heap_setCell_same gA2'.out), ⟨hof.env.set gA2'.out _, by have := hof.new; simp at this; omega⟩, below_set hbw2 _ (by simp), hid ((Below.heap_setCell _ _ _ _ (by simp)).trans gN2'.out)⟩
  case rest =>
    obtain ⟨ub, gb, ab, rx, ob, m, pa, rfl, hpa, hclo, hof, hbc, hgx⟩ := hcut
    obtain ⟨lpa, cpa⟩ := cells_of hclo.out
    go_wp2_with (first
      | (go_at_call 50; refine (begin_any _).mono ?_; rintro e w3 ⟨rfl, hb3⟩; have hclo3 := (hb3.block pa lpa).trans hclo.out; have hof3 := hof.env.keep (KeepI.of_below hof.env.m hb3); have hbc3 := below_via hb3 hbc; have hgx3 := (hb3.block _ (cells_of hgx.out).1).trans hgx.out; clear cpa; obtain ⟨l3, c3⟩ := cells_of hclo3; have hclo3' := hid hclo3; clear hclo3; have hgx3' := hid hgx3; clear hgx3)
      | (go_at_call 85; refine (on_any ub gb ab rx ob rb m G g R R.hours hG ho.1 ho.2 hh.2 R.hours.toNat St.begin _ St.begin_ok (by simp [St.begin]; omega) (hof3.keep (KeepI.of_below hof3.m (below_alloc (Below.refl _ _) _)))).mono ?_; intro e w4 hp; obtain ⟨he, hk4⟩ := hp; rw [hf'.out] at he; subst he)
      | (go_at_call 72; refine (must_no _ _).mono ?_; rintro e w' ⟨rfl, rfl⟩))
    have hbw3 := below_alloc hbc3 (.cells #[.int .i64 St.begin.rider, .int .i64 St.begin.run, .int .i64 St.begin.before, .int .i64 St.begin.hour, .int .i64 St.begin.h0, .int .i64 St.begin.h1] 71)
    have hbw4 := below_keep hbw3 hof.new hk4
    exact ⟨rfl, hbw4⟩

end Go.Proofs.Ytkgdejhooghknaa
