/- The walks of 'Must' and 'Hours' of package rest. -/
import Derived.Test.YtkgdejhooghknaaK4
namespace Go.Proofs.Ytkgdejhooghknaa
open Go.RowKit Go.Lap Go.Shelf

set_option maxRecDepth 100000 in
set_option maxHeartbeats 1000000 in
theorem Must_ok (R : Rest) (hv : R.valid = true) (v : Int × Int) (hf : found R setsG R.hours.toNat St.begin = some v) (w : World) :
    Calls Try.prog 28 #[restV R] w fun e w' => e = .returned (.tuple #[.int .i64 v.1, .int .i64 v.2, .int .i64 0]) ∧ Below w.heap.size w w' := by
  have hh := Rest.valid_hours hv
  have ho := Rest.valid_ok hv
  have hv' := hid hv
  have hf' := hid hf
  clear hv hf
  have hA : ((w.alloc (.cells #[.int .i64 R.hours, .int .i64 R.r0.out, .int .i64 R.r0.total, .int .i64 R.r0.run, .int .i64 R.r0.off, .int .i64 R.r1.out, .int .i64 R.r1.total, .int .i64 R.r1.run, .int .i64 R.r1.off] 26)).alloc (.cells #[.int .i64 0] 30)).heap[w.heap.size + 1]? = some (.cells #[.int .i64 0] 30 (0, 0)) := alloc_at (by simp)
  have hAw : Below w.heap.size w ((w.alloc (.cells #[.int .i64 R.hours, .int .i64 R.r0.out, .int .i64 R.r0.total, .int .i64 R.r0.run, .int .i64 R.r0.off, .int .i64 R.r1.out, .int .i64 R.r1.total, .int .i64 R.r1.run, .int .i64 R.r1.off] 26)).alloc (.cells #[.int .i64 0] 30)) := below_alloc (below_alloc (Below.refl _ _) _) _
  have hA' := hid hA
  have hAw' := hid hAw
  clear hA hAw
  go_enter_defers Try.func28, Try.ntmps28
  go_wp2_with (first
    | (go_at_call 47; refine (open_always _ _).mono ?_; intro e w1 hp; obtain ⟨rb, he, hrb, hrc, hb⟩ := openPost_valid hv'.out hp; subst he; clear hp; obtain ⟨l1, c1⟩ := cells_of hrc; have hrc' := hid hrc; clear hrc; have hzb := hb.size)
    | (go_at_call 74; refine (find_anyT rb setsFns setsG R R.hours _ hrc'.out).mono ?_; intro e w2 hp; obtain ⟨ub, gb, ab, rx, ob, m, he, hE, hm, hb2⟩ := hp; subst he; have hbA2 := below_via hb2 hb; clear c1)
    | (go_at_call 50; refine (begin_any _).mono ?_; rintro e w3 ⟨rfl, hb3⟩; have hbA3 := below_via hb3 hbA2; have hE3 := hE.keep (KeepI.of_below hE.m hb3))
    | (go_at_call 96; refine (on_anyT ub gb ab rx ob rb m setsFns setsG _ (sets_lasts m) R R.hours sets_ok sets_run ho.1 ho.2 hh.2 R.hours.toNat St.begin _ St.begin_ok (by simp [St.begin]; omega) hE3 trivial).mono ?_; intro e w4 hp; obtain ⟨he, hk⟩ := hp; rw [hf'.out] at he; subst he; have hbA4 := below_keep hbA3 (Nat.le_trans hzb hm) hk; have hA7 := (hbA4.block _ (cells_of hA'.out).1).trans hA'.out; obtain ⟨l7, c7⟩ := cells_of hA7; have z7 := free_of hA7; have hbF := below_via hbA4 hAw'.out)
    | (go_at_call 72; refine (must_yes _ _).mono ?_; rintro e w' ⟨rfl, rfl⟩))
  go_region
  all_goals
    go_wp2
    refine leaves_cons (f := 44) (args := #[.pointer (some ⟨w.heap.size + 1, 0, none⟩)]) (by simp) (by simp [go_sem]) ?_
    refine (told_idle ⟨w.heap.size + 1, 0, none⟩ _).mono ?_
    rintro e u' w'' ⟨rfl, rfl, rfl⟩
    have hfin : Below w.heap.size w ((w4.setCell ⟨w.heap.size + 1, 0, none⟩ (.int .i64 0)).alloc (.cells #[.int .i64 v.1, .int .i64 v.2] 107)).drew := (below_alloc (below_set hbF _ (by simp)) _).drew
    have hc0 := (cells_of (alloc_old (o := .cells #[.int .i64 v.1, .int .i64 v.2] 107) (by simpa [World.setCell] using l7) (heap_setCell_same (o := 0) (v := .int .i64 0) hA7))).2 0
    simp [Leaves, settle, results, Try.results28, go_sem, hc0, hfin]

set_option maxRecDepth 100000 in
set_option maxHeartbeats 1000000 in
theorem Must_none (R : Rest) (hv : R.valid = true) (hf : found R setsG R.hours.toNat St.begin = none) (w : World) :
    Calls Try.prog 28 #[restV R] w fun e w' => e = .returned (.tuple #[.int .i64 0, .int .i64 0, .int .i64 4]) ∧ Below w.heap.size w w' := by
  have hh := Rest.valid_hours hv
  have ho := Rest.valid_ok hv
  have hv' := hid hv
  have hf' := hid hf
  clear hv hf
  have hA : ((w.alloc (.cells #[.int .i64 R.hours, .int .i64 R.r0.out, .int .i64 R.r0.total, .int .i64 R.r0.run, .int .i64 R.r0.off, .int .i64 R.r1.out, .int .i64 R.r1.total, .int .i64 R.r1.run, .int .i64 R.r1.off] 26)).alloc (.cells #[.int .i64 0] 30)).heap[w.heap.size + 1]? = some (.cells #[.int .i64 0] 30 (0, 0)) := alloc_at (by simp)
  have hAw : Below w.heap.size w ((w.alloc (.cells #[.int .i64 R.hours, .int .i64 R.r0.out, .int .i64 R.r0.total, .int .i64 R.r0.run, .int .i64 R.r0.off, .int .i64 R.r1.out, .int .i64 R.r1.total, .int .i64 R.r1.run, .int .i64 R.r1.off] 26)).alloc (.cells #[.int .i64 0] 30)) := below_alloc (below_alloc (Below.refl _ _) _) _
  have hA' := hid hA
  have hAw' := hid hAw
  clear hA hAw
  go_enter_defers Try.func28, Try.ntmps28
  go_wp2_with (first
    | (go_at_call 47; refine (open_always _ _).mono ?_; intro e w1 hp; obtain ⟨rb, he, hrb, hrc, hb⟩ := openPost_valid hv'.out hp; subst he; clear hp; obtain ⟨l1, c1⟩ := cells_of hrc; have hrc' := hid hrc; clear hrc; have hzb := hb.size)
    | (go_at_call 74; refine (find_anyT rb setsFns setsG R R.hours _ hrc'.out).mono ?_; intro e w2 hp; obtain ⟨ub, gb, ab, rx, ob, m, he, hE, hm, hb2⟩ := hp; subst he; have hbA2 := below_via hb2 hb; clear c1)
    | (go_at_call 50; refine (begin_any _).mono ?_; rintro e w3 ⟨rfl, hb3⟩; have hbA3 := below_via hb3 hbA2; have hE3 := hE.keep (KeepI.of_below hE.m hb3))
    | (go_at_call 96; refine (on_anyT ub gb ab rx ob rb m setsFns setsG _ (sets_lasts m) R R.hours sets_ok sets_run ho.1 ho.2 hh.2 R.hours.toNat St.begin _ St.begin_ok (by simp [St.begin]; omega) hE3 trivial).mono ?_; intro e w4 hp; obtain ⟨he, hk⟩ := hp; rw [hf'.out] at he; subst he; have hbA4 := below_keep hbA3 (Nat.le_trans hzb hm) hk; have hA7 := (hbA4.block _ (cells_of hA'.out).1).trans hA'.out; obtain ⟨l7, c7⟩ := cells_of hA7; have z7 := free_of hA7; have hbF := below_via hbA4 hAw'.out)
    | (go_at_call 72; refine (must_no _ _).mono ?_; rintro e w' ⟨rfl, rfl⟩))
  have hA8 := alloc_old (o := .cells #[.int .i64 0, .int .i64 0] 107) l7 hA7
  obtain ⟨l8, c8⟩ := cells_of hA8
  have z8 := free_of hA8
  refine leaves_cons (f := 44) (args := #[.pointer (some ⟨w.heap.size + 1, 0, none⟩)]) (by simp) (by simp [go_sem]) ?_
  refine (told_panicking (w.heap.size + 1) 4 0 _ l8 (by rw [c8]; rfl) (z8 0)).mono ?_
  rintro e u' w'' ⟨rfl, rfl, rfl⟩
  have hfin : Below w.heap.size w (((w4.alloc (.cells #[.int .i64 0, .int .i64 0] 107)).setCell ⟨w.heap.size + 1, 0, none⟩ (.int .i64 4)).alloc (.cells #[.int .i64 4] 117)) := below_alloc (below_set (below_alloc hbF _) _ (by simp)) _
  have hc0 := (cells_of (alloc_old (o := .cells #[.int .i64 4] 117) (by simpa [World.setCell] using l8) (heap_setCell_same (o := 0) (v := .int .i64 4) hA8))).2 0
  simp [Leaves, settle, results, Try.results28, go_sem, hfin, hc0]

set_option maxRecDepth 100000 in
set_option maxHeartbeats 1000000 in
theorem Must_bad (R : Rest) (hv : R.valid = false) (w : World) : Calls Try.prog 28 #[restV R] w fun e w' => e = .returned (.tuple #[.int .i64 0, .int .i64 0, .int .i64 1]) ∧ Below w.heap.size w w' := by
  go_enter_defers Try.func28, Try.ntmps28
  have hv' := hid hv
  clear hv
  go_wp2_with (go_at_call 47; refine (open_always _ _).mono ?_; intro e w1 hp; obtain ⟨he, hb⟩ := openPost_arg hv'.out hp; subst he; clear hp)
  have hA : ((w.alloc (.cells #[.int .i64 R.hours, .int .i64 R.r0.out, .int .i64 R.r0.total, .int .i64 R.r0.run, .int .i64 R.r0.off, .int .i64 R.r1.out, .int .i64 R.r1.total, .int .i64 R.r1.run, .int .i64 R.r1.off] 26)).alloc (.cells #[.int .i64 0] 30)).heap[w.heap.size + 1]? = some (.cells #[.int .i64 0] 30 (0, 0)) := alloc_at (by simp)
  have hAw : Below w.heap.size w ((w.alloc (.cells #[.int .i64 R.hours, .int .i64 R.r0.out, .int .i64 R.r0.total, .int .i64 R.r0.run, .int .i64 R.r0.off, .int .i64 R.r1.out, .int .i64 R.r1.total, .int .i64 R.r1.run, .int .i64 R.r1.off] 26)).alloc (.cells #[.int .i64 0] 30)) := below_alloc (below_alloc (Below.refl _ _) _) _
  generalize ((w.alloc (.cells #[.int .i64 R.hours, .int .i64 R.r0.out, .int .i64 R.r0.total, .int .i64 R.r0.run, .int .i64 R.r0.off, .int .i64 R.r1.out, .int .i64 R.r1.total, .int .i64 R.r1.run, .int .i64 R.r1.off] 26)).alloc (.cells #[.int .i64 0] 30)) = Wa at hA hAw hb
  have hA1 := (hb.block _ (cells_of hA).1).trans hA
  obtain ⟨l7, c7⟩ := cells_of hA1
  have z7 := free_of hA1
  refine leaves_cons (f := 44) (args := #[.pointer (some ⟨w.heap.size + 1, 0, none⟩)]) (by simp) (by simp [go_sem]) ?_
  refine (told_panicking (w.heap.size + 1) 1 0 _ l7 (by rw [c7]; rfl) (z7 0)).mono ?_
  rintro e u' w'' ⟨rfl, rfl, rfl⟩
  have hfin : Below w.heap.size w ((w1.setCell ⟨w.heap.size + 1, 0, none⟩ (.int .i64 1)).alloc (.cells #[.int .i64 1] 117)) := below_alloc (below_set (below_via hb hAw) _ (by simp)) _
  simp [Leaves, settle, results, Try.results28, go_sem, c7, hfin, l7]

set_option maxRecDepth 100000 in
set_option maxHeartbeats 1000000 in
theorem Hours_ok (R : Rest) (r : Int) (hv : R.valid = true) (h0 : 0 ≤ r) (h1 : r ≤ 1) (v : Int × Int) (hf : found R (spanG r) R.hours.toNat St.begin = some v) (w : World) :
    Calls Try.prog 26 #[restV R, .int .i64 r] w fun e w' => e = .returned (.tuple #[pV v, .int .i64 0]) ∧ Below w.heap.size w w' := by
  have hh := Rest.valid_hours hv
  have ho := Rest.valid_ok hv
  have hf' := hid hf
  clear hf
  have hr : inB r 0 1 = true := by simp [inB, h0, h1]
  have hr' := hid hr
  clear hr
  have hv' := hid hv
  clear hv
  have hmf := hmf
  have hA : ((((w.alloc (.cells #[.int .i64 R.hours, .int .i64 R.r0.out, .int .i64 R.r0.total, .int .i64 R.r0.run, .int .i64 R.r0.off, .int .i64 R.r1.out, .int .i64 R.r1.total, .int .i64 R.r1.run, .int .i64 R.r1.off] 26)).alloc (.cells #[.int .i64 r] 3)).alloc (.cells #[.int .i64 0, .int .i64 0] 41)).alloc (.cells #[.int .i64 0] 30)).heap[w.heap.size + 1 + 1 + 1]? = some (.cells #[.int .i64 0] 30 (0, 0)) := alloc_at (by simp)
  have hX : ((((w.alloc (.cells #[.int .i64 R.hours, .int .i64 R.r0.out, .int .i64 R.r0.total, .int .i64 R.r0.run, .int .i64 R.r0.off, .int .i64 R.r1.out, .int .i64 R.r1.total, .int .i64 R.r1.run, .int .i64 R.r1.off] 26)).alloc (.cells #[.int .i64 r] 3)).alloc (.cells #[.int .i64 0, .int .i64 0] 41)).alloc (.cells #[.int .i64 0] 30)).heap[w.heap.size + 1 + 1]? = some (.cells #[.int .i64 0, .int .i64 0] 41 (0, 0)) := alloc_old (by simp) (alloc_at (by simp))
  have hRd : ((((w.alloc (.cells #[.int .i64 R.hours, .int .i64 R.r0.out, .int .i64 R.r0.total, .int .i64 R.r0.run, .int .i64 R.r0.off, .int .i64 R.r1.out, .int .i64 R.r1.total, .int .i64 R.r1.run, .int .i64 R.r1.off] 26)).alloc (.cells #[.int .i64 r] 3)).alloc (.cells #[.int .i64 0, .int .i64 0] 41)).alloc (.cells #[.int .i64 0] 30)).heap[w.heap.size + 1]? = some (.cells #[.int .i64 r] 3 (0, 0)) := alloc_old (by simp <;> omega) (alloc_old (by simp) (alloc_at (by simp)))
  have hAw : Below w.heap.size w ((((w.alloc (.cells #[.int .i64 R.hours, .int .i64 R.r0.out, .int .i64 R.r0.total, .int .i64 R.r0.run, .int .i64 R.r0.off, .int .i64 R.r1.out, .int .i64 R.r1.total, .int .i64 R.r1.run, .int .i64 R.r1.off] 26)).alloc (.cells #[.int .i64 r] 3)).alloc (.cells #[.int .i64 0, .int .i64 0] 41)).alloc (.cells #[.int .i64 0] 30)) := below_alloc (below_alloc (below_alloc (below_alloc (Below.refl _ _) _) _) _) _
  have hA' := hid hA
  have hX' := hid hX
  have hRd' := hid hRd
  have hAw' := hid hAw
  clear hA hAw hX hRd
  have hopen := open_any R true 67 #[.pointer (some ⟨w.heap.size + 1, 0, none⟩)] ((((w.alloc (.cells #[.int .i64 R.hours, .int .i64 R.r0.out, .int .i64 R.r0.total, .int .i64 R.r0.run, .int .i64 R.r0.off, .int .i64 R.r1.out, .int .i64 R.r1.total, .int .i64 R.r1.run, .int .i64 R.r1.off] 26)).alloc (.cells #[.int .i64 r] 3)).alloc (.cells #[.int .i64 0, .int .i64 0] 41)).alloc (.cells #[.int .i64 0] 30)) (enters_of Try.func67 (by kernel_rfl) rfl) (fun _ w' hb => (hours1_any (w.heap.size + 1) r w' ((hb.block _ (cells_of hRd'.out).1).trans hRd'.out)).mono (fun e w'' ⟨he, hw⟩ => ⟨he.trans (by rw [hr'.out]), hw⟩))
  have hopen' := hid hopen
  clear hopen
  go_enter_defers Try.func26, Try.ntmps26
  go_wp2_with (first
    | (go_at_call 47; refine (hopen'.out).mono ?_; intro e w1 hp; obtain ⟨rb, he, hrb, hrc, hb⟩ := openPost_valid hv'.out hp; subst he; clear hp; obtain ⟨l1, c1⟩ := cells_of hrc; have hrc' := hid hrc; clear hrc; have hzb := hb.size)
    | (go_at_call 68; refine (find_anyS rb (spanFns (w.heap.size + 1)) (spanG r) R R.hours _ hrc'.out).mono ?_; intro e w2 hp; obtain ⟨ub, gb, ab, rx, ob, m, he, hE, hm, hb2⟩ := hp; subst he; have hbA2 := below_via hb2 hb; clear c1)
    | (go_at_call 50; refine (begin_any _).mono ?_; rintro e w3 ⟨rfl, hb3⟩; have hbA3 := below_via hb3 hbA2; have hE3 := hE.keep (KeepI.of_below hE.m hb3); have hRd3 := (hbA3.block _ (cells_of hRd'.out).1).trans hRd'.out)
    | (go_at_call 95; refine (on_anyS ub gb ab rx ob rb m (spanFns (w.heap.size + 1)) (spanG r) _ (span_lasts m (w.heap.size + 1) r) R R.hours (span_ok _ _) (span_run _ r h0 h1) ho.1 ho.2 hh.2 R.hours.toNat St.begin _ St.begin_ok (by simp [St.begin]; omega) hE3 hRd3).mono ?_; intro e w4 hp; obtain ⟨he, hk⟩ := hp; rw [hf'.out] at he; subst he; have hbA4 := below_keep hbA3 (Nat.le_trans hzb hm) hk; have hA7 := (hbA4.block _ (cells_of hA'.out).1).trans hA'.out; have hX7 := (hbA4.block _ (cells_of hX'.out).1).trans hX'.out; obtain ⟨l7, c7⟩ := cells_of hA7; have z7 := free_of hA7; obtain ⟨l6, c6⟩ := cells_of hX7; have z6 := free_of hX7; have hbF := below_via hbA4 hAw'.out)
    | (go_at_call 72; refine (must_yes _ _).mono ?_; rintro e w' ⟨rfl, rfl⟩))
  refine leaves_cons (f := 44) (args := #[.pointer (some ⟨w.heap.size + 1 + 1 + 1, 0, none⟩)]) (by simp) (by simp [go_sem]) ?_
  refine (told_idle ⟨w.heap.size + 1 + 1 + 1, 0, none⟩ _).mono ?_
  rintro e u' w'' ⟨rfl, rfl, rfl⟩
  have g1 := heap_setCell_same (o := 1) (v := .int .i64 v.2) (heap_setCell_same (o := 0) (v := .int .i64 v.1) hX7)
  have hX8 : ((((w4.setCell ⟨w.heap.size + 1 + 1, 0, none⟩ (.int .i64 v.1)).setCell ⟨w.heap.size + 1 + 1, 1, none⟩ (.int .i64 v.2)).setCell ⟨w.heap.size + 1 + 1 + 1, 0, none⟩ (.int .i64 0)).alloc (.cells #[.int .i64 v.1, .int .i64 v.2] 41)).heap[w.heap.size + 1 + 1]? = _ := alloc_old (by simpa [World.setCell] using l6) ((Below.heap_setCell _ _ _ _ (by simp)).trans g1)
  have hA8 : ((((w4.setCell ⟨w.heap.size + 1 + 1, 0, none⟩ (.int .i64 v.1)).setCell ⟨w.heap.size + 1 + 1, 1, none⟩ (.int .i64 v.2)).setCell ⟨w.heap.size + 1 + 1 + 1, 0, none⟩ (.int .i64 0)).alloc (.cells #[.int .i64 v.1, .int .i64 v.2] 41)).heap[w.heap.size + 1 + 1 + 1]? = _ := alloc_old (by simpa [World.setCell] using l7) (heap_setCell_same ((Below.heap_setCell _ _ _ _ (by simp)).trans ((Below.heap_setCell _ _ _ _ (by simp)).trans hA7)))
  have hc0 := (cells_of hA8).2 0
  have hc1 := (cells_of hX8).2 0
  have hc2 := (cells_of hX8).2 1
  have hfin : Below w.heap.size w ((((w4.setCell ⟨w.heap.size + 1 + 1, 0, none⟩ (.int .i64 v.1)).setCell ⟨w.heap.size + 1 + 1, 1, none⟩ (.int .i64 v.2)).setCell ⟨w.heap.size + 1 + 1 + 1, 0, none⟩ (.int .i64 0)).alloc (.cells #[.int .i64 v.1, .int .i64 v.2] 41)) := below_alloc (below_set (below_set (below_set hbF _ (by simp <;> omega)) _ (by simp <;> omega)) _ (by simp <;> omega)) _
  simp [Leaves, settle, results, Try.results26, go_sem, hc0, hc1, hc2, hfin]

set_option maxRecDepth 100000 in
set_option maxHeartbeats 1000000 in
theorem Hours_none (R : Rest) (r : Int) (hv : R.valid = true) (h0 : 0 ≤ r) (h1 : r ≤ 1) (hf : found R (spanG r) R.hours.toNat St.begin = none) (w : World) :
    Calls Try.prog 26 #[restV R, .int .i64 r] w fun e w' => e = .returned (.tuple #[pV (0, 0), .int .i64 4]) ∧ Below w.heap.size w w' := by
  have hh := Rest.valid_hours hv
  have ho := Rest.valid_ok hv
  have hf' := hid hf
  clear hf
  have hr : inB r 0 1 = true := by simp [inB, h0, h1]
  have hr' := hid hr
  clear hr
  have hv' := hid hv
  clear hv
  have hmf := hmf
  have hA : ((((w.alloc (.cells #[.int .i64 R.hours, .int .i64 R.r0.out, .int .i64 R.r0.total, .int .i64 R.r0.run, .int .i64 R.r0.off, .int .i64 R.r1.out, .int .i64 R.r1.total, .int .i64 R.r1.run, .int .i64 R.r1.off] 26)).alloc (.cells #[.int .i64 r] 3)).alloc (.cells #[.int .i64 0, .int .i64 0] 41)).alloc (.cells #[.int .i64 0] 30)).heap[w.heap.size + 1 + 1 + 1]? = some (.cells #[.int .i64 0] 30 (0, 0)) := alloc_at (by simp)
  have hX : ((((w.alloc (.cells #[.int .i64 R.hours, .int .i64 R.r0.out, .int .i64 R.r0.total, .int .i64 R.r0.run, .int .i64 R.r0.off, .int .i64 R.r1.out, .int .i64 R.r1.total, .int .i64 R.r1.run, .int .i64 R.r1.off] 26)).alloc (.cells #[.int .i64 r] 3)).alloc (.cells #[.int .i64 0, .int .i64 0] 41)).alloc (.cells #[.int .i64 0] 30)).heap[w.heap.size + 1 + 1]? = some (.cells #[.int .i64 0, .int .i64 0] 41 (0, 0)) := alloc_old (by simp) (alloc_at (by simp))
  have hRd : ((((w.alloc (.cells #[.int .i64 R.hours, .int .i64 R.r0.out, .int .i64 R.r0.total, .int .i64 R.r0.run, .int .i64 R.r0.off, .int .i64 R.r1.out, .int .i64 R.r1.total, .int .i64 R.r1.run, .int .i64 R.r1.off] 26)).alloc (.cells #[.int .i64 r] 3)).alloc (.cells #[.int .i64 0, .int .i64 0] 41)).alloc (.cells #[.int .i64 0] 30)).heap[w.heap.size + 1]? = some (.cells #[.int .i64 r] 3 (0, 0)) := alloc_old (by simp <;> omega) (alloc_old (by simp) (alloc_at (by simp)))
  have hAw : Below w.heap.size w ((((w.alloc (.cells #[.int .i64 R.hours, .int .i64 R.r0.out, .int .i64 R.r0.total, .int .i64 R.r0.run, .int .i64 R.r0.off, .int .i64 R.r1.out, .int .i64 R.r1.total, .int .i64 R.r1.run, .int .i64 R.r1.off] 26)).alloc (.cells #[.int .i64 r] 3)).alloc (.cells #[.int .i64 0, .int .i64 0] 41)).alloc (.cells #[.int .i64 0] 30)) := below_alloc (below_alloc (below_alloc (below_alloc (Below.refl _ _) _) _) _) _
  have hA' := hid hA
  have hX' := hid hX
  have hRd' := hid hRd
  have hAw' := hid hAw
  clear hA hAw hX hRd
  have hopen := open_any R true 67 #[.pointer (some ⟨w.heap.size + 1, 0, none⟩)] ((((w.alloc (.cells #[.int .i64 R.hours, .int .i64 R.r0.out, .int .i64 R.r0.total, .int .i64 R.r0.run, .int .i64 R.r0.off, .int .i64 R.r1.out, .int .i64 R.r1.total, .int .i64 R.r1.run, .int .i64 R.r1.off] 26)).alloc (.cells #[.int .i64 r] 3)).alloc (.cells #[.int .i64 0, .int .i64 0] 41)).alloc (.cells #[.int .i64 0] 30)) (enters_of Try.func67 (by kernel_rfl) rfl) (fun _ w' hb => (hours1_any (w.heap.size + 1) r w' ((hb.block _ (cells_of hRd'.out).1).trans hRd'.out)).mono (fun e w'' ⟨he, hw⟩ => ⟨he.trans (by rw [hr'.out]), hw⟩))
  have hopen' := hid hopen
  clear hopen
  go_enter_defers Try.func26, Try.ntmps26
  go_wp2_with (first
    | (go_at_call 47; refine (hopen'.out).mono ?_; intro e w1 hp; obtain ⟨rb, he, hrb, hrc, hb⟩ := openPost_valid hv'.out hp; subst he; clear hp; obtain ⟨l1, c1⟩ := cells_of hrc; have hrc' := hid hrc; clear hrc; have hzb := hb.size)
    | (go_at_call 68; refine (find_anyS rb (spanFns (w.heap.size + 1)) (spanG r) R R.hours _ hrc'.out).mono ?_; intro e w2 hp; obtain ⟨ub, gb, ab, rx, ob, m, he, hE, hm, hb2⟩ := hp; subst he; have hbA2 := below_via hb2 hb; clear c1)
    | (go_at_call 50; refine (begin_any _).mono ?_; rintro e w3 ⟨rfl, hb3⟩; have hbA3 := below_via hb3 hbA2; have hE3 := hE.keep (KeepI.of_below hE.m hb3); have hRd3 := (hbA3.block _ (cells_of hRd'.out).1).trans hRd'.out)
    | (go_at_call 95; refine (on_anyS ub gb ab rx ob rb m (spanFns (w.heap.size + 1)) (spanG r) _ (span_lasts m (w.heap.size + 1) r) R R.hours (span_ok _ _) (span_run _ r h0 h1) ho.1 ho.2 hh.2 R.hours.toNat St.begin _ St.begin_ok (by simp [St.begin]; omega) hE3 hRd3).mono ?_; intro e w4 hp; obtain ⟨he, hk⟩ := hp; rw [hf'.out] at he; subst he; have hbA4 := below_keep hbA3 (Nat.le_trans hzb hm) hk; have hA7 := (hbA4.block _ (cells_of hA'.out).1).trans hA'.out; have hX7 := (hbA4.block _ (cells_of hX'.out).1).trans hX'.out; obtain ⟨l7, c7⟩ := cells_of hA7; have z7 := free_of hA7; obtain ⟨l6, c6⟩ := cells_of hX7; have z6 := free_of hX7; have hbF := below_via hbA4 hAw'.out)
    | (go_at_call 72; refine (must_no _ _).mono ?_; rintro e w' ⟨rfl, rfl⟩))
  have hA8 := alloc_old (o := .cells #[.int .i64 0, .int .i64 0] 41) l7 hA7
  have hX8 := alloc_old (o := .cells #[.int .i64 0, .int .i64 0] 41) l6 hX7
  obtain ⟨l8, c8⟩ := cells_of hA8
  obtain ⟨l9, c9⟩ := cells_of hX8
  have z8 := free_of hA8
  refine leaves_cons (f := 44) (args := #[.pointer (some ⟨w.heap.size + 1 + 1 + 1, 0, none⟩)]) (by simp) (by simp [go_sem]) ?_
  refine (told_panicking (w.heap.size + 1 + 1 + 1) 4 0 _ l8 (by rw [c8]; rfl) (z8 0)).mono ?_
  rintro e u' w'' ⟨rfl, rfl, rfl⟩
  have hc0 := (cells_of (alloc_old (o := .cells #[.int .i64 4] 117) (by simpa [World.setCell] using l8) (heap_setCell_same (o := 0) (v := .int .i64 4) hA8))).2 0
  have hX9 : (((w4.alloc (.cells #[.int .i64 0, .int .i64 0] 41)).setCell ⟨w.heap.size + 1 + 1 + 1, 0, none⟩ (.int .i64 4)).alloc (.cells #[.int .i64 4] 117)).heap[w.heap.size + 1 + 1]? = _ := alloc_old (by simpa [World.setCell] using l9) ((Below.heap_setCell _ _ _ _ (by simp)).trans hX8)
  have hc1 := (cells_of hX9).2 0
  have hc2 := (cells_of hX9).2 1
  have hfin : Below w.heap.size w (((w4.alloc (.cells #[.int .i64 0, .int .i64 0] 41)).setCell ⟨w.heap.size + 1 + 1 + 1, 0, none⟩ (.int .i64 4)).alloc (.cells #[.int .i64 4] 117)) := below_alloc (below_set (below_alloc hbF _) _ (by simp <;> omega)) _
  simp [Leaves, settle, results, Try.results26, go_sem, hfin, hc0, hc1, hc2]

set_option maxRecDepth 100000 in
set_option maxHeartbeats 1000000 in
theorem Hours_range (R : Rest) (r : Int) (hv : R.valid = true) (hr : inB r 0 1 = false)  (w : World) :
    Calls Try.prog 26 #[restV R, .int .i64 r] w fun e w' => e = .returned (.tuple #[pV (0, 0), .int .i64 2]) ∧ Below w.heap.size w w' := by
  have hr' := hid hr
  clear hr
  have hv' := hid hv
  clear hv
  have hmf := hmf
  have hA : ((((w.alloc (.cells #[.int .i64 R.hours, .int .i64 R.r0.out, .int .i64 R.r0.total, .int .i64 R.r0.run, .int .i64 R.r0.off, .int .i64 R.r1.out, .int .i64 R.r1.total, .int .i64 R.r1.run, .int .i64 R.r1.off] 26)).alloc (.cells #[.int .i64 r] 3)).alloc (.cells #[.int .i64 0, .int .i64 0] 41)).alloc (.cells #[.int .i64 0] 30)).heap[w.heap.size + 1 + 1 + 1]? = some (.cells #[.int .i64 0] 30 (0, 0)) := alloc_at (by simp)
  have hX : ((((w.alloc (.cells #[.int .i64 R.hours, .int .i64 R.r0.out, .int .i64 R.r0.total, .int .i64 R.r0.run, .int .i64 R.r0.off, .int .i64 R.r1.out, .int .i64 R.r1.total, .int .i64 R.r1.run, .int .i64 R.r1.off] 26)).alloc (.cells #[.int .i64 r] 3)).alloc (.cells #[.int .i64 0, .int .i64 0] 41)).alloc (.cells #[.int .i64 0] 30)).heap[w.heap.size + 1 + 1]? = some (.cells #[.int .i64 0, .int .i64 0] 41 (0, 0)) := alloc_old (by simp) (alloc_at (by simp))
  have hRd : ((((w.alloc (.cells #[.int .i64 R.hours, .int .i64 R.r0.out, .int .i64 R.r0.total, .int .i64 R.r0.run, .int .i64 R.r0.off, .int .i64 R.r1.out, .int .i64 R.r1.total, .int .i64 R.r1.run, .int .i64 R.r1.off] 26)).alloc (.cells #[.int .i64 r] 3)).alloc (.cells #[.int .i64 0, .int .i64 0] 41)).alloc (.cells #[.int .i64 0] 30)).heap[w.heap.size + 1]? = some (.cells #[.int .i64 r] 3 (0, 0)) := alloc_old (by simp <;> omega) (alloc_old (by simp) (alloc_at (by simp)))
  have hAw : Below w.heap.size w ((((w.alloc (.cells #[.int .i64 R.hours, .int .i64 R.r0.out, .int .i64 R.r0.total, .int .i64 R.r0.run, .int .i64 R.r0.off, .int .i64 R.r1.out, .int .i64 R.r1.total, .int .i64 R.r1.run, .int .i64 R.r1.off] 26)).alloc (.cells #[.int .i64 r] 3)).alloc (.cells #[.int .i64 0, .int .i64 0] 41)).alloc (.cells #[.int .i64 0] 30)) := below_alloc (below_alloc (below_alloc (below_alloc (Below.refl _ _) _) _) _) _
  have hA' := hid hA
  have hX' := hid hX
  have hRd' := hid hRd
  have hAw' := hid hAw
  clear hA hAw hX hRd
  have hopen := open_any R false 67 #[.pointer (some ⟨w.heap.size + 1, 0, none⟩)] ((((w.alloc (.cells #[.int .i64 R.hours, .int .i64 R.r0.out, .int .i64 R.r0.total, .int .i64 R.r0.run, .int .i64 R.r0.off, .int .i64 R.r1.out, .int .i64 R.r1.total, .int .i64 R.r1.run, .int .i64 R.r1.off] 26)).alloc (.cells #[.int .i64 r] 3)).alloc (.cells #[.int .i64 0, .int .i64 0] 41)).alloc (.cells #[.int .i64 0] 30)) (enters_of Try.func67 (by kernel_rfl) rfl) (fun _ w' hb => (hours1_any (w.heap.size + 1) r w' ((hb.block _ (cells_of hRd'.out).1).trans hRd'.out)).mono (fun e w'' ⟨he, hw⟩ => ⟨he.trans (by rw [hr'.out]), hw⟩))
  have hopen' := hid hopen
  clear hopen
  go_enter_defers Try.func26, Try.ntmps26
  go_wp2_with (go_at_call 47; refine (hopen'.out).mono ?_; intro e w4 hp; obtain ⟨he, hbA4⟩ := openPost_rng hv'.out hp; subst he; clear hp; have hA7 := (hbA4.block _ (cells_of hA'.out).1).trans hA'.out; have hX7 := (hbA4.block _ (cells_of hX'.out).1).trans hX'.out; obtain ⟨l7, c7⟩ := cells_of hA7; have z7 := free_of hA7; obtain ⟨l6, c6⟩ := cells_of hX7; have z6 := free_of hX7; have hbF := below_via hbA4 hAw'.out)
  have hA8 := hA7
  have hX8 := hX7
  obtain ⟨l8, c8⟩ := cells_of hA8
  obtain ⟨l9, c9⟩ := cells_of hX8
  have z8 := free_of hA8
  refine leaves_cons (f := 44) (args := #[.pointer (some ⟨w.heap.size + 1 + 1 + 1, 0, none⟩)]) (by simp) (by simp [go_sem]) ?_
  refine (told_panicking (w.heap.size + 1 + 1 + 1) 2 0 _ l8 (by rw [c8]; rfl) (z8 0)).mono ?_
  rintro e u' w'' ⟨rfl, rfl, rfl⟩
  have hc0 := (cells_of (alloc_old (o := .cells #[.int .i64 2] 117) (by simpa [World.setCell] using l8) (heap_setCell_same (o := 0) (v := .int .i64 2) hA8))).2 0
  have hX9 : ((w4.setCell ⟨w.heap.size + 1 + 1 + 1, 0, none⟩ (.int .i64 2)).alloc (.cells #[.int .i64 2] 117)).heap[w.heap.size + 1 + 1]? = _ := alloc_old (by simpa [World.setCell] using l9) ((Below.heap_setCell _ _ _ _ (by simp)).trans hX8)
  have hc1 := (cells_of hX9).2 0
  have hc2 := (cells_of hX9).2 1
  have hfin : Below w.heap.size w ((w4.setCell ⟨w.heap.size + 1 + 1 + 1, 0, none⟩ (.int .i64 2)).alloc (.cells #[.int .i64 2] 117)) := below_alloc (below_set hbF _ (by simp <;> omega)) _
  simp [Leaves, settle, results, Try.results26, go_sem, hfin, hc0, hc1, hc2]

set_option maxRecDepth 100000 in
set_option maxHeartbeats 1000000 in
theorem Hours_bad (R : Rest) (r : Int) (hv : R.valid = false)   (w : World) :
    Calls Try.prog 26 #[restV R, .int .i64 r] w fun e w' => e = .returned (.tuple #[pV (0, 0), .int .i64 1]) ∧ Below w.heap.size w w' := by
  obtain ⟨bv, hbv⟩ : ∃ bv, inB r 0 1 = bv := ⟨_, rfl⟩
  have hr' := hid hbv
  clear hbv
  have hv' := hid hv
  clear hv
  have hmf := hmf
  have hA : ((((w.alloc (.cells #[.int .i64 R.hours, .int .i64 R.r0.out, .int .i64 R.r0.total, .int .i64 R.r0.run, .int .i64 R.r0.off, .int .i64 R.r1.out, .int .i64 R.r1.total, .int .i64 R.r1.run, .int .i64 R.r1.off] 26)).alloc (.cells #[.int .i64 r] 3)).alloc (.cells #[.int .i64 0, .int .i64 0] 41)).alloc (.cells #[.int .i64 0] 30)).heap[w.heap.size + 1 + 1 + 1]? = some (.cells #[.int .i64 0] 30 (0, 0)) := alloc_at (by simp)
  have hX : ((((w.alloc (.cells #[.int .i64 R.hours, .int .i64 R.r0.out, .int .i64 R.r0.total, .int .i64 R.r0.run, .int .i64 R.r0.off, .int .i64 R.r1.out, .int .i64 R.r1.total, .int .i64 R.r1.run, .int .i64 R.r1.off] 26)).alloc (.cells #[.int .i64 r] 3)).alloc (.cells #[.int .i64 0, .int .i64 0] 41)).alloc (.cells #[.int .i64 0] 30)).heap[w.heap.size + 1 + 1]? = some (.cells #[.int .i64 0, .int .i64 0] 41 (0, 0)) := alloc_old (by simp) (alloc_at (by simp))
  have hRd : ((((w.alloc (.cells #[.int .i64 R.hours, .int .i64 R.r0.out, .int .i64 R.r0.total, .int .i64 R.r0.run, .int .i64 R.r0.off, .int .i64 R.r1.out, .int .i64 R.r1.total, .int .i64 R.r1.run, .int .i64 R.r1.off] 26)).alloc (.cells #[.int .i64 r] 3)).alloc (.cells #[.int .i64 0, .int .i64 0] 41)).alloc (.cells #[.int .i64 0] 30)).heap[w.heap.size + 1]? = some (.cells #[.int .i64 r] 3 (0, 0)) := alloc_old (by simp <;> omega) (alloc_old (by simp) (alloc_at (by simp)))
  have hAw : Below w.heap.size w ((((w.alloc (.cells #[.int .i64 R.hours, .int .i64 R.r0.out, .int .i64 R.r0.total, .int .i64 R.r0.run, .int .i64 R.r0.off, .int .i64 R.r1.out, .int .i64 R.r1.total, .int .i64 R.r1.run, .int .i64 R.r1.off] 26)).alloc (.cells #[.int .i64 r] 3)).alloc (.cells #[.int .i64 0, .int .i64 0] 41)).alloc (.cells #[.int .i64 0] 30)) := below_alloc (below_alloc (below_alloc (below_alloc (Below.refl _ _) _) _) _) _
  have hA' := hid hA
  have hX' := hid hX
  have hRd' := hid hRd
  have hAw' := hid hAw
  clear hA hAw hX hRd
  have hopen := open_any R bv 67 #[.pointer (some ⟨w.heap.size + 1, 0, none⟩)] ((((w.alloc (.cells #[.int .i64 R.hours, .int .i64 R.r0.out, .int .i64 R.r0.total, .int .i64 R.r0.run, .int .i64 R.r0.off, .int .i64 R.r1.out, .int .i64 R.r1.total, .int .i64 R.r1.run, .int .i64 R.r1.off] 26)).alloc (.cells #[.int .i64 r] 3)).alloc (.cells #[.int .i64 0, .int .i64 0] 41)).alloc (.cells #[.int .i64 0] 30)) (enters_of Try.func67 (by kernel_rfl) rfl) (fun _ w' hb => (hours1_any (w.heap.size + 1) r w' ((hb.block _ (cells_of hRd'.out).1).trans hRd'.out)).mono (fun e w'' ⟨he, hw⟩ => ⟨he.trans (by rw [hr'.out]), hw⟩))
  have hopen' := hid hopen
  clear hopen
  go_enter_defers Try.func26, Try.ntmps26
  go_wp2_with (go_at_call 47; refine (hopen'.out).mono ?_; intro e w4 hp; obtain ⟨he, hbA4⟩ := openPost_arg hv'.out hp; subst he; clear hp; have hA7 := (hbA4.block _ (cells_of hA'.out).1).trans hA'.out; have hX7 := (hbA4.block _ (cells_of hX'.out).1).trans hX'.out; obtain ⟨l7, c7⟩ := cells_of hA7; have z7 := free_of hA7; obtain ⟨l6, c6⟩ := cells_of hX7; have z6 := free_of hX7; have hbF := below_via hbA4 hAw'.out)
  have hA8 := hA7
  have hX8 := hX7
  obtain ⟨l8, c8⟩ := cells_of hA8
  obtain ⟨l9, c9⟩ := cells_of hX8
  have z8 := free_of hA8
  refine leaves_cons (f := 44) (args := #[.pointer (some ⟨w.heap.size + 1 + 1 + 1, 0, none⟩)]) (by simp) (by simp [go_sem]) ?_
  refine (told_panicking (w.heap.size + 1 + 1 + 1) 1 0 _ l8 (by rw [c8]; rfl) (z8 0)).mono ?_
  rintro e u' w'' ⟨rfl, rfl, rfl⟩
  have hc0 := (cells_of (alloc_old (o := .cells #[.int .i64 1] 117) (by simpa [World.setCell] using l8) (heap_setCell_same (o := 0) (v := .int .i64 1) hA8))).2 0
  have hX9 : ((w4.setCell ⟨w.heap.size + 1 + 1 + 1, 0, none⟩ (.int .i64 1)).alloc (.cells #[.int .i64 1] 117)).heap[w.heap.size + 1 + 1]? = _ := alloc_old (by simpa [World.setCell] using l9) ((Below.heap_setCell _ _ _ _ (by simp)).trans hX8)
  have hc1 := (cells_of hX9).2 0
  have hc2 := (cells_of hX9).2 1
  have hfin : Below w.heap.size w ((w4.setCell ⟨w.heap.size + 1 + 1 + 1, 0, none⟩ (.int .i64 1)).alloc (.cells #[.int .i64 1] 117)) := below_alloc (below_set hbF _ (by simp <;> omega)) _
  simp [Leaves, settle, results, Try.results26, go_sem, hfin, hc0, hc1, hc2]

end Go.Proofs.Ytkgdejhooghknaa
