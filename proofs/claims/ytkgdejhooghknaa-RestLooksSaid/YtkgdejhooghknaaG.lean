/- The walks of the goals at counts. -/
import Derived.Test.YtkgdejhooghknaaF2
import Derived.Test.YtkgdejhooghknaaC2
import Derived.Test.YtkgdejhooghknaaKit2
import Derived.Test.YtkgdejhooghknaaPure3
namespace Go.Proofs.Ytkgdejhooghknaa
open Go.RowKit Go.Lap Go.Shelf

set_option maxHeartbeats 400000 in
theorem count1_any (s : St) (w : World) : Calls Try.prog 87 #[sval s] w fun e w' => e = .returned (.int .i64 1) ∧ Below w.heap.size w w' := by
  go_enter Try.func87, Try.ntmps87
  go_wp2
  go_ret
  exact ⟨rfl, below_alloc (Below.refl _ _) _⟩

set_option maxHeartbeats 400000 in
theorem count2_any (a b : Int) (w : World) : Calls Try.prog 88 #[.int .i64 a, .int .i64 b] w fun e w' => e = .returned (.int .i64 (wrap64 (a + b))) ∧ Below w.heap.size w w' := by
  go_enter Try.func88, Try.ntmps88
  go_wp2
  go_ret
  exact ⟨rfl, Below.refl _ _⟩

set_option maxHeartbeats 400000 in
theorem keep_any (s t : St) (x : Int) (w : World) : Calls Try.prog 66 #[sval s, sval t, .int .i64 x] w fun e w' => e = .returned (.int .i64 x) ∧ Below w.heap.size w w' := by
  go_enter Try.func66, Try.ntmps66
  go_wp2
  go_ret
  exact ⟨rfl, below_alloc (below_alloc (Below.refl _ _) _) _⟩

set_option maxHeartbeats 400000 in
theorem least1_any (a b : Int) (w : World) : Calls Try.prog 92 #[.int .i64 a, .int .i64 b] w fun e w' => e = .returned (.int .i64 (min a b)) ∧ Below w.heap.size w w' := by
  go_enter Try.func92, Try.ntmps92
  go_wp2
  all_goals
    go_ret
    exact ⟨ret_int (by omega), Below.refl _ _⟩

set_option maxHeartbeats 400000 in
theorem changes1_any (s : St) (w : World) : Calls Try.prog 90 #[sval s] w fun e w' => e = .returned (.int .i64 0) ∧ Below w.heap.size w w' := by
  go_enter Try.func90, Try.ntmps90
  go_wp2
  go_ret
  exact ⟨rfl, below_alloc (Below.refl _ _) _⟩

set_option maxHeartbeats 400000 in
theorem changes2_any (s t : St) (x : Int) (w : World) : Calls Try.prog 91 #[sval s, sval t, .int .i64 x] w fun e w' => e = .returned (.int .i64 (changesG.hour s t x)) ∧ Below w.heap.size w w' := by
  obtain ⟨rider, run, before, hour, x0, x1⟩ := s
  obtain ⟨rider', run', before', hour', x0', x1'⟩ := t
  by_cases h1 : 0 < hour
  · by_cases h2 : rider = rider'
    · subst h2
      go_enter Try.func91, Try.ntmps91
      go_wp2
      go_ret
      exact ⟨by simp [changesG], below_alloc (below_alloc (Below.refl _ _) _) _⟩
    · have h3 : (rider != rider') = true := by simpa using h2
      have h2' := hid h2
      clear h2
      go_enter Try.func91, Try.ntmps91
      go_wp2
      go_ret
      exact ⟨by have := h2'.out; simp [changesG, h1, this], below_alloc (below_alloc (Below.refl _ _) _) _⟩
  · have h3 : decide (0 < hour) = false := by simpa using h1
    have h1' := hid h1
    clear h1
    go_enter Try.func91, Try.ntmps91
    go_wp2
    go_ret
    exact ⟨by have := h1'.out; have h9 : ¬ 0 < hour := (by omega); simp [changesG, h9], below_alloc (below_alloc (Below.refl _ _) _) _⟩

abbrev countFns : GoalFns := ⟨87, #[], 66, #[], 88, #[]⟩
abbrev changesFns : GoalFns := ⟨90, #[], 91, #[], 92, #[]⟩

theorem count_ok : GoalOkI countFns countG :=
  ⟨enters_of Try.func87 (by kernel_rfl) rfl, enters_of Try.func66 (by kernel_rfl) rfl, enters_of Try.func88 (by kernel_rfl) rfl, fun s w _ => count1_any s w, fun s t x w _ _ _ => keep_any s t x w, fun a b w => count2_any a b w⟩
theorem changes_ok : GoalOkI changesFns changesG :=
  ⟨enters_of Try.func90 (by kernel_rfl) rfl, enters_of Try.func91 (by kernel_rfl) rfl, enters_of Try.func92 (by kernel_rfl) rfl, fun s w _ => changes1_any s w, fun s t x w _ _ _ => changes2_any s t x w, fun a b w => least1_any a b w⟩

abbrev goalV (G : GoalFns) : Value := .agg #[.func (.func G.fe) #[] G.ce, .func (.func G.fh) #[] G.ch, .func (.func G.fj) #[] G.cj]

set_option maxHeartbeats 400000 in
theorem count_any (w : World) : Calls Try.prog 56 #[] w fun e w' => e = .returned (goalV countFns) ∧ Below w.heap.size w w' := by
  go_enter Try.func56, Try.ntmps56
  go_wp2
  exact bodyPost_ret (v := goalV countFns) (by simp [results, Try.results56, go_sem]) rfl ⟨rfl, below_alloc (Below.refl _ _) _⟩

set_option maxHeartbeats 400000 in
theorem least_any (fe fh : Nat) (w : World) : Calls Try.prog 63 #[.func (.func fe) #[] #[], .func (.func fh) #[] #[]] w fun e w' => e = .returned (goalV ⟨fe, #[], fh, #[], 92, #[]⟩) ∧ Below w.heap.size w w' := by
  go_enter Try.func63, Try.ntmps63
  go_wp2
  exact bodyPost_ret (v := goalV ⟨fe, #[], fh, #[], 92, #[]⟩) (by simp [results, Try.results63, go_sem]) rfl ⟨rfl, below_alloc (Below.refl _ _) _⟩

set_option maxHeartbeats 400000 in
theorem changes_any (w : World) : Calls Try.prog 61 #[] w fun e w' => e = .returned (goalV changesFns) ∧ Below w.heap.size w w' := by
  go_enter Try.func61, Try.ntmps61
  go_wp2_with (go_at_call 63; refine (least_any _ _ _).mono ?_; rintro e w' ⟨rfl, hb⟩; obtain ⟨hc, hf⟩ := bcell hb; have hz := hb.size; simp at hz; have hz2 : w.heap.size < w'.heap.size := (by omega))
  exact bodyPost_ret (v := goalV changesFns) (by simp [results, Try.results61, go_sem, hc]) rfl ⟨rfl, below_set (below_set (below_set (below_via hb (below_alloc (Below.refl _ _) _)) _ (by simp)) _ (by simp)) _ (by simp)⟩

set_option maxHeartbeats 400000 in
theorem begin_any (w : World) : Calls Try.prog 50 #[] w fun e w' => e = .returned (sval St.begin) ∧ Below w.heap.size w w' := by
  go_enter Try.func50, Try.ntmps50
  go_wp2
  exact bodyPost_ret (v := sval St.begin) (by simp [results, Try.results50, go_sem, St.begin]) rfl ⟨rfl, below_alloc (Below.refl _ _) _⟩

/-- What 'always' is. -/
theorem always_any (w : World) : Calls Try.prog 54 #[] w fun e w' => e = .returned (.bool true) ∧ Below w.heap.size w w' := by
  go_enter Try.func54, Try.ntmps54
  go_wp2
  go_ret
  exact ⟨rfl, Below.refl _ _⟩

theorem open_always (R : Rest) (w : World) : Calls Try.prog 47 #[restV R, .func (.func 54) #[] #[]] w (OpenPost R true w) :=
  open_any R true 54 #[] w (enters_of Try.func54 (by kernel_rfl) rfl) (fun _ w' _ => always_any w')

/-- What Count returns. -/
def countOf (R : Rest) : Int := (found R countG R.hours.toNat St.begin).getD 0

set_option maxRecDepth 100000 in
set_option maxHeartbeats 1000000 in
theorem Count_ok (R : Rest) (hv : R.valid = true) (w : World) : Calls Try.prog 17 #[restV R] w fun e w' => e = .returned (.tuple #[.int .i64 (countOf R), .int .i64 0]) ∧ Below w.heap.size w w' := by
  go_enter_defers Try.func17, Try.ntmps17
  have hv' := hid hv
  clear hv
  go_wp2_with (go_at_call 47; refine (open_always _ _).mono ?_; intro e w1 hp; obtain ⟨rb, he, hrb, hrc, hb⟩ := openPost_valid hv'.out hp; subst he; clear hp; obtain ⟨hc, hf⟩ := bcell hb; obtain ⟨l1, c1⟩ := cells_of hrc)
  have hA : ((w.alloc (.cells #[.int .i64 R.hours, .int .i64 R.r0.out, .int .i64 R.r0.total, .int .i64 R.r0.run, .int .i64 R.r0.off, .int .i64 R.r1.out, .int .i64 R.r1.total, .int .i64 R.r1.run, .int .i64 R.r1.off] 26)).alloc (.cells #[.int .i64 0] 30)).heap[w.heap.size + 1]? = some (.cells #[.int .i64 0] 30 (0, 0)) := alloc_at (by simp)
  have hAw : Below w.heap.size w ((w.alloc (.cells #[.int .i64 R.hours, .int .i64 R.r0.out, .int .i64 R.r0.total, .int .i64 R.r0.run, .int .i64 R.r0.off, .int .i64 R.r1.out, .int .i64 R.r1.total, .int .i64 R.r1.run, .int .i64 R.r1.off] 26)).alloc (.cells #[.int .i64 0] 30)) := below_alloc (below_alloc (Below.refl _ _) _) _
  generalize ((w.alloc (.cells #[.int .i64 R.hours, .int .i64 R.r0.out, .int .i64 R.r0.total, .int .i64 R.r0.run, .int .i64 R.r0.off, .int .i64 R.r1.out, .int .i64 R.r1.total, .int .i64 R.r1.run, .int .i64 R.r1.off] 26)).alloc (.cells #[.int .i64 0] 30)) = Wa at hA hAw hb hrb
  refine wp_region_seg (by kernel_rfl) ?_
  intro w2 hb2
  have hc2 := (bcell hb2).1
  have hrc2 := (hb2.block rb l1).trans hrc
  have hlr : rb < w2.heap.size := Nat.lt_of_lt_of_le l1 hb2.size
  have hbA2 := below_via hb2 hb
  refine wpSeg_barrier_later 0 7 _ rfl (by kernel_rfl) ?_
  intro hx
  simp only [List.take_succ_cons, List.take_zero, List.drop_zero, Nat.reduceSub]
  repeat (any_goals (first | go_big_quiet_step ((go_at_call 56; exact Calls.later (count_any _))) | quiet_step ((go_at_call 56; exact Calls.later (count_any _)))))
  refine wpQuiet_nil ?_
  rintro w3 ⟨x, hxw⟩
  have hb3 := x.below
  rw [← hxw] at hb3
  have hrc3 := (hb3.block rb hlr).trans hrc2
  have hbA3 := below_via hb3 hbA2
  clear hx hxw x hc2 hc hf c1
  go_wp2_with (go_at_call 55; refine (find_any rb countFns countG R R.hours _ hrc3).mono ?_; intro e w4 hp; obtain ⟨ub, gb, ab, rx, ob, m, he, hof, hb4⟩ := hp; subst he)
  have hbA4 := below_via hb4 hbA3
  have hm3 := Nat.le_trans hbA3.size hof.new
  refine wpSeg_barrier_later 8 9 _ rfl (by kernel_rfl) ?_
  intro hx
  simp only [List.take_succ_cons, List.take_zero, List.drop_succ_cons, List.drop_zero, Nat.reduceSub]
  repeat (any_goals (first | go_big_quiet_step ((go_at_call 50; exact Calls.later (begin_any _))) | quiet_step ((go_at_call 50; exact Calls.later (begin_any _)))))
  refine wpQuiet_nil ?_
  rintro w5 ⟨x, hxw⟩
  have hb5 := x.below
  rw [← hxw] at hb5
  have hbA5 := below_via hb5 hbA4
  have henv := hof.env.keep (KeepI.of_below hof.env.m hb5)
  clear hx hxw x
  have hh := Rest.valid_hours hv'.out
  have ho := Rest.valid_ok hv'.out
  go_wp2_with (go_at_call 85; refine (on_any ub gb ab rx ob rb m countFns countG R R.hours count_ok ho.1 ho.2 hh.2 R.hours.toNat St.begin _ St.begin_ok (by simp [St.begin]; omega) henv).mono ?_; intro e w6 hp; obtain ⟨he, hk⟩ := hp; subst he)
  have hbA6 := below_keep hbA5 hm3 hk
  have hA6 := (hbA6.block _ (cells_of hA).1).trans hA
  refine wpSeg_end_later 10 (by kernel_rfl) ?_
  intro hx
  simp only [List.drop_succ_cons, List.drop_zero]
  repeat (any_goals (first | go_big_quiet_step (fail) | quiet_step (fail)))
  refine wpQuiet_nil ?_
  rintro w7 ⟨x, hxw⟩
  have hb7 := x.below
  rw [← hxw] at hb7
  have hbA7 := below_via hb7 hbA6
  have hA7 := (hbA7.block _ (cells_of hA).1).trans hA
  obtain ⟨l7, c7⟩ := cells_of hA7
  have z7 := free_of hA7
  clear hx hxw x
  go_wp2
  refine leaves_cons (f := 44) (args := #[.pointer (some ⟨w.heap.size + 1, 0, none⟩)]) (by simp) (by simp [go_sem]) ?_
  refine (told_idle ⟨w.heap.size + 1, 0, none⟩ _).mono ?_
  rintro e u' w'' ⟨rfl, rfl, rfl⟩
  have hfin : Below w.heap.size w (w7.setCell ⟨w.heap.size + 1, 0, none⟩ (.int .i64 0)) := below_set (below_via hbA7 hAw) _ (by simp)
  simp [Leaves, settle, results, Try.results17, go_sem, c7, hfin, countOf]

set_option maxRecDepth 100000 in
set_option maxHeartbeats 1000000 in
theorem Count_bad (R : Rest) (hv : R.valid = false) (w : World) : Calls Try.prog 17 #[restV R] w fun e w' => e = .returned (.tuple #[.int .i64 0, .int .i64 1]) ∧ Below w.heap.size w w' := by
  go_enter_defers Try.func17, Try.ntmps17
  have hv' := hid hv
  clear hv
  go_wp2_with (go_at_call 47; refine (open_always _ _).mono ?_; intro e w1 hp; obtain ⟨he, hb⟩ := openPost_arg hv'.out hp; subst he; clear hp)
  have hA : ((w.alloc (.cells #[.int .i64 R.hours, .int .i64 R.r0.out, .int .i64 R.r0.total, .int .i64 R.r0.run, .int .i64 R.r0.off, .int .i64 R.r1.out, .int .i64 R.r1.total, .int .i64 R.r1.run, .int .i64 R.r1.off] 26)).alloc (.cells #[.int .i64 0] 30)).heap[w.heap.size + 1]? = some (.cells #[.int .i64 0] 30 (0, 0)) := alloc_at (by simp)
  have hAw : Below w.heap.size w ((w.alloc (.cells #[.int .i64 R.hours, .int .i64 R.r0.out, .int .i64 R.r0.total, .int .i64 R.r0.run, .int .i64 R.r0.off, .int .i64 R.r1.out, .int .i64 R.r1.total, .int .i64 R.r1.run, .int .i64 R.r1.off] 26)).alloc (.cells #[.int .i64 0] 30)) := below_alloc (below_alloc (Below.refl _ _) _) _
  generalize ((w.alloc (.cells #[.int .i64 R.hours, .int .i64 R.r0.out, .int .i64 R.r0.total, .int .i64 R.r0.run, .int .i64 R.r0.off, .int .i64 R.r1.out, .int .i64 R.r1.total, .int .i64 R.r1.run, .int .i64 R.r1.off] 26)).alloc (.cells #[.int .i64 0] 30)) = Wa at hA hAw hb
  have hA1 := (hb.block _ (cells_of hA).1).trans hA
  obtain ⟨l7, c7⟩ := cells_of hA1
  have z7 := free_of hA1
  refine leaves_cons (f := 44) (args := #[.pointer (some ⟨w.heap.size + 1, 0, none⟩)]) (by simp) (by simp [go_sem]) ?_
  refine (told_panicking (w.heap.size + 1) 1 0 _ l7 (by rw [c7]; rfl) (z7 0)).mono ?_
  rintro e u' w'' ⟨rfl, rfl, rfl⟩
  have hfin : Below w.heap.size w ((w1.setCell ⟨w.heap.size + 1, 0, none⟩ (.int .i64 1)).alloc (.cells #[.int .i64 1] 117)) := below_alloc (below_set (below_via hb hAw) _ (by simp)) _
  simp [Leaves, settle, results, Try.results17, go_sem, c7, hfin, l7]

end Go.Proofs.Ytkgdejhooghknaa
