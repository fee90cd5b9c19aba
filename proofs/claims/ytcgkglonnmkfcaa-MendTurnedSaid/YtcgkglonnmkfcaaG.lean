/- The walks of 'Count' and 'Until' of package mend, and of their goals. -/
import Derived.Test.YtcgkglonnmkfcaaF2
import Derived.Test.YtcgkglonnmkfcaaNA
namespace Go.Proofs.Ytcgkglonnmkfcaa
open Go.RowKit Go.Lap Go.Shelf

set_option maxHeartbeats 400000 in
theorem count1_any (b : Bench) (soon last : Int) (w : World) : Calls Try.prog 81 #[workV b soon last] w fun e w' => e = .returned (.int .i64 1) ∧ Below w.heap.size w w' := by
  go_enter Try.func81, Try.ntmps81
  go_wp2
  all_goals
    go_ret
    exact ⟨by first | rfl | exact ret_int (by omega), below_alloc (Below.refl _ _) _⟩

set_option maxHeartbeats 400000 in
theorem count2_any (b : Bench) (soon last : Int) (x : Int) (w : World) : Calls Try.prog 82 #[workV b soon last, .int .i64 x] w fun e w' => e = .returned (.int .i64 x) ∧ Below w.heap.size w w' := by
  go_enter Try.func82, Try.ntmps82
  go_wp2
  all_goals
    go_ret
    exact ⟨by first | rfl | exact ret_int (by omega), below_alloc (Below.refl _ _) _⟩

set_option maxHeartbeats 400000 in
theorem count3_any (x y : Int) (w : World) : Calls Try.prog 83 #[.int .i64 x, .int .i64 y] w fun e w' => e = .returned (.int .i64 (wrap64 (x + y))) ∧ Below w.heap.size w w' := by
  go_enter Try.func83, Try.ntmps83
  go_wp2
  all_goals
    go_ret
    exact ⟨by first | rfl | exact ret_int (by omega), Below.refl _ _⟩

set_option maxHeartbeats 400000 in
theorem until1_any (b : Bench) (soon last : Int) (w : World) : Calls Try.prog 72 #[workV b soon last] w fun e w' => e = .returned (.int .i64 b.late) ∧ Below w.heap.size w w' := by
  go_enter Try.func72, Try.ntmps72
  go_wp2
  all_goals
    go_ret
    exact ⟨by first | rfl | exact ret_int (by omega), below_alloc (Below.refl _ _) _⟩

set_option maxHeartbeats 400000 in
theorem until2_any (b : Bench) (soon last : Int) (x : Int) (w : World) : Calls Try.prog 73 #[workV b soon last, .int .i64 x] w fun e w' => e = .returned (.int .i64 x) ∧ Below w.heap.size w w' := by
  go_enter Try.func73, Try.ntmps73
  go_wp2
  all_goals
    go_ret
    exact ⟨by first | rfl | exact ret_int (by omega), below_alloc (Below.refl _ _) _⟩

set_option maxHeartbeats 400000 in
theorem lesser_any (x y : Int) (w : World) : Calls Try.prog 69 #[.int .i64 x, .int .i64 y] w fun e w' => e = .returned (.int .i64 (min x y)) ∧ Below w.heap.size w w' := by
  go_enter Try.func69, Try.ntmps69
  go_wp2
  all_goals
    go_ret
    exact ⟨by first | rfl | exact ret_int (by omega), Below.refl _ _⟩

set_option maxHeartbeats 400000 in
theorem always_any  (w : World) : Calls Try.prog 56 #[] w fun e w' => e = .returned (.bool true) ∧ Below w.heap.size w w' := by
  go_enter Try.func56, Try.ntmps56
  go_wp2
  all_goals
    go_ret
    exact ⟨by first | rfl | exact ret_int (by omega), Below.refl _ _⟩

abbrev countFns : GoalFns := ⟨81, #[], 82, #[], 83, #[]⟩
abbrev untilFns : GoalFns := ⟨72, #[], 73, #[], 69, #[]⟩
theorem count_ok (M : Mend) (left : Nat) (B : Nat × Nat) : GoalOkI countFns countG M left B (fun _ => True) :=
  ⟨enters_of Try.func81 (by kernel_rfl) rfl, enters_of Try.func82 (by kernel_rfl) rfl, enters_of Try.func83 (by kernel_rfl) rfl, fun b soon last w => count1_any b soon last w, fun _ b soon i x w _ _ _ => count2_any b soon i x w, fun a b w => count3_any a b w, fun _ _ _ _ => trivial⟩
theorem until_ok (M : Mend) (left : Nat) (B : Nat × Nat) : GoalOkI untilFns lateG M left B (fun _ => True) :=
  ⟨enters_of Try.func72 (by kernel_rfl) rfl, enters_of Try.func73 (by kernel_rfl) rfl, enters_of Try.func69 (by kernel_rfl) rfl, fun b soon last w => until1_any b soon last w, fun _ b soon i x w _ _ _ => until2_any b soon i x w, fun a b w => lesser_any a b w, fun _ _ _ _ => trivial⟩

set_option maxHeartbeats 1000000 in
theorem ways_any (X sb : Nat) (M : Mend) (left : Nat) (w : World) (h : ShopUnder (w.heap.size, X) w sb M left) : Calls Try.prog 57 #[.pointer (some ⟨sb, 0, none⟩)] w (FindPost X sb countFns countG M left (fun _ => True) w) := by
  have h' := hid h
  go_enter Try.func57, Try.ntmps57
  go_wp2_with (go_at_call 64; refine (find_any X sb countFns countG M left (fun _ => True) _ (count_ok M left _) h'.out trivial).mono ?_; intro e w4 hp; obtain ⟨rx, gb, ab, ob, m, he, hE, hb4⟩ := hp; subst he)
  go_ret
  exact ⟨rx, gb, ab, ob, m, rfl, hE, hb4⟩

theorem open_always {M : Mend} {sv jv : Value} {w : World} (hS : IntsAt w sv M.setup) (hJ : JobsAt w jv M.jobs) : Calls Try.prog 47 #[.agg #[sv, jv], .func (.func 56) #[] #[]] w (OpenPost M sv jv true w) :=
  open_any M true 56 #[] sv jv w hS hJ (enters_of Try.func56 (by kernel_rfl) rfl) (fun _ w' _ => always_any w')
theorem begin_work {M : Mend} (hM : M.Ok) (left : Nat) : WorkIn M left (restN M left) Bench.begin 0 := by
  have h := begin_in M hM left
  have := h.late1
  exact ⟨h, by omega, by simpa [Bench.begin, restN] using this⟩
theorem KeepT.keepI {w : World} {sv jv : Value} {W W' : World} {m : Nat} {kv : Bench → Value} (h : KeepT w sv jv W) (hk : KeepI m kv W W') (hm : w.heap.size + 2 ≤ m) : KeepT w sv jv W' := by
  have hb := below_keep (a := w) h.bel (by omega) hk
  exact ⟨hb, (hk.1.block _ (cells_of h.m).1 (fun e => by cases e; omega)).trans h.m, (hk.1.block _ (cells_of h.e).1 (fun e => by cases e; omega)).trans h.e⟩

set_option maxRecDepth 100000 in
set_option maxHeartbeats 2000000 in
theorem Count_bad (M : Mend) (hv : M.valid = false) (sv jv : Value) (w : World) (hS : IntsAt w sv M.setup) (hJ : JobsAt w jv M.jobs) :
    Calls Try.prog 20 #[.agg #[sv, jv]] w fun e w' => e = .returned (.tuple #[.int .i64 0, .int .i64 1]) ∧ Below w.heap.size w w' := by
  have hv' := hid hv
  clear hv
  have hS' := hid hS
  have hJ' := hid hJ
  obtain ⟨sa, scap, rfl, _⟩ := hS
  obtain ⟨ja, jcap, rfl, _⟩ := hJ
  have hk := KeepT.start w (.slice sa M.setup.length scap) (.slice ja M.jobs.length jcap)
  go_enter_defers Try.func20, Try.ntmps20
  go_upto_region 2 with fail
  generalize ((w.alloc (.cells #[.slice sa M.setup.length scap, .slice ja M.jobs.length jcap] 25)).alloc (.cells #[.int .i64 0] 29)) = w1 at hk ⊢
  obtain ⟨lm, cm⟩ := cells_of hk.m
  go_wp2_with (go_at_call 47; refine (open_always (hS'.out.below hk.bel) (hJ'.out.below hk.bel)).mono ?_; intro e w3 hp; obtain ⟨he, hb3⟩ := openPost_arg hv'.out hp; subst he; clear hp)
  have hk3 := hk.below hb3
  obtain ⟨l7, c7⟩ := cells_of hk3.e
  have z7 := free_of hk3.e
  refine leaves_cons (f := 46) (args := #[.pointer (some ⟨w.heap.size + 1, 0, none⟩)]) (by simp) (by simp [go_sem]) ?_
  refine (told_panicking (w.heap.size + 1) 1 0 _ l7 (by rw [c7]; rfl) (z7 0)).mono ?_
  rintro e u' w'' ⟨rfl, rfl, rfl⟩
  have hfin : Below w.heap.size w ((w3.setCell ⟨w.heap.size + 1, 0, none⟩ (.int .i64 1)).alloc (.cells #[.int .i64 1] 107)) := below_alloc (below_set hk3.bel _ (by simp)) _
  simp [Leaves, settle, results, Try.results20, go_sem, c7, hfin, l7]

set_option maxRecDepth 100000 in
set_option maxHeartbeats 2000000 in
theorem Count_fine (M : Mend) (hv : M.valid = true) (o : Option Int) (ho : found M 0 countG (restN M 0) Bench.begin = o) (sv jv : Value) (w : World) (hS : IntsAt w sv M.setup) (hJ : JobsAt w jv M.jobs) :
    Calls Try.prog 20 #[.agg #[sv, jv]] w fun e w' => e = .returned (.tuple #[.int .i64 (o.getD 0), .int .i64 0]) ∧ Below w.heap.size w w' := by
  have hv' := hid hv
  have ho' := hid ho
  clear hv ho
  have hS' := hid hS
  have hJ' := hid hJ
  obtain ⟨sa, scap, rfl, _⟩ := hS
  obtain ⟨ja, jcap, rfl, _⟩ := hJ
  have hk := KeepT.start w (.slice sa M.setup.length scap) (.slice ja M.jobs.length jcap)
  go_enter_defers Try.func20, Try.ntmps20
  go_upto_region 2 with fail
  generalize ((w.alloc (.cells #[.slice sa M.setup.length scap, .slice ja M.jobs.length jcap] 25)).alloc (.cells #[.int .i64 0] 29)) = w1 at hk ⊢
  obtain ⟨lm, cm⟩ := cells_of hk.m
  go_wp2_with (first
    | (go_at_call 47; refine (open_always (hS'.out.below hk.bel) (hJ'.out.below hk.bel)).mono ?_; intro e w3 hp; obtain ⟨sb, he, hsb, hsc, hb3⟩ := openPost_yes hv'.out hp; subst he; clear hp; have hk3 := hk.below hb3; have hsh : ShopAt w3 sb M 0 := ⟨_, _, hsc, hS'.out.below hk3.bel, hJ'.out.below hk3.bel⟩)
    | (go_at_call 57; refine (ways_any w3.heap.size sb M 0 w3 hsh.under).mono ?_; intro e w4 hp; obtain ⟨rx, gb, ab, ob, m, he, hE, hb4⟩ := hp; subst he; have hk4 := hk3.below hb4; have hm2 : w.heap.size + 2 ≤ m := (by have := hE.ge; have := (cells_of hk3.e).1; omega))
    | (go_at_call 58; with_reducible refine (begin_any _).mono ?_; rintro e w5 ⟨rfl, hb5⟩; have hk5 := hk4.below hb5; have hE5 := hE.keep (count_ok M 0 _) (KeepI.of_below hE.m hb5))
    | (go_at_call 86; refine (on_any rx gb ab ob sb m _ countFns countG M (Mend.valid_ok hv'.out) 0 (by decide) _ (count_ok M 0 _) (restN M 0) Bench.begin 0 (-1) _ (begin_work (Mend.valid_ok hv'.out) 0) hE5).mono ?_; rw [ho'.out]; intro e w6 hp; obtain ⟨he, hki⟩ := hp; subst he; have hk6 := hk5.keepI hki hm2; obtain ⟨l7, c7⟩ := cells_of hk6.e; have z7 := free_of hk6.e))
  refine leaves_cons (f := 46) (args := #[.pointer (some ⟨w.heap.size + 1, 0, none⟩)]) (by simp) (by simp [go_sem]) ?_
  refine (told_idle ⟨w.heap.size + 1, 0, none⟩ _).mono ?_
  rintro e u' w'' ⟨rfl, rfl, rfl⟩
  have hfin : Below w.heap.size w (w6.setCell ⟨w.heap.size + 1, 0, none⟩ (.int .i64 0)) := below_set hk6.bel _ (by simp)
  simp [Leaves, settle, results, Try.results20, go_sem, c7, hfin]

set_option maxRecDepth 100000 in
set_option maxHeartbeats 2000000 in
theorem Until_bad (M : Mend) (hv : M.valid = false) (sv jv : Value) (w : World) (hS : IntsAt w sv M.setup) (hJ : JobsAt w jv M.jobs) :
    Calls Try.prog 28 #[.agg #[sv, jv]] w fun e w' => e = .returned (.tuple #[.int .i64 0, .int .i64 1]) ∧ Below w.heap.size w w' := by
  have hv' := hid hv
  clear hv
  have hS' := hid hS
  have hJ' := hid hJ
  obtain ⟨sa, scap, rfl, _⟩ := hS
  obtain ⟨ja, jcap, rfl, _⟩ := hJ
  have hk := KeepT.start w (.slice sa M.setup.length scap) (.slice ja M.jobs.length jcap)
  go_enter_defers Try.func28, Try.ntmps28
  go_upto_region 2 with fail
  generalize ((w.alloc (.cells #[.slice sa M.setup.length scap, .slice ja M.jobs.length jcap] 25)).alloc (.cells #[.int .i64 0] 29)) = w1 at hk ⊢
  obtain ⟨lm, cm⟩ := cells_of hk.m
  go_wp2_with (go_at_call 47; refine (open_always (hS'.out.below hk.bel) (hJ'.out.below hk.bel)).mono ?_; intro e w3 hp; obtain ⟨he, hb3⟩ := openPost_arg hv'.out hp; subst he; clear hp)
  have hk3 := hk.below hb3
  obtain ⟨l7, c7⟩ := cells_of hk3.e
  have z7 := free_of hk3.e
  refine leaves_cons (f := 46) (args := #[.pointer (some ⟨w.heap.size + 1, 0, none⟩)]) (by simp) (by simp [go_sem]) ?_
  refine (told_panicking (w.heap.size + 1) 1 0 _ l7 (by rw [c7]; rfl) (z7 0)).mono ?_
  rintro e u' w'' ⟨rfl, rfl, rfl⟩
  have hfin : Below w.heap.size w ((w3.setCell ⟨w.heap.size + 1, 0, none⟩ (.int .i64 1)).alloc (.cells #[.int .i64 1] 107)) := below_alloc (below_set hk3.bel _ (by simp)) _
  simp [Leaves, settle, results, Try.results28, go_sem, c7, hfin, l7]

set_option maxRecDepth 100000 in
set_option maxHeartbeats 2000000 in
theorem Until_fine (M : Mend) (hv : M.valid = true) (v : Int) (ho : found M 0 lateG (restN M 0) Bench.begin = some v) (sv jv : Value) (w : World) (hS : IntsAt w sv M.setup) (hJ : JobsAt w jv M.jobs) :
    Calls Try.prog 28 #[.agg #[sv, jv]] w fun e w' => e = .returned (.tuple #[.int .i64 v, .int .i64 0]) ∧ Below w.heap.size w w' := by
  have hv' := hid hv
  have ho' := hid ho
  clear hv ho
  have hS' := hid hS
  have hJ' := hid hJ
  obtain ⟨sa, scap, rfl, _⟩ := hS
  obtain ⟨ja, jcap, rfl, _⟩ := hJ
  have hk := KeepT.start w (.slice sa M.setup.length scap) (.slice ja M.jobs.length jcap)
  go_enter_defers Try.func28, Try.ntmps28
  go_upto_region 2 with fail
  generalize ((w.alloc (.cells #[.slice sa M.setup.length scap, .slice ja M.jobs.length jcap] 25)).alloc (.cells #[.int .i64 0] 29)) = w1 at hk ⊢
  obtain ⟨lm, cm⟩ := cells_of hk.m
  go_wp2_with (first
    | (go_at_call 47; refine (open_always (hS'.out.below hk.bel) (hJ'.out.below hk.bel)).mono ?_; intro e w3 hp; obtain ⟨sb, he, hsb, hsc, hb3⟩ := openPost_yes hv'.out hp; subst he; clear hp; have hk3 := hk.below hb3; have hsh : ShopAt w3 sb M 0 := ⟨_, _, hsc, hS'.out.below hk3.bel, hJ'.out.below hk3.bel⟩)
    | (go_at_call 64; refine (find_any w3.heap.size sb untilFns lateG M 0 (fun _ => True) w3 (until_ok M 0 _) hsh.under trivial).mono ?_; intro e w4 hp; obtain ⟨rx, gb, ab, ob, m, he, hE, hb4⟩ := hp; subst he; have hk4 := hk3.below hb4; have hm2 : w.heap.size + 2 ≤ m := (by have := hE.ge; have := (cells_of hk3.e).1; omega))
    | (go_at_call 58; with_reducible refine (begin_any _).mono ?_; rintro e w5 ⟨rfl, hb5⟩; have hk5 := hk4.below hb5; have hE5 := hE.keep (until_ok M 0 _) (KeepI.of_below hE.m hb5))
    | (go_at_call 86; refine (on_any rx gb ab ob sb m _ untilFns lateG M (Mend.valid_ok hv'.out) 0 (by decide) _ (until_ok M 0 _) (restN M 0) Bench.begin 0 (-1) _ (begin_work (Mend.valid_ok hv'.out) 0) hE5).mono ?_; rw [ho'.out]; intro e w6 hp; obtain ⟨he, hki⟩ := hp; subst he; have hk6 := hk5.keepI hki hm2; obtain ⟨l7, c7⟩ := cells_of hk6.e; have z7 := free_of hk6.e)
    | (go_at_call 52; with_reducible refine (must_yes _ _).mono ?_; rintro e w' ⟨rfl, rfl⟩))
  refine leaves_cons (f := 46) (args := #[.pointer (some ⟨w.heap.size + 1, 0, none⟩)]) (by simp) (by simp [go_sem]) ?_
  refine (told_idle ⟨w.heap.size + 1, 0, none⟩ _).mono ?_
  rintro e u' w'' ⟨rfl, rfl, rfl⟩
  have hfin : Below w.heap.size w (w6.setCell ⟨w.heap.size + 1, 0, none⟩ (.int .i64 0)) := below_set hk6.bel _ (by simp)
  simp [Leaves, settle, results, Try.results28, go_sem, c7, hfin]

set_option maxRecDepth 100000 in
set_option maxHeartbeats 2000000 in
theorem Until_none (M : Mend) (hv : M.valid = true) (ho : found M 0 lateG (restN M 0) Bench.begin = none) (sv jv : Value) (w : World) (hS : IntsAt w sv M.setup) (hJ : JobsAt w jv M.jobs) :
    Calls Try.prog 28 #[.agg #[sv, jv]] w fun e w' => e = .returned (.tuple #[.int .i64 0, .int .i64 4]) ∧ Below w.heap.size w w' := by
  have hv' := hid hv
  have ho' := hid ho
  clear hv ho
  have hS' := hid hS
  have hJ' := hid hJ
  obtain ⟨sa, scap, rfl, _⟩ := hS
  obtain ⟨ja, jcap, rfl, _⟩ := hJ
  have hk := KeepT.start w (.slice sa M.setup.length scap) (.slice ja M.jobs.length jcap)
  go_enter_defers Try.func28, Try.ntmps28
  go_upto_region 2 with fail
  generalize ((w.alloc (.cells #[.slice sa M.setup.length scap, .slice ja M.jobs.length jcap] 25)).alloc (.cells #[.int .i64 0] 29)) = w1 at hk ⊢
  obtain ⟨lm, cm⟩ := cells_of hk.m
  go_wp2_with (first
    | (go_at_call 47; refine (open_always (hS'.out.below hk.bel) (hJ'.out.below hk.bel)).mono ?_; intro e w3 hp; obtain ⟨sb, he, hsb, hsc, hb3⟩ := openPost_yes hv'.out hp; subst he; clear hp; have hk3 := hk.below hb3; have hsh : ShopAt w3 sb M 0 := ⟨_, _, hsc, hS'.out.below hk3.bel, hJ'.out.below hk3.bel⟩)
    | (go_at_call 64; refine (find_any w3.heap.size sb untilFns lateG M 0 (fun _ => True) w3 (until_ok M 0 _) hsh.under trivial).mono ?_; intro e w4 hp; obtain ⟨rx, gb, ab, ob, m, he, hE, hb4⟩ := hp; subst he; have hk4 := hk3.below hb4; have hm2 : w.heap.size + 2 ≤ m := (by have := hE.ge; have := (cells_of hk3.e).1; omega))
    | (go_at_call 58; with_reducible refine (begin_any _).mono ?_; rintro e w5 ⟨rfl, hb5⟩; have hk5 := hk4.below hb5; have hE5 := hE.keep (until_ok M 0 _) (KeepI.of_below hE.m hb5))
    | (go_at_call 86; refine (on_any rx gb ab ob sb m _ untilFns lateG M (Mend.valid_ok hv'.out) 0 (by decide) _ (until_ok M 0 _) (restN M 0) Bench.begin 0 (-1) _ (begin_work (Mend.valid_ok hv'.out) 0) hE5).mono ?_; rw [ho'.out]; intro e w6 hp; obtain ⟨he, hki⟩ := hp; subst he; have hk6 := hk5.keepI hki hm2; obtain ⟨l7, c7⟩ := cells_of hk6.e; have z7 := free_of hk6.e)
    | (go_at_call 52; with_reducible refine (must_no _ _).mono ?_; rintro e w' ⟨rfl, rfl⟩))
  refine leaves_cons (f := 46) (args := #[.pointer (some ⟨w.heap.size + 1, 0, none⟩)]) (by simp) (by simp [go_sem]) ?_
  refine (told_panicking (w.heap.size + 1) 4 0 _ l7 (by rw [c7]; rfl) (z7 0)).mono ?_
  rintro e u' w'' ⟨rfl, rfl, rfl⟩
  have hfin : Below w.heap.size w ((w6.setCell ⟨w.heap.size + 1, 0, none⟩ (.int .i64 4)).alloc (.cells #[.int .i64 4] 107)) := below_alloc (below_set hk6.bel _ (by simp)) _
  simp [Leaves, settle, results, Try.results28, go_sem, c7, hfin, l7]

/-- What 'Count' and 'Until' tell. -/
def countOf (M : Mend) : Int × Int := if M.valid then (((ordersL M 0).length : Int), 0) else (0, 1)
def untilOf (M : Mend) : Int × Int := if M.valid then match found M 0 lateG (restN M 0) Bench.begin with
  | some v => (v, 0)
  | none => (0, 4) else (0, 1)
theorem Count_any (M : Mend) (sv jv : Value) (w : World) (hS : IntsAt w sv M.setup) (hJ : JobsAt w jv M.jobs) : Calls Try.prog 20 #[.agg #[sv, jv]] w fun e w' => e = .returned (.tuple #[.int .i64 (countOf M).1, .int .i64 (countOf M).2]) ∧ Below w.heap.size w w' := by
  unfold countOf
  cases hv : M.valid
  · exact Count_bad M hv sv jv w hS hJ
  · have := Count_fine M hv _ rfl sv jv w hS hJ
    rw [count_orders (Mend.valid_ok hv) 0] at this
    exact this
theorem Until_any (M : Mend) (sv jv : Value) (w : World) (hS : IntsAt w sv M.setup) (hJ : JobsAt w jv M.jobs) : Calls Try.prog 28 #[.agg #[sv, jv]] w fun e w' => e = .returned (.tuple #[.int .i64 (untilOf M).1, .int .i64 (untilOf M).2]) ∧ Below w.heap.size w w' := by
  unfold untilOf
  cases hv : M.valid
  · exact Until_bad M hv sv jv w hS hJ
  · cases ho : found M 0 lateG (restN M 0) Bench.begin with
    | none => exact Until_none M hv ho sv jv w hS hJ
    | some v => exact Until_fine M hv v ho sv jv w hS hJ

end Go.Proofs.Ytcgkglonnmkfcaa
