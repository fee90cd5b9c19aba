/- The walks of 'Fewest' and 'Even' of package rest. -/
import Derived.Test.YtkgdejhooghknaaI2
import Derived.Test.YtkgdejhooghknaaI3
import Derived.Test.YtkgdejhooghknaaJ1
namespace Go.Proofs.Ytkgdejhooghknaa
open Go.RowKit Go.Lap Go.Shelf

theorem NewInts.set {B : Nat} {W : World} {sv : Value} {xs : List Int} (h : NewInts B W sv xs) {b o : Nat} {v : Value} (hb : b < B) : NewInts B (W.setCell ⟨b, o, none⟩ v) sv xs := by
  obtain ⟨n, h1, h2, h3⟩ := h
  exact ⟨n, h1, h2, (Below.heap_setCell _ _ _ _ (by simp only; omega)).trans h3⟩

theorem NewInts.low {B C : Nat} {W : World} {sv : Value} {xs : List Int} (h : NewInts B W sv xs) (hc : C ≤ B) : NewInts C W sv xs := by
  obtain ⟨n, h1, h2, h3⟩ := h
  exact ⟨n, by omega, h2, h3⟩

set_option maxRecDepth 100000 in
set_option maxHeartbeats 1000000 in
theorem Fewest_ok (R : Rest) (hv : R.valid = true) (v : Int) (hf : found R changesG R.hours.toNat St.begin = some v) (w : World) :
    Calls Try.prog 21 #[restV R] w fun e w' => ∃ sv, e = .returned (.tuple #[.int .i64 v, sv, .int .i64 0]) ∧ NewInts w.heap.size w' sv (pick R changesG R.hours.toNat St.begin v) ∧ Below w.heap.size w w' := by
  have hv' := hid hv
  have hf' := hid hf
  clear hv hf
  have hA : ((w.alloc (.cells #[.int .i64 R.hours, .int .i64 R.r0.out, .int .i64 R.r0.total, .int .i64 R.r0.run, .int .i64 R.r0.off, .int .i64 R.r1.out, .int .i64 R.r1.total, .int .i64 R.r1.run, .int .i64 R.r1.off] 26)).alloc (.cells #[.int .i64 0] 30)).heap[w.heap.size + 1]? = some (.cells #[.int .i64 0] 30 (0, 0)) := alloc_at (by simp)
  have hAw : Below w.heap.size w ((w.alloc (.cells #[.int .i64 R.hours, .int .i64 R.r0.out, .int .i64 R.r0.total, .int .i64 R.r0.run, .int .i64 R.r0.off, .int .i64 R.r1.out, .int .i64 R.r1.total, .int .i64 R.r1.run, .int .i64 R.r1.off] 26)).alloc (.cells #[.int .i64 0] 30)) := below_alloc (below_alloc (Below.refl _ _) _) _
  have hA' := hid hA
  have hAw' := hid hAw
  clear hA hAw
  go_enter_defers Try.func21, Try.ntmps21
  go_wp2_with (first
    | (go_at_call 47; refine (open_always _ _).mono ?_; intro e w1 hp; obtain ⟨rb, he, hrb, hrc, hb⟩ := openPost_valid hv'.out hp; subst he; clear hp; obtain ⟨l1, c1⟩ := cells_of hrc; have hrc' := hid hrc; clear hrc)
    | (go_at_call 61; refine (changes_any _).mono ?_; rintro e w2 ⟨rfl, hb2⟩; have hrc2 := hid ((hb2.block rb l1).trans hrc'.out); have hbA2 := below_via hb2 hb)
    | (go_at_call 60; refine (plan_some rb changesFns changesG _ changes_low R v hv'.out changes_ok hf'.out _ hrc2.out).mono ?_; rintro e w3 ⟨sv, rfl, hN, hb3⟩; have hbA := below_via hb3 hbA2; have hA7 := (hbA.block _ (cells_of hA'.out).1).trans hA'.out; obtain ⟨l7, c7⟩ := cells_of hA7; have z7 := free_of hA7))
  refine leaves_cons (f := 44) (args := #[.pointer (some ⟨w.heap.size + 1, 0, none⟩)]) (by simp) (by simp [go_sem]) ?_
  refine (told_idle ⟨w.heap.size + 1, 0, none⟩ _).mono ?_
  rintro e u' w'' ⟨rfl, rfl, rfl⟩
  have hfin : Below w.heap.size w (w3.setCell ⟨w.heap.size + 1, 0, none⟩ (.int .i64 0)) := below_set (below_via hbA hAw'.out) _ (by simp)
  have hz := hbA2.size
  simp only [World.size_alloc] at hz
  have hNf : NewInts w.heap.size (w3.setCell ⟨w.heap.size + 1, 0, none⟩ (.int .i64 0)) sv (pick R changesG R.hours.toNat St.begin v) := (hN.set (by omega)).low (by omega)
  clear c1
  simp [Leaves, settle, results, Try.results21, go_sem, c7, hfin, hNf]

set_option maxRecDepth 100000 in
set_option maxHeartbeats 1000000 in
theorem Fewest_none (R : Rest) (hv : R.valid = true) (hf : found R changesG R.hours.toNat St.begin = none) (w : World) :
    Calls Try.prog 21 #[restV R] w fun e w' => e = .returned (.tuple #[.int .i64 0, .slice none 0 0, .int .i64 4]) ∧ Below w.heap.size w w' := by
  have hv' := hid hv
  have hf' := hid hf
  clear hv hf
  have hA : ((w.alloc (.cells #[.int .i64 R.hours, .int .i64 R.r0.out, .int .i64 R.r0.total, .int .i64 R.r0.run, .int .i64 R.r0.off, .int .i64 R.r1.out, .int .i64 R.r1.total, .int .i64 R.r1.run, .int .i64 R.r1.off] 26)).alloc (.cells #[.int .i64 0] 30)).heap[w.heap.size + 1]? = some (.cells #[.int .i64 0] 30 (0, 0)) := alloc_at (by simp)
  have hAw : Below w.heap.size w ((w.alloc (.cells #[.int .i64 R.hours, .int .i64 R.r0.out, .int .i64 R.r0.total, .int .i64 R.r0.run, .int .i64 R.r0.off, .int .i64 R.r1.out, .int .i64 R.r1.total, .int .i64 R.r1.run, .int .i64 R.r1.off] 26)).alloc (.cells #[.int .i64 0] 30)) := below_alloc (below_alloc (Below.refl _ _) _) _
  have hA' := hid hA
  have hAw' := hid hAw
  clear hA hAw
  go_enter_defers Try.func21, Try.ntmps21
  go_wp2_with (first
    | (go_at_call 47; refine (open_always _ _).mono ?_; intro e w1 hp; obtain ⟨rb, he, hrb, hrc, hb⟩ := openPost_valid hv'.out hp; subst he; clear hp; obtain ⟨l1, c1⟩ := cells_of hrc; have hrc' := hid hrc; clear hrc)
    | (go_at_call 61; refine (changes_any _).mono ?_; rintro e w2 ⟨rfl, hb2⟩; have hrc2 := hid ((hb2.block rb l1).trans hrc'.out); have hbA2 := below_via hb2 hb)
    | (go_at_call 60; refine (plan_none rb changesFns changesG R hv'.out changes_ok hf'.out _ hrc2.out).mono ?_; rintro e w3 ⟨rfl, hb3⟩; have hbA := below_via hb3 hbA2; have hA7 := (hbA.block _ (cells_of hA'.out).1).trans hA'.out; obtain ⟨l7, c7⟩ := cells_of hA7; have z7 := free_of hA7))
  refine leaves_cons (f := 44) (args := #[.pointer (some ⟨w.heap.size + 1, 0, none⟩)]) (by simp) (by simp [go_sem]) ?_
  refine (told_panicking (w.heap.size + 1) 4 0 _ l7 (by rw [c7]; rfl) (z7 0)).mono ?_
  rintro e u' w'' ⟨rfl, rfl, rfl⟩
  have hfin : Below w.heap.size w ((w3.setCell ⟨w.heap.size + 1, 0, none⟩ (.int .i64 4)).alloc (.cells #[.int .i64 4] 117)) := below_alloc (below_set (below_via hbA hAw'.out) _ (by simp)) _
  clear c1
  simp [Leaves, settle, results, Try.results21, go_sem, c7, hfin, l7]

set_option maxRecDepth 100000 in
set_option maxHeartbeats 1000000 in
theorem Fewest_bad (R : Rest) (hv : R.valid = false) (w : World) : Calls Try.prog 21 #[restV R] w fun e w' => e = .returned (.tuple #[.int .i64 0, .slice none 0 0, .int .i64 1]) ∧ Below w.heap.size w w' := by
  go_enter_defers Try.func21, Try.ntmps21
  have hv' := hid hv
  clear hv
  go_wp2_with (go_at_call 47; refine (open_always _ _).mono ?_; intro e w1 hp; obtain ⟨he, hb⟩ := openPost_arg hv'.out hp; subst he; clear hp)
  have hA : ((w.alloc (.cells #[.int .i64 R.hours, .int .i64 R.r0.out, .int .i64 R.r0.total, .int .i64 R.r0.run, .int .i64 R.r0.off, .int .i64 R.r1.out, .int .i64 R.r1.total, .int .i64 R.r1.run, .int .i64 R.r1.off] 26)).alloc (.cells #[.int .i64 0] 30)).heap[w.heap.size + 1]? = some (.cells #[.int .i64 0] 30 (0, 0)) := alloc_at (by simp)
  have hAw : Below w.heap.size w ((w.alloc (.cells #[.int .i64 R.hours, .int .i64 R.r0.out, .int .i64 R.r0.total, .int .i64 R.r0.run, .int .i64 R.r0.off, .int .i64 R.r1.out, .int .i64 R.r1.total, .int .i64 R.r1.run, .int .i64 R.r1.off] 26)).alloc (.cells #[.int .i64 0] 30)) := below_alloc (below_alloc (Below.refl _ _) _) _
  generalize ((w.alloc (.cells #[.int .i64 R.hours, .int .i64 R.r0.out, .int .i64 R.r0.total, .int .i64 R.r0.run, .int .i64 R.r0.off, .int .i64 R.r1.out, .int .i64 R.r1.total, .int .i64 R.r1.run, .int .i64 R.r1.off] 26)).alloc (.cells #[.int .i64 0] 30)) = Wa at hA hAw hb
  have hA1 := (hb.block _ (cells_of hA).1).trans hA
  obtain ⟨l7, c7⟩ := cells_of hA1
  have z7 := free_of hA1
  refine leaves_cons (f := 44) (args := #[.pointer (some ⟨w.heap.size + 1, 0, none⟩)]) (by simp) (by simp [go_sem]) ?_
  refine (told_panicking (w.heap.size + 1) 1 0 _ l7 (by rw [c7]; rfl) (z7 0)).mono ?_
  rintro e u' w'' ⟨rfl, rfl, rfl⟩
  have hfin : Below w.heap.size w ((w1.setCell ⟨w.heap.size + 1, 0, none⟩ (.int .i64 1)).alloc (.cells #[.int .i64 1] 117)) := below_alloc (below_set (below_via hb hAw) _ (by simp)) _
  simp [Leaves, settle, results, Try.results21, go_sem, c7, hfin, l7]

set_option maxRecDepth 100000 in
set_option maxHeartbeats 1000000 in
theorem Even_ok (R : Rest) (hv : R.valid = true) (v : Int) (hf : found R evenG R.hours.toNat St.begin = some v) (w : World) :
    Calls Try.prog 23 #[restV R] w fun e w' => ∃ sv, e = .returned (.tuple #[.int .i64 v, sv, .int .i64 0]) ∧ NewInts w.heap.size w' sv (pick R evenG R.hours.toNat St.begin v) ∧ Below w.heap.size w w' := by
  have hv' := hid hv
  have hf' := hid hf
  clear hv hf
  have hA : ((w.alloc (.cells #[.int .i64 R.hours, .int .i64 R.r0.out, .int .i64 R.r0.total, .int .i64 R.r0.run, .int .i64 R.r0.off, .int .i64 R.r1.out, .int .i64 R.r1.total, .int .i64 R.r1.run, .int .i64 R.r1.off] 26)).alloc (.cells #[.int .i64 0] 30)).heap[w.heap.size + 1]? = some (.cells #[.int .i64 0] 30 (0, 0)) := alloc_at (by simp)
  have hAw : Below w.heap.size w ((w.alloc (.cells #[.int .i64 R.hours, .int .i64 R.r0.out, .int .i64 R.r0.total, .int .i64 R.r0.run, .int .i64 R.r0.off, .int .i64 R.r1.out, .int .i64 R.r1.total, .int .i64 R.r1.run, .int .i64 R.r1.off] 26)).alloc (.cells #[.int .i64 0] 30)) := below_alloc (below_alloc (Below.refl _ _) _) _
  have hA' := hid hA
  have hAw' := hid hAw
  clear hA hAw
  go_enter_defers Try.func23, Try.ntmps23
  go_wp2_with (first
    | (go_at_call 47; refine (open_always _ _).mono ?_; intro e w1 hp; obtain ⟨rb, he, hrb, hrc, hb⟩ := openPost_valid hv'.out hp; subst he; clear hp; obtain ⟨l1, c1⟩ := cells_of hrc; have hrc' := hid hrc; clear hrc)
    | (go_at_call 63; refine (least_any 64 66 _).mono ?_; rintro e w2 ⟨rfl, hb2⟩; have hrc2 := hid ((hb2.block rb l1).trans hrc'.out); have hbA2 := below_via hb2 hb)
    | (go_at_call 60; refine (plan_some rb evenFns evenG _ even_low R v hv'.out even_ok hf'.out _ hrc2.out).mono ?_; rintro e w3 ⟨sv, rfl, hN, hb3⟩; have hbA := below_via hb3 hbA2; have hA7 := (hbA.block _ (cells_of hA'.out).1).trans hA'.out; obtain ⟨l7, c7⟩ := cells_of hA7; have z7 := free_of hA7))
  refine leaves_cons (f := 44) (args := #[.pointer (some ⟨w.heap.size + 1, 0, none⟩)]) (by simp) (by simp [go_sem]) ?_
  refine (told_idle ⟨w.heap.size + 1, 0, none⟩ _).mono ?_
  rintro e u' w'' ⟨rfl, rfl, rfl⟩
  have hfin : Below w.heap.size w (w3.setCell ⟨w.heap.size + 1, 0, none⟩ (.int .i64 0)) := below_set (below_via hbA hAw'.out) _ (by simp)
  have hz := hbA2.size
  simp only [World.size_alloc] at hz
  have hNf : NewInts w.heap.size (w3.setCell ⟨w.heap.size + 1, 0, none⟩ (.int .i64 0)) sv (pick R evenG R.hours.toNat St.begin v) := (hN.set (by omega)).low (by omega)
  clear c1
  simp [Leaves, settle, results, Try.results23, go_sem, c7, hfin, hNf]

set_option maxRecDepth 100000 in
set_option maxHeartbeats 1000000 in
theorem Even_none (R : Rest) (hv : R.valid = true) (hf : found R evenG R.hours.toNat St.begin = none) (w : World) :
    Calls Try.prog 23 #[restV R] w fun e w' => e = .returned (.tuple #[.int .i64 0, .slice none 0 0, .int .i64 4]) ∧ Below w.heap.size w w' := by
  have hv' := hid hv
  have hf' := hid hf
  clear hv hf
  have hA : ((w.alloc (.cells #[.int .i64 R.hours, .int .i64 R.r0.out, .int .i64 R.r0.total, .int .i64 R.r0.run, .int .i64 R.r0.off, .int .i64 R.r1.out, .int .i64 R.r1.total, .int .i64 R.r1.run, .int .i64 R.r1.off] 26)).alloc (.cells #[.int .i64 0] 30)).heap[w.heap.size + 1]? = some (.cells #[.int .i64 0] 30 (0, 0)) := alloc_at (by simp)
  have hAw : Below w.heap.size w ((w.alloc (.cells #[.int .i64 R.hours, .int .i64 R.r0.out, .int .i64 R.r0.total, .int .i64 R.r0.run, .int .i64 R.r0.off, .int .i64 R.r1.out, .int .i64 R.r1.total, .int .i64 R.r1.run, .int .i64 R.r1.off] 26)).alloc (.cells #[.int .i64 0] 30)) := below_alloc (below_alloc (Below.refl _ _) _) _
  have hA' := hid hA
  have hAw' := hid hAw
  clear hA hAw
  go_enter_defers Try.func23, Try.ntmps23
  go_wp2_with (first
    | (go_at_call 47; refine (open_always _ _).mono ?_; intro e w1 hp; obtain ⟨rb, he, hrb, hrc, hb⟩ := openPost_valid hv'.out hp; subst he; clear hp; obtain ⟨l1, c1⟩ := cells_of hrc; have hrc' := hid hrc; clear hrc)
    | (go_at_call 63; refine (least_any 64 66 _).mono ?_; rintro e w2 ⟨rfl, hb2⟩; have hrc2 := hid ((hb2.block rb l1).trans hrc'.out); have hbA2 := below_via hb2 hb)
    | (go_at_call 60; refine (plan_none rb evenFns evenG R hv'.out even_ok hf'.out _ hrc2.out).mono ?_; rintro e w3 ⟨rfl, hb3⟩; have hbA := below_via hb3 hbA2; have hA7 := (hbA.block _ (cells_of hA'.out).1).trans hA'.out; obtain ⟨l7, c7⟩ := cells_of hA7; have z7 := free_of hA7))
  refine leaves_cons (f := 44) (args := #[.pointer (some ⟨w.heap.size + 1, 0, none⟩)]) (by simp) (by simp [go_sem]) ?_
  refine (told_panicking (w.heap.size + 1) 4 0 _ l7 (by rw [c7]; rfl) (z7 0)).mono ?_
  rintro e u' w'' ⟨rfl, rfl, rfl⟩
  have hfin : Below w.heap.size w ((w3.setCell ⟨w.heap.size + 1, 0, none⟩ (.int .i64 4)).alloc (.cells #[.int .i64 4] 117)) := below_alloc (below_set (below_via hbA hAw'.out) _ (by simp)) _
  clear c1
  simp [Leaves, settle, results, Try.results23, go_sem, c7, hfin, l7]

set_option maxRecDepth 100000 in
set_option maxHeartbeats 1000000 in
theorem Even_bad (R : Rest) (hv : R.valid = false) (w : World) : Calls Try.prog 23 #[restV R] w fun e w' => e = .returned (.tuple #[.int .i64 0, .slice none 0 0, .int .i64 1]) ∧ Below w.heap.size w w' := by
  go_enter_defers Try.func23, Try.ntmps23
  have hv' := hid hv
  clear hv
  go_wp2_with (go_at_call 47; refine (open_always _ _).mono ?_; intro e w1 hp; obtain ⟨he, hb⟩ := openPost_arg hv'.out hp; subst he; clear hp)
  have hA : ((w.alloc (.cells #[.int .i64 R.hours, .int .i64 R.r0.out, .int .i64 R.r0.total, .int .i64 R.r0.run, .int .i64 R.r0.off, .int .i64 R.r1.out, .int .i64 R.r1.total, .int .i64 R.r1.run, .int .i64 R.r1.off] 26)).alloc (.cells #[.int .i64 0] 30)).heap[w.heap.size + 1]? = some (.cells #[.int .i64 0] 30 (0, 0)) := alloc_at (by simp)
  have hAw : Below w.heap.size w ((w.alloc (.cells #[.int .i64 R.hours, .int .i64 R.r0.out, .int .i64 R.r0.total, .int .i64 R.r0.run, .int .i64 R.r0.off, .int .i64 R.r1.out, .int .i64 R.r1.total, .int .i64 R.r1.run, .int .i64 R.r1.off] 26)).alloc (.cells #[.int .i64 0] 30)) := below_alloc (below_alloc (Below.refl _ _) _) _
  generalize ((w.alloc (.cells #[.int .i64 R.hours, .int .i64 R.r0.out, .int .i64 R.r0.total, .int .i64 R.r0.run, .int .i64 R.r0.off, .int .i64 R.r1.out, .int .i64 R.r1.total, .int .i64 R.r1.run, .int .i64 R.r1.off] 26)).alloc (.cells #[.int .i64 0] 30)) = Wa at hA hAw hb
  have hA1 := (hb.block _ (cells_of hA).1).trans hA
  obtain ⟨l7, c7⟩ := cells_of hA1
  have z7 := free_of hA1
  refine leaves_cons (f := 44) (args := #[.pointer (some ⟨w.heap.size + 1, 0, none⟩)]) (by simp) (by simp [go_sem]) ?_
  refine (told_panicking (w.heap.size + 1) 1 0 _ l7 (by rw [c7]; rfl) (z7 0)).mono ?_
  rintro e u' w'' ⟨rfl, rfl, rfl⟩
  have hfin : Below w.heap.size w ((w1.setCell ⟨w.heap.size + 1, 0, none⟩ (.int .i64 1)).alloc (.cells #[.int .i64 1] 117)) := below_alloc (below_set (below_via hb hAw) _ (by simp)) _
  simp [Leaves, settle, results, Try.results23, go_sem, c7, hfin, l7]

end Go.Proofs.Ytkgdejhooghknaa
