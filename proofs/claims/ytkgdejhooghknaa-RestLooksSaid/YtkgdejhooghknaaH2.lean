/- The walk of 'Check' of package rest where it refuses. -/
import Derived.Test.YtkgdejhooghknaaH
namespace Go.Proofs.Ytkgdejhooghknaa
open Go.RowKit Go.Lap Go.Shelf

abbrev restA (R : Rest) : Array Value := #[.int .i64 R.hours, .int .i64 R.r0.out, .int .i64 R.r0.total, .int .i64 R.r0.run, .int .i64 R.r0.off, .int .i64 R.r1.out, .int .i64 R.r1.total, .int .i64 R.r1.run, .int .i64 R.r1.off]

/-- Is a list a plan for all hours? -/
def planOk (R : Rest) (xs : List Int) : Bool := decide ((xs.length : Int) = R.hours) && !xs.any badB

set_option maxRecDepth 100000 in
set_option maxHeartbeats 1000000 in
theorem check2_any (pb rx bx : Nat) (R : Rest) (v : Value) (xs : List Int) (hl : xs.length ≤ 1000) (w : World) (h : IntsAt w v xs)
    (h1 : w.heap[pb]? = some (.cells #[v] 27 (0, 0))) (h2 : w.heap[rx]? = some (.cells (restA R) 26 (0, 0))) (h3 : w.heap[bx]? = some (.cells #[.func (.func 45) #[] #[]] 63 (0, 0))) :
    Calls Try.prog 48 #[.pointer (some ⟨pb, 0, none⟩), .pointer (some ⟨rx, 0, none⟩), .pointer (some ⟨bx, 0, none⟩)] w fun e w' => e = .returned (.bool (planOk R xs)) ∧ Below w.heap.size w w' := by
  obtain ⟨l1, c1⟩ := cells_of h1
  obtain ⟨l2, c2⟩ := cells_of h2
  obtain ⟨l3, c3⟩ := cells_of h3
  clear h1 h2 h3
  have h' := hid h
  obtain ⟨a, cap, rfl, _⟩ := h
  cases hL : decide ((xs.length : Int) = R.hours)
  · have hL1 : ((xs.length : Int) == R.hours) = false := by simpa using hL
    have hL' := hid hL
    clear hL
    go_enter Try.func48, Try.ntmps48
    go_wp2
    go_ret
    exact ⟨by simp [planOk, hL'.out], Below.refl _ _⟩
  · have hL1 : ((xs.length : Int) == R.hours) = true := by simpa using hL
    have hL' := hid hL
    clear hL
    go_enter Try.func48, Try.ntmps48
    go_wp2_with (go_at_call 49; refine (contains_any _ _ hl _ h'.out).mono ?_; rintro e w' ⟨rfl, hb⟩)
    go_ret
    exact ⟨by simp [planOk, hL'.out], hb⟩

/-- What 'Check' returns: the hour, the rule, the error. -/
def checkOf (R : Rest) (xs : List Int) : Int × Int × Int :=
  if R.valid then if planOk R xs then checkFrom R St.begin 0 xs else (0, 0, 2) else (0, 0, 1)

set_option maxRecDepth 100000 in
set_option maxHeartbeats 2000000 in
theorem Check_bad (R : Rest) (v : Value) (xs : List Int) (hl : xs.length ≤ 1000) (hv : R.valid = false) (w : World) (h : IntsAt w v xs) : Calls Try.prog 15 #[restV R, v] w fun e w' => e = .returned (.tuple #[.int .i64 (checkOf R xs).1, .int .i64 (checkOf R xs).2.1, .int .i64 (checkOf R xs).2.2]) ∧ Below w.heap.size w w' := by
  have hmf := hmf
  have h' := hid h
  obtain ⟨a, cap, rfl, _⟩ := h
  have hAw : Below w.heap.size w ((((w.alloc (.cells #[.int .i64 R.hours, .int .i64 R.r0.out, .int .i64 R.r0.total, .int .i64 R.r0.run, .int .i64 R.r0.off, .int .i64 R.r1.out, .int .i64 R.r1.total, .int .i64 R.r1.run, .int .i64 R.r1.off] 26)).alloc (.cells #[.slice a xs.length cap] 27)).alloc (.cells #[.int .i64 0] 30)).alloc (.cells #[.func (.func 45) #[] #[]] 63)) := below_alloc (below_alloc (below_alloc (below_alloc (Below.refl _ _) _) _) _) _
  have hA0 : ((((w.alloc (.cells #[.int .i64 R.hours, .int .i64 R.r0.out, .int .i64 R.r0.total, .int .i64 R.r0.run, .int .i64 R.r0.off, .int .i64 R.r1.out, .int .i64 R.r1.total, .int .i64 R.r1.run, .int .i64 R.r1.off] 26)).alloc (.cells #[.slice a xs.length cap] 27)).alloc (.cells #[.int .i64 0] 30)).alloc (.cells #[.func (.func 45) #[] #[]] 63)).heap[w.heap.size]? = some (.cells (restA R) 26 (0, 0)) := alloc_old (by simp <;> omega) (alloc_old (by simp <;> omega) (alloc_old (by simp) (alloc_at rfl)))
  have hA1 : ((((w.alloc (.cells #[.int .i64 R.hours, .int .i64 R.r0.out, .int .i64 R.r0.total, .int .i64 R.r0.run, .int .i64 R.r0.off, .int .i64 R.r1.out, .int .i64 R.r1.total, .int .i64 R.r1.run, .int .i64 R.r1.off] 26)).alloc (.cells #[.slice a xs.length cap] 27)).alloc (.cells #[.int .i64 0] 30)).alloc (.cells #[.func (.func 45) #[] #[]] 63)).heap[w.heap.size + 1]? = some (.cells #[.slice a xs.length cap] 27 (0, 0)) := alloc_old (by simp <;> omega) (alloc_old (by simp) (alloc_at (by simp)))
  have hA2 : ((((w.alloc (.cells #[.int .i64 R.hours, .int .i64 R.r0.out, .int .i64 R.r0.total, .int .i64 R.r0.run, .int .i64 R.r0.off, .int .i64 R.r1.out, .int .i64 R.r1.total, .int .i64 R.r1.run, .int .i64 R.r1.off] 26)).alloc (.cells #[.slice a xs.length cap] 27)).alloc (.cells #[.int .i64 0] 30)).alloc (.cells #[.func (.func 45) #[] #[]] 63)).heap[w.heap.size + 1 + 1]? = some (.cells #[.int .i64 0] 30 (0, 0)) := alloc_old (by simp) (alloc_at (by simp))
  have hA3 : ((((w.alloc (.cells #[.int .i64 R.hours, .int .i64 R.r0.out, .int .i64 R.r0.total, .int .i64 R.r0.run, .int .i64 R.r0.off, .int .i64 R.r1.out, .int .i64 R.r1.total, .int .i64 R.r1.run, .int .i64 R.r1.off] 26)).alloc (.cells #[.slice a xs.length cap] 27)).alloc (.cells #[.int .i64 0] 30)).alloc (.cells #[.func (.func 45) #[] #[]] 63)).heap[w.heap.size + 1 + 1 + 1]? = some (.cells #[.func (.func 45) #[] #[]] 63 (0, 0)) := alloc_at (by simp)
  have hopen := open_any R (planOk R xs) 48 #[.pointer (some ⟨w.heap.size + 1, 0, none⟩), .pointer (some ⟨w.heap.size, 0, none⟩), .pointer (some ⟨w.heap.size + 1 + 1 + 1, 0, none⟩)] ((((w.alloc (.cells #[.int .i64 R.hours, .int .i64 R.r0.out, .int .i64 R.r0.total, .int .i64 R.r0.run, .int .i64 R.r0.off, .int .i64 R.r1.out, .int .i64 R.r1.total, .int .i64 R.r1.run, .int .i64 R.r1.off] 26)).alloc (.cells #[.slice a xs.length cap] 27)).alloc (.cells #[.int .i64 0] 30)).alloc (.cells #[.func (.func 45) #[] #[]] 63)) (enters_of Try.func48 (by kernel_rfl) rfl)
    (fun _ w' hw' => check2_any (w.heap.size + 1) w.heap.size (w.heap.size + 1 + 1 + 1) R _ xs hl w' ((h'.out.below hAw).below hw') ((hw'.block _ (cells_of hA1).1).trans hA1) ((hw'.block _ (cells_of hA0).1).trans hA0) ((hw'.block _ (cells_of hA3).1).trans hA3))
  have hAw' := hid hAw
  clear hAw
  have hA0' := hid hA0
  clear hA0
  have hA1' := hid hA1
  clear hA1
  have hA2' := hid hA2
  clear hA2
  have hA3' := hid hA3
  clear hA3
  have hopen' := hid hopen
  clear hopen
  have hC : checkOf R xs = (0, 0, 1) := by simp [checkOf, hv]
  have hC' := hid hC
  have hv' := hid hv
  clear hv hC
  go_enter_defers Try.func15, Try.ntmps15
  go_wp2_with (go_at_call 47; refine (hopen'.out).mono ?_; intro e w1 hp; obtain ⟨he, hb⟩ := openPost_arg hv'.out hp; subst he; clear hp)
  have hbw := below_via hb hAw'.out
  have hA := (hb.block _ (cells_of hA2'.out).1).trans hA2'.out
  obtain ⟨l7, c7⟩ := cells_of hA
  have z7 := free_of hA
  refine leaves_cons (f := 44) (args := #[.pointer (some ⟨w.heap.size + 1 + 1, 0, none⟩)]) (by simp) (by simp [go_sem]) ?_
  refine (told_panicking (w.heap.size + 1 + 1) 1 0 _ l7 (by rw [c7]; rfl) (z7 0)).mono ?_
  rintro e u' w'' ⟨rfl, rfl, rfl⟩
  have hfin : Below w.heap.size w ((w1.setCell ⟨w.heap.size + 1 + 1, 0, none⟩ (.int .i64 1)).alloc (.cells #[.int .i64 1] 117)) := below_alloc (below_set hbw _ (by simp; omega)) _
  simp [Leaves, settle, results, Try.results15, go_sem, c7, hfin, l7, hC'.out]

set_option maxRecDepth 100000 in
set_option maxHeartbeats 2000000 in
theorem Check_range (R : Rest) (v : Value) (xs : List Int) (hl : xs.length ≤ 1000) (hv : R.valid = true) (hk : planOk R xs = false) (w : World) (h : IntsAt w v xs) : Calls Try.prog 15 #[restV R, v] w fun e w' => e = .returned (.tuple #[.int .i64 (checkOf R xs).1, .int .i64 (checkOf R xs).2.1, .int .i64 (checkOf R xs).2.2]) ∧ Below w.heap.size w w' := by
  have hmf := hmf
  have h' := hid h
  obtain ⟨a, cap, rfl, _⟩ := h
  have hAw : Below w.heap.size w ((((w.alloc (.cells #[.int .i64 R.hours, .int .i64 R.r0.out, .int .i64 R.r0.total, .int .i64 R.r0.run, .int .i64 R.r0.off, .int .i64 R.r1.out, .int .i64 R.r1.total, .int .i64 R.r1.run, .int .i64 R.r1.off] 26)).alloc (.cells #[.slice a xs.length cap] 27)).alloc (.cells #[.int .i64 0] 30)).alloc (.cells #[.func (.func 45) #[] #[]] 63)) := below_alloc (below_alloc (below_alloc (below_alloc (Below.refl _ _) _) _) _) _
  have hA0 : ((((w.alloc (.cells #[.int .i64 R.hours, .int .i64 R.r0.out, .int .i64 R.r0.total, .int .i64 R.r0.run, .int .i64 R.r0.off, .int .i64 R.r1.out, .int .i64 R.r1.total, .int .i64 R.r1.run, .int .i64 R.r1.off] 26)).alloc (.cells #[.slice a xs.length cap] 27)).alloc (.cells #[.int .i64 0] 30)).alloc (.cells #[.func (.func 45) #[] #[]] 63)).heap[w.heap.size]? = some (.cells (restA R) 26 (0, 0)) := alloc_old (by simp <;> omega) (alloc_old (by simp <;> omega) (alloc_old (by simp) (alloc_at rfl)))
  have hA1 : ((((w.alloc (.cells #[.int .i64 R.hours, .int .i64 R.r0.out, .int .i64 R.r0.total, .int .i64 R.r0.run, .int .i64 R.r0.off, .int .i64 R.r1.out, .int .i64 R.r1.total, .int .i64 R.r1.run, .int .i64 R.r1.off] 26)).alloc (.cells #[.slice a xs.length cap] 27)).alloc (.cells #[.int .i64 0] 30)).alloc (.cells #[.func (.func 45) #[] #[]] 63)).heap[w.heap.size + 1]? = some (.cells #[.slice a xs.length cap] 27 (0, 0)) := alloc_old (by simp <;> omega) (alloc_old (by simp) (alloc_at (by simp)))
  have hA2 : ((((w.alloc (.cells #[.int .i64 R.hours, .int .i64 R.r0.out, .int .i64 R.r0.total, .int .i64 R.r0.run, .int .i64 R.r0.off, .int .i64 R.r1.out, .int .i64 R.r1.total, .int .i64 R.r1.run, .int .i64 R.r1.off] 26)).alloc (.cells #[.slice a xs.length cap] 27)).alloc (.cells #[.int .i64 0] 30)).alloc (.cells #[.func (.func 45) #[] #[]] 63)).heap[w.heap.size + 1 + 1]? = some (.cells #[.int .i64 0] 30 (0, 0)) := alloc_old (by simp) (alloc_at (by simp))
  have hA3 : ((((w.alloc (.cells #[.int .i64 R.hours, .int .i64 R.r0.out, .int .i64 R.r0.total, .int .i64 R.r0.run, .int .i64 R.r0.off, .int .i64 R.r1.out, .int .i64 R.r1.total, .int .i64 R.r1.run, .int .i64 R.r1.off] 26)).alloc (.cells #[.slice a xs.length cap] 27)).alloc (.cells #[.int .i64 0] 30)).alloc (.cells #[.func (.func 45) #[] #[]] 63)).heap[w.heap.size + 1 + 1 + 1]? = some (.cells #[.func (.func 45) #[] #[]] 63 (0, 0)) := alloc_at (by simp)
  have hopen := open_any R (planOk R xs) 48 #[.pointer (some ⟨w.heap.size + 1, 0, none⟩), .pointer (some ⟨w.heap.size, 0, none⟩), .pointer (some ⟨w.heap.size + 1 + 1 + 1, 0, none⟩)] ((((w.alloc (.cells #[.int .i64 R.hours, .int .i64 R.r0.out, .int .i64 R.r0.total, .int .i64 R.r0.run, .int .i64 R.r0.off, .int .i64 R.r1.out, .int .i64 R.r1.total, .int .i64 R.r1.run, .int .i64 R.r1.off] 26)).alloc (.cells #[.slice a xs.length cap] 27)).alloc (.cells #[.int .i64 0] 30)).alloc (.cells #[.func (.func 45) #[] #[]] 63)) (enters_of Try.func48 (by kernel_rfl) rfl)
    (fun _ w' hw' => check2_any (w.heap.size + 1) w.heap.size (w.heap.size + 1 + 1 + 1) R _ xs hl w' ((h'.out.below hAw).below hw') ((hw'.block _ (cells_of hA1).1).trans hA1) ((hw'.block _ (cells_of hA0).1).trans hA0) ((hw'.block _ (cells_of hA3).1).trans hA3))
  rw [hk] at hopen
  have hAw' := hid hAw
  clear hAw
  have hA0' := hid hA0
  clear hA0
  have hA1' := hid hA1
  clear hA1
  have hA2' := hid hA2
  clear hA2
  have hA3' := hid hA3
  clear hA3
  have hopen' := hid hopen
  clear hopen
  have hC : checkOf R xs = (0, 0, 2) := by simp [checkOf, hv, hk]
  have hC' := hid hC
  have hv' := hid hv
  clear hv hC hk
  go_enter_defers Try.func15, Try.ntmps15
  go_wp2_with (go_at_call 47; refine (hopen'.out).mono ?_; intro e w1 hp; obtain ⟨he, hb⟩ := openPost_rng hv'.out hp; subst he; clear hp)
  have hbw := below_via hb hAw'.out
  have hA := (hb.block _ (cells_of hA2'.out).1).trans hA2'.out
  obtain ⟨l7, c7⟩ := cells_of hA
  have z7 := free_of hA
  refine leaves_cons (f := 44) (args := #[.pointer (some ⟨w.heap.size + 1 + 1, 0, none⟩)]) (by simp) (by simp [go_sem]) ?_
  refine (told_panicking (w.heap.size + 1 + 1) 2 0 _ l7 (by rw [c7]; rfl) (z7 0)).mono ?_
  rintro e u' w'' ⟨rfl, rfl, rfl⟩
  have hfin : Below w.heap.size w ((w1.setCell ⟨w.heap.size + 1 + 1, 0, none⟩ (.int .i64 2)).alloc (.cells #[.int .i64 2] 117)) := below_alloc (below_set hbw _ (by simp; omega)) _
  simp [Leaves, settle, results, Try.results15, go_sem, c7, hfin, l7, hC'.out]

end Go.Proofs.Ytkgdejhooghknaa
