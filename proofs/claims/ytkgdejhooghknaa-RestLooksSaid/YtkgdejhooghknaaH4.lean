/- The walks of 'can', 'last' and 'Until' of package rest. -/
import Derived.Test.YtkgdejhooghknaaG
namespace Go.Proofs.Ytkgdejhooghknaa
open Go.RowKit Go.Lap Go.Shelf

/-- Is there a right plan for so many hours? -/
def canB (R : Rest) (til : Int) : Bool := (found R countG til.toNat St.begin).isSome

set_option maxRecDepth 100000 in
set_option maxHeartbeats 1000000 in
theorem can_any (rb : Nat) (R : Rest) (til : Int) (h0 : 0 ≤ til) (h1 : til ≤ 16) (hR0 : R.r0.Ok) (hR1 : R.r1.Ok) (w : World) (hw : w.heap[rb]? = some (.cells (restCells R) 82 (0, 0))) :
    Calls Try.prog 58 #[.pointer (some ⟨rb, 0, none⟩), .int .i64 til] w fun e w' => e = .returned (.bool (canB R til)) ∧ Below w.heap.size w w' := by
  have hw' := hid hw
  clear hw
  go_enter Try.func58, Try.ntmps58
  go_wp2_with (first
    | (go_at_call 56; refine (count_any _).mono ?_; rintro e w1 ⟨rfl, hb1⟩)
    | (go_at_call 55; refine (find_any rb countFns countG R til _ ((hb1.block rb (cells_of hw'.out).1).trans hw'.out)).mono ?_; intro e w2 hp; obtain ⟨ub, gb, ab, rx, ob, m, he, hof, hb2⟩ := hp; subst he)
    | (go_at_call 50; refine (begin_any _).mono ?_; rintro e w3 ⟨rfl, hb3⟩)
    | (go_at_call 85; refine (on_any ub gb ab rx ob rb m countFns countG R til count_ok hR0 hR1 h1 til.toNat St.begin _ St.begin_ok (by simp [St.begin]; omega) (hof.env.keep (KeepI.of_below hof.env.m hb3))).mono ?_; intro e w4 hp; obtain ⟨he, hk⟩ := hp; subst he))
  go_ret
  have hbA := below_via hb3 (below_via hb2 hb1)
  exact ⟨rfl, below_keep hbA (Nat.le_trans hb1.size hof.new) hk⟩

/-- The last number from n on that suits. -/
def lastOf (p : Int → Bool) : Nat → Int → Int
  | 0, n => n
  | f + 1, n => if p (n + 1) then lastOf p f (n + 1) else n

/-- For how many hours there is a plan. -/
def untilOf (R : Rest) : Int := lastOf (canB R) R.hours.toNat 0

set_option maxRecDepth 100000 in
set_option maxHeartbeats 1000000 in
theorem last_any (rb : Nat) (R : Rest) (til : Int) (h0 : 0 ≤ til) (h1 : til ≤ 16) (hR0 : R.r0.Ok) (hR1 : R.r1.Ok) (w : World) (hw : w.heap[rb]? = some (.cells (restCells R) 82 (0, 0))) :
    Calls Try.prog 59 #[.int .i64 til, .func (.func 58) #[.pointer (some ⟨rb, 0, none⟩)] #[]] w fun e w' => e = .returned (.int .i64 (lastOf (canB R) til.toNat 0)) ∧ Below w.heap.size w w' := by
  have hw' := hid hw
  clear hw
  go_enter Try.func59, Try.ntmps59
  go_wp2
  go_loopw [5] (fun i wr => ∃ k : Int, 0 ≤ k ∧ k ≤ til ∧ i = .int .i64 k ∧ Hid (lastOf (canB R) til.toNat 0 = lastOf (canB R) (til - k).toNat k) ∧ Below w.heap.size w wr) (fun i _ => til.toNat - (intOf i).toNat)
  case atStart => exact ⟨0, by omega, h0, rfl, hid (by simp), Below.refl _ _⟩
  case round =>
    obtain ⟨k, hk0, hk1, rfl, hf, hb⟩ := hrel
    have e1 : IntKind.i64.wrap (k + 1) = k + 1 := IntWalk.i64_in _ (by omega)
    by_cases hlt : k < til
    · cases hC : canB R (k + 1)
      all_goals
        have hC' := hid hC
        clear hC
        go_wp2_with (go_at_call 58; refine (can_any rb R (k + 1) (by omega) (by omega) hR0 hR1 _ ((hb.block rb (cells_of hw'.out).1).trans hw'.out)).mono ?_; rw [hC'.out]; rintro e w1 ⟨rfl, hb1⟩)
      · go_ret
        refine ⟨?_, below_via hb1 hb⟩
        rw [hf.out, show (til - k).toNat = (til - (k + 1)).toNat + 1 by omega]
        simp [lastOf, hC'.out]
      · go_roundw
        case rel =>
          refine ⟨k + 1, by omega, by omega, rfl, hid ?_, below_via hb1 hb⟩
          rw [hf.out, show (til - k).toNat = (til - (k + 1)).toNat + 1 by omega]
          simp [lastOf, hC'.out]
        case measure => simp [intOf]; omega
    · obtain rfl : k = til := by omega
      have hd : decide (k < k) = false := by simp
      go_wp2
      go_ret
      refine ⟨?_, hb⟩
      rw [hf.out]
      simp [lastOf]

set_option maxRecDepth 100000 in
set_option maxHeartbeats 1000000 in
theorem Until_ok (R : Rest) (hv : R.valid = true) (w : World) : Calls Try.prog 19 #[restV R] w fun e w' => e = .returned (.tuple #[.int .i64 (untilOf R), .int .i64 0]) ∧ Below w.heap.size w w' := by
  have hmf : ∀ (fn : Fn) (first cap : Array Value) (w : World), (Instr.makeFunc fn first cap).run Try.prog w = .ok (.func fn first cap) w := fun _ _ _ _ => rfl
  have hh := Rest.valid_hours hv
  have ho := Rest.valid_ok hv
  have hv' := hid hv
  clear hv
  have hA : ((w.alloc (.cells #[.int .i64 R.hours, .int .i64 R.r0.out, .int .i64 R.r0.total, .int .i64 R.r0.run, .int .i64 R.r0.off, .int .i64 R.r1.out, .int .i64 R.r1.total, .int .i64 R.r1.run, .int .i64 R.r1.off] 26)).alloc (.cells #[.int .i64 0] 30)).heap[w.heap.size + 1]? = some (.cells #[.int .i64 0] 30 (0, 0)) := alloc_at (by simp)
  have hAw : Below w.heap.size w ((w.alloc (.cells #[.int .i64 R.hours, .int .i64 R.r0.out, .int .i64 R.r0.total, .int .i64 R.r0.run, .int .i64 R.r0.off, .int .i64 R.r1.out, .int .i64 R.r1.total, .int .i64 R.r1.run, .int .i64 R.r1.off] 26)).alloc (.cells #[.int .i64 0] 30)) := below_alloc (below_alloc (Below.refl _ _) _) _
  have hA' := hid hA
  have hAw' := hid hAw
  clear hA hAw
  go_enter_defers Try.func19, Try.ntmps19
  go_wp2_with (first
    | (go_at_call 47; refine (open_always _ _).mono ?_; intro e w1 hp; obtain ⟨rb, he, hrb, hrc, hb⟩ := openPost_valid hv'.out hp; subst he; clear hp; obtain ⟨l1, c1⟩ := cells_of hrc; have hrc' := hid hrc; clear hrc)
    | (go_at_call 59; refine (last_any rb R R.hours hh.1 hh.2 ho.1 ho.2 _ hrc'.out).mono ?_; rintro e w2 ⟨rfl, hb2⟩; have hbA := below_via hb2 hb; have hA7 := (hbA.block _ (cells_of hA'.out).1).trans hA'.out; obtain ⟨l7, c7⟩ := cells_of hA7; have z7 := free_of hA7))
  refine leaves_cons (f := 44) (args := #[.pointer (some ⟨w.heap.size + 1, 0, none⟩)]) (by simp) (by simp [go_sem]) ?_
  refine (told_idle ⟨w.heap.size + 1, 0, none⟩ _).mono ?_
  rintro e u' w'' ⟨rfl, rfl, rfl⟩
  have hfin : Below w.heap.size w (w2.setCell ⟨w.heap.size + 1, 0, none⟩ (.int .i64 0)) := below_set (below_via hbA hAw'.out) _ (by simp)
  simp [Leaves, settle, results, Try.results19, go_sem, c7, hfin, untilOf]

set_option maxRecDepth 100000 in
set_option maxHeartbeats 1000000 in
theorem Until_bad (R : Rest) (hv : R.valid = false) (w : World) : Calls Try.prog 19 #[restV R] w fun e w' => e = .returned (.tuple #[.int .i64 0, .int .i64 1]) ∧ Below w.heap.size w w' := by
  go_enter_defers Try.func19, Try.ntmps19
  have hv' := hid hv
  clear hv
  go_wp2_with (go_at_call 47; refine (open_always _ _).mono ?_; intro e w1 hp; obtain ⟨he, hb⟩ := openPost_arg hv'.out hp; subst he; clear hp)
  have hA : ((w.alloc (.cells #[.int .i64 R.hours, .int .i64 R.r0.out, .int .i64 R.r0.total, .int .i64 R.r0.run, .int .i64 R.r0.off, .int .i64 R.r1.out, .int .i64 R.r1.total, .int .i64 R.r1.run, .int .i64 R.r1.off] 26)).alloc (.cells #[.int .i64 0] 30)).heap[w.heap.size + 1]? = some (.cells #[.int .i64 0] 30 (0, 0)) := alloc_at (by simp)
  have hAw : Below w.heap.size w ((w.alloc (.cells #[.int .i64 R.hours, .int .i64 R.r0.out, .int .i64 R.r0.total, .int .i64 R.r0.run, .int .i64 R.r0.off, .int .i64 R.r1.out, .int .i64 R.r1.total, .int .i64 R.r1.run, .int .i64 R.r1.off] 26)).alloc (.cells #[.int .i64 0] 30)) := below_alloc (below_alloc (Below.refl _ _) _) _
  generalize ((w.alloc (.cells #[.int .i64 R.hours, .int .i64 R.r0.out, .int .i64 R.r0.total, .int .i64 R.r0.run, .int .i64 R.r0.off, .int .i64 R.r1.out, .int .i64 R.r1.total, .int .i64 R.r1.run, .int .i64 R.r1.off] 26)).alloc (.cells #[.int .i64 0] 30)) = Wa at hA hAw hb
  have hA1 := (hb.block _ (cells_of hA).1).trans hA
  obtain ⟨l7, c7⟩ := cells_of hA1
  have z7 := free_of hA1
  refine leaves_cons (f := 44) (args := #[.pointer (some ⟨w.heap.size + 1, 0, none⟩)]) (by simp) (by simp [go_sem]) ?_
  refine (told_panicking (w.heap.size + 1) 1 0 _ l7 (by rw [c7]; rfl) (z7 0)).mono ?_
  rintro e u' w'' ⟨rfl, rfl, rfl⟩
  have hfin : Below w.heap.size w ((w1.setCell ⟨w.heap.size + 1, 0, none⟩ (.int .i64 1)).alloc (.cells #[.int .i64 1] 117)) := below_alloc (below_set (below_via hb hAw) _ (by simp)) _
  simp [Leaves, settle, results, Try.results19, go_sem, c7, hfin, l7]

end Go.Proofs.Ytkgdejhooghknaa
