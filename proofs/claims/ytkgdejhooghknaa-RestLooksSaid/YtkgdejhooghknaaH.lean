/- The walks of the search for what is no rider in a list. -/
import Derived.Test.YtkgdejhooghknaaB2
import Derived.Test.YtkgdejhooghknaaG
namespace Go.Proofs.Ytkgdejhooghknaa
open Go.RowKit Go.Lap Go.Shelf

/-- What is no rider. -/
def badB (x : Int) : Bool := !inB x 0 1

set_option maxHeartbeats 400000 in
theorem bad_any (x : Int) (w : World) : Calls Try.prog 45 #[.int .i64 x] w fun e w' => e = .returned (.bool (badB x)) ∧ w = w' := by
  go_enter Try.func45, Try.ntmps45
  go_wp2_with (go_at_call 46; refine (within_any _ _ _ _).mono ?_; rintro e w' ⟨rfl, rfl⟩)
  go_ret
  exact ⟨rfl, rfl⟩

set_option maxRecDepth 100000 in
set_option maxHeartbeats 1000000 in
theorem index_any (v : Value) (xs : List Int) (hl : xs.length ≤ 1000) (w : World) (h : IntsAt w v xs) :
    Calls Try.prog 81 #[v, .func (.func 45) #[] #[]] w fun e w' => e = .returned (.int .i64 (firstAt badB 0 xs)) ∧ Below w.heap.size w w' := by
  cases hxs : xs with
  | nil =>
    subst hxs
    obtain ⟨a, cap, rfl⟩ := h.nil
    go_enter Try.func81, Try.ntmps81
    go_wp2
    refine wp_loop_rounds 1 ?_
    rw [rounds_succ]
    go_wp2
    go_ret
    exact ⟨rfl, Below.refl _ _⟩
  | cons x0 l0 =>
    have hne : xs ≠ [] := by rw [hxs]; simp
    rw [← hxs]
    clear hxs
    obtain ⟨b, off, cap, rfl, hb0, hc⟩ := h.some hne
    clear h
    have hc' := hid hc
    clear hc
    go_enter Try.func81, Try.ntmps81
    go_wp2
    go_loopw [8] (fun i wr => ∃ k : Nat, k ≤ xs.length ∧ i = .int .i64 k ∧ Hid (firstAt badB 0 xs = firstAt badB k (xs.drop k)) ∧ Below w.heap.size w wr) (fun i _ => xs.length - (intOf i).toNat)
    case atStart => exact ⟨0, by omega, rfl, hid (by simp), Below.refl _ _⟩
    case round =>
      obtain ⟨k, hk, rfl, hf, hw⟩ := hrel
      by_cases hlt : k < xs.length
      · have hcell := (hw.cell (p := ⟨b, off + k, none⟩) hb0).trans (hc'.out k hlt)
        have hd : xs.drop k = xs.getD k 0 :: xs.drop (k + 1) := by
          rw [List.drop_eq_getElem_cons hlt]; simp [hlt]
        generalize xs.getD k 0 = x at hcell hd
        have hd' := hid hd
        clear hd
        cases hB : badB x
        all_goals
          have hB' := hid hB
          clear hB
          go_wp2_with (go_at_call 45; refine (bad_any _ _).mono ?_; rw [hB'.out]; rintro e w' ⟨rfl, rfl⟩)
        · go_roundw
          case rel =>
            refine ⟨k + 1, by omega, by go_num, hid ?_, hw⟩
            rw [hf.out, hd'.out]
            simp [firstAt, hB'.out]
          case measure => simp [intOf]; omega
        · go_ret
          refine ⟨?_, hw⟩
          rw [hf.out, hd'.out]
          simp [firstAt, hB'.out]
      · obtain rfl : k = xs.length := by omega
        go_wp2
        go_ret
        refine ⟨?_, hw⟩
        rw [hf.out]
        simp [firstAt]

set_option maxHeartbeats 400000 in
theorem contains_any (v : Value) (xs : List Int) (hl : xs.length ≤ 1000) (w : World) (h : IntsAt w v xs) :
    Calls Try.prog 49 #[v, .func (.func 45) #[] #[]] w fun e w' => e = .returned (.bool (xs.any badB)) ∧ Below w.heap.size w w' := by
  have hF := firstAt_ge badB xs 0 (by omega)
  generalize hf : firstAt badB 0 xs = f at hF
  have hf' := hid hf
  have hF' := hid hF
  clear hF hf
  go_enter Try.func49, Try.ntmps49
  go_wp2_with (go_at_call 81; refine (index_any _ _ hl _ h).mono ?_; rintro e w' ⟨rfl, hb⟩)
  go_ret
  exact ⟨by rw [← hF'.out, hf'.out]; rfl, hb⟩

end Go.Proofs.Ytkgdejhooghknaa
