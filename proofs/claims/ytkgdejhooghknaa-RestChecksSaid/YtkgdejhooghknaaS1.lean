/- The walks of the reference's 'Rides', 'Difference', 'Changes'. -/
import Derived.Test.YtkgdejhooghknaaH2
import Derived.Test.YtkgdejhooghknaaT1
namespace Go.Proofs.Ytkgdejhooghknaa
open Go.RowKit Go.Lap Go.Shelf

set_option maxRecDepth 100000 in
set_option maxHeartbeats 1000000 in
theorem rides_any (v : Value) (xs : List Int) (r : Int) (hl : xs.length ≤ 1000) (w : World) (h : IntsAt w v xs) :
    Calls Try.prog 39 #[v, .int .i64 r] w fun e w' => e = .returned (.int .i64 (rid r xs)) ∧ Below w.heap.size w w' := by
  cases hxs : xs with
  | nil =>
    subst hxs
    obtain ⟨a, cap, rfl⟩ := h.nil
    go_enter Try.func39, Try.ntmps39
    go_wp2
    refine wp_loop_rounds 1 ?_
    rw [rounds_succ]
    go_wp2
    go_ret
    exact ⟨rfl, Below.refl _ _⟩
  | cons x0 l0 =>
    have hne : xs ≠ [] := by rw [hxs]; simp
    rw [← hxs]
    clear hxs
    obtain ⟨b, off, cap, rfl, hb0, hc⟩ := h.some hne
    clear h
    have hc' := hid hc
    clear hc
    go_enter Try.func39, Try.ntmps39
    go_wp2
    go_loopw [5, 6] (fun n i wr => ∃ k : Nat, k ≤ xs.length ∧ i = .int .i64 k ∧ n = .int .i64 (rid r (xs.take k)) ∧ Below w.heap.size w wr) (fun _ i _ => xs.length - (intOf i).toNat)
    case atStart => exact ⟨0, by omega, rfl, rfl, Below.refl _ _⟩
    case round =>
      obtain ⟨k, hk, rfl, rfl, hw⟩ := hrel
      by_cases hlt : k < xs.length
      · have hcell := (hw.cell (p := ⟨b, off + k, none⟩) hb0).trans (hc'.out k hlt)
        have hs := rid_take r hlt
        have hbd := rid_bound r (xs.take k)
        have hlen : (xs.take k).length = k := by simp; omega
        rw [hlen] at hbd
        generalize xs.getD k 0 = x at hcell hs
        generalize rid r (xs.take k) = n at *
        have hs' := hid hs
        clear hs hlen
        by_cases hx : x = r
        · subst hx
          go_wp2
          go_roundw
          case rel => exact ⟨k + 1, by omega, by go_num, by rw [hs'.out, if_pos rfl], hw⟩
          case measure => simp [intOf]; omega
        · have hx2 : (x == r) = false := by simpa using hx
          have hx' := hid hx
          clear hx
          go_wp2
          go_roundw
          case rel => exact ⟨k + 1, by omega, by go_num, by rw [hs'.out, if_neg hx'.out, Int.add_zero], hw⟩
          case measure => simp [intOf]; omega
      · obtain rfl : k = xs.length := by omega
        go_wp2
        go_ret
        exact ⟨ret_int (by rw [List.take_length]), hw⟩

set_option maxRecDepth 100000 in
set_option maxHeartbeats 1000000 in
theorem difference_any (v : Value) (xs : List Int) (hl : xs.length ≤ 1000) (w : World) (h : IntsAt w v xs) :
    Calls Try.prog 38 #[v] w fun e w' => e = .returned (.int .i64 (dif xs)) ∧ Below w.heap.size w w' := by
  have h0 := rid_bound 0 xs
  have h1 := rid_bound 1 xs
  have c0 := hid (fun (w1 : World) (h : IntsAt w1 v xs) => rides_any v xs 0 hl w1 h)
  have c1 := hid (fun (w1 : World) (h : IntsAt w1 v xs) => rides_any v xs 1 hl w1 h)
  have hd : dif xs = max (rid 0 xs - rid 1 xs) (rid 1 xs - rid 0 xs) := rfl
  rw [hd]
  clear hd
  generalize rid 0 xs = a at *
  generalize rid 1 xs = b at *
  go_enter Try.func38, Try.ntmps38
  go_wp2_with (first
    | (go_at_call 39; with_reducible refine (c0.out _ (by assumption)).mono ?_; rintro e w1 ⟨rfl, hb1⟩; have h2 := h.below hb1)
    | (go_at_call 39; with_reducible refine (c1.out _ (by assumption)).mono ?_; rintro e w2 ⟨rfl, hb2⟩))
  all_goals
    go_ret
    exact ⟨ret_int (by omega), below_via hb2 hb1⟩

set_option maxRecDepth 100000 in
set_option maxHeartbeats 1000000 in
theorem changes_ref (v : Value) (xs : List Int) (hl : xs.length ≤ 1000) (w : World) (h : IntsAt w v xs) :
    Calls Try.prog 37 #[v] w fun e w' => e = .returned (.int .i64 (chg xs)) ∧ Below w.heap.size w w' := by
  cases hxs : xs with
  | nil =>
    subst hxs
    obtain ⟨a, cap, rfl⟩ := h.nil
    go_enter Try.func37, Try.ntmps37
    go_wp2
    refine wp_loop_rounds 1 ?_
    rw [rounds_succ]
    go_wp2
    go_ret
    exact ⟨rfl, Below.refl _ _⟩
  | cons x0 l0 =>
    have hne : xs ≠ [] := by rw [hxs]; simp
    have hpos : 1 ≤ xs.length := by rw [hxs]; simp
    rw [← hxs]
    clear hxs
    obtain ⟨b, off, cap, rfl, hb0, hc⟩ := h.some hne
    clear h
    have hc' := hid hc
    clear hc
    go_enter Try.func37, Try.ntmps37
    go_wp2
    go_loopw [3, 4] (fun n i wr => ∃ k : Nat, 1 ≤ k ∧ k ≤ xs.length ∧ i = .int .i64 k ∧ n = .int .i64 (chg (xs.take k)) ∧ Below w.heap.size w wr) (fun _ i _ => xs.length - (intOf i).toNat)
    case atStart => exact ⟨1, by omega, by omega, rfl, by cases xs <;> simp [chg], Below.refl _ _⟩
    case round =>
      obtain ⟨k, hk1, hk, rfl, rfl, hw⟩ := hrel
      by_cases hlt : k < xs.length
      · have hcell := (hw.cell (p := ⟨b, off + k, none⟩) hb0).trans (hc'.out k hlt)
        have hcell2 := (hw.cell (p := ⟨b, off + (k - 1), none⟩) hb0).trans (hc'.out (k - 1) (by omega))
        have hs := chg_take hk1 hlt
        have hbd := chg_bound (xs.take k)
        have hlen : (xs.take k).length = k := by simp; omega
        rw [hlen] at hbd
        generalize xs.getD k 0 = x at hcell hs
        generalize xs.getD (k - 1) 0 = y at hcell2 hs
        generalize chg (xs.take k) = n at *
        have hs' := hid hs
        have hw1 : IntKind.i64.wrap ((k : Int) - 1) = (k : Int) - 1 := IntWalk.i64_in _ (by omega)
        have hw2 : ((k : Int) - 1).toNat = k - 1 := by omega
        have hw3 : (0 : Int) ≤ (k : Int) - 1 := by omega
        have hw4 : ((k : Int) - 1) < xs.length := by omega
        have hw' := hid hw
        clear hs hlen hw
        by_cases hx : x = y
        · subst hx
          go_wp2
          go_quiet (fail)
          go_wp2
          go_roundw
          case rel => exact ⟨k + 1, by omega, by omega, by go_num, by rw [hs'.out]; simp, below_drewN hw'.out _⟩
          case measure => simp [intOf]; omega
        · have hx2 : (x == y) = false := by simpa using hx
          have hx3 : (x != y) = true := by simpa using hx
          have hx' := hid hx
          clear hx
          go_wp2
          go_quiet (fail)
          go_wp2
          go_roundw
          case rel => exact ⟨k + 1, by omega, by omega, by go_num, by rw [hs'.out, if_neg (fun e => hx'.out e.symm)], below_drewN hw'.out _⟩
          case measure => simp [intOf]; omega
      · obtain rfl : k = xs.length := by omega
        go_wp2
        go_ret
        exact ⟨ret_int (by rw [List.take_length]), hw⟩

end Go.Proofs.Ytkgdejhooghknaa
