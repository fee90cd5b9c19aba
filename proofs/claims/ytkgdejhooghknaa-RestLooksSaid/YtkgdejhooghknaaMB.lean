/- The walks of the reference's 'plans', 'Count', 'Until', 'Check', and of 'long' of the law. The walk of the reference's 'Check'. -/
import Derived.Test.YtkgdejhooghknaaMA
namespace Go.Proofs.Ytkgdejhooghknaa
open Go.RowKit Go.Lap Go.Shelf

theorem all_as {R : Rest} {n : Int} {L : List (List Int)} (hL : rightL R n.toNat St.begin = L) (hv : R.valid = true) (h0 : 0 ≤ n) (h1 : n ≤ 16) (w : World) :
    Calls Try.prog 57 #[restV R, .int .i64 n, .slice none 0 0, .slice none 0 0] w fun e w' => ∃ a cap, e = .returned (.slice a L.length cap) ∧ PlanRows w.heap.size w' (.slice a L.length cap) L ∧ Below w.heap.size w w' := by
  subst hL
  have h := refAll_nil R hv n.toNat (by omega) w
  rw [Int.toNat_of_nonneg h0] at h
  refine h.mono fun e w' ⟨ov, he, hr, hb⟩ => ?_
  obtain ⟨vs, h1, h2, h3⟩ := hr
  rcases h2.2 with ⟨rfl, hn⟩ | ⟨g, cap, _, rfl, _⟩
  · rw [hn] at h2
    exact ⟨none, 0, by rw [he, hn], ⟨vs, h1, by rw [hn]; exact h2, h3⟩, hb⟩
  · exact ⟨_, cap, he, ⟨vs, h1, h2, h3⟩, hb⟩

theorem PlanRows.low {B C : Nat} {w : World} {v : Value} {L : List (List Int)} (h : PlanRows B w v L) (hc : C ≤ B) : PlanRows C w v L := by
  obtain ⟨vs, h1, h2, h3⟩ := h
  refine ⟨vs, h1, ⟨h2.1, ?_⟩, h3⟩
  rcases h2.2 with hn | ⟨g, cap, cur, rfl, hg0, rest⟩
  · exact .inl hn
  · exact .inr ⟨g, cap, cur, rfl, by omega, rest⟩

set_option maxRecDepth 100000 in
set_option maxHeartbeats 2000000 in
theorem plans_bad (R : Rest) (hv : R.valid = false) (w : World) : Calls Try.prog 62 #[restV R] w fun e w' => e = .returned (.tuple #[.slice none 0 0, .int .i64 1]) ∧ Below w.heap.size w w' := by
  have c32 := hid (fun w => valid_as hv w)
  clear hv
  have hk := KeepR.start w R
  go_enter Try.func62, Try.ntmps62
  go_wp2_with (first | (go_at_call 32; with_reducible refine (c32.out _).mono ?_; rintro e w1 ⟨rfl, hb1⟩; have hk := hk.below hb1; obtain ⟨lx, cx⟩ := cells_of hk.x))
  go_ret2
  exact ⟨rfl, hk.bel⟩
set_option maxRecDepth 100000 in
set_option maxHeartbeats 2000000 in
theorem plans_none (R : Rest) (hv : R.valid = true) (hn : plansL R = []) (w : World) : Calls Try.prog 62 #[restV R] w fun e w' => e = .returned (.tuple #[.slice none 0 0, .int .i64 4]) ∧ Below w.heap.size w w' := by
  have hh := Rest.valid_hours hv
  have c32 := hid (fun w => valid_as hv w)
  have c57 := hid (fun w => all_as (show rightL R R.hours.toNat St.begin = [] from hn) hv hh.1 hh.2 w)
  clear hv hn
  have hk := KeepR.start w R
  go_enter Try.func62, Try.ntmps62
  go_wp2_with (first | (go_at_call 32; with_reducible refine (c32.out _).mono ?_; rintro e w1 ⟨rfl, hb1⟩; have hk := hk.below hb1; obtain ⟨lx, cx⟩ := cells_of hk.x) | (go_at_call 57; with_reducible refine (c57.out _).mono ?_; rintro e w1 ⟨la, lc, rfl, hr0, hb1⟩; have hk := hk.below hb1; obtain ⟨lx, cx⟩ := cells_of hk.x; have hr := hid hr0; clear hr0))
  go_ret2
  exact ⟨rfl, hk.bel⟩
set_option maxRecDepth 100000 in
set_option maxHeartbeats 2000000 in
theorem plans_some (R : Rest) (hv : R.valid = true) (L : List (List Int)) (hL : plansL R = L) (hne : L ≠ []) (w : World) : Calls Try.prog 62 #[restV R] w fun e w' => ∃ a cap, e = .returned (.tuple #[.slice a L.length cap, .int .i64 0]) ∧ PlanRows w.heap.size w' (.slice a L.length cap) L ∧ Below w.heap.size w w' := by
  have hh := Rest.valid_hours hv
  have c32 := hid (fun w => valid_as hv w)
  have c57 := hid (fun w => all_as (show rightL R R.hours.toNat St.begin = L from hL) hv hh.1 hh.2 w)
  have hz : ((L.length : Int) == 0) = false := by
    have := List.length_pos_iff.2 hne
    simp; exact hne
  have hz2 : ¬ L = [] := hne
  clear hv hL hne
  have hk := KeepR.start w R
  have hlow : w.heap.size ≤ (w.alloc (.cells #[.int .i64 R.hours, .int .i64 R.r0.out, .int .i64 R.r0.total, .int .i64 R.r0.run, .int .i64 R.r0.off, .int .i64 R.r1.out, .int .i64 R.r1.total, .int .i64 R.r1.run, .int .i64 R.r1.off] 26)).heap.size := size_le_alloc _ _
  have hlow' := hid hlow
  clear hlow
  go_enter Try.func62, Try.ntmps62
  go_wp2_with (first | (go_at_call 32; with_reducible refine (c32.out _).mono ?_; rintro e w1 ⟨rfl, hb1⟩; have hk := hk.below hb1; obtain ⟨lx, cx⟩ := cells_of hk.x; have hle := hid (Nat.le_trans hlow'.out hb1.size)) | (go_at_call 57; with_reducible refine (c57.out _).mono ?_; rintro e w1 ⟨la, lc, rfl, hr0, hb1⟩; have hk := hk.below hb1; obtain ⟨lx, cx⟩ := cells_of hk.x; have hr := hid hr0; clear hr0))
  go_ret2
  exact ⟨la, lc, rfl, PlanRows.low hr.out hle.out, hk.bel⟩

set_option maxRecDepth 100000 in
set_option maxHeartbeats 2000000 in
theorem refCount_any (R : Rest) (w : World) : Calls Try.prog 18 #[restV R] w fun e w' => e = .returned (.tuple #[.int .i64 (countR R).1, .int .i64 (countR R).2]) ∧ Below w.heap.size w w' := by
  cases hv : R.valid
  · have hc : countR R = (0, 1) := by simp [countR, hv]
    rw [hc]
    have c32 := hid (fun w => valid_as hv w)
    clear hv hc
    have hk := KeepR.start w R
    go_enter Try.func18, Try.ntmps18
    go_wp2_with (first | (go_at_call 32; with_reducible refine (c32.out _).mono ?_; rintro e w1 ⟨rfl, hb1⟩; have hk := hk.below hb1; obtain ⟨lx, cx⟩ := cells_of hk.x))
    go_ret2
    exact ⟨rfl, hk.bel⟩
  · rw [countR_eq hv]
    have hh := Rest.valid_hours hv
    have c32 := hid (fun w => valid_as hv w)
    have c57 := hid (fun w => all_as (show rightL R R.hours.toNat St.begin = plansL R from rfl) hv hh.1 hh.2 w)
    clear hv
    have hk := KeepR.start w R
    generalize plansL R = L at *
    go_enter Try.func18, Try.ntmps18
    go_wp2_with (first | (go_at_call 32; with_reducible refine (c32.out _).mono ?_; rintro e w1 ⟨rfl, hb1⟩; have hk := hk.below hb1; obtain ⟨lx, cx⟩ := cells_of hk.x) | (go_at_call 57; with_reducible refine (c57.out _).mono ?_; rintro e w1 ⟨la, lc, rfl, hr0, hb1⟩; have hk := hk.below hb1; obtain ⟨lx, cx⟩ := cells_of hk.x; have hr := hid hr0; clear hr0))
    go_ret2
    exact ⟨rfl, hk.bel⟩

theorem lastOf_step (p : Int → Bool) (f : Nat) (n : Int) : lastOf p (f + 1) n = if p (n + 1) then lastOf p f (n + 1) else n := rfl
set_option maxRecDepth 100000 in
set_option maxHeartbeats 2000000 in
theorem refUntil_any (R : Rest) (w : World) : Calls Try.prog 20 #[restV R] w fun e w' => e = .returned (.tuple #[.int .i64 (untilR R).1, .int .i64 (untilR R).2]) ∧ Below w.heap.size w w' := by
  cases hv : R.valid
  · have hc : untilR R = (0, 1) := by simp [untilR, hv]
    rw [hc]
    have c32 := hid (fun w => valid_as hv w)
    clear hv hc
    have hk := KeepR.start w R
    go_enter Try.func20, Try.ntmps20
    go_wp2_with (first | (go_at_call 32; with_reducible refine (c32.out _).mono ?_; rintro e w1 ⟨rfl, hb1⟩; have hk := hk.below hb1; obtain ⟨lx, cx⟩ := cells_of hk.x))
    go_ret2
    exact ⟨rfl, hk.bel⟩
  · have hc : untilR R = (untilOf R, 0) := by simp [untilR, hv]
    rw [hc]
    have hh := Rest.valid_hours hv
    have c32 := hid (fun w => valid_as hv w)
    have hv' := hid hv
    have hu := hid (show untilOf R = lastOf (canB R) R.hours.toNat 0 from rfl)
    clear hv hc
    have hk := KeepR.start w R
    go_enter Try.func20, Try.ntmps20
    go_wp2_with (first | (go_at_call 32; with_reducible refine (c32.out _).mono ?_; rintro e w1 ⟨rfl, hb1⟩; have hk := hk.below hb1; obtain ⟨lx, cx⟩ := cells_of hk.x))
    go_loopw [4] (fun i wr => ∃ k : Nat, (k : Int) ≤ R.hours ∧ i = .int .i64 k ∧ Hid (untilOf R = lastOf (canB R) (R.hours.toNat - k) k) ∧ KeepR w R wr) (fun i _ => R.hours.toNat - (intOf i).toNat)
    case atStart => exact ⟨0, by simpa using hh.1, rfl, hu, hk⟩
    case round =>
      obtain ⟨k, hkk, rfl, hz, hk⟩ := hrel
      obtain ⟨lx, cx⟩ := cells_of hk.x
      by_cases hlt : (k : Int) < R.hours
      · have hw1 : IntKind.i64.wrap ((k : Int) + 1) = (k : Int) + 1 := IntWalk.i64_in _ (by omega)
        have hs := lastOf_step (canB R) (R.hours.toNat - (k + 1)) k
        rw [show R.hours.toNat - (k + 1) + 1 = R.hours.toNat - k by omega] at hs
        have hcb := canB_eq (R := R) (til := (k : Int) + 1) (by omega)
        obtain ⟨L, hL⟩ : ∃ L, rightL R ((k : Int) + 1).toNat St.begin = L := ⟨_, rfl⟩
        rw [hL] at hcb
        have c57 := hid (fun w => all_as hL hv'.out (by omega) (by omega) w)
        have hs' := hid hs
        have hcb' := hid hcb
        clear hs hcb hL
        by_cases hne : L = []
        · subst hne
          have hval := hid (show untilOf R = k by rw [hz.out, hs'.out, hcb'.out]; simp)
          go_wp2_with (first | (go_at_call 57; with_reducible refine (c57.out _).mono ?_; rintro e w1 ⟨la, lc, rfl, hr0, hb1⟩; have hk := hk.below hb1; obtain ⟨lx, cx⟩ := cells_of hk.x; have hr := hid hr0; clear hr0))
          go_ret2
          exact ⟨by rw [hval.out]; rfl, hk.bel⟩
        · have hpos := List.length_pos_iff.2 hne
          have hp2 : decide ((0 : Int) < (L.length : Int)) = true := by simp; exact hpos
          have hval := hid (show untilOf R = lastOf (canB R) (R.hours.toNat - (k + 1)) ((k + 1 : Nat) : Int) by rw [hz.out, hs'.out, hcb'.out]; simp [hne])
          go_wp2_with (first | (go_at_call 57; with_reducible refine (c57.out _).mono ?_; rintro e w1 ⟨la, lc, rfl, hr0, hb1⟩; have hk := hk.below hb1; obtain ⟨lx, cx⟩ := cells_of hk.x; have hr := hid hr0; clear hr0))
          go_roundw
          case rel => exact ⟨k + 1, by omega, by go_num, hval, hk⟩
          case measure => simp [intOf]; omega
      · have hke : (k : Int) = R.hours := by omega
        have hval := hid (show untilOf R = k by rw [hz.out, show R.hours.toNat - k = 0 by omega]; rfl)
        have hd : decide ((k : Int) < R.hours) = false := by simpa using hlt
        clear hke
        go_wp2
        go_ret2
        exact ⟨by rw [hval.out]; rfl, hk.bel⟩

set_option maxRecDepth 100000 in
set_option maxHeartbeats 2000000 in
theorem long_any (R : Rest) (n : Int) (w : World) : Calls Try.prog 13 #[restV R, .int .i64 n] w fun e w' => e = .returned (.bool (decide (n < R.hours) && R.valid)) ∧ Below w.heap.size w w' := by
  have hk := KeepR.start w R
  by_cases hlt : n < R.hours
  · have c32 := hid (fun w => valid_as (R := R) rfl w)
    have hd : decide (n < R.hours) = true := by simpa using hlt
    generalize R.valid = b at *
    go_enter Try.func13, Try.ntmps13
    go_wp2_with (first | (go_at_call 32; with_reducible refine (c32.out _).mono ?_; rintro e w1 ⟨rfl, hb1⟩; have hk := hk.below hb1; obtain ⟨lx, cx⟩ := cells_of hk.x))
    go_ret
    exact ⟨by simp [hd], hk.bel⟩
  · have hd : decide (n < R.hours) = false := by simpa using hlt
    go_enter Try.func13, Try.ntmps13
    go_wp2
    go_ret
    exact ⟨by simp, hk.bel⟩

end Go.Proofs.Ytkgdejhooghknaa

namespace Go.Proofs.Ytkgdejhooghknaa
open Go.RowKit Go.Lap Go.Shelf

set_option maxRecDepth 100000 in
set_option maxHeartbeats 2000000 in
theorem refCheck_any (R : Rest) (v : Value) (xs : List Int) (hl : xs.length ≤ 40) (w : World) (hx : IntsAt w v xs) : Calls Try.prog 16 #[restV R, v] w fun e w' => e = .returned (.tuple #[.int .i64 (checkOf R xs).1, .int .i64 (checkOf R xs).2.1, .int .i64 (checkOf R xs).2.2]) ∧ Below w.heap.size w w' := by
  obtain ⟨a, cap, rfl, hx⟩ := intsAt_dest hx
  have hk : KeepP w R (.slice a xs.length cap) xs (w.alloc (.cells #[.int .i64 R.hours, .int .i64 R.r0.out, .int .i64 R.r0.total, .int .i64 R.r0.run, .int .i64 R.r0.off, .int .i64 R.r1.out, .int .i64 R.r1.total, .int .i64 R.r1.run, .int .i64 R.r1.off] 26)) := ⟨KeepR.start w R, hx.below (below_alloc (Below.refl _ _) _)⟩
  cases hv : R.valid
  · have hc : checkOf R xs = (0, 0, 1) := by simp [checkOf, hv]
    rw [hc]
    have c32 := hid (fun w => valid_as hv w)
    clear hv hc hx
    go_enter Try.func16, Try.ntmps16
    go_wp2_with (first | (go_at_call 32; with_reducible refine (c32.out _).mono ?_; rintro e w1 ⟨rfl, hb1⟩; have hk := hk.below hb1; obtain ⟨lx, cx⟩ := cells_of hk.r.x))
    go_ret3
    exact ⟨rfl, hk.r.bel⟩
  · have hh := Rest.valid_hours hv
    have c32 := hid (fun w => valid_as hv w)
    cases hp : planOk R xs
    · have hc : checkOf R xs = (0, 0, 2) := check_refuses hv hp
      rw [hc]
      have c36 := hid (fun w h => planRef_as (v := .slice a xs.length cap) hp (by omega) w h)
      clear hv hc hx hp
      go_enter Try.func16, Try.ntmps16
      go_wp2_with (first | (go_at_call 32; with_reducible refine (c32.out _).mono ?_; rintro e w1 ⟨rfl, hb1⟩; have hk := hk.below hb1; obtain ⟨lx, cx⟩ := cells_of hk.r.x) | (go_at_call 36; with_reducible refine (c36.out _ hk.p).mono ?_; rintro e w1 ⟨rfl, hb1⟩; have hk := hk.below hb1; obtain ⟨lx, cx⟩ := cells_of hk.r.x))
      go_ret3
      exact ⟨rfl, hk.r.bel⟩
    · have c36 := hid (fun w h => planRef_as (v := .slice a xs.length cap) hp (by omega) w h)
      have hQ : ∀ x, x ∈ xs → x = 0 ∨ x = 1 := by
        intro x hm
        simp only [planOk, Bool.and_eq_true, Bool.not_eq_true', List.any_eq_false, decide_eq_true_eq] at hp
        have := hp.2 x hm
        simp only [badB, inB, Bool.not_eq_true, Bool.not_eq_false', Bool.and_eq_true, decide_eq_true_eq] at this
        omega
      have hlen : (xs.length : Int) = R.hours := by
        simp only [planOk, Bool.and_eq_true, decide_eq_true_eq] at hp
        exact hp.1
      rcases check_told hv hQ hlen with ⟨h1, h2⟩ | ⟨j, n, hj, h1, h2, h3, h4, h5⟩
      · rw [h1]
        have c53 := hid (fun (k : Nat) (hk : k < xs.length) w h => refBroken_as (h2 k hk) hv a cap hk hl hQ w h)
        clear hv hx hp h1 h2 hQ hlen
        go_enter Try.func16, Try.ntmps16
        go_wp2_with (first | (go_at_call 32; with_reducible refine (c32.out _).mono ?_; rintro e w1 ⟨rfl, hb1⟩; have hk := hk.below hb1; obtain ⟨lx, cx⟩ := cells_of hk.r.x) | (go_at_call 36; with_reducible refine (c36.out _ hk.p).mono ?_; rintro e w1 ⟨rfl, hb1⟩; have hk := hk.below hb1; obtain ⟨lx, cx⟩ := cells_of hk.r.x))
        go_loopw [7] (fun i wr => ∃ k : Nat, k ≤ xs.length ∧ i = .int .i64 k ∧ KeepP w R (.slice a xs.length cap) xs wr) (fun i _ => xs.length - (intOf i).toNat)
        case atStart => exact ⟨0, by omega, rfl, hk⟩
        case round =>
          obtain ⟨k, hkk, rfl, hk⟩ := hrel
          obtain ⟨lx, cx⟩ := cells_of hk.r.x
          by_cases hlt : k < xs.length
          · have c53k := hid (c53.out k hlt)
            go_wp2_with (first | (go_at_call 53; with_reducible refine (c53k.out _ hk.p).mono ?_; rintro e w1 ⟨rfl, hb1⟩; have hk := hk.below hb1; obtain ⟨lx, cx⟩ := cells_of hk.r.x))
            go_roundw
            case rel => exact ⟨k + 1, by omega, by go_num, hk⟩
            case measure => simp [intOf]; omega
          · obtain rfl : k = xs.length := by omega
            go_wp2
            go_ret3
            exact ⟨rfl, hk.r.bel⟩
      · rw [h1]
        have c53 := hid (fun (k : Nat) (hk : k < j) w h => refBroken_as (h5 k hk) hv a cap (by omega) hl hQ w h)
        have c53j := hid (fun w h => refBroken_as h4 hv a cap hj hl hQ w h)
        have hn0 : (n != 0) = true := by simp; omega
        clear hv hx hp h1 h4 h5 hQ hlen
        go_enter Try.func16, Try.ntmps16
        go_wp2_with (first | (go_at_call 32; with_reducible refine (c32.out _).mono ?_; rintro e w1 ⟨rfl, hb1⟩; have hk := hk.below hb1; obtain ⟨lx, cx⟩ := cells_of hk.r.x) | (go_at_call 36; with_reducible refine (c36.out _ hk.p).mono ?_; rintro e w1 ⟨rfl, hb1⟩; have hk := hk.below hb1; obtain ⟨lx, cx⟩ := cells_of hk.r.x))
        go_loopw [7] (fun i wr => ∃ k : Nat, k ≤ j ∧ i = .int .i64 k ∧ KeepP w R (.slice a xs.length cap) xs wr) (fun i _ => xs.length - (intOf i).toNat)
        case atStart => exact ⟨0, by omega, rfl, hk⟩
        case round =>
          obtain ⟨k, hkk, rfl, hk⟩ := hrel
          obtain ⟨lx, cx⟩ := cells_of hk.r.x
          by_cases hlt : k < j
          · have c53k := hid (c53.out k hlt)
            have hlt2 : k < xs.length := by omega
            go_wp2_with (first | (go_at_call 53; with_reducible refine (c53k.out _ hk.p).mono ?_; rintro e w1 ⟨rfl, hb1⟩; have hk := hk.below hb1; obtain ⟨lx, cx⟩ := cells_of hk.r.x))
            go_roundw
            case rel => exact ⟨k + 1, by omega, by go_num, hk⟩
            case measure => simp [intOf]; omega
          · obtain rfl : k = j := by omega
            have c53k := c53j
            go_wp2_with (first | (go_at_call 53; with_reducible refine (c53k.out _ hk.p).mono ?_; rintro e w1 ⟨rfl, hb1⟩; have hk := hk.below hb1; obtain ⟨lx, cx⟩ := cells_of hk.r.x))
            go_ret3
            exact ⟨rfl, hk.r.bel⟩

end Go.Proofs.Ytkgdejhooghknaa
