/- The walks of the reference's 'Has', 'total', 'run', 'off'. The walks of the reference's 'Broken' and 'Right'. Lists of plans as slices of slices: what the reference's 'All' grows. The walk of the reference's 'All'. The walk of the reference's 'All': where it goes on. -/
import Derived.Test.YtkgdejhooghknaaMV
import Derived.Deep.AppendLies
import Derived.Deep.RegionHeld3
import Derived.Deep.CutRange
import Derived.Outline
namespace Go.Proofs.Ytkgdejhooghknaa
open Go.RowKit Go.Lap Go.Shelf

set_option maxHeartbeats 1000000 in
theorem has_any (s n : Int) (hs : 0 ≤ s) (hs1 : s ≤ 65535) (h0 : 0 ≤ n) (h1 : n ≤ 62) (w : World) : Calls Try.prog 79 #[.int .i64 s, .int .i64 n] w fun e w' => e = .returned (.bool (hasBit s n)) ∧ w' = w := by
  have hp : (0 : Int) < 2 ^ n.toNat := Int.pow_pos (by decide)
  have hv : hasBit s n = (s / 2 ^ n.toNat % 2 == 1) := by
    show (s >>> n.toNat % 2 == 1) = _
    rw [Int.shiftRight_eq_div_pow]; simp
  rw [hv]
  have c78 := hid (fun w => power_any n h0 h1 w)
  obtain ⟨p, hpe⟩ : ∃ p : Int, p = 2 ^ n.toNat := ⟨_, rfl⟩
  have hp2 : 0 < p := by rw [hpe]; exact hp
  have hq : 0 ≤ s / p := Int.ediv_nonneg hs (by omega)
  have hle : s / p ≤ s := Int.ediv_le_self _ hs
  have c78' := hid (fun w => (show Calls Try.prog 78 #[.int .i64 n] w fun e w' => e = .returned (.int .i64 p) ∧ w' = w by rw [hpe]; exact c78.out w))
  rw [← hpe]
  have htd : s.tdiv p = s / p := Int.tdiv_eq_ediv_of_nonneg hs
  have hmd : (s / p).tmod 2 = s / p % 2 := Int.tmod_eq_emod_of_nonneg hq
  have hwr : wrap64 (s / p) = s / p := IntWalk.wrap64_in _ (by omega)
  clear hpe hp hv c78
  go_enter Try.func79, Try.ntmps79
  go_wp2_with (go_at_call 78; with_reducible refine (c78'.out _).mono ?_; rintro e w1 ⟨rfl, rfl⟩)
  go_ret
  exact ⟨rfl, rfl⟩

set_option maxRecDepth 100000 in
set_option maxHeartbeats 1000000 in
theorem total_any (a : Option Addr) (cap : Nat) (Q : List Int) (h : Nat) (hlt : h < Q.length) (hl : Q.length ≤ 100) (w : World) (hq : IntsAt w (.slice a Q.length cap) Q) :
    Calls Try.prog 82 #[.slice a Q.length cap, .int .i64 h] w fun e w' => e = .returned (.int .i64 (rid (Q.getD h 0) (Q.take h) + 1)) ∧ Below w.heap.size w w' := by
  obtain ⟨b, off, rfl, _, hc⟩ := intsAt_cell hq hlt
  have hch := hc h hlt
  have lb := cell_lt hch
  have hc' := hid hc
  have hcx := hid hch
  have hlt2 : (h : Int) < Q.length := by omega
  clear hc hq hch
  generalize hxx : Q.getD h 0 = x at *
  have hxx' := hid hxx
  clear hxx
  go_enter Try.func82, Try.ntmps82
  go_wp2
  go_loopw [5, 6] (fun n i wr => ∃ k : Nat, k ≤ h + 1 ∧ i = .int .i64 k ∧ n = .int .i64 (rid x (Q.take k)) ∧ Below w.heap.size w wr) (fun _ i _ => h + 1 - (intOf i).toNat)
  case atStart => exact ⟨0, by omega, rfl, rfl, Below.refl _ _⟩
  case round =>
    obtain ⟨k, hk, rfl, rfl, hw⟩ := hrel
    have hbd := rid_bound x (Q.take k)
    have hlen : (Q.take k).length = k := by simp; omega
    rw [hlen] at hbd
    by_cases hlt3 : k < h + 1
    · have hs := rid_take x (xs := Q) (k := k) (by omega)
      have hck := (hw.cell (p := ⟨b, off + k, none⟩) lb).trans (hc'.out k (by omega))
      have hch := (hw.cell (p := ⟨b, off + h, none⟩) lb).trans hcx.out
      have hkq : (k : Int) < Q.length := by omega
      have hkh : (k : Int) ≤ h := by omega
      generalize rid x (Q.take k) = n at *
      generalize Q.getD k 0 = y at *
      have hs' := hid hs
      have hw' := hid hw
      clear hs hw hlen
      by_cases hy : y = x
      · subst hy
        go_wp2
        go_quiet (fail)
        go_wp2
        go_roundw
        case rel => exact ⟨k + 1, by omega, by go_num, by rw [hs'.out]; simp, below_drewN hw'.out _⟩
        case measure => simp [intOf]; omega
      · have hy2 : (y == x) = false := by simpa using hy
        have hy' := hid hy
        clear hy
        go_wp2
        go_quiet (fail)
        go_wp2
        go_roundw
        case rel => exact ⟨k + 1, by omega, by go_num, by rw [hs'.out, if_neg hy'.out, Int.add_zero], below_drewN hw'.out _⟩
        case measure => simp [intOf]; omega
    · obtain rfl : k = h + 1 := by omega
      have hs := hid (rid_take x hlt)
      clear hlen hbd
      go_wp2
      go_ret
      exact ⟨ret_int (by rw [hs.out, hxx'.out, if_pos rfl]), hw⟩

set_option maxRecDepth 100000 in
set_option maxHeartbeats 1000000 in
theorem run_any (a : Option Addr) (cap : Nat) (Q : List Int) (h : Nat) (hlt : h < Q.length) (hl : Q.length ≤ 100) (w : World) (hq : IntsAt w (.slice a Q.length cap) Q) :
    Calls Try.prog 83 #[.slice a Q.length cap, .int .i64 h] w fun e w' => e = .returned (.int .i64 (tailRun (Q.getD h 0) (Q.take h) + 1)) ∧ Below w.heap.size w w' := by
  obtain ⟨b, off, rfl, _, hc⟩ := intsAt_cell hq hlt
  have hch := hc h hlt
  have lb := cell_lt hch
  have hc' := hid hc
  have hcx := hid hch
  have hlt2 : (h : Int) < Q.length := by omega
  clear hc hq hch
  generalize hxx : Q.getD h 0 = x at *
  have hfin := hid (show tailRun x (Q.take (h + 1)) = tailRun x (Q.take h) + 1 by rw [take_one hlt, tailRun_snoc, hxx, if_pos rfl])
  clear hxx
  go_enter Try.func83, Try.ntmps83
  go_wp2
  go_loopw [5, 6] (fun n i wr => ∃ k : Nat, k ≤ h + 1 ∧ i = .int .i64 ((k : Int) - 1) ∧ n = .int .i64 ((h : Int) + 1 - k) ∧ Hid (tailRun x (Q.take (h + 1)) = tailRun x (Q.take k) + ((h : Int) + 1 - k)) ∧ Below w.heap.size w wr) (fun _ i _ => (intOf i + 1).toNat)
  case atStart => exact ⟨h + 1, by omega, by go_num, by go_num, hid (by simp), Below.refl _ _⟩
  case round =>
    obtain ⟨k, hk, rfl, rfl, hT, hw⟩ := hrel
    have e1 : IntKind.i64.wrap ((k : Int) - 1 - 1) = (k : Int) - 1 - 1 := IntWalk.i64_in _ (by omega)
    have e2 : IntKind.i64.wrap ((h : Int) + 1 - k + 1) = (h : Int) + 1 - k + 1 := IntWalk.i64_in _ (by omega)
    by_cases hk0 : k = 0
    · subst hk0
      have hT2 := hid (show tailRun x (Q.take h) + 1 = (h : Int) + 1 by have h1 := hT.out; rw [hfin.out] at h1; rw [h1]; simp [tailRun])
      clear e1 e2
      have hw' := hid hw
      clear hw
      go_wp2
      go_quiet (fail)
      go_wp2
      go_ret
      exact ⟨ret_int (by have h1 := hT2.out; omega), below_drewN hw'.out _⟩
    · have hs := take_one (xs := Q) (k := k - 1) (by omega)
      rw [show k - 1 + 1 = k by omega] at hs
      have ht := tailRun_snoc x (Q.take (k - 1)) (Q.getD (k - 1) 0)
      rw [← hs] at ht
      have hck := (hw.cell (p := ⟨b, off + (k - 1), none⟩) lb).trans (hc'.out (k - 1) (by omega))
      have hch := (hw.cell (p := ⟨b, off + h, none⟩) lb).trans hcx.out
      have hn1 : ((k : Int) - 1).toNat = k - 1 := by omega
      have hn2 : (0 : Int) ≤ (k : Int) - 1 := by omega
      have hn3 : (k : Int) - 1 < Q.length := by omega
      have hn4 : (1 : Int) ≤ (k : Int) := by omega
      generalize Q.getD (k - 1) 0 = y at *
      have ht' := hid ht
      have hw' := hid hw
      clear ht hs hw
      by_cases hy : y = x
      · subst hy
        have hT3 := hid (show tailRun y (Q.take (h + 1)) = tailRun y (Q.take (k - 1)) + ((h : Int) + 1 - ((k - 1 : Nat) : Int)) by
          have h1 := hT.out; have h2 := ht'.out; rw [if_pos rfl] at h2; omega)
        have hcast := hid (show ((k - 1 : Nat) : Int) = (k : Int) - 1 by omega)
        go_wp2
        go_quiet (fail)
        go_wp2
        go_roundw
        case rel => exact ⟨k - 1, by omega, by rw [hcast.out], by rw [hcast.out, show (h : Int) + 1 - ((k : Int) - 1) = (h : Int) + 1 - k + 1 by omega], hT3, below_drewN hw'.out _⟩
        case measure => simp [intOf]; omega
      · have hy2 : (y == x) = false := by simpa using hy
        have hT2 := hid (show tailRun x (Q.take h) + 1 = (h : Int) + 1 - k by have h1 := hT.out; have h2 := ht'.out; rw [if_neg hy] at h2; rw [hfin.out] at h1; omega)
        clear hy
        go_wp2
        go_quiet (fail)
        go_wp2
        go_ret
        exact ⟨ret_int (by have h1 := hT2.out; omega), below_drewN hw'.out _⟩

/-- For how many hours a rider was off before an hour; below 0: they did not ride before. -/
def offOf (x : Int) (l : List Int) : Int := if 0 ≤ (lastAt x l).2 then (l.length : Int) - 1 - (lastAt x l).2 else -1
set_option maxRecDepth 100000 in
set_option maxHeartbeats 1000000 in
theorem off_any (a : Option Addr) (cap : Nat) (Q : List Int) (h : Nat) (hlt : h < Q.length) (hl : Q.length ≤ 100) (w : World) (hq : IntsAt w (.slice a Q.length cap) Q) :
    Calls Try.prog 84 #[.slice a Q.length cap, .int .i64 h] w fun e w' => e = .returned (.int .i64 (offOf (Q.getD h 0) (Q.take h))) ∧ Below w.heap.size w w' := by
  obtain ⟨b, off, rfl, _, hc⟩ := intsAt_cell hq hlt
  have hch := hc h hlt
  have lb := cell_lt hch
  have hc' := hid hc
  have hcx := hid hch
  have hlt2 : (h : Int) < Q.length := by omega
  have hlh : (Q.take h).length = h := by simp; omega
  have hlh' := hid hlh
  clear hc hq hch hlh
  generalize hxx : Q.getD h 0 = x at *
  clear hxx
  have e0 : IntKind.i64.wrap ((h : Int) - 1) = (h : Int) - 1 := IntWalk.i64_in _ (by omega)
  go_enter Try.func84, Try.ntmps84
  go_wp2
  clear e0
  go_loopw [5, 6] (fun n i wr => ∃ k : Nat, k ≤ h ∧ i = .int .i64 ((k : Int) - 1) ∧ n = .int .i64 ((h : Int) - k) ∧ Hid ((lastAt x (Q.take h)).2 = (lastAt x (Q.take k)).2) ∧ Below w.heap.size w wr) (fun _ i _ => (intOf i + 1).toNat)
  case atStart => exact ⟨h, by omega, by go_num, by go_num, hid rfl, Below.refl _ _⟩
  case round =>
    obtain ⟨k, hk, rfl, rfl, hT, hw⟩ := hrel
    have e1 : IntKind.i64.wrap ((k : Int) - 1 - 1) = (k : Int) - 1 - 1 := IntWalk.i64_in _ (by omega)
    have e2 : IntKind.i64.wrap ((h : Int) - k + 1) = (h : Int) - k + 1 := IntWalk.i64_in _ (by omega)
    by_cases hk0 : k = 0
    · subst hk0
      have hT2 := hid (show offOf x (Q.take h) = -1 by unfold offOf; rw [hT.out]; simp [lastAt])
      clear e1 e2
      go_wp2
      go_ret
      exact ⟨ret_int hT2.out.symm, hw⟩
    · have hs := take_one (xs := Q) (k := k - 1) (by omega)
      rw [show k - 1 + 1 = k by omega] at hs
      have ht := lastAt_snoc x (Q.take (k - 1)) (Q.getD (k - 1) 0)
      rw [← hs, lastAt_fst] at ht
      have hlk : (Q.take (k - 1)).length = k - 1 := by simp; omega
      rw [hlk] at ht
      have hck := (hw.cell (p := ⟨b, off + (k - 1), none⟩) lb).trans (hc'.out (k - 1) (by omega))
      have hch := (hw.cell (p := ⟨b, off + h, none⟩) lb).trans hcx.out
      have hn1 : ((k : Int) - 1).toNat = k - 1 := by omega
      have hn2 : (0 : Int) ≤ (k : Int) - 1 := by omega
      have hn3 : (k : Int) - 1 < Q.length := by omega
      have hn4 : (1 : Int) ≤ (k : Int) := by omega
      generalize Q.getD (k - 1) 0 = y at *
      have ht' := hid ht
      have hw' := hid hw
      clear ht hs hw hlk
      by_cases hy : y = x
      · subst hy
        have hT3 := hid (show offOf y (Q.take h) = (h : Int) - k by
          unfold offOf
          rw [hT.out, ht'.out, hlh'.out]
          simp only [if_true]
          rw [if_pos (by omega)]; omega)
        go_wp2
        go_quiet (fail)
        go_wp2
        go_ret
        exact ⟨ret_int hT3.out.symm, below_drewN hw'.out _⟩
      · have hy2 : (y == x) = false := by simpa using hy
        have hT2 := hid (show (lastAt x (Q.take h)).2 = (lastAt x (Q.take (k - 1))).2 by have h2 := congrArg Prod.snd ht'.out; simp only [if_neg hy] at h2; rw [hT.out, h2])
        have hcast := hid (show ((k - 1 : Nat) : Int) = (k : Int) - 1 by omega)
        clear hy
        go_wp2
        go_quiet (fail)
        go_wp2
        go_roundw
        case rel => exact ⟨k - 1, by omega, by rw [hcast.out], by rw [hcast.out, show (h : Int) - ((k : Int) - 1) = (h : Int) - k + 1 by omega], hT2, below_drewN hw'.out _⟩
        case measure => simp [intOf]; omega

end Go.Proofs.Ytkgdejhooghknaa

namespace Go.Proofs.Ytkgdejhooghknaa
open Go.RowKit Go.Lap Go.Shelf

theorem has_as {s n : Int} {b : Bool} (hb : hasBit s n = b) (hs : 0 ≤ s) (hs1 : s ≤ 65535) (h0 : 0 ≤ n) (h1 : n ≤ 62) (w : World) : Calls Try.prog 79 #[.int .i64 s, .int .i64 n] w fun e w' => e = .returned (.bool b) ∧ w' = w := by
  subst hb; exact has_any s n hs hs1 h0 h1 w
theorem total_as {Q : List Int} {h : Nat} {x : Int} (hx : Q.getD h 0 = x) (hlt : h < Q.length) (hl : Q.length ≤ 100) (a : Option Addr) (cap : Nat) (w : World) (hq : IntsAt w (.slice a Q.length cap) Q) :
    Calls Try.prog 82 #[.slice a Q.length cap, .int .i64 h] w fun e w' => e = .returned (.int .i64 (rid x (Q.take h) + 1)) ∧ Below w.heap.size w w' := by
  subst hx; exact total_any a cap Q h hlt hl w hq
theorem run_as {Q : List Int} {h : Nat} {x : Int} (hx : Q.getD h 0 = x) (hlt : h < Q.length) (hl : Q.length ≤ 100) (a : Option Addr) (cap : Nat) (w : World) (hq : IntsAt w (.slice a Q.length cap) Q) :
    Calls Try.prog 83 #[.slice a Q.length cap, .int .i64 h] w fun e w' => e = .returned (.int .i64 (tailRun x (Q.take h) + 1)) ∧ Below w.heap.size w w' := by
  subst hx; exact run_any a cap Q h hlt hl w hq
theorem off_as {Q : List Int} {h : Nat} {x : Int} (hx : Q.getD h 0 = x) (hlt : h < Q.length) (hl : Q.length ≤ 100) (a : Option Addr) (cap : Nat) (w : World) (hq : IntsAt w (.slice a Q.length cap) Q) :
    Calls Try.prog 84 #[.slice a Q.length cap, .int .i64 h] w fun e w' => e = .returned (.int .i64 (offOf x (Q.take h))) ∧ Below w.heap.size w w' := by
  subst hx; exact off_any a cap Q h hlt hl w hq

theorem lawB_off (R : Rest) (l : List Int) (x : Int) : lawB R l x = if hasBit (R.rider x).out l.length then 1 else if (R.rider x).total < rid x l + 1 then 2 else if (R.rider x).run < tailRun x l + 1 then 3 else if 0 < offOf x l ∧ offOf x l < (R.rider x).off then 4 else 0 := by
  unfold lawB offOf
  have hbd := lastAt_bd x l
  generalize (lastAt x l).2 = la at *
  by_cases h0 : 0 ≤ la
  · have : (0 ≤ la ∧ la < (l.length : Int) - 1 ∧ (l.length : Int) - 1 - la < (R.rider x).off) = (0 < (l.length : Int) - 1 - la ∧ (l.length : Int) - 1 - la < (R.rider x).off) := by apply propext; constructor <;> intro h <;> omega
    simp only [this, if_pos h0]
  · have : ¬ (0 ≤ la ∧ la < (l.length : Int) - 1 ∧ (l.length : Int) - 1 - la < (R.rider x).off) := fun h => h0 h.1
    simp only [if_neg this, if_neg h0]
    simp
theorem offOf_bd (x : Int) (l : List Int) : -1 ≤ offOf x l ∧ offOf x l ≤ l.length := by
  have := lastAt_bd x l
  unfold offOf; split <;> omega

/-- A block and a list lie as they lay. -/
structure KeepZ (w : World) (bx : Nat) (cs : Array Value) (v : Value) (Q : List Int) (W : World) : Prop where
  bel : Below w.heap.size w W
  x : W.heap[bx]? = some (.cells cs 23 (0, 0))
  q : IntsAt W v Q
theorem KeepZ.below {w : World} {bx : Nat} {cs : Array Value} {v : Value} {Q : List Int} {W W' : World} (h : KeepZ w bx cs v Q W) (hb : Below W.heap.size W W') : KeepZ w bx cs v Q W' :=
  ⟨below_via hb h.bel, (hb.block _ (cells_of h.x).1).trans h.x, h.q.below hb⟩

set_option maxRecDepth 100000 in
set_option maxHeartbeats 4000000 in
theorem refBroken_0 (R : Rest) (hv : R.valid = true) (a : Option Addr) (cap : Nat) (Q : List Int) (h : Nat) (hlt : h < Q.length) (hl : Q.length ≤ 40) (hx : Q.getD h 0 = 0) (w : World) (hq : IntsAt w (.slice a Q.length cap) Q) :
    Calls Try.prog 53 #[restV R, .slice a Q.length cap, .int .i64 h] w fun e w' => e = .returned (.int .i64 (lawB R (Q.take h) 0)) ∧ Below w.heap.size w w' := by
  have ho := Rest.valid_ok hv
  obtain ⟨b, off, rfl, _, hc⟩ := intsAt_cell hq hlt
  obtain ⟨q0, q1, q2, q3, q4, q5, q6, q7⟩ := ho.1
  have hch := hc h hlt
  rw [hx] at hch
  have lb := cell_lt hch
  have hlt2 : (h : Int) < Q.length := by omega
  have hz : KeepZ w (w.heap.size + 1) #[.int .i64 R.r0.out, .int .i64 R.r0.total, .int .i64 R.r0.run, .int .i64 R.r0.off] (.slice (some ⟨b, off, none⟩) Q.length cap) Q ((w.alloc (.cells #[.int .i64 R.hours, .int .i64 R.r0.out, .int .i64 R.r0.total, .int .i64 R.r0.run, .int .i64 R.r0.off, .int .i64 R.r1.out, .int .i64 R.r1.total, .int .i64 R.r1.run, .int .i64 R.r1.off] 26)).alloc (.cells #[.int .i64 R.r0.out, .int .i64 R.r0.total, .int .i64 R.r0.run, .int .i64 R.r0.off] 23)) := ⟨below_alloc (below_alloc (Below.refl _ _) _) _, alloc_at (by simp), hq.below (below_via (below_alloc (Below.refl _ _) _) (below_alloc (Below.refl _ _) _))⟩
  have hlen : (Q.take h).length = h := by simp; omega
  have hL0 := lawB_off R (Q.take h) 0
  have b1 := rid_bound 0 (Q.take h)
  have b3 := tailRun_bd 0 (Q.take h)
  have b4 := offOf_bd 0 (Q.take h)
  rw [hlen] at b1 b3 b4 hL0
  have e : R.rider 0 = R.r0 := rfl
  rw [e] at hL0
  have hL := hid hL0
  have c82 := hid (fun w h1 => total_as hx hlt (by omega) (some ⟨b, off, none⟩) cap w h1)
  have c83 := hid (fun w h1 => run_as hx hlt (by omega) (some ⟨b, off, none⟩) cap w h1)
  have c84 := hid (fun w h1 => off_as hx hlt (by omega) (some ⟨b, off, none⟩) cap w h1)
  clear hL0 e hlen hc hq ho hx
  generalize rid 0 (Q.take h) = n1 at *
  generalize tailRun 0 (Q.take h) = n3 at *
  generalize offOf 0 (Q.take h) = n4 at *
  cases hA : hasBit R.r0.out h
  · have c79 := hid (fun w => has_as hA q0 q1 (by omega) (by omega) w)
    have hA' := hid hA
    clear hA
    go_enter Try.func53, Try.ntmps53
    go_upto_region 4 with (go_at_call 79; with_reducible refine (c79.out _).mono ?_; rintro e w1 ⟨rfl, rfl⟩)
    obtain ⟨lz, cz⟩ := cells_of hz.x
    refine wp_region_later (by kernel_rfl) (by kernel_rfl) ?_
    intro hx2
    repeat (any_goals (first | go_big_quiet_step ((go_at_call 82; exact Calls.later_as rfl (c82.out _ (IntsAt.below hz.q (Later.below _)))))))
    refine wpQuiet_nil ?_
    rintro _ ⟨⟨w1, hb1⟩, rfl⟩
    have hz := hz.below hb1
    clear hx2 lz cz hb1
    obtain ⟨lz, cz⟩ := cells_of hz.x
    by_cases h2 : R.r0.total < n1 + 1
    · have hval := hid (show lawB R (Q.take h) 0 = 2 by rw [hL.out]; rw [hA'.out, if_neg (by simp), if_pos h2])
      go_wp2
      go_ret
      exact ⟨ret_int hval.out.symm, hz.bel⟩
    · have d2 : decide (R.r0.total < n1 + 1) = false := by simpa using h2
      have h2' := hid (decide_eq_false_iff_not.1 d2)
      go_upto_region 6 with fail
      refine wp_region_later (by kernel_rfl) (by kernel_rfl) ?_
      intro hx2
      repeat (any_goals (first | go_big_quiet_step ((go_at_call 83; exact Calls.later_as rfl (c83.out _ (IntsAt.below hz.q (Later.below _)))))))
      refine wpQuiet_nil ?_
      rintro _ ⟨⟨w1, hb1⟩, rfl⟩
      have hz := hz.below hb1
      clear hx2 lz cz hb1
      obtain ⟨lz, cz⟩ := cells_of hz.x
      by_cases h3 : R.r0.run < n3 + 1
      · have hval := hid (show lawB R (Q.take h) 0 = 3 by rw [hL.out]; rw [hA'.out, if_neg (by simp), if_neg h2, if_pos h3])
        go_wp2
        go_ret
        exact ⟨ret_int hval.out.symm, hz.bel⟩
      · have d3 : decide (R.r0.run < n3 + 1) = false := by simpa using h3
        by_cases h4 : 0 < n4
        · by_cases h5 : n4 < R.r0.off
          · have hval := hid (show lawB R (Q.take h) 0 = 4 by rw [hL.out]; rw [hA'.out, if_neg (by simp), if_neg h2, if_neg h3, if_pos ⟨h4, h5⟩])
            go_wp2_with (go_at_call 84; with_reducible refine (c84.out _ hz.q).mono ?_; rintro e w1 ⟨rfl, hb1⟩; have hz := hz.below hb1; obtain ⟨lz, cz⟩ := cells_of hz.x)
            go_ret
            exact ⟨ret_int hval.out.symm, hz.bel⟩
          · have d5 : decide (n4 < R.r0.off) = false := by simpa using h5
            have hval := hid (show lawB R (Q.take h) 0 = 0 by rw [hL.out]; rw [hA'.out, if_neg (by simp), if_neg h2, if_neg h3, if_neg (fun h => h5 h.2)])
            go_wp2_with (go_at_call 84; with_reducible refine (c84.out _ hz.q).mono ?_; rintro e w1 ⟨rfl, hb1⟩; have hz := hz.below hb1; obtain ⟨lz, cz⟩ := cells_of hz.x)
            go_ret
            exact ⟨ret_int hval.out.symm, hz.bel⟩
        · have d4 : decide (0 < n4) = false := by simpa using h4
          have hval := hid (show lawB R (Q.take h) 0 = 0 by rw [hL.out]; rw [hA'.out, if_neg (by simp), if_neg h2, if_neg h3, if_neg (fun h => h4 h.1)])
          go_wp2_with (go_at_call 84; with_reducible refine (c84.out _ hz.q).mono ?_; rintro e w1 ⟨rfl, hb1⟩; have hz := hz.below hb1; obtain ⟨lz, cz⟩ := cells_of hz.x)
          go_ret
          exact ⟨ret_int hval.out.symm, hz.bel⟩
  · have c79 := hid (fun w => has_as hA q0 q1 (by omega) (by omega) w)
    have hval := hid (show lawB R (Q.take h) 0 = 1 by rw [hL.out, hA]; rfl)
    clear hA
    go_enter Try.func53, Try.ntmps53
    go_wp2_with (go_at_call 79; with_reducible refine (c79.out _).mono ?_; rintro e w1 ⟨rfl, rfl⟩)
    go_ret
    exact ⟨ret_int hval.out.symm, hz.bel⟩

set_option maxRecDepth 100000 in
set_option maxHeartbeats 4000000 in
theorem refBroken_1 (R : Rest) (hv : R.valid = true) (a : Option Addr) (cap : Nat) (Q : List Int) (h : Nat) (hlt : h < Q.length) (hl : Q.length ≤ 40) (hx : Q.getD h 0 = 1) (w : World) (hq : IntsAt w (.slice a Q.length cap) Q) :
    Calls Try.prog 53 #[restV R, .slice a Q.length cap, .int .i64 h] w fun e w' => e = .returned (.int .i64 (lawB R (Q.take h) 1)) ∧ Below w.heap.size w w' := by
  have ho := Rest.valid_ok hv
  obtain ⟨b, off, rfl, _, hc⟩ := intsAt_cell hq hlt
  obtain ⟨q0, q1, q2, q3, q4, q5, q6, q7⟩ := ho.2
  have hch := hc h hlt
  rw [hx] at hch
  have lb := cell_lt hch
  have hlt2 : (h : Int) < Q.length := by omega
  have hz : KeepZ w (w.heap.size + 1) #[.int .i64 R.r1.out, .int .i64 R.r1.total, .int .i64 R.r1.run, .int .i64 R.r1.off] (.slice (some ⟨b, off, none⟩) Q.length cap) Q ((w.alloc (.cells #[.int .i64 R.hours, .int .i64 R.r0.out, .int .i64 R.r0.total, .int .i64 R.r0.run, .int .i64 R.r0.off, .int .i64 R.r1.out, .int .i64 R.r1.total, .int .i64 R.r1.run, .int .i64 R.r1.off] 26)).alloc (.cells #[.int .i64 R.r1.out, .int .i64 R.r1.total, .int .i64 R.r1.run, .int .i64 R.r1.off] 23)) := ⟨below_alloc (below_alloc (Below.refl _ _) _) _, alloc_at (by simp), hq.below (below_via (below_alloc (Below.refl _ _) _) (below_alloc (Below.refl _ _) _))⟩
  have hlen : (Q.take h).length = h := by simp; omega
  have hL0 := lawB_off R (Q.take h) 1
  have b1 := rid_bound 1 (Q.take h)
  have b3 := tailRun_bd 1 (Q.take h)
  have b4 := offOf_bd 1 (Q.take h)
  rw [hlen] at b1 b3 b4 hL0
  have e : R.rider 1 = R.r1 := rfl
  rw [e] at hL0
  have hL := hid hL0
  have c82 := hid (fun w h1 => total_as hx hlt (by omega) (some ⟨b, off, none⟩) cap w h1)
  have c83 := hid (fun w h1 => run_as hx hlt (by omega) (some ⟨b, off, none⟩) cap w h1)
  have c84 := hid (fun w h1 => off_as hx hlt (by omega) (some ⟨b, off, none⟩) cap w h1)
  clear hL0 e hlen hc hq ho hx
  generalize rid 1 (Q.take h) = n1 at *
  generalize tailRun 1 (Q.take h) = n3 at *
  generalize offOf 1 (Q.take h) = n4 at *
  cases hA : hasBit R.r1.out h
  · have c79 := hid (fun w => has_as hA q0 q1 (by omega) (by omega) w)
    have hA' := hid hA
    clear hA
    go_enter Try.func53, Try.ntmps53
    go_upto_region 4 with (go_at_call 79; with_reducible refine (c79.out _).mono ?_; rintro e w1 ⟨rfl, rfl⟩)
    obtain ⟨lz, cz⟩ := cells_of hz.x
    refine wp_region_later (by kernel_rfl) (by kernel_rfl) ?_
    intro hx2
    repeat (any_goals (first | go_big_quiet_step ((go_at_call 82; exact Calls.later_as rfl (c82.out _ (IntsAt.below hz.q (Later.below _)))))))
    refine wpQuiet_nil ?_
    rintro _ ⟨⟨w1, hb1⟩, rfl⟩
    have hz := hz.below hb1
    clear hx2 lz cz hb1
    obtain ⟨lz, cz⟩ := cells_of hz.x
    by_cases h2 : R.r1.total < n1 + 1
    · have hval := hid (show lawB R (Q.take h) 1 = 2 by rw [hL.out]; rw [hA'.out, if_neg (by simp), if_pos h2])
      go_wp2
      go_ret
      exact ⟨ret_int hval.out.symm, hz.bel⟩
    · have d2 : decide (R.r1.total < n1 + 1) = false := by simpa using h2
      have h2' := hid (decide_eq_false_iff_not.1 d2)
      go_upto_region 6 with fail
      refine wp_region_later (by kernel_rfl) (by kernel_rfl) ?_
      intro hx2
      repeat (any_goals (first | go_big_quiet_step ((go_at_call 83; exact Calls.later_as rfl (c83.out _ (IntsAt.below hz.q (Later.below _)))))))
      refine wpQuiet_nil ?_
      rintro _ ⟨⟨w1, hb1⟩, rfl⟩
      have hz := hz.below hb1
      clear hx2 lz cz hb1
      obtain ⟨lz, cz⟩ := cells_of hz.x
      by_cases h3 : R.r1.run < n3 + 1
      · have hval := hid (show lawB R (Q.take h) 1 = 3 by rw [hL.out]; rw [hA'.out, if_neg (by simp), if_neg h2, if_pos h3])
        go_wp2
        go_ret
        exact ⟨ret_int hval.out.symm, hz.bel⟩
      · have d3 : decide (R.r1.run < n3 + 1) = false := by simpa using h3
        by_cases h4 : 0 < n4
        · by_cases h5 : n4 < R.r1.off
          · have hval := hid (show lawB R (Q.take h) 1 = 4 by rw [hL.out]; rw [hA'.out, if_neg (by simp), if_neg h2, if_neg h3, if_pos ⟨h4, h5⟩])
            go_wp2_with (go_at_call 84; with_reducible refine (c84.out _ hz.q).mono ?_; rintro e w1 ⟨rfl, hb1⟩; have hz := hz.below hb1; obtain ⟨lz, cz⟩ := cells_of hz.x)
            go_ret
            exact ⟨ret_int hval.out.symm, hz.bel⟩
          · have d5 : decide (n4 < R.r1.off) = false := by simpa using h5
            have hval := hid (show lawB R (Q.take h) 1 = 0 by rw [hL.out]; rw [hA'.out, if_neg (by simp), if_neg h2, if_neg h3, if_neg (fun h => h5 h.2)])
            go_wp2_with (go_at_call 84; with_reducible refine (c84.out _ hz.q).mono ?_; rintro e w1 ⟨rfl, hb1⟩; have hz := hz.below hb1; obtain ⟨lz, cz⟩ := cells_of hz.x)
            go_ret
            exact ⟨ret_int hval.out.symm, hz.bel⟩
        · have d4 : decide (0 < n4) = false := by simpa using h4
          have hval := hid (show lawB R (Q.take h) 1 = 0 by rw [hL.out]; rw [hA'.out, if_neg (by simp), if_neg h2, if_neg h3, if_neg (fun h => h4 h.1)])
          go_wp2_with (go_at_call 84; with_reducible refine (c84.out _ hz.q).mono ?_; rintro e w1 ⟨rfl, hb1⟩; have hz := hz.below hb1; obtain ⟨lz, cz⟩ := cells_of hz.x)
          go_ret
          exact ⟨ret_int hval.out.symm, hz.bel⟩
  · have c79 := hid (fun w => has_as hA q0 q1 (by omega) (by omega) w)
    have hval := hid (show lawB R (Q.take h) 1 = 1 by rw [hL.out, hA]; rfl)
    clear hA
    go_enter Try.func53, Try.ntmps53
    go_wp2_with (go_at_call 79; with_reducible refine (c79.out _).mono ?_; rintro e w1 ⟨rfl, rfl⟩)
    go_ret
    exact ⟨ret_int hval.out.symm, hz.bel⟩

theorem refBroken_any (R : Rest) (hv : R.valid = true) (a : Option Addr) (cap : Nat) (Q : List Int) (h : Nat) (hlt : h < Q.length) (hl : Q.length ≤ 40) (hQ : ∀ x, x ∈ Q → x = 0 ∨ x = 1) (w : World) (hq : IntsAt w (.slice a Q.length cap) Q) :
    Calls Try.prog 53 #[restV R, .slice a Q.length cap, .int .i64 h] w fun e w' => e = .returned (.int .i64 (lawB R (Q.take h) (Q.getD h 0))) ∧ Below w.heap.size w w' := by
  rcases getD_two hQ hlt with hx | hx
  · rw [hx]; exact refBroken_0 R hv a cap Q h hlt hl hx w hq
  · rw [hx]; exact refBroken_1 R hv a cap Q h hlt hl hx w hq
theorem refBroken_as {R : Rest} {Q : List Int} {h : Nat} {n : Int} (hn : lawB R (Q.take h) (Q.getD h 0) = n) (hv : R.valid = true) (a : Option Addr) (cap : Nat) (hlt : h < Q.length) (hl : Q.length ≤ 40) (hQ : ∀ x, x ∈ Q → x = 0 ∨ x = 1) (w : World) (hq : IntsAt w (.slice a Q.length cap) Q) :
    Calls Try.prog 53 #[restV R, .slice a Q.length cap, .int .i64 h] w fun e w' => e = .returned (.int .i64 n) ∧ Below w.heap.size w w' := by
  subst hn; exact refBroken_any R hv a cap Q h hlt hl hQ w hq

theorem good_hours {R : Rest} : ∀ (l pre : List Int), (∀ x, x ∈ l → x = 0 ∨ x = 1) → (goodB R (after pre) l = true ↔ ∀ j, j < l.length → broken R ((after (pre ++ l.take j)).next (l.getD j 0)) = 0)
  | [], pre, _ => by simp [goodB]
  | x :: l, pre, h => by
    have hx := h x (by simp)
    have hi : inB x 0 1 = true := by rcases hx with rfl | rfl <;> rfl
    simp only [goodB, hi, Bool.true_and, Bool.and_eq_true, decide_eq_true_eq]
    rw [← after_snoc, good_hours l (pre ++ [x]) (fun y hy => h y (by simp [hy]))]
    constructor
    · rintro ⟨h1, h2⟩ j hj
      cases j with
      | zero => rw [after_snoc] at h1; simpa using h1
      | succ j => simpa using h2 j (by simpa using hj)
    · intro h1
      refine ⟨by have := h1 0 (by simp); rw [after_snoc]; simpa using this, fun j hj => by simpa using h1 (j + 1) (by simpa using hj)⟩

theorem good_law {R : Rest} {Q : List Int} (hQ : ∀ x, x ∈ Q → x = 0 ∨ x = 1) : goodB R St.begin Q = true ↔ ∀ j, j < Q.length → lawB R (Q.take j) (Q.getD j 0) = 0 := by
  rw [show St.begin = after [] from rfl, good_hours Q [] hQ]
  constructor
  · intro h j hj
    rw [lawB_eq R (fun x hx => hQ x (List.mem_of_mem_take hx)) (getD_two hQ hj)]
    simpa using h j hj
  · intro h j hj
    have := h j hj
    rw [lawB_eq R (fun x hx => hQ x (List.mem_of_mem_take hx)) (getD_two hQ hj)] at this
    simpa using this

set_option maxRecDepth 100000 in
set_option maxHeartbeats 2000000 in
theorem refRight_any (R : Rest) (hv : R.valid = true) (a : Option Addr) (cap : Nat) (Q : List Int) (hl : Q.length ≤ 40) (hQ : ∀ x, x ∈ Q → x = 0 ∨ x = 1) (w : World) (hq : IntsAt w (.slice a Q.length cap) Q) :
    Calls Try.prog 89 #[restV R, .slice a Q.length cap] w fun e w' => e = .returned (.bool (goodB R St.begin Q)) ∧ Below w.heap.size w w' := by
  have hk : KeepP w R (.slice a Q.length cap) Q (w.alloc (.cells #[.int .i64 R.hours, .int .i64 R.r0.out, .int .i64 R.r0.total, .int .i64 R.r0.run, .int .i64 R.r0.off, .int .i64 R.r1.out, .int .i64 R.r1.total, .int .i64 R.r1.run, .int .i64 R.r1.off] 26)) := ⟨KeepR.start w R, hq.below (below_alloc (Below.refl _ _) _)⟩
  have hg := hid (good_law (R := R) hQ)
  have hQ' := hid hQ
  have hv' := hid hv
  clear hq hQ hv
  go_enter Try.func89, Try.ntmps89
  go_wp2
  go_loopw [5] (fun i wr => ∃ k : Nat, k ≤ Q.length ∧ i = .int .i64 k ∧ Hid (∀ j, j < k → lawB R (Q.take j) (Q.getD j 0) = 0) ∧ KeepP w R (.slice a Q.length cap) Q wr) (fun i _ => Q.length - (intOf i).toNat)
  case atStart => exact ⟨0, by omega, rfl, hid (fun j hj => by omega), hk⟩
  case round =>
    obtain ⟨k, hkk, rfl, hz, hk⟩ := hrel
    obtain ⟨lx, cx⟩ := cells_of hk.r.x
    by_cases hlt : k < Q.length
    · cases hb : (lawB R (Q.take k) (Q.getD k 0) == 0)
      · obtain ⟨n, hn⟩ : ∃ n, n = lawB R (Q.take k) (Q.getD k 0) := ⟨_, rfl⟩
        have hval := hid (show goodB R St.begin Q = false by
          cases h : goodB R St.begin Q
          · rfl
          · have := hg.out.1 h k hlt
            rw [this] at hb; cases hb)
        have hn0 : (n != 0) = true := by rw [hn]; simpa using hb
        have c53 := hid (fun w h1 => refBroken_as hn.symm hv'.out a cap hlt hl hQ'.out w h1)
        clear hb hn
        go_wp2_with (go_at_call 53; with_reducible refine (c53.out _ hk.p).mono ?_; rintro e w1 ⟨rfl, hb1⟩; have hk := hk.below hb1; obtain ⟨lx, cx⟩ := cells_of hk.r.x)
        go_ret
        exact ⟨by rw [hval.out]; rfl, hk.r.bel⟩
      · have hn : lawB R (Q.take k) (Q.getD k 0) = 0 := by simpa using hb
        have hz2 := hid (show ∀ j, j < k + 1 → lawB R (Q.take j) (Q.getD j 0) = 0 from fun j hj => by
          by_cases e : j = k
          · subst e; exact hn
          · exact hz.out j (by omega))
        have c53 := hid (fun w h1 => refBroken_as hn hv'.out a cap hlt hl hQ'.out w h1)
        clear hb hn
        go_wp2_with (go_at_call 53; with_reducible refine (c53.out _ hk.p).mono ?_; rintro e w1 ⟨rfl, hb1⟩; have hk := hk.below hb1; obtain ⟨lx, cx⟩ := cells_of hk.r.x)
        go_roundw
        case rel => exact ⟨k + 1, by omega, by go_num, hz2, hk⟩
        case measure => simp [intOf]; omega
    · obtain rfl : k = Q.length := by omega
      have hval := hid (show goodB R St.begin Q = true from hg.out.2 hz.out)
      go_wp2
      go_ret
      exact ⟨by rw [hval.out]; rfl, hk.r.bel⟩

end Go.Proofs.Ytkgdejhooghknaa

namespace Go.Proofs.Ytkgdejhooghknaa
open Go.RowKit Go.Lap Go.Shelf

/-- All right plans that go on from some hours, for so many hours more. -/
def allL (R : Rest) (m : Nat) (bg : List Int) : List (List Int) := if goodB R St.begin bg then (rightL R m (after bg)).map (bg ++ ·) else []

theorem good_snoc {R : Rest} {bg : List Int} (_ : ∀ x, x ∈ bg → x = 0 ∨ x = 1) {x : Int} (hx : x = 0 ∨ x = 1) : goodB R St.begin (bg ++ [x]) = (goodB R St.begin bg && (broken R ((after bg).next x) == 0)) := by
  have key : ∀ (l : List Int) (s : St), goodB R s (l ++ [x]) = (goodB R s l && (broken R ((l.foldl St.next s).next x) == 0)) := by
    intro l
    induction l with
    | nil =>
      intro s
      have hi : inB x 0 1 = true := by rcases hx with rfl | rfl <;> rfl
      simp only [List.nil_append, goodB, hi, Bool.true_and, Bool.and_true, List.foldl_nil]
      rw [Bool.eq_iff_iff]; simp
    | cons y l ih =>
      intro s
      simp only [List.cons_append, goodB, ih, List.foldl_cons]
      rw [Bool.eq_iff_iff]
      simp only [Bool.and_eq_true, decide_eq_true_eq, and_assoc, beq_iff_eq]
  exact key bg St.begin

theorem allL_bad {R : Rest} {m : Nat} {bg : List Int} (h : goodB R St.begin bg = false) : allL R m bg = [] := by simp [allL, h]
theorem allL_zero {R : Rest} {bg : List Int} (h : goodB R St.begin bg = true) : allL R 0 bg = [bg] := by simp [allL, h, rightL]
theorem allL_succ {R : Rest} {m : Nat} {bg : List Int} (hb : ∀ x, x ∈ bg → x = 0 ∨ x = 1) (h : goodB R St.begin bg = true) : allL R (m + 1) bg = allL R m (bg ++ [0]) ++ allL R m (bg ++ [1]) := by
  unfold allL
  rw [h, good_snoc hb (.inl rfl), good_snoc hb (.inr rfl), h, after_snoc, after_snoc]
  simp only [if_true, Bool.true_and, beq_iff_eq, rightL, flatMap_steps, List.map_append]
  congr 1
  · by_cases h0 : broken R ((after bg).next 0) = 0
    · rw [if_pos h0, if_pos h0, List.map_map]
      congr 1; funext l; simp
    · rw [if_neg h0, if_neg h0]; rfl
  · by_cases h1 : broken R ((after bg).next 1) = 0
    · rw [if_pos h1, if_pos h1, List.map_map]
      congr 1; funext l; simp
    · rw [if_neg h1, if_neg h1]; rfl
theorem allL_all (R : Rest) (n : Nat) : allL R n [] = rightL R n St.begin := by
  unfold allL
  have : goodB R St.begin [] = true := rfl
  rw [this]
  simp [after]

/-- What lies outside of blocks of slices lies as it lay. -/
structure Kept (w w' : World) : Prop where
  size : w.heap.size ≤ w'.heap.size
  blk : ∀ (k : Nat) (o : Obj), w.heap[k]? = some o → (∀ c f, o ≠ Obj.cells c 27 f) → w'.heap[k]? = some o
theorem Kept.refl (w : World) : Kept w w := ⟨Nat.le_refl _, fun _ _ h _ => h⟩
theorem Kept.trans {a b c : World} (h : Kept a b) (k : Kept b c) : Kept a c := ⟨Nat.le_trans h.size k.size, fun i o hi ho => k.blk i o (h.blk i o hi ho) ho⟩
theorem Kept.of {w w' : World} (h : Below w.heap.size w w') : Kept w w' := ⟨h.size, fun k o hk _ => (h.block k (by have := (Array.getElem?_eq_some_iff.1 hk).1; exact this)).trans hk⟩

theorem OwnRow.kept {B : Nat} {w w' : World} {v : Value} {xs : List Int} (h : OwnRow B w v xs) (hk : Kept w w') : OwnRow B w' v xs := by
  refine ⟨h.1, ?_⟩
  rcases h.2 with hn | ⟨g, cap, cur, rfl, hg0, hg, rest⟩
  · exact .inl hn
  · exact .inr ⟨g, cap, cur, rfl, hg0, hk.blk g _ hg (fun c f e => by cases e), rest⟩
theorem OwnRow.low {B C : Nat} {w : World} {v : Value} {xs : List Int} (h : OwnRow B w v xs) (hc : C ≤ B) : OwnRow C w v xs := by
  refine ⟨h.1, ?_⟩
  rcases h.2 with hn | ⟨g, cap, cur, rfl, hg0, hg, rest⟩
  · exact .inl hn
  · exact .inr ⟨g, cap, cur, rfl, by omega, hg, rest⟩

/-- A slice of slices of integers, of the call's own. -/
def PlanRows (B : Nat) (w : World) (v : Value) (L : List (List Int)) : Prop :=
  ∃ vs : List Value, vs.length = L.length ∧ w.ownsRow B 27 1 v L.length vs ∧ ∀ (i : Nat) (u : Value) (xs : List Int), vs[i]? = some u → L[i]? = some xs → OwnRow 0 w u xs

theorem PlanRows.nil (B : Nat) (w : World) : PlanRows B w (.slice none 0 0) [] := ⟨[], rfl, World.ownsRow_nil _ _ _ _, fun i u xs h => by simp at h⟩
theorem ownsRow_below {B e size n : Nat} {W W' : World} {v : Value} {xs : List Value} (h : W.ownsRow B e size v n xs) (hb : Below W.heap.size W W') : W'.ownsRow B e size v n xs := by
  refine ⟨h.1, ?_⟩
  rcases h.2 with hn | ⟨g, cap, cur, rfl, hg0, hg, rest⟩
  · exact .inl hn
  · exact .inr ⟨g, cap, cur, rfl, hg0, (hb.block g (cells_of hg).1).trans hg, rest⟩
theorem PlanRows.below {B : Nat} {W W' : World} {v : Value} {L : List (List Int)} (h : PlanRows B W v L) (hb : Below W.heap.size W W') : PlanRows B W' v L := by
  obtain ⟨vs, h1, h2, h3⟩ := h
  exact ⟨vs, h1, ownsRow_below h2 hb, fun i u xs hu hx => (h3 i u xs hu hx).below hb⟩

theorem info27 : (Try.prog.info? 27).map (fun i => (i.zero, i.size, i.bytes)) = some (some (.slice none 0 0), 1, 24) := by kernel_rfl

/-- One plan more behind a list of plans. -/
theorem wpList_append_plan {w : World} {ops : Array Oper} {rest : List Oper} {o : Oper} {a : Act} {Q : Exit → Act → World → Prop} (hgd : o.guard = none) (s x : Operand)
    (ho : o.op = .call { callee := .builtin .append, args := #[s, x], argTypes := #[48, 48] }) (B : Nat) (v u : Value) (L : List (List Int)) (xs : List Int) (hs : a.eval s = v) (hrow : PlanRows B w v L) (hu : OwnRow 0 w u xs)
    (ad : Addr) (c : Nat) (hx : a.eval x = .slice (some ad) 1 c) (hc : w.cell? (ad.add 0) = some u) (hlen : L.length + 1 ≤ 1000000) (hB : B ≤ w.heap.size)
    (h : ∀ v' w', PlanRows B w' v' (L ++ [xs]) → Below B w w' → Kept w w' → wpList Try.prog ops Q rest (a.put o.dst v') w') : wpList Try.prog ops Q (o :: rest) a w := by
  obtain ⟨i0, hi, hz0, hz1, hz2⟩ := info_parts info27
  obtain ⟨vs, h1, h2, h3⟩ := hrow
  have hone : u.oneCell' = true := by
    rcases hu.2 with ⟨rfl, _⟩ | ⟨_, _, _, rfl, _⟩ <;> rfl
  refine wpList_append_own _ hgd s x 48 ho B 27 i0 (.slice none 0 0) 1 24 Try.underlying48 hi hz0 hz1 hz2 rfl (by decide) v L.length vs hs h2 ad 1 c [u] hx rfl ?_ ?_ (by unfold maxLen; omega) (by omega) hB ?_
  · intro j y hj
    match j, hj with
    | 0, hj =>
      obtain rfl : u = y := by simpa using hj
      exact hc
  · intro y hy
    obtain rfl : y = u := by simpa using hy
    exact hone
  · intro v' w' hown' hg _
    have hbel : Below B w w' := ⟨hg.os, hg.tape, hg.output, hg.size, fun k hk => hg.block k (by omega) (fun e => by have := h2.lt k e.symm; omega)⟩
    have hkept : Kept w w' := by
      refine ⟨hg.size, fun k p hk hp => ?_⟩
      refine (hg.block k (Array.getElem?_eq_some_iff.1 hk).1 (fun e => ?_)).trans hk
      rcases h2.2 with ⟨rfl, _⟩ | ⟨g, cap, cur, rfl, _, hgg, _⟩
      · cases e
      · have : k = g := by simpa [Value.ownBlock] using e
        subst this
        rw [hgg] at hk
        exact hp cur (0, 0) (Option.some.inj hk).symm
    refine h v' w' ⟨vs ++ [u], by simp [h1], by simpa using hown', fun i y ys hy hys => ?_⟩ hbel hkept
    rw [List.getElem?_append] at hy hys
    rw [h1] at hy
    split at hys
    · rename_i hlt
      rw [if_pos hlt] at hy
      exact (h3 i y ys hy hys).kept hkept
    · rename_i hge
      rw [if_neg hge] at hy
      have h0 : i - L.length = 0 := by
        have := (List.getElem?_eq_some_iff.1 hy).1
        simp at this; omega
      rw [h0] at hy hys
      simp at hy hys
      subst hy hys
      exact hu.kept hkept

/-- As a step of a region that draws its order: integers behind a row of the call's own. -/
theorem step_append_ints {w : World} {ops : Array Oper} {o : Oper} {a : Act} {K : Act → World → Prop} {Q : Exit → Act → World → Prop} {E : Prop} (hgd : o.guard = none) (s x : Operand)
    (ho : o.op = .call { callee := .builtin .append, args := #[s, x], argTypes := #[27, 27] }) (B : Nat) (v : Value) (xs ys : List Int) (hs : a.eval s = v) (hown : OwnRow B w v xs)
    (ad : Addr) (m c : Nat) (hx : a.eval x = .slice (some ad) m c) (hm : ys.length = m) (hys : ∀ j, j < ys.length → w.cell? (ad.add j) = some (.int .i64 (ys.getD j 0))) (hpos : 0 < m) (hlen : xs.length + ys.length ≤ 1000) (hB : B ≤ w.heap.size)
    (h : ∀ v' w', OwnRow B w' v' (xs ++ ys) → w.grownBy w' v.ownBlock → K (a.put o.dst v') w') : if Region.wanted o (yielded ops a.tmps) = true then Oper.wp Try.prog o a w K Q else E := by
  obtain ⟨i0, hi3, hz0, hz1, hz2⟩ := info_parts info3
  subst hm
  refine step_append_lies w hgd s x 27 ho B 3 i0 (.int .i64 0) 1 8 Try.underlying27 hi3 hz0 hz1 hz2 rfl (by decide) v xs.length (xs.map (Value.int .i64)) hs hown ad ys.length c (ys.map (Value.int .i64)) hx (by simp) ?_ ?_ hpos (by unfold maxLen; omega) (by omega) hB w.heap.size rfl ?_
  · intro j u hj
    have hj2 : j < ys.length := by
      have := (List.getElem?_eq_some_iff.1 hj).1
      simpa using this
    rw [hys j hj2]
    simpa [hj2] using hj
  · intro u hu
    obtain ⟨y, _, rfl⟩ := List.mem_map.1 hu
    rfl
  · intro g cap w' hown' hg _ _
    refine h _ w' ?_ hg
    show w'.ownsRow B 3 1 _ (xs ++ ys).length ((xs ++ ys).map (Value.int .i64))
    rw [List.length_append, List.map_append]
    exact hown'

end Go.Proofs.Ytkgdejhooghknaa

namespace Go.Proofs.Ytkgdejhooghknaa
open Go.RowKit Go.Lap Go.Shelf
attribute [local go_sem] Oper.semAt_some

theorem right_is {R : Rest} {Q : List Int} {g : Bool} (hg : goodB R St.begin Q = g) (hv : R.valid = true) (hl : Q.length ≤ 40) (hQ : ∀ x, x ∈ Q → x = 0 ∨ x = 1) (a : Option Addr) (cap : Nat) (w : World) (hq : IntsAt w (.slice a Q.length cap) Q) :
    Calls Try.prog 89 #[restV R, .slice a Q.length cap] w fun e w' => e = .returned (.bool g) ∧ Below w.heap.size w w' := by
  subst hg; exact refRight_any R hv a cap Q hl hQ w hq
/-- What a call of 'All' comes to. -/
def AllPost (R : Rest) (B m : Nat) (bg : List Int) (L : List (List Int)) (w : World) (e : Ending) (w' : World) : Prop := ∃ ov', e = .returned ov' ∧ PlanRows B w' ov' (L ++ allL R m bg) ∧ Below B w w' ∧ Kept w w'
set_option maxRecDepth 100000 in
set_option maxHeartbeats 2000000 in
theorem refAll_bad (R : Rest) (hv : R.valid = true) (n : Nat) (hn : n ≤ 16) (B : Nat) (m : Nat) (bg : List Int) (a : Option Addr) (cap : Nat) (ov : Value) (L : List (List Int)) (w : World) (hlen : bg.length + m = n) (hb : ∀ x, x ∈ bg → x = 0 ∨ x = 1) (hq : OwnRow 0 w (.slice a bg.length cap) bg) (hr : PlanRows B w ov L) (hB : B ≤ w.heap.size) (hg : goodB R St.begin bg = false) :
    Calls Try.prog 57 #[restV R, .int .i64 n, .slice a bg.length cap, ov] w (AllPost R B m bg L w) := by
  have hbl : bg.length ≤ 16 := by omega
  have hx0 := hid (KeepR.start w R)
  have hbw : Below w.heap.size w (w.alloc (.cells #[.int .i64 R.hours, .int .i64 R.r0.out, .int .i64 R.r0.total, .int .i64 R.r0.run, .int .i64 R.r0.off, .int .i64 R.r1.out, .int .i64 R.r1.total, .int .i64 R.r1.run, .int .i64 R.r1.off] 26)) := below_alloc (Below.refl _ _) _
  have hq0 := hid (OwnRow.below hq hbw)
  have hr0 := hid (PlanRows.below hr hbw)
  have hB0 : B ≤ ((w.alloc (.cells #[.int .i64 R.hours, .int .i64 R.r0.out, .int .i64 R.r0.total, .int .i64 R.r0.run, .int .i64 R.r0.off, .int .i64 R.r1.out, .int .i64 R.r1.total, .int .i64 R.r1.run, .int .i64 R.r1.off] 26))).heap.size := by simp; omega
  have hbB := hid (show Below B w (w.alloc (.cells #[.int .i64 R.hours, .int .i64 R.r0.out, .int .i64 R.r0.total, .int .i64 R.r0.run, .int .i64 R.r0.off, .int .i64 R.r1.out, .int .i64 R.r1.total, .int .i64 R.r1.run, .int .i64 R.r1.off] 26)) from hbw.mono hB)
  have hkw := hid (Kept.of hbw)
  clear hbw
  have c89 := hid (fun w h => right_is hg hv (by omega) hb a cap w h)
  have hall := hid (allL_bad (m := m) hg)
  clear hg hv hb hq hr hlen
  go_enter Try.func57, Try.ntmps57
  go_wp2_with (go_at_call 89; with_reducible refine (c89.out _ (OwnRow.ints hq0.out)).mono ?_; rintro e w1 ⟨rfl, hb1⟩; have hx0 := hid (hx0.out.below hb1); have hq0 := hid (OwnRow.below hq0.out hb1); have hr0 := hid (PlanRows.below hr0.out hb1); have hbB := hid (Below.trans hbB.out (hb1.mono hB0)); have hkw := hid (Kept.trans hkw.out (Kept.of hb1)); obtain ⟨lx, cx⟩ := cells_of hx0.out.x; have hB1 : B ≤ w1.heap.size := Nat.le_trans hB0 hb1.size)
  go_ret
  exact ⟨_, rfl, by rw [hall.out, List.append_nil]; exact hr0.out, hbB.out, hkw.out⟩

set_option maxRecDepth 100000 in
set_option maxHeartbeats 2000000 in
theorem refAll_zero (R : Rest) (hv : R.valid = true) (n : Nat) (hn : n ≤ 16) (B : Nat) (bg : List Int) (a : Option Addr) (cap : Nat) (ov : Value) (L : List (List Int)) (w : World) (hlen : bg.length + 0 = n) (hb : ∀ x, x ∈ bg → x = 0 ∨ x = 1) (hq : OwnRow 0 w (.slice a bg.length cap) bg) (hr : PlanRows B w ov L) (hB : B ≤ w.heap.size) (hL : L.length ≤ 900000) (hg : goodB R St.begin bg = true) :
    Calls Try.prog 57 #[restV R, .int .i64 n, .slice a bg.length cap, ov] w (AllPost R B 0 bg L w) := by
  have hbl : bg.length ≤ 16 := by omega
  have hx0 := hid (KeepR.start w R)
  have hbw : Below w.heap.size w (w.alloc (.cells #[.int .i64 R.hours, .int .i64 R.r0.out, .int .i64 R.r0.total, .int .i64 R.r0.run, .int .i64 R.r0.off, .int .i64 R.r1.out, .int .i64 R.r1.total, .int .i64 R.r1.run, .int .i64 R.r1.off] 26)) := below_alloc (Below.refl _ _) _
  have hq0 := hid (OwnRow.below hq hbw)
  have hr0 := hid (PlanRows.below hr hbw)
  have hB0 : B ≤ ((w.alloc (.cells #[.int .i64 R.hours, .int .i64 R.r0.out, .int .i64 R.r0.total, .int .i64 R.r0.run, .int .i64 R.r0.off, .int .i64 R.r1.out, .int .i64 R.r1.total, .int .i64 R.r1.run, .int .i64 R.r1.off] 26))).heap.size := by simp; omega
  have hbB := hid (show Below B w (w.alloc (.cells #[.int .i64 R.hours, .int .i64 R.r0.out, .int .i64 R.r0.total, .int .i64 R.r0.run, .int .i64 R.r0.off, .int .i64 R.r1.out, .int .i64 R.r1.total, .int .i64 R.r1.run, .int .i64 R.r1.off] 26)) from hbw.mono hB)
  have hkw := hid (Kept.of hbw)
  clear hbw
  have c89 := hid (fun w h => right_is hg hv (by omega) hb a cap w h)
  have hall := hid (allL_zero hg)
  have hnl : ((bg.length : Int) == (n : Int)) = true := by simp; omega
  clear hg hv hb hq hr hlen
  go_enter Try.func57, Try.ntmps57
  go_upto_region 4 with (go_at_call 89; with_reducible refine (c89.out _ (OwnRow.ints hq0.out)).mono ?_; rintro e w1 ⟨rfl, hb1⟩; have hx0 := hid (hx0.out.below hb1); have hq0 := hid (OwnRow.below hq0.out hb1); have hr0 := hid (PlanRows.below hr0.out hb1); have hbB := hid (Below.trans hbB.out (hb1.mono hB0)); have hkw := hid (Kept.trans hkw.out (Kept.of hb1)); obtain ⟨lx, cx⟩ := cells_of hx0.out.x; have hB1 : B ≤ w1.heap.size := Nat.le_trans hB0 hb1.size)
  have hbx : Below w1.heap.size w1 (w1.alloc (.cells #[.slice a bg.length cap] 27)) := below_alloc (Below.refl _ _) _
  have hr2 := hid (PlanRows.below hr0.out hbx)
  have hq2 := hid (OwnRow.below hq0.out hbx)
  have hB2 : B ≤ (w1.alloc (.cells #[.slice a bg.length cap] 27)).heap.size := by simp; omega
  have hcell : (w1.alloc (.cells #[.slice a bg.length cap] 27)).cell? ((⟨w1.heap.size, 0, none⟩ : Addr).add 0) = some (.slice a bg.length cap) := by
    rw [addr_add, World.cell?_alloc_at _ _ _ _ rfl]; rfl
  have hcell' := hid hcell
  have hlL : L.length + 1 ≤ 1000000 := by omega
  clear hcell
  go_wp2_with (at_builtin; refine wpList_append_plan rfl _ _ rfl B ov _ L bg rfl hr2.out hq2.out ⟨w1.heap.size, 0, none⟩ 1 rfl hcell'.out hlL hB2 ?_)
  intro v' w2 hr3 hb3 hk3
  have hr3' := hid hr3
  clear hr3
  go_wp2
  go_ret
  exact ⟨_, rfl, by rw [hall.out]; exact hr3'.out, Below.trans hbB.out (Below.trans (hbx.mono hB1) hb3), Kept.trans hkw.out (Kept.trans (Kept.of hbx) hk3)⟩

end Go.Proofs.Ytkgdejhooghknaa

namespace Go.Proofs.Ytkgdejhooghknaa
open Go.RowKit Go.Lap Go.Shelf
attribute [local go_sem] Oper.semAt_some

theorem size_le_alloc (w : World) (o : Obj) : w.heap.size ≤ (w.alloc o).heap.size := by simp
theorem OwnRow.drew {B : Nat} {w : World} {v : Value} {xs : List Int} (h : OwnRow B w v xs) : OwnRow B w.drew v xs := h
theorem ownRow_zero_at {B g : Nat} {w : World} (hB : B ≤ w.heap.size) (hg : g = w.heap.size) : OwnRow B (w.alloc (.cells #[] 3)) (.slice (some ⟨g, 0, none⟩) 0 0) [] := by subst hg; exact ownRow_zero hB
theorem own_src {W W' : World} {g n c : Nat} {xs : List Int} (h : OwnRow 0 W (.slice (some ⟨g, 0, none⟩) n c) xs) (hb : Below W.heap.size W W') : ∀ j, j < xs.length → W'.cell? ((⟨g, 0, none⟩ : Addr).add j) = some (.int .i64 (xs.getD j 0)) := by
  intro j hj
  have := (OwnRow.below h hb).cells (g := g) rfl j (.int .i64 (xs.getD j 0)) (by simp [hj])
  exact this
theorem one_src_at {W : World} {g : Nat} {x : Int} (h : W.heap[g]? = some (.cells #[.int .i64 x] 3 (0, 0))) : ∀ j, j < [x].length → W.cell? ((⟨g, 0, none⟩ : Addr).add j) = some (.int .i64 ([x].getD j 0)) := by
  intro j hj
  obtain rfl : j = 0 := by simpa using hj
  rw [addr_add, (cells_of h).2]; rfl
theorem grown_own {B : Nat} {w w' : World} {v : Value} {xs : List Int} (h : OwnRow B w v xs) (hg : w.grownBy w' v.ownBlock) (hB : B ≤ w.heap.size) : Below B w w' := grown_below h hg hB
theorem grown_far {w w' : World} {g n c k : Nat} {o : Obj} (hg : w.grownBy w' (Value.slice (some ⟨g, 0, none⟩) n c).ownBlock) (hk : w.heap[k]? = some o) (hne : k ≠ g) : w'.heap[k]? = some o :=
  (hg.block k (Array.getElem?_eq_some_iff.1 hk).1 (fun e => hne (by simpa [Value.ownBlock] using e))).trans hk

/-- What is told of the first so many riders. -/
def partL (R : Rest) (m : Nat) (bg : List Int) (k : Nat) : List (List Int) := (List.range k).flatMap fun (x : Nat) => allL R m (bg ++ [(x : Int)])
theorem partL_succ (R : Rest) (m : Nat) (bg : List Int) (k : Nat) : partL R m bg (k + 1) = partL R m bg k ++ allL R m (bg ++ [(k : Int)]) := by simp [partL, List.range_succ]
theorem partL_two {R : Rest} {m : Nat} {bg : List Int} (hb : ∀ x, x ∈ bg → x = 0 ∨ x = 1) (h : goodB R St.begin bg = true) : partL R m bg 2 = allL R (m + 1) bg := by
  rw [allL_succ hb h]; simp [partL, List.range_succ]
theorem allL_len (R : Rest) (m : Nat) (bg : List Int) : (allL R m bg).length ≤ 2 ^ m := by
  unfold allL; split
  · rw [List.length_map]; exact length_rightL R m _
  · exact Nat.zero_le _
theorem part_next {B : Nat} {w : World} {v : Value} {R : Rest} {m k : Nat} {bg : List Int} {L : List (List Int)} (h : PlanRows B w v (L ++ partL R m bg k ++ allL R m (bg ++ [(k : Int)]))) : PlanRows B w v (L ++ partL R m bg (k + 1)) := by
  rw [partL_succ, ← List.append_assoc]; exact h

theorem partL_len (R : Rest) (m : Nat) (bg : List Int) : ∀ k, (partL R m bg k).length ≤ k * 2 ^ m
  | 0 => by simp [partL]
  | k + 1 => by
    rw [partL_succ, List.length_append, Nat.succ_mul]
    have := partL_len R m bg k
    have := allL_len R m (bg ++ [(k : Int)])
    omega

set_option maxRecDepth 100000 in
set_option maxHeartbeats 8000000 in
theorem refAll_succ (R : Rest) (hv : R.valid = true) (n : Nat) (hn : n ≤ 16) (B m : Nat) (gb : Nat) (bg : List Int) (cap : Nat) (ov : Value) (L : List (List Int)) (w : World) (hlen : bg.length + (m + 1) = n) (hpos : 0 < bg.length) (hb : ∀ x, x ∈ bg → x = 0 ∨ x = 1) (hq : OwnRow 0 w (.slice (some ⟨gb, 0, none⟩) bg.length cap) bg) (hr : PlanRows B w ov L) (hB : B ≤ w.heap.size) (hL : L.length + 2 ^ (m + 1) ≤ 900000) (hg : goodB R St.begin bg = true)
    (IH : ∀ (x : Int) (cv ov : Value) (L : List (List Int)) (w : World), (x = 0 ∨ x = 1) → OwnRow 0 w cv (bg ++ [x]) → PlanRows B w ov L → B ≤ w.heap.size → L.length + 2 ^ m ≤ 900000 → Calls Try.prog 57 #[restV R, .int .i64 n, cv, ov] w (AllPost R B m (bg ++ [x]) L w)) :
    Calls Try.prog 57 #[restV R, .int .i64 n, .slice (some ⟨gb, 0, none⟩) bg.length cap, ov] w (AllPost R B (m + 1) bg L w) := by
  have hbl : bg.length ≤ 16 := by omega
  have hx0 := hid (KeepR.start w R)
  have hbw : Below w.heap.size w (w.alloc (.cells #[.int .i64 R.hours, .int .i64 R.r0.out, .int .i64 R.r0.total, .int .i64 R.r0.run, .int .i64 R.r0.off, .int .i64 R.r1.out, .int .i64 R.r1.total, .int .i64 R.r1.run, .int .i64 R.r1.off] 26)) := below_alloc (Below.refl _ _) _
  have hq0 := hid (OwnRow.below hq hbw)
  have hr0 := hid (PlanRows.below hr hbw)
  have hB0 : B ≤ ((w.alloc (.cells #[.int .i64 R.hours, .int .i64 R.r0.out, .int .i64 R.r0.total, .int .i64 R.r0.run, .int .i64 R.r0.off, .int .i64 R.r1.out, .int .i64 R.r1.total, .int .i64 R.r1.run, .int .i64 R.r1.off] 26))).heap.size := by simp; omega
  have hbB := hid (show Below B w (w.alloc (.cells #[.int .i64 R.hours, .int .i64 R.r0.out, .int .i64 R.r0.total, .int .i64 R.r0.run, .int .i64 R.r0.off, .int .i64 R.r1.out, .int .i64 R.r1.total, .int .i64 R.r1.run, .int .i64 R.r1.off] 26)) from hbw.mono hB)
  have hkw := hid (Kept.of hbw)
  clear hbw
  have c89 := hid (fun w h => right_is hg hv (by omega) hb (some ⟨gb, 0, none⟩) cap w h)
  have hall := hid (partL_two (m := m) hb hg)
  have hnl : ((bg.length : Int) == (n : Int)) = false := by simp; omega
  have IH' := hid IH
  have hL' := hid hL
  clear hg hv hb hq hr hlen IH hL
  go_enter Try.func57, Try.ntmps57
  go_wp2_with (go_at_call 89; with_reducible refine (c89.out _ (OwnRow.ints hq0.out)).mono ?_; rintro e w1 ⟨rfl, hb1⟩; have hx0 := hid (hx0.out.below hb1); have hq0 := hid (OwnRow.below hq0.out hb1); have hr0 := hid (PlanRows.below hr0.out hb1); have hbB := hid (Below.trans hbB.out (hb1.mono hB0)); have hkw := hid (Kept.trans hkw.out (Kept.of hb1)); obtain ⟨lx, cx⟩ := cells_of hx0.out.x; have hB1 : B ≤ w1.heap.size := Nat.le_trans hB0 hb1.size)
  have hx1 := hid hx0.out.x
  clear hx0 lx cx
  go_loopw [3, 9] (fun ov' i wr => ∃ k : Nat, k ≤ 2 ∧ i = .int .i64 k ∧ Hid (PlanRows B wr ov' (L ++ partL R m bg k)) ∧ Hid (Below B w wr) ∧ Hid (Kept w wr) ∧ B ≤ wr.heap.size ∧ Hid (OwnRow 0 wr (.slice (some ⟨gb, 0, none⟩) bg.length cap) bg) ∧ Hid (wr.heap[w.heap.size]? = some (.cells #[.int .i64 R.hours, .int .i64 R.r0.out, .int .i64 R.r0.total, .int .i64 R.r0.run, .int .i64 R.r0.off, .int .i64 R.r1.out, .int .i64 R.r1.total, .int .i64 R.r1.run, .int .i64 R.r1.off] 26 (0, 0)))) (fun _ i _ => 2 - (intOf i).toNat)
  case atStart => exact ⟨0, by omega, rfl, by simpa [partL] using hr0, hbB, hkw, hB1, hq0, hx1⟩
  case round =>
    obtain ⟨k, hk, rfl, hr, hbl, hkp, hBr, hq, hx⟩ := hrel
    by_cases hlt : k < 2
    · have hk01 : ((k : Nat) : Int) = 0 ∨ ((k : Nat) : Int) = 1 := by omega
      obtain ⟨lx, cx⟩ := cells_of hx.out
      have hsrc := hid (fun (W' : World) (h : Below wr.heap.size wr W') => own_src hq.out h)
      have hsk := hid (fun (W' : World) (h : Below wr.heap.size wr W') => (cells_of ((h.block _ (cells_of hx.out).1).trans hx.out)).2)
      have hsz : ([] : List Int).length + bg.length ≤ 1000 := by simp; omega
      have hsz2 : bg.length + [((k : Nat) : Int)].length ≤ 1000 := by simp; omega
      have hLk : (L ++ partL R m bg k).length + 2 ^ m ≤ 900000 := by
        have h1 := hL'.out
        have h2 : (partL R m bg k).length ≤ k * 2 ^ m := partL_len R m bg k
        have h3 : k * 2 ^ m ≤ 1 * 2 ^ m := Nat.mul_le_mul_right _ (by omega)
        rw [List.length_append]
        rw [Nat.pow_succ] at h1; omega
      go_upto_region 8 with fail
      go_region_held3 (fun w' => ∀ o, w'.cell? ⟨w.heap.size, o, none⟩ = #[.int .i64 R.hours, .int .i64 R.r0.out, .int .i64 R.r0.total, .int .i64 R.r0.run, .int .i64 R.r0.off, .int .i64 R.r1.out, .int .i64 R.r1.total, .int .i64 R.r1.run, .int .i64 R.r1.off][o]?) (first | exact hsk.out _ (Below.refl _ _).drew | exact hsk.out _ (Below.refl _ _) | exact hsk.out _ (below_alloc (Below.refl _ _) _).drew | exact hsk.out _ (below_alloc (below_alloc (Below.refl _ _) _) _).drew | exact hs3 | exact hsk.out _ hbb | exact hsk.out _ (hba.alloc hba.size _) | exact hsk.out _ hba) (first
        | (refine step_append_ints (by rfl) _ _ (by rfl) wr.heap.size (.slice (some ⟨wr.heap.size, 0, none⟩) 0 0) [] bg (by rfl) (OwnRow.drew (ownRow_zero (w := wr) (Nat.le_refl _))) ⟨gb, 0, none⟩ bg.length cap (by rfl) rfl (hsrc.out _ (below_alloc (Below.refl _ _) _).drew) hpos hsz (size_le_alloc _ _) ?_; intro v1 wa hown1 hgrow1; have hba := Below.trans (below_alloc (Below.refl wr.heap.size wr) (.cells #[] 3)).drew (grown_below (OwnRow.drew (ownRow_zero (w := wr) (Nat.le_refl _))) hgrow1 (size_le_alloc _ _)))
        | (refine step_append_ints (by rfl) _ _ (by rfl) wr.heap.size (.slice (some ⟨wr.heap.size, 0, none⟩) 0 0) [] bg (by rfl) (OwnRow.drew (OwnRow.below (ownRow_zero (w := wr) (Nat.le_refl _)) (below_alloc (Below.refl _ _) (.cells #[.int .i64 k] 3)))) ⟨gb, 0, none⟩ bg.length cap (by rfl) rfl (hsrc.out _ (below_alloc (below_alloc (Below.refl _ _) _) _).drew) hpos hsz (Nat.le_trans (size_le_alloc _ _) (size_le_alloc _ _)) ?_; intro v1 wa hown1 hgrow1; have hba := Below.trans (below_alloc (below_alloc (Below.refl wr.heap.size wr) (.cells #[] 3)) (.cells #[.int .i64 k] 3)).drew (grown_below (OwnRow.drew (OwnRow.below (ownRow_zero (w := wr) (Nat.le_refl _)) (below_alloc (Below.refl _ _) (.cells #[.int .i64 k] 3)))) hgrow1 (Nat.le_trans (size_le_alloc _ _) (size_le_alloc _ _))); have hox := hid (grown_far (k := wr.heap.size + 1) (o := .cells #[.int .i64 k] 3) hgrow1 (alloc_at (by simp)) (by simp)))
        | (refine step_append_ints (by rfl) _ _ (by rfl) wr.heap.size (.slice (some ⟨wr.heap.size + 1, 0, none⟩) 0 0) [] bg (by rfl) (OwnRow.drew (ownRow_zero_at (w := wr.alloc (.cells #[.int .i64 k] 3)) (size_le_alloc _ _) (by simp))) ⟨gb, 0, none⟩ bg.length cap (by rfl) rfl (hsrc.out _ (below_alloc (below_alloc (Below.refl _ _) _) _).drew) hpos hsz (Nat.le_trans (size_le_alloc _ _) (size_le_alloc _ _)) ?_; intro v1 wa hown1 hgrow1; have hba := Below.trans (below_alloc (below_alloc (Below.refl wr.heap.size wr) (.cells #[.int .i64 k] 3)) (.cells #[] 3)).drew (grown_below (OwnRow.drew (ownRow_zero_at (w := wr.alloc (.cells #[.int .i64 k] 3)) (size_le_alloc _ _) (by simp))) hgrow1 (Nat.le_trans (size_le_alloc _ _) (size_le_alloc _ _))); have hox3 := hid (grown_far (k := wr.heap.size) (o := .cells #[.int .i64 k] 3) hgrow1 (alloc_old (by simp) (alloc_at rfl)) (by simp)))
        | (refine step_append_ints (by rfl) _ _ (by rfl) wr.heap.size v1 bg [((k : Nat) : Int)] (by rfl) (OwnRow.below hown1 (below_alloc (Below.refl _ _) (.cells #[.int .i64 k] 3))) ⟨wa.heap.size, 0, none⟩ 1 1 (by rfl) rfl (one_src wa k) (by omega) hsz2 (Nat.le_trans hba.size (size_le_alloc _ _)) ?_; intro v2 wb hown2 hgrow2; have hbb := Below.trans (hba.alloc hba.size (.cells #[.int .i64 k] 3)) (grown_below (OwnRow.below hown1 (below_alloc (Below.refl _ _) (.cells #[.int .i64 k] 3))) hgrow2 (Nat.le_trans hba.size (size_le_alloc _ _))))
        | (refine step_append_ints (by rfl) _ _ (by rfl) wr.heap.size v1 bg [((k : Nat) : Int)] (by rfl) hown1 ⟨wr.heap.size + 1, 0, none⟩ 1 1 (by rfl) rfl (one_src_at hox.out) (by omega) hsz2 hba.size ?_; intro v2 wb hown2 hgrow2; have hbb := Below.trans hba (grown_below hown1 hgrow2 hba.size))
        | (refine step_append_ints (by rfl) _ _ (by rfl) wr.heap.size v1 bg [((k : Nat) : Int)] (by rfl) hown1 ⟨wr.heap.size, 0, none⟩ 1 1 (by rfl) rfl (one_src_at hox3.out) (by omega) hsz2 hba.size ?_; intro v2 wb hown2 hgrow2; have hbb := Below.trans hba (grown_below hown1 hgrow2 hba.size))
        | (go_at_call 57; refine (IH'.out k v2 _ _ wb hk01 (OwnRow.low hown2 (Nat.zero_le _)) (PlanRows.below hr.out hbb) (Nat.le_trans hBr hbb.size) hLk).mono ?_; intro e w3 hp; obtain ⟨ov3, he, hr3, hb3, hk3⟩ := hp; subst he; have hr4 := hid (part_next hr3); have hb4 := hid (Below.trans hbl.out (Below.trans (hbb.mono hBr) hb3)); have hk4 := hid (Kept.trans hkp.out (Kept.trans (Kept.of hbb) hk3)); have hB4 := Nat.le_trans (Nat.le_trans hBr hbb.size) hb3.size; have hq4 := hid (OwnRow.kept hq.out (Kept.trans (Kept.of hbb) hk3)); have hx4 := hid (hk3.blk _ _ ((hbb.block _ (cells_of hx.out).1).trans hx.out) (fun c f e => by cases e)); have hs3 := (cells_of (hk3.blk _ _ ((hbb.block _ (cells_of hx.out).1).trans hx.out) (fun c f e => by cases e))).2))
      all_goals
        go_wp2
        go_roundw
        case rel => exact ⟨k + 1, by omega, by go_num, hr4, hb4, hk4, hB4, hq4, hx4⟩
        case measure => simp [intOf]; omega
    · obtain rfl : k = 2 := by omega
      go_wp2
      go_ret
      exact ⟨_, rfl, by rw [← hall.out]; exact hr.out, hbl.out, hkp.out⟩

set_option maxRecDepth 100000 in
set_option maxHeartbeats 8000000 in
theorem refAll_empty (R : Rest) (hv : R.valid = true) (n : Nat) (hn : n ≤ 16) (B m : Nat) (ov : Value) (L : List (List Int)) (w : World) (hlen : m + 1 = n) (hr : PlanRows B w ov L) (hB : B ≤ w.heap.size) (hL : L.length + 2 ^ (m + 1) ≤ 900000)
    (IH : ∀ (x : Int) (cv ov : Value) (L : List (List Int)) (w : World), (x = 0 ∨ x = 1) → OwnRow 0 w cv [x] → PlanRows B w ov L → B ≤ w.heap.size → L.length + 2 ^ m ≤ 900000 → Calls Try.prog 57 #[restV R, .int .i64 n, cv, ov] w (AllPost R B m [x] L w)) :
    Calls Try.prog 57 #[restV R, .int .i64 n, .slice none 0 0, ov] w (AllPost R B (m + 1) [] L w) := by
  have hb : ∀ x, x ∈ ([] : List Int) → x = 0 ∨ x = 1 := by simp
  have hg : goodB R St.begin [] = true := rfl
  have hx0 := hid (KeepR.start w R)
  have hbw : Below w.heap.size w (w.alloc (.cells #[.int .i64 R.hours, .int .i64 R.r0.out, .int .i64 R.r0.total, .int .i64 R.r0.run, .int .i64 R.r0.off, .int .i64 R.r1.out, .int .i64 R.r1.total, .int .i64 R.r1.run, .int .i64 R.r1.off] 26)) := below_alloc (Below.refl _ _) _
  have hq0 := hid (show OwnRow 0 (w.alloc (.cells #[.int .i64 R.hours, .int .i64 R.r0.out, .int .i64 R.r0.total, .int .i64 R.r0.run, .int .i64 R.r0.off, .int .i64 R.r1.out, .int .i64 R.r1.total, .int .i64 R.r1.run, .int .i64 R.r1.off] 26)) (.slice none 0 0) [] from World.ownsRow_nil _ _ _ _)
  have hr0 := hid (PlanRows.below hr hbw)
  have hB0 : B ≤ ((w.alloc (.cells #[.int .i64 R.hours, .int .i64 R.r0.out, .int .i64 R.r0.total, .int .i64 R.r0.run, .int .i64 R.r0.off, .int .i64 R.r1.out, .int .i64 R.r1.total, .int .i64 R.r1.run, .int .i64 R.r1.off] 26))).heap.size := by simp; omega
  have hbB := hid (show Below B w (w.alloc (.cells #[.int .i64 R.hours, .int .i64 R.r0.out, .int .i64 R.r0.total, .int .i64 R.r0.run, .int .i64 R.r0.off, .int .i64 R.r1.out, .int .i64 R.r1.total, .int .i64 R.r1.run, .int .i64 R.r1.off] 26)) from hbw.mono hB)
  have hkw := hid (Kept.of hbw)
  clear hbw
  have c89 := hid (fun w h => (show Calls Try.prog 89 #[restV R, .slice none 0 0] w _ from right_is hg hv (by simp) hb none 0 w h))
  have hall := hid (partL_two (m := m) (bg := []) hb hg)
  have hnl : ((0 : Int) == (n : Int)) = false := by simp; omega
  have IH' := hid IH
  have hL' := hid hL
  clear hg hv hb hr hlen IH hL
  go_enter Try.func57, Try.ntmps57
  go_wp2_with (go_at_call 89; with_reducible refine (c89.out _ (OwnRow.ints hq0.out)).mono ?_; rintro e w1 ⟨rfl, hb1⟩; have hx0 := hid (hx0.out.below hb1); have hq0 := hid (OwnRow.below hq0.out hb1); have hr0 := hid (PlanRows.below hr0.out hb1); have hbB := hid (Below.trans hbB.out (hb1.mono hB0)); have hkw := hid (Kept.trans hkw.out (Kept.of hb1)); obtain ⟨lx, cx⟩ := cells_of hx0.out.x; have hB1 : B ≤ w1.heap.size := Nat.le_trans hB0 hb1.size)
  have hx1 := hid hx0.out.x
  clear hx0 lx cx
  go_loopw [3, 9] (fun ov' i wr => ∃ k : Nat, k ≤ 2 ∧ i = .int .i64 k ∧ Hid (PlanRows B wr ov' (L ++ partL R m [] k)) ∧ Hid (Below B w wr) ∧ Hid (Kept w wr) ∧ B ≤ wr.heap.size ∧ Hid (wr.heap[w.heap.size]? = some (.cells #[.int .i64 R.hours, .int .i64 R.r0.out, .int .i64 R.r0.total, .int .i64 R.r0.run, .int .i64 R.r0.off, .int .i64 R.r1.out, .int .i64 R.r1.total, .int .i64 R.r1.run, .int .i64 R.r1.off] 26 (0, 0)))) (fun _ i _ => 2 - (intOf i).toNat)
  case atStart => exact ⟨0, by omega, rfl, by simpa [partL] using hr0, hbB, hkw, hB1, hx1⟩
  case round =>
    obtain ⟨k, hk, rfl, hr, hbl, hkp, hBr, hx⟩ := hrel
    by_cases hlt : k < 2
    · have hk01 : ((k : Nat) : Int) = 0 ∨ ((k : Nat) : Int) = 1 := by omega
      obtain ⟨lx, cx⟩ := cells_of hx.out
      have hsk := hid (fun (W' : World) (h : Below wr.heap.size wr W') => (cells_of ((h.block _ (cells_of hx.out).1).trans hx.out)).2)
      have hsz2 : ([] : List Int).length + [((k : Nat) : Int)].length ≤ 1000 := by simp
      have hLk : (L ++ partL R m [] k).length + 2 ^ m ≤ 900000 := by
        have h1 := hL'.out
        have h2 : (partL R m [] k).length ≤ k * 2 ^ m := partL_len R m [] k
        have h3 : k * 2 ^ m ≤ 1 * 2 ^ m := Nat.mul_le_mul_right _ (by omega)
        rw [List.length_append]
        rw [Nat.pow_succ] at h1; omega
      go_upto_region 8 with fail
      go_region_held3 (fun w' => ∀ o, w'.cell? ⟨w.heap.size, o, none⟩ = #[.int .i64 R.hours, .int .i64 R.r0.out, .int .i64 R.r0.total, .int .i64 R.r0.run, .int .i64 R.r0.off, .int .i64 R.r1.out, .int .i64 R.r1.total, .int .i64 R.r1.run, .int .i64 R.r1.off][o]?) (first | exact hsk.out _ (Below.refl _ _).drew | exact hsk.out _ (Below.refl _ _) | exact hsk.out _ (below_alloc (Below.refl _ _) _).drew | exact hsk.out _ (below_alloc (below_alloc (Below.refl _ _) _) _).drew | exact hs3 | exact hsk.out _ hbb) (first
        | (refine step_append_ints (by rfl) _ _ (by rfl) wr.heap.size (.slice (some ⟨wr.heap.size, 0, none⟩) 0 0) [] [((k : Nat) : Int)] (by rfl) (OwnRow.drew (OwnRow.below (ownRow_zero (w := wr) (Nat.le_refl _)) (below_alloc (Below.refl _ _) (.cells #[.int .i64 k] 3)))) ⟨wr.heap.size + 1, 0, none⟩ 1 1 (by rfl) rfl (one_src_at (alloc_at (by simp))) (by omega) hsz2 (Nat.le_trans (size_le_alloc _ _) (size_le_alloc _ _)) ?_; intro v2 wb hown2 hgrow2; have hbb := Below.trans (below_alloc (below_alloc (Below.refl wr.heap.size wr) (.cells #[] 3)) (.cells #[.int .i64 k] 3)).drew (grown_below (OwnRow.drew (OwnRow.below (ownRow_zero (w := wr) (Nat.le_refl _)) (below_alloc (Below.refl _ _) (.cells #[.int .i64 k] 3)))) hgrow2 (Nat.le_trans (size_le_alloc _ _) (size_le_alloc _ _))))
        | (refine step_append_ints (by rfl) _ _ (by rfl) wr.heap.size (.slice (some ⟨wr.heap.size + 1, 0, none⟩) 0 0) [] [((k : Nat) : Int)] (by rfl) (OwnRow.drew (ownRow_zero_at (w := wr.alloc (.cells #[.int .i64 k] 3)) (size_le_alloc _ _) (by simp))) ⟨wr.heap.size, 0, none⟩ 1 1 (by rfl) rfl (one_src_at (alloc_old (by simp) (alloc_at rfl))) (by omega) hsz2 (Nat.le_trans (size_le_alloc _ _) (size_le_alloc _ _)) ?_; intro v2 wb hown2 hgrow2; have hbb := Below.trans (below_alloc (below_alloc (Below.refl wr.heap.size wr) (.cells #[.int .i64 k] 3)) (.cells #[] 3)).drew (grown_below (OwnRow.drew (ownRow_zero_at (w := wr.alloc (.cells #[.int .i64 k] 3)) (size_le_alloc _ _) (by simp))) hgrow2 (Nat.le_trans (size_le_alloc _ _) (size_le_alloc _ _))))
        | (go_at_call 57; refine (IH'.out k v2 _ _ wb hk01 (OwnRow.low hown2 (Nat.zero_le _)) (PlanRows.below hr.out hbb) (Nat.le_trans hBr hbb.size) hLk).mono ?_; intro e w3 hp; obtain ⟨ov3, he, hr3, hb3, hk3⟩ := hp; subst he; have hr4 := hid (part_next hr3); have hb4 := hid (Below.trans hbl.out (Below.trans (hbb.mono hBr) hb3)); have hk4 := hid (Kept.trans hkp.out (Kept.trans (Kept.of hbb) hk3)); have hB4 := Nat.le_trans (Nat.le_trans hBr hbb.size) hb3.size; have hx4 := hid (hk3.blk _ _ ((hbb.block _ (cells_of hx.out).1).trans hx.out) (fun c f e => by cases e)); have hs3 := (cells_of (hk3.blk _ _ ((hbb.block _ (cells_of hx.out).1).trans hx.out) (fun c f e => by cases e))).2))
      all_goals
        go_wp2
        go_roundw
        case rel => exact ⟨k + 1, by omega, by go_num, hr4, hb4, hk4, hB4, hx4⟩
        case measure => simp [intOf]; omega
    · obtain rfl : k = 2 := by omega
      go_wp2
      go_ret
      exact ⟨_, rfl, by rw [← hall.out]; exact hr.out, hbl.out, hkp.out⟩

theorem ownRow_form {B : Nat} {w : World} {v : Value} {xs : List Int} (h : OwnRow B w v xs) : (v = .slice none 0 0 ∧ xs = []) ∨ ∃ g cap, v = .slice (some ⟨g, 0, none⟩) xs.length cap := by
  rcases h.2 with ⟨rfl, hn⟩ | ⟨g, cap, _, rfl, _⟩
  · exact .inl ⟨rfl, List.eq_nil_of_length_eq_zero hn⟩
  · exact .inr ⟨g, cap, rfl⟩

/-- All right plans that go on from some hours. (From no hour on just out of a nil slice.) -/
theorem refAll_some (R : Rest) (hv : R.valid = true) (n : Nat) (hn : n ≤ 16) (B : Nat) : ∀ (m : Nat) (bg : List Int) (bv ov : Value) (L : List (List Int)) (w : World), bg.length + m = n → 0 < bg.length → (∀ x, x ∈ bg → x = 0 ∨ x = 1) → OwnRow 0 w bv bg → PlanRows B w ov L → B ≤ w.heap.size → L.length + 2 ^ m ≤ 900000 →
    Calls Try.prog 57 #[restV R, .int .i64 n, bv, ov] w (AllPost R B m bg L w) := by
  intro m
  induction m with
  | zero =>
    intro bg bv ov L w hlen hpos hb hq hr hB hL
    rcases ownRow_form hq with ⟨_, e⟩ | ⟨g, cap, rfl⟩
    · rw [e] at hpos; simp at hpos
    · cases hg : goodB R St.begin bg
      · exact refAll_bad R hv n hn B 0 bg _ cap ov L w hlen hb hq hr hB hg
      · exact refAll_zero R hv n hn B bg _ cap ov L w hlen hb hq hr hB (by omega) hg
  | succ m ih =>
    intro bg bv ov L w hlen hpos hb hq hr hB hL
    rcases ownRow_form hq with ⟨_, e⟩ | ⟨g, cap, rfl⟩
    · rw [e] at hpos; simp at hpos
    · cases hg : goodB R St.begin bg
      · exact refAll_bad R hv n hn B (m + 1) bg _ cap ov L w hlen hb hq hr hB hg
      · refine refAll_succ R hv n hn B m g bg cap ov L w hlen hpos hb hq hr hB hL hg (fun x cv ov L w hx hc hr hB hL => ih (bg ++ [x]) cv ov L w (by simp; omega) (by simp) ?_ hc hr hB hL)
        intro y hy
        rcases List.mem_append.1 hy with h | h
        · exact hb y h
        · rw [List.mem_singleton.1 h]; exact hx

theorem refAll_nil (R : Rest) (hv : R.valid = true) (n : Nat) (hn : n ≤ 16) (w : World) : Calls Try.prog 57 #[restV R, .int .i64 n, .slice none 0 0, .slice none 0 0] w fun e w' => ∃ ov', e = .returned ov' ∧ PlanRows w.heap.size w' ov' (rightL R n St.begin) ∧ Below w.heap.size w w' := by
  have key : Calls Try.prog 57 #[restV R, .int .i64 n, .slice none 0 0, .slice none 0 0] w (AllPost R w.heap.size n [] [] w) := by
    cases n with
    | zero => exact refAll_zero R hv 0 hn w.heap.size [] none 0 _ [] w rfl (by simp) (World.ownsRow_nil _ _ _ _) (PlanRows.nil _ _) (Nat.le_refl _) (by simp) rfl
    | succ m =>
      have hp : 2 ^ (m + 1) ≤ 2 ^ 16 := Nat.pow_le_pow_right (by decide) hn
      refine refAll_empty R hv (m + 1) hn w.heap.size m _ [] w rfl (PlanRows.nil _ _) (Nat.le_refl _) (by simp; omega) (fun x cv ov L w' hx hc hr hB hL => ?_)
      exact refAll_some R hv (m + 1) hn w.heap.size m [x] cv ov L w' (by simp; omega) (by simp) (fun y hy => by rw [List.mem_singleton.1 hy]; exact hx) hc hr hB hL
  refine key.mono fun e w' ⟨ov', he, hr, hb, _⟩ => ⟨ov', he, ?_, hb⟩
  rwa [List.nil_append, allL_all] at hr

end Go.Proofs.Ytkgdejhooghknaa
