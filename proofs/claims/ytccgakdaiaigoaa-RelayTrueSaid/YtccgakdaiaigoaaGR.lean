/- The reference's small functions, walked: in, span, power, Has, meet, Every, Size, Stint, Range. The reference's Size and Relays, walked. The reference's rules, walked. The reference's meet, walked; what is needed for 'first'. The laws' far, walked. -/
import Derived.Test.YtccgakdaiaigoaaGB
import Derived.Test.YtccgakdaiaigoaaGP
import Derived.Test.YtccgakdaiaigoaaGA
namespace Go.Proofs.Ytccgakdaiaigoaa
open Go.RowKit Go.Lap Go.Shelf

set_option maxHeartbeats 400000 in
theorem in_any (n lo hi : Int) (w : World) :
    Calls Try.prog 68 #[.int .i64 n, .int .i64 lo, .int .i64 hi] w fun e w' => e = .returned (.bool (inB n lo hi)) ∧ w' = w := by
  by_cases h1 : lo ≤ n
  · go_enter Try.func68, Try.ntmps68
    go_wp2
    go_ret
    exact ⟨by simp [inB, h1], rfl⟩
  · go_enter Try.func68, Try.ntmps68
    go_wp2
    go_ret
    exact ⟨by have h2 : ¬ lo ≤ n := by omega
              simp [inB, h2], rfl⟩
theorem in_as {n lo hi : Int} {b : Bool} (h : inB n lo hi = b) (w : World) :
    Calls Try.prog 68 #[.int .i64 n, .int .i64 lo, .int .i64 hi] w fun e w' => e = .returned (.bool b) ∧ w' = w := by
  subst h; exact in_any n lo hi w

set_option maxHeartbeats 1000000 in
theorem power_any (n : Nat) (h1 : n ≤ 62) (w : World) : Calls Try.prog 70 #[.int .i64 n] w fun e w' => e = .returned (.int .i64 (2 ^ n)) ∧ w' = w := by
  go_enter Try.func70, Try.ntmps70
  go_wp2
  go_loopw [3, 4] (fun x i wr => ∃ k : Nat, k ≤ n ∧ i = .int .i64 k ∧ x = .int .i64 (2 ^ k) ∧ Hid (wr = w)) (fun _ i _ => n - (intOf i).toNat)
  case atStart => exact ⟨0, by omega, rfl, rfl, hid rfl⟩
  case round =>
    obtain ⟨k, hk, rfl, rfl, hw⟩ := hrel
    have h5 : (0 : Int) < 2 ^ k := Int.pow_pos (by decide)
    by_cases hlt : k < n
    · have h4 : (2 : Int) ^ (k + 1) ≤ 2 ^ 62 := two_pow_le (by omega)
      have h6 : (2 : Int) * 2 ^ k ≤ 4611686018427387904 := by
        rw [Int.pow_succ] at h4; omega
      have h7 : IntKind.i64.wrap (2 * 2 ^ k) = 2 * 2 ^ k := Go.IntWalk.i64_in _ (by omega)
      generalize hp : (2 : Int) ^ k = p at *
      have hp' := hid hp
      clear hp h4 h5
      go_wp2
      go_roundw
      case rel =>
        refine ⟨k + 1, by omega, by go_num, ?_, hw⟩
        rw [Int.pow_succ, hp'.out, Int.mul_comm]
      case measure => simp [intOf]; omega
    · obtain rfl : k = n := by omega
      clear h5
      go_wp2
      go_ret
      exact ⟨rfl, hw.out⟩

theorem shr_bit2 {x : Int} (h : 0 ≤ x) (i : Nat) : x / 2 ^ i % 2 = if x.toNat.testBit i then 1 else 0 := by
  obtain ⟨n, rfl⟩ := Int.eq_ofNat_of_zero_le h
  have h1 : (n : Int) / 2 ^ i % 2 = ((n / 2 ^ i % 2 : Nat) : Int) := by
    rw [Int.natCast_emod, Int.natCast_ediv, Int.natCast_pow]; rfl
  rw [h1, Int.toNat_natCast, Nat.testBit_eq_decide_div_mod_eq]
  by_cases h2 : n / 2 ^ i % 2 = 1
  · simp [h2]
  · have : n / 2 ^ i % 2 = 0 := by omega
    simp [this]
set_option maxHeartbeats 1000000 in
theorem has_any (s : Nat) (n : Nat) (hs1 : s ≤ 1048575) (h1 : n ≤ 62) (w : World) : Calls Try.prog 86 #[.int .i64 s, .int .i64 n] w fun e w' => e = .returned (.bool (s.testBit n)) ∧ w' = w := by
  have hp : (0 : Int) < 2 ^ n := Int.pow_pos (by decide)
  have hv : s.testBit n = ((s : Int) / 2 ^ n % 2 == 1) := by
    rw [shr_bit2 (by omega) n, Int.toNat_natCast]
    cases s.testBit n <;> rfl
  rw [hv]
  obtain ⟨x, hx⟩ : ∃ x : Int, x = (s : Int) := ⟨_, rfl⟩
  have hs : 0 ≤ x := by omega
  have hs2 : x ≤ 1048575 := by omega
  rw [← hx]
  clear hv hx
  obtain ⟨p, hpe⟩ : ∃ p : Int, p = 2 ^ n := ⟨_, rfl⟩
  have hp2 : 0 < p := by rw [hpe]; exact hp
  have hq : 0 ≤ x / p := Int.ediv_nonneg hs (by omega)
  have hle : x / p ≤ x := Int.ediv_le_self _ hs
  have c70' := hid (fun w => (show Calls Try.prog 70 #[.int .i64 n] w fun e w' => e = .returned (.int .i64 p) ∧ w' = w by rw [hpe]; exact power_any n h1 w))
  rw [← hpe]
  have htd : x.tdiv p = x / p := Int.tdiv_eq_ediv_of_nonneg hs
  have hmd : (x / p).tmod 2 = x / p % 2 := Int.tmod_eq_emod_of_nonneg hq
  have hwr : wrap64 (x / p) = x / p := Go.IntWalk.wrap64_in _ (by omega)
  clear hpe hp
  go_enter Try.func86, Try.ntmps86
  go_wp2_with (go_at_call 70; with_reducible refine (c70'.out _).mono ?_; rintro e w1 ⟨rfl, rfl⟩)
  go_ret
  exact ⟨rfl, rfl⟩
theorem has_as {s n : Nat} {b : Bool} (h : s.testBit n = b) (hs1 : s ≤ 1048575) (h1 : n ≤ 62) (w : World) : Calls Try.prog 86 #[.int .i64 s, .int .i64 n] w fun e w' => e = .returned (.bool b) ∧ w' = w := by
  subst h; exact has_any s n hs1 h1 w

set_option maxRecDepth 100000 in
set_option maxHeartbeats 4000000 in
theorem refSpan_any (s : Int × Int) (w : World) : Calls Try.prog 69 #[spanV s] w fun e w' => e = .returned (.bool (spanOk s)) ∧ Below w.heap.size w w' := by
  obtain ⟨lo, hi⟩ := s
  have hb := below_alloc (Below.refl _ w) (.cells #[.int .i64 lo, .int .i64 hi] 28)
  have hb := hid hb
  by_cases h1 : 0 ≤ lo
  · by_cases h2 : lo ≤ hi
    · by_cases h3 : hi ≤ 600
      · have e : Hid (spanOk (lo, hi) = true) := hid (by simp [spanOk, h1, h2, h3])
        go_enter Try.func69, Try.ntmps69
        go_wp2
        go_ret
        exact ⟨by rw [e.out]; rfl, hb.out⟩
      · have e : Hid (spanOk (lo, hi) = false) := hid (by simp [spanOk, h1, h2, h3])
        go_enter Try.func69, Try.ntmps69
        go_wp2
        go_ret
        exact ⟨by rw [e.out]; rfl, hb.out⟩
    · have e : Hid (spanOk (lo, hi) = false) := hid (by simp [spanOk, h1, h2])
      go_enter Try.func69, Try.ntmps69
      go_wp2
      go_ret
      exact ⟨by rw [e.out]; rfl, hb.out⟩
  · have e : Hid (spanOk (lo, hi) = false) := hid (by simp [spanOk, h1])
    go_enter Try.func69, Try.ntmps69
    go_wp2
    go_ret
    exact ⟨by rw [e.out]; rfl, hb.out⟩
theorem refSpan_as {s : Int × Int} {b : Bool} (h : spanOk s = b) (w : World) : Calls Try.prog 69 #[spanV s] w fun e w' => e = .returned (.bool b) ∧ Below w.heap.size w w' := by
  subst h; exact refSpan_any s w

set_option maxRecDepth 100000 in
set_option maxHeartbeats 4000000 in
theorem refEvery_any (r : Rel) (hn : r.n ≤ 5) (a : Option Addr) (cap : Nat) (w : World) : Calls Try.prog 36 #[relV r (.slice a r.n cap)] w fun e w' => e = .returned (.int .i64 (r.every : Nat)) ∧ Below w.heap.size w w' := by
  have hb := below_alloc (Below.refl _ w) (.cells #[.int .i64 r.rest, .slice a r.n cap] 24)
  have hb := hid hb
  obtain ⟨n, hrn⟩ : ∃ n, r.n = n := ⟨_, rfl⟩
  have hev : Hid (r.every = 2 ^ (4 * n) - 1) := hid (by rw [Rel.every, hrn])
  rw [hrn] at hn hb ⊢
  have h0 : (0 : Int) < 2 ^ (4 * n) := Int.pow_pos (by decide)
  have h2 : (2 : Int) ^ (4 * n) ≤ 2 ^ 20 := two_pow_le (by omega)
  obtain ⟨p, hp⟩ : ∃ p : Int, p = 2 ^ (4 * n) := ⟨_, rfl⟩
  have c70' := hid (fun w => (show Calls Try.prog 70 #[.int .i64 (4 * (n : Int))] w fun e w' => e = .returned (.int .i64 p) ∧ w' = w by
    have := power_any (4 * n) (by omega) w
    rw [← hp] at this
    rw [show (4 * (n : Int)) = ((4 * n : Nat) : Int) by omega]
    exact this))
  have e1 : Hid (((2 ^ (4 * n) - 1 : Nat) : Int) = p - 1) := hid (by
    rw [hp]
    have h3 : (2 : Int) ^ (4 * n) = ((2 ^ (4 * n) : Nat) : Int) := by simp
    have h4 : 0 < 2 ^ (4 * n) := Nat.pow_pos (by decide)
    rw [h3]; omega)
  have hp1 : 0 < p := by omega
  have hp2 : p ≤ 1048576 := by omega
  clear hp h0 h2
  go_enter Try.func36, Try.ntmps36
  go_wp2_with (go_at_call 70; with_reducible refine (c70'.out _).mono ?_; rintro e w1 ⟨rfl, rfl⟩)
  go_ret
  refine ⟨ret_int ?_, hb.out⟩
  rw [hev.out]
  exact e1.out.symm

set_option maxRecDepth 100000 in
set_option maxHeartbeats 4000000 in
theorem refStint_any (r : Rel) (hn : r.n ≤ 1000000) (i : Int) (a : Option Addr) (cap : Nat) (w : World) : Calls Try.prog 49 #[relV r (.slice a r.n cap), .int .i64 i] w fun e w' => e = .returned (.bool (r.isStint i)) ∧ Below w.heap.size w w' := by
  have hb := hid (below_alloc (Below.refl _ w) (.cells #[.int .i64 r.rest, .slice a r.n cap] 24))
  obtain ⟨n, hrn⟩ : ∃ n, r.n = n := ⟨_, rfl⟩
  have hev : Hid (r.isStint i = inB i 0 ((n : Int) - 1)) := hid (by rw [Rel.isStint, hrn]; rfl)
  rw [hrn] at hn hb ⊢
  have e1 : IntKind.i64.wrap ((n : Int) - 1) = (n : Int) - 1 := Go.IntWalk.i64_in _ (by omega)
  go_enter Try.func49, Try.ntmps49
  go_wp2_with (go_at_call 68; refine (in_any _ _ _ _).mono ?_; rintro e w' ⟨rfl, rfl⟩)
  go_ret
  refine ⟨?_, hb.out⟩
  rw [hev.out]
  rfl

set_option maxRecDepth 100000 in
set_option maxHeartbeats 4000000 in
theorem refRange_any (a b : Int) (w : World) : Calls Try.prog 54 #[.int .i64 a, .int .i64 b] w fun e w' => e = .returned (.bool (inB a 0 600 && inB b a 600)) ∧ w' = w := by
  cases h : inB a 0 600
  · have h' := hid h
    clear h
    go_enter Try.func54, Try.ntmps54
    go_wp2_with (go_at_call 68; with_reducible refine (in_as h'.out _).mono ?_; rintro e w' ⟨rfl, rfl⟩)
    go_ret
    exact ⟨rfl, rfl⟩
  · have h' := hid h
    clear h
    generalize hz : inB b a 600 = z
    have hz' := hid hz
    clear hz
    go_enter Try.func54, Try.ntmps54
    go_wp2_with (go_at_call 68; first | (with_reducible refine (in_as h'.out _).mono ?_; rintro e w' ⟨rfl, rfl⟩) | (with_reducible refine (in_as hz'.out _).mono ?_; rintro e w' ⟨rfl, rfl⟩))
    go_ret
    exact ⟨rfl, rfl⟩
end Go.Proofs.Ytccgakdaiaigoaa

namespace Go.Proofs.Ytccgakdaiaigoaa
open Go.RowKit Go.Lap Go.Shelf

def popF : Nat → Nat → Nat
  | 0, _ => 0
  | f + 1, n => n % 2 + popF f (n / 2)
theorem popF_zero : ∀ f, popF f 0 = 0
  | 0 => rfl
  | f + 1 => by simp [popF, popF_zero f]
theorem popF_small : ∀ f n, popF f n ≤ f
  | 0, _ => Nat.le_refl _
  | f + 1, n => by have := popF_small f (n / 2); simp only [popF]; omega
theorem popF_eq : ∀ f n, popF f n = (List.range f).countP fun i => n.testBit i
  | 0, _ => rfl
  | f + 1, n => by
    rw [List.range_succ_eq_map, List.countP_cons, List.countP_map, popF, popF_eq f (n / 2)]
    have h1 : ((fun i => n.testBit i) ∘ Nat.succ) = fun i => (n / 2).testBit i := by
      funext i
      simp [Nat.testBit_succ]
    rw [h1]
    have h2 : n % 2 = if n.testBit 0 = true then 1 else 0 := by
      rw [Nat.testBit_zero]
      by_cases h : n % 2 = 1
      · simp [h]
      · have : n % 2 = 0 := by omega
        simp [this]
    rw [h2]; omega
theorem popF_popc (n : Nat) : popF 64 n = popc n := by rw [popF_eq, popc]

set_option maxRecDepth 100000 in
set_option maxHeartbeats 1000000 in
theorem refSize_any (s : Nat) (hs : s < 2 ^ 62) (w : World) : Calls Try.prog 39 #[.int .i64 (s : Int)] w fun e w' => e = .returned (.int .i64 (popc s : Nat)) ∧ w = w' := by
  rw [← popF_popc]
  have hz6 := popF_small 64 s
  generalize hz : popF 64 s = z at hz6
  have hz' := hid hz
  clear hz
  have hsi := hid (show s < 2 ^ 64 by omega)
  have hs2 : (s : Int) < 4611686018427387904 := by omega
  have hs3 : s < 4611686018427387904 := by omega
  clear hs
  go_enter Try.func39, Try.ntmps39
  go_wp2
  go_loopw [0, 3] (fun x n wr => ∃ f t m : Nat, x = .int .i64 t ∧ n = .int .i64 m ∧ t < 4611686018427387904 ∧ m ≤ 64 ∧ f ≤ 64 ∧ Hid (t < 2 ^ f) ∧ Hid (m + popF f t = z) ∧ w = wr) (fun x _ _ => (intOf x).toNat)
  case atStart => exact ⟨64, s, 0, rfl, rfl, hs3, by omega, by omega, hsi, hid (by rw [hz'.out]; omega), rfl⟩
  case round =>
    obtain ⟨f, t, m, rfl, rfl, ht, hm, hf, htf, he, rfl⟩ := hrel
    have hpf := popF_small f t
    by_cases h0 : 0 < t
    · obtain ⟨g, rfl⟩ : ∃ g, f = g + 1 := ⟨f - 1, by cases f with
        | zero => have := htf.out; simp at this; omega
        | succ f => rfl⟩
      have he2 := he.out
      simp only [popF] at he2
      have hm2 : m + t % 2 ≤ 64 := by omega
      have htf2 : Hid (t / 2 < 2 ^ g) := hid (by have := htf.out; rw [Nat.pow_succ] at this; omega)
      have he3 : Hid (m + t % 2 + popF g (t / 2) = z) := hid (by omega)
      clear he he2 htf hpf
      go_wp2
      go_roundw
      case rel => exact ⟨g, t / 2, m + t % 2, by go_num, by go_num, by omega, by omega, by omega, htf2, he3, by simp⟩
      case measure => simp [intOf]; omega
    · obtain rfl : t = 0 := by omega
      have he2 : Hid (z = m) := hid (by have := he.out; rw [popF_zero] at this; omega)
      clear he h0 htf
      go_wp2
      go_ret
      refine ⟨?_, rfl⟩
      rw [he2.out]
      rfl

set_option maxRecDepth 100000 in
set_option maxHeartbeats 4000000 in
theorem refRelays_any (r : Rel) (_hn : r.n ≤ 1000000) (sv : Value) (w : World) (hS : StintsAt w sv r.stints) : Calls Try.prog 32 #[relV r sv] w fun e w' => e = .returned (.bool r.valid) ∧ Below w.heap.size w w' := by
  obtain ⟨sa, scap, rfl, hs0⟩ := id hS
  clear hs0
  have hS' := hid hS
  clear hS
  by_cases h1 : inB r.rest 0 60 = true
  · have h1' := hid h1
    clear h1
    by_cases h5 : r.n ≤ 5
    · have h5' := hid h5
      have h5i : (r.stints.length : Int) ≤ 5 := by have : r.stints.length ≤ 5 := h5; omega
      go_enter Try.func32, Try.ntmps32
      go_wp2_with (go_at_call 68; with_reducible refine (in_as h1'.out _).mono ?_; rintro e w' ⟨rfl, rfl⟩)
      have hx := alloc_at (w := w) (o := .cells #[.int .i64 r.rest, .slice sa r.stints.length scap] 24) rfl
      have hb0 := below_alloc (Below.refl _ w) (.cells #[.int .i64 r.rest, .slice sa r.stints.length scap] 24)
      generalize w.alloc (.cells #[.int .i64 r.rest, .slice sa r.stints.length scap] 24) = w0 at hx hb0 ⊢
      replace hx := hid hx
      have hcl := hid (fun (W : World) (hW : Below w0.heap.size w0 W) => cells_of ((hW.block _ (cells_of hx.out).1).trans hx.out))
      go_loopw [3, 4] (fun i _ wr => ∃ k : Nat, k ≤ r.stints.length ∧ i = .int .i64 k ∧ Hid (∀ j, j < k → (r.st j).ok = true) ∧ Hid (Below w0.heap.size w0 wr)) (fun i _ _ => r.stints.length - (intOf i).toNat)
      case atStart => exact ⟨0, by omega, rfl, hid (by omega), hid (Below.refl _ _)⟩
      case round =>
        obtain ⟨k, hk, rfl, hok, hbr⟩ := hrel
        have hbw := hid (below_via hbr.out hb0)
        obtain ⟨lx, cx⟩ := hcl.out _ hbr.out
        by_cases hlt : k < r.stints.length
        · have hki : (k : Int) < (r.stints.length : Int) := by omega
          obtain ⟨b1, o1, rfl, l1, hq⟩ := (hS'.out.below hbw.out).at hlt
          obtain ⟨s, hsd⟩ : ∃ s, r.stints.getD k Stint.none = s := ⟨_, rfl⟩
          have hsd' : Hid (r.st k = s) := hid hsd
          rw [hsd] at hq
          clear hsd
          have q0 := hq 0 (by decide)
          have q1 := hq 1 (by decide)
          have q2 := hq 2 (by decide)
          have q3 := hq 3 (by decide)
          have q4 := hq 4 (by decide)
          have q5 := hq 5 (by decide)
          have q6 := hq 6 (by decide)
          have q7 := hq 7 (by decide)
          have q8 := hq 8 (by decide)
          simp only [Stint.cells, List.getD_cons_zero, List.getD_cons_succ, Nat.add_zero] at q0 q1 q2 q3 q4 q5 q6 q7 q8
          clear hq
          have hbad : Hid (s.ok = false → r.valid = false) := hid fun h => Rel.bad_at hlt (by rw [hsd'.out]; exact h)
          have hbx := alloc_at (w := wr) (o := .cells (stintC s) 46) rfl
          have hb2 := hid (below_via (below_alloc (Below.refl _ wr) (.cells (stintC s) 46)) hbr.out)
          go_upto_region 7 with fail
          clear q0 q1 q2 q3 q4 q5 q6 q7 q8 l1 lx cx
          have hxw2 := hbx
          have Bw2 := hb2
          generalize wr.alloc (.cells (stintC s) 46) = w2 at hxw2 Bw2 ⊢
          obtain ⟨lw2, cw2⟩ := cells_of hxw2
          replace hxw2 := hid hxw2
          clear hbx hb2 hbr
          cases hA : inB s.rider 0 1
          · have hA' := hid hA
            clear hA
            go_wp2_with (first | (go_at_call 68; with_reducible refine (in_as hA'.out _).mono ?_; rintro e w' ⟨rfl, rfl⟩))
            go_ret
            have hvf := hbad.out (by simp only [Stint.ok]; rw [show (decide (0 ≤ s.rider) && decide (s.rider ≤ 1)) = false from hA'.out]; rfl)
            exact ⟨by rw [hvf]; rfl, below_via Bw2.out hb0⟩
          · have hA' := hid hA
            clear hA
            cases hN0 : spanOk s.on0
            · have hN0' := hid hN0
              clear hN0
              go_wp2_with (first | (go_at_call 68; with_reducible refine (in_as hA'.out _).mono ?_; rintro e w' ⟨rfl, rfl⟩) | (go_at_call 69; with_reducible refine (refSpan_as hN0'.out _).mono ?_; rintro e wx0 ⟨rfl, hbwx0⟩; have hxwx0 := (hbwx0.block _ (cells_of hxw2.out).1).trans hxw2.out; obtain ⟨lwx0, cwx0⟩ := cells_of hxwx0; have Bwx0 := hid (below_via hbwx0 Bw2.out); replace hxwx0 := hid hxwx0; clear hbwx0))
              go_ret
              have hvf := hbad.out (by simp only [Stint.ok]; rw [hN0'.out]; simp)
              exact ⟨by rw [hvf]; rfl, below_via Bwx0.out hb0⟩
            · have hN0' := hid hN0
              clear hN0
              cases hN1 : spanOk s.on1
              · have hN1' := hid hN1
                clear hN1
                go_wp2_with (first | (go_at_call 68; with_reducible refine (in_as hA'.out _).mono ?_; rintro e w' ⟨rfl, rfl⟩) | (go_at_call 69; with_reducible refine (refSpan_as hN0'.out _).mono ?_; rintro e wx0 ⟨rfl, hbwx0⟩; have hxwx0 := (hbwx0.block _ (cells_of hxw2.out).1).trans hxw2.out; obtain ⟨lwx0, cwx0⟩ := cells_of hxwx0; have Bwx0 := hid (below_via hbwx0 Bw2.out); replace hxwx0 := hid hxwx0; clear hbwx0) | (go_at_call 69; with_reducible refine (refSpan_as hN1'.out _).mono ?_; rintro e wx1 ⟨rfl, hbwx1⟩; have hxwx1 := (hbwx1.block _ (cells_of hxwx0.out).1).trans hxwx0.out; obtain ⟨lwx1, cwx1⟩ := cells_of hxwx1; have Bwx1 := hid (below_via hbwx1 Bwx0.out); replace hxwx1 := hid hxwx1; clear hbwx1))
                go_ret
                have hvf := hbad.out (by simp only [Stint.ok]; rw [hN1'.out]; simp)
                exact ⟨by rw [hvf]; rfl, below_via Bwx1.out hb0⟩
              · have hN1' := hid hN1
                clear hN1
                cases hF0 : spanOk s.off0
                · have hF0' := hid hF0
                  clear hF0
                  go_wp2_with (first | (go_at_call 68; with_reducible refine (in_as hA'.out _).mono ?_; rintro e w' ⟨rfl, rfl⟩) | (go_at_call 69; with_reducible refine (refSpan_as hN0'.out _).mono ?_; rintro e wx0 ⟨rfl, hbwx0⟩; have hxwx0 := (hbwx0.block _ (cells_of hxw2.out).1).trans hxw2.out; obtain ⟨lwx0, cwx0⟩ := cells_of hxwx0; have Bwx0 := hid (below_via hbwx0 Bw2.out); replace hxwx0 := hid hxwx0; clear hbwx0) | (go_at_call 69; with_reducible refine (refSpan_as hN1'.out _).mono ?_; rintro e wx1 ⟨rfl, hbwx1⟩; have hxwx1 := (hbwx1.block _ (cells_of hxwx0.out).1).trans hxwx0.out; obtain ⟨lwx1, cwx1⟩ := cells_of hxwx1; have Bwx1 := hid (below_via hbwx1 Bwx0.out); replace hxwx1 := hid hxwx1; clear hbwx1) | (go_at_call 69; with_reducible refine (refSpan_as hF0'.out _).mono ?_; rintro e wx2 ⟨rfl, hbwx2⟩; have hxwx2 := (hbwx2.block _ (cells_of hxwx1.out).1).trans hxwx1.out; obtain ⟨lwx2, cwx2⟩ := cells_of hxwx2; have Bwx2 := hid (below_via hbwx2 Bwx1.out); replace hxwx2 := hid hxwx2; clear hbwx2))
                  go_ret
                  have hvf := hbad.out (by simp only [Stint.ok]; rw [hF0'.out]; simp)
                  exact ⟨by rw [hvf]; rfl, below_via Bwx2.out hb0⟩
                · have hF0' := hid hF0
                  clear hF0
                  cases hF1 : spanOk s.off1
                  · have hF1' := hid hF1
                    clear hF1
                    go_wp2_with (first | (go_at_call 68; with_reducible refine (in_as hA'.out _).mono ?_; rintro e w' ⟨rfl, rfl⟩) | (go_at_call 69; with_reducible refine (refSpan_as hN0'.out _).mono ?_; rintro e wx0 ⟨rfl, hbwx0⟩; have hxwx0 := (hbwx0.block _ (cells_of hxw2.out).1).trans hxw2.out; obtain ⟨lwx0, cwx0⟩ := cells_of hxwx0; have Bwx0 := hid (below_via hbwx0 Bw2.out); replace hxwx0 := hid hxwx0; clear hbwx0) | (go_at_call 69; with_reducible refine (refSpan_as hN1'.out _).mono ?_; rintro e wx1 ⟨rfl, hbwx1⟩; have hxwx1 := (hbwx1.block _ (cells_of hxwx0.out).1).trans hxwx0.out; obtain ⟨lwx1, cwx1⟩ := cells_of hxwx1; have Bwx1 := hid (below_via hbwx1 Bwx0.out); replace hxwx1 := hid hxwx1; clear hbwx1) | (go_at_call 69; with_reducible refine (refSpan_as hF0'.out _).mono ?_; rintro e wx2 ⟨rfl, hbwx2⟩; have hxwx2 := (hbwx2.block _ (cells_of hxwx1.out).1).trans hxwx1.out; obtain ⟨lwx2, cwx2⟩ := cells_of hxwx2; have Bwx2 := hid (below_via hbwx2 Bwx1.out); replace hxwx2 := hid hxwx2; clear hbwx2) | (go_at_call 69; with_reducible refine (refSpan_as hF1'.out _).mono ?_; rintro e wx3 ⟨rfl, hbwx3⟩; have hxwx3 := (hbwx3.block _ (cells_of hxwx2.out).1).trans hxwx2.out; obtain ⟨lwx3, cwx3⟩ := cells_of hxwx3; have Bwx3 := hid (below_via hbwx3 Bwx2.out); replace hxwx3 := hid hxwx3; clear hbwx3))
                    go_ret
                    have hvf := hbad.out (by simp only [Stint.ok]; rw [hF1'.out]; simp)
                    exact ⟨by rw [hvf]; rfl, below_via Bwx3.out hb0⟩
                  · have hF1' := hid hF1
                    clear hF1
                    go_wp2_with (first | (go_at_call 68; with_reducible refine (in_as hA'.out _).mono ?_; rintro e w' ⟨rfl, rfl⟩) | (go_at_call 69; with_reducible refine (refSpan_as hN0'.out _).mono ?_; rintro e wx0 ⟨rfl, hbwx0⟩; have hxwx0 := (hbwx0.block _ (cells_of hxw2.out).1).trans hxw2.out; obtain ⟨lwx0, cwx0⟩ := cells_of hxwx0; have Bwx0 := hid (below_via hbwx0 Bw2.out); replace hxwx0 := hid hxwx0; clear hbwx0) | (go_at_call 69; with_reducible refine (refSpan_as hN1'.out _).mono ?_; rintro e wx1 ⟨rfl, hbwx1⟩; have hxwx1 := (hbwx1.block _ (cells_of hxwx0.out).1).trans hxwx0.out; obtain ⟨lwx1, cwx1⟩ := cells_of hxwx1; have Bwx1 := hid (below_via hbwx1 Bwx0.out); replace hxwx1 := hid hxwx1; clear hbwx1) | (go_at_call 69; with_reducible refine (refSpan_as hF0'.out _).mono ?_; rintro e wx2 ⟨rfl, hbwx2⟩; have hxwx2 := (hbwx2.block _ (cells_of hxwx1.out).1).trans hxwx1.out; obtain ⟨lwx2, cwx2⟩ := cells_of hxwx2; have Bwx2 := hid (below_via hbwx2 Bwx1.out); replace hxwx2 := hid hxwx2; clear hbwx2) | (go_at_call 69; with_reducible refine (refSpan_as hF1'.out _).mono ?_; rintro e wx3 ⟨rfl, hbwx3⟩; have hxwx3 := (hbwx3.block _ (cells_of hxwx2.out).1).trans hxwx2.out; obtain ⟨lwx3, cwx3⟩ := cells_of hxwx3; have Bwx3 := hid (below_via hbwx3 Bwx2.out); replace hxwx3 := hid hxwx3; clear hbwx3))
                    go_roundw
                    case rel =>
                      refine ⟨k + 1, by omega, by go_num, hid ?_, Bwx3⟩
                      intro j hj
                      by_cases hjk : j < k
                      · exact hok.out j hjk
                      · obtain rfl : j = k := by omega
                        rw [hsd'.out]; simp only [Stint.ok]; rw [show (decide (0 ≤ s.rider) && decide (s.rider ≤ 1)) = true from hA'.out, hN0'.out, hN1'.out, hF0'.out, hF1'.out]; rfl
                    case measure => simp [intOf]; omega
        · obtain rfl : k = r.stints.length := by omega
          have hall : Hid (r.valid = true) := hid (by rw [Rel.valid_all, h1'.out, Rel.all_ok hok.out]; simp [h5'.out])
          go_wp2
          go_ret
          exact ⟨by rw [hall.out]; rfl, hbw.out⟩
    · have hno : Hid (r.valid = false) := hid (by rw [Rel.valid_all]; simp [h5])
      have h5i : ¬ (r.stints.length : Int) ≤ 5 := by have : ¬ r.stints.length ≤ 5 := h5; omega
      have h5j : (5 : Int) < (r.stints.length : Int) := by omega
      clear h5
      have hb0 := hid (below_alloc (Below.refl _ w) (.cells #[.int .i64 r.rest, .slice sa r.stints.length scap] 24))
      go_enter Try.func32, Try.ntmps32
      go_wp2_with (go_at_call 68; with_reducible refine (in_as h1'.out _).mono ?_; rintro e w' ⟨rfl, rfl⟩)
      go_ret
      exact ⟨by rw [hno.out]; rfl, hb0.out⟩
  · have h1' : Hid (inB r.rest 0 60 = false) := hid (by simpa using h1)
    clear h1
    have hno : Hid (r.valid = false) := hid (by rw [Rel.valid_all, h1'.out]; rfl)
    have hb0 := hid (below_alloc (Below.refl _ w) (.cells #[.int .i64 r.rest, .slice sa r.stints.length scap] 24))
    go_enter Try.func32, Try.ntmps32
    go_wp2_with (go_at_call 68; with_reducible refine (in_as h1'.out _).mono ?_; rintro e w' ⟨rfl, rfl⟩)
    go_ret
    exact ⟨by rw [hno.out]; rfl, hb0.out⟩
end Go.Proofs.Ytccgakdaiaigoaa

namespace Go.Proofs.Ytccgakdaiaigoaa
open Go.RowKit Go.Lap Go.Shelf

/-- Rows of rules. -/
def ruK : RowKind Try.prog Ru where
  t := 108
  e := 111
  size := 3
  bytes := 24
  z := .agg #[.int .i64 0, .int .i64 0, .int .i64 0]
  enc := fun x => [.int .i64 x.a, .int .i64 x.b, .int .i64 x.least]
  ht := Try.underlying108
  hi := by kernel_rfl
  hzs := rfl
  hsz := by decide
  hb := by decide
  henc := fun _ => rfl
  hone := fun x u hu => by
    simp only [List.mem_cons, List.not_mem_nil, or_false] at hu
    rcases hu with rfl | rfl | rfl <;> rfl
/-- Rows of spans. -/
def boxK : RowKind Try.prog (Int × Int) where
  t := 70
  e := 28
  size := 2
  bytes := 16
  z := .agg #[.int .i64 0, .int .i64 0]
  enc := fun x => [.int .i64 x.1, .int .i64 x.2]
  ht := Try.underlying70
  hi := by kernel_rfl
  hzs := rfl
  hsz := by decide
  hb := by decide
  henc := fun _ => rfl
  hone := fun x u hu => by
    simp only [List.mem_cons, List.not_mem_nil, or_false] at hu
    rcases hu with rfl | rfl <;> rfl

theorem below_low {B : Nat} {a X Y : World} (h : Below B X Y) (ha : Below a.heap.size a X) (hB : a.heap.size ≤ B) : Below a.heap.size a Y := ha.trans (h.mono hB)
def Rel.restR (r : Rel) (k : Nat) : Option Nat → List Ru
  | some j => [⟨2 * j + 1, 2 * k, r.rest⟩]
  | Option.none => []
theorem Rel.ruleR_pos (r : Rel) {k : Nat} (h : 0 < k) : r.ruleR k = [⟨2 * k, 2 * k + 1, 1⟩, ⟨2 * k - 2, 2 * k, 1⟩] ++ r.restR k (r.prev (r.st k).rider k) := by
  rw [Rel.ruleR, if_pos h]
  cases r.prev (r.st k).rider k <;> rfl
def Rel.rulesTo (r : Rel) (k : Nat) : List Ru := (List.range k).flatMap r.ruleR
theorem Rel.rulesTo_succ (r : Rel) (k : Nat) : r.rulesTo (k + 1) = r.rulesTo k ++ r.ruleR k := by simp [Rel.rulesTo, List.range_succ]
theorem Rel.ruleR_len (r : Rel) (k : Nat) : (r.ruleR k).length ≤ 3 := by
  simp only [Rel.ruleR, List.length_cons, List.length_append]
  cases r.prev (r.st k).rider k <;> split <;> simp
theorem Rel.rulesTo_len (r : Rel) : ∀ k, (r.rulesTo k).length ≤ 3 * k
  | 0 => by simp [Rel.rulesTo]
  | k + 1 => by rw [Rel.rulesTo_succ, List.length_append]; have := r.rulesTo_len k; have := r.ruleR_len k; omega

set_option maxRecDepth 100000 in
set_option maxHeartbeats 4000000 in
theorem rules_any (r : Rel) (hn : r.n ≤ 5) (sv : Value) (w : World) (hS : StintsAt w sv r.stints) :
    Calls Try.prog 77 #[relV r sv] w fun e w' => ∃ v, e = .returned v ∧ ruK.own w.heap.size w' v r.rulesR ∧ Below w.heap.size w w' := by
  obtain ⟨sa, scap, rfl, hs0⟩ := id hS
  clear hs0
  have hS' := hid hS
  clear hS
  have hn' := hid hn
  have h5i : (r.stints.length : Int) ≤ 5 := by have : r.stints.length ≤ 5 := hn; omega
  clear hn
  go_enter Try.func77, Try.ntmps77
  go_wp2
  have hx := alloc_at (w := w) (o := .cells #[.int .i64 r.rest, .slice sa r.stints.length scap] 24) rfl
  have hb0 := hid (below_alloc (Below.refl _ w) (.cells #[.int .i64 r.rest, .slice sa r.stints.length scap] 24))
  have hz0 := hid (show w.heap.size ≤ (w.alloc (.cells #[.int .i64 r.rest, .slice sa r.stints.length scap] 24)).heap.size by simp)
  generalize w.alloc (.cells #[.int .i64 r.rest, .slice sa r.stints.length scap] 24) = w0 at hx hb0 hz0 ⊢
  replace hx := hid hx
  have hcl := hid (fun (W : World) (hW : Below w0.heap.size w0 W) => cells_of ((hW.block _ (cells_of hx.out).1).trans hx.out))
  go_loopw [3, 4, 5] (fun v i _ wr => ∃ k : Nat, k ≤ r.stints.length ∧ i = .int .i64 k ∧ Hid (ruK.own w0.heap.size wr v (r.rulesTo k)) ∧ Hid (Below w0.heap.size w0 wr)) (fun _ i _ _ => r.stints.length - (intOf i).toNat)
  case atStart => exact ⟨0, by omega, rfl, hid (ruK.own_nil _ _), hid (Below.refl _ _)⟩
  case round =>
    obtain ⟨k, hk, rfl, hrow, hbr⟩ := hrel
    have hbw := hid (below_via hbr.out hb0.out)
    obtain ⟨lx, cx⟩ := hcl.out _ hbr.out
    have hlenk := hid (r.rulesTo_len k)
    by_cases hlt : k < r.stints.length
    · have hki : (k : Int) < (r.stints.length : Int) := by omega
      by_cases h0 : 0 < k
      · have hk0 : (0 : Int) < (k : Int) := by omega
        obtain ⟨x1, e1⟩ : ∃ x : Ru, x = ⟨2 * k, 2 * k + 1, 1⟩ := ⟨_, rfl⟩
        obtain ⟨x2, e2⟩ : ∃ x : Ru, x = ⟨2 * k - 2, 2 * k, 1⟩ := ⟨_, rfl⟩
        have c1 := hid (show #[Value.int .i64 (2 * (k : Int)), .int .i64 (2 * (k : Int) + 1), .int .i64 1] = (ruK.enc x1).toArray by rw [e1]; simp [ruK])
        have c2 := hid (show #[Value.int .i64 (2 * (k : Int) - 2), .int .i64 (2 * (k : Int)), .int .i64 1] = (ruK.enc x2).toArray by rw [e2]; simp [ruK]; omega)
        have ha1 := hid (show (r.rulesTo k).length + [x1].length ≤ 1000 by have := hlenk.out; simp only [List.length_cons, List.length_nil]; omega)
        have ha2 := hid (show (r.rulesTo k ++ [x1]).length + [x2].length ≤ 1000 by have := hlenk.out; simp only [List.length_append, List.length_cons, List.length_nil]; omega)
        have hR : Hid (r.rulesTo (k + 1) = (r.rulesTo k ++ [x1]) ++ [x2] ++ r.restR k (r.prev (r.st k).rider k)) := hid (by rw [Rel.rulesTo_succ, r.ruleR_pos h0, e1, e2]; simp)
        clear e1 e2
        go_wp2_with (first
          | (at_builtin; refine wpList_append_row ruK rfl _ _ rfl w0.heap.size u3 (r.rulesTo k) [x1] rfl (hrow.out.below (below_alloc (Below.refl _ _) _)) wr.heap.size 0 1 1 rfl rfl (row_one ruK wr x1 _ _ c1.out) ha1.out (by have := hbr.out.size; simp; omega) ?_; intro v2 w2 hown2 hb2 _; have B2 := hid (below_low hb2 (below_alloc hbr.out _) (Nat.le_refl _)); replace hown2 := hid hown2; clear hb2; obtain ⟨l2, d2⟩ := hcl.out _ B2.out)
          | (at_builtin; refine wpList_append_row ruK rfl _ _ rfl w0.heap.size v2 (r.rulesTo k ++ [x1]) [x2] rfl (hown2.out.below (below_alloc (Below.refl _ _) _)) w2.heap.size 0 1 1 rfl rfl (row_one ruK w2 x2 _ _ c2.out) ha2.out (by have := B2.out.size; simp; omega) ?_; intro v3 w3 hown3 hb3 _; have B3 := hid (below_low hb3 (below_alloc B2.out _) (Nat.le_refl _)); replace hown3 := hid hown3; clear hb3 l2 d2 lx cx; obtain ⟨l3, d3⟩ := hcl.out _ B3.out))
        clear hown2 B2 hrow hbr hbw ha1 ha2 c1 c2 l3 d3
        go_loopw [3, 5] (fun v kv wx => ∃ m : Nat, m ≤ k ∧ ∃ z : Int, z = (m : Int) - 1 ∧ kv = .int .i64 z ∧ Hid (r.prev (r.st k).rider k = r.prev (r.st k).rider m) ∧ v3 = v ∧ Hid (ruK.own w0.heap.size wx v3 ((r.rulesTo k ++ [x1]) ++ [x2])) ∧ Hid (Below w0.heap.size w0 wx)) (fun _ kv _ => (intOf kv + 1).toNat)
        case atStart => exact ⟨k, by omega, _, rfl, rfl, hid rfl, rfl, hown3, B3⟩
        case round =>
          obtain ⟨m, hm, z, hz, rfl, hp, rfl, hown4, B4⟩ := hrel
          have hBw := hid (below_via B4.out hb0.out)
          obtain ⟨l4, d4⟩ := hcl.out _ B4.out
          clear hown3 B3
          cases m with
          | zero =>
            have hzn : z < 0 := by omega
            clear hz hm
            have hR' : Hid (r.rulesTo (k + 1) = (r.rulesTo k ++ [x1]) ++ [x2]) := hid (by rw [hR.out, hp.out]; simp [Rel.prev, Rel.restR])
            go_wp2
            go_roundw
            case rel => exact ⟨k + 1, by omega, by go_num, hid (by rw [hR'.out]; exact hown4.out), B4⟩
            case measure => simp [intOf]; omega
          | succ q =>
            obtain rfl : z = (q : Int) := by omega
            clear hz
            have hqk : q < r.stints.length := by omega
            have hqi : (q : Int) < (r.stints.length : Int) := by omega
            obtain ⟨b1, o1, rfl, lb1, hq⟩ := (hS'.out.below hBw.out).at hqk
            obtain ⟨_, _, eb, _, hq2⟩ := (hS'.out.below hBw.out).at hlt
            injection eb with eb
            injection eb with eb1 eb2
            subst eb1 eb2
            have q1 := hq 0 (by decide)
            have q2 := hq2 0 (by decide)
            clear hq hq2
            simp only [Stint.cells, List.getD_cons_zero, Nat.add_zero] at q1 q2
            obtain ⟨a1, ha1⟩ : ∃ a, (r.stints.getD q Stint.none).rider = a := ⟨_, rfl⟩
            obtain ⟨a2, ha2⟩ : ∃ a, (r.stints.getD k Stint.none).rider = a := ⟨_, rfl⟩
            have ha1' : Hid ((r.st q).rider = a1) := hid ha1
            have ha2' : Hid ((r.st k).rider = a2) := hid ha2
            rw [ha1] at q1
            rw [ha2] at q2
            clear ha1 ha2
            by_cases heq : a1 = a2
            · subst heq
              obtain ⟨x3, e3⟩ : ∃ x : Ru, x = ⟨2 * q + 1, 2 * k, r.rest⟩ := ⟨_, rfl⟩
              have c3 := hid (show #[Value.int .i64 (2 * (q : Int) + 1), .int .i64 (2 * (k : Int)), .int .i64 r.rest] = (ruK.enc x3).toArray by rw [e3]; simp [ruK])
              have hR' : Hid (r.rulesTo (k + 1) = (r.rulesTo k ++ [x1]) ++ [x2] ++ [x3]) := hid (by rw [hR.out, hp.out, Rel.prev, if_pos (by rw [ha1'.out, ha2'.out]), e3]; rfl)
              have ha3 := hid (show ((r.rulesTo k ++ [x1]) ++ [x2]).length + [x3].length ≤ 1000 by have := hlenk.out; simp only [List.length_append, List.length_cons, List.length_nil]; omega)
              clear e3
              go_wp2
              go_quiet (fail)
              go_wp2_with (at_builtin; refine wpList_append_row ruK rfl _ _ rfl w0.heap.size v3 ((r.rulesTo k ++ [x1]) ++ [x2]) [x3] rfl (hown4.out.below (below_alloc (below_drewN (Below.refl _ _) _) _)) _ 0 1 1 rfl rfl (row_one ruK _ x3 _ _ c3.out) ha3.out (by have := B4.out.size; simp; omega) ?_; intro v5 w5 hown5 hb5 _)
              go_roundw
              case rel => exact ⟨k + 1, by omega, by go_num, hid (by rw [hR'.out]; exact hown5), hid (below_low hb5 (below_alloc (below_drewN B4.out _) _) (Nat.le_refl _))⟩
              case measure => simp [intOf]; omega
            · have hne : (a1 == a2) = false := by simpa using heq
              have hp2 : Hid (r.prev (r.st k).rider k = r.prev (r.st k).rider q) := hid (by rw [hp.out, Rel.prev, if_neg (by rw [ha1'.out, ha2'.out]; exact heq)])
              go_wp2
              go_quiet (fail)
              go_wp2
              go_roundw
              case rel => exact ⟨q, by omega, _, rfl, rfl, hp2, rfl, hid (hown4.out.below (below_drewN (Below.refl _ _) _)), hid (below_drewN B4.out _)⟩
              case measure => simp [intOf]
      · obtain rfl : k = 0 := by omega
        have hR1 : Hid (r.rulesTo (0 + 1) = r.rulesTo 0 ++ [⟨0, 1, 1⟩]) := hid (by rw [Rel.rulesTo_succ]; simp [Rel.ruleR, Rel.prev])
        go_wp2_with (at_builtin; refine wpList_append_row ruK rfl _ _ rfl w0.heap.size u3 (r.rulesTo 0) [⟨0, 1, 1⟩] rfl (hrow.out.below (below_alloc (Below.refl _ _) _)) wr.heap.size 0 1 1 rfl rfl (row_one ruK wr ⟨0, 1, 1⟩ _ _ rfl) (by have := hlenk.out; simp only [List.length_cons, List.length_nil]; omega) (by have := hbr.out.size; simp; omega) ?_; intro v2 w2 hown2 hb2 _; have B2 := hid (below_low hb2 (below_alloc hbr.out _) (Nat.le_refl _)); replace hown2 := hid hown2; clear hb2)
        refine wp_loop_rounds 1 ?_
        rw [rounds_succ]
        go_wp2
        go_roundw
        case rel => exact ⟨1, by omega, by go_num, hid (by rw [show r.rulesTo 1 = r.rulesTo (0 + 1) from rfl, hR1.out]; exact hown2.out), B2⟩
        case measure => simp [intOf]; omega
    · obtain rfl : k = r.stints.length := by omega
      go_wp2
      go_ret
      exact ⟨_, rfl, hrow.out.low hz0.out, hbw.out⟩
end Go.Proofs.Ytccgakdaiaigoaa

namespace Go.Proofs.Ytccgakdaiaigoaa
open Go.RowKit Go.Lap Go.Shelf

theorem row_lit {P : Program} {α : Type} (K : RowKind P α) (w : World) (ys : List α) (c : Array Value) (e : TypeId) (hc : c = (ys.flatMap K.enc).toArray) : ∀ k y', ys[k]? = some y' → ∀ f u, (K.enc y')[f]? = some u → (w.alloc (.cells c e)).cell? ⟨w.heap.size, 0 + k * K.size + f, none⟩ = some u := by
  subst hc
  intro k y' hk f u hu
  rw [Nat.zero_add, (cells_of (alloc_at (w := w) (n := w.heap.size) rfl)).2]
  simpa using flat_get K ys k y' hk f u hu
theorem box_set {Wo W : World} {b7 b8 : Nat} {u0 u1 x y : Value} {c : Array Value} (hb : Below Wo.heap.size Wo W) (h7 : W.heap[b7]? = some (.cells #[u0, u1] 28 (0, 0))) (h8 : W.heap[b8]? = some (.cells c 28 (0, 0))) (hne : b8 ≠ b7) (hB : Wo.heap.size ≤ b7) :
    Below Wo.heap.size Wo ((W.setCell ⟨b7, 0, none⟩ x).setCell ⟨b7, 1, none⟩ y) ∧ ((W.setCell ⟨b7, 0, none⟩ x).setCell ⟨b7, 1, none⟩ y).heap[b7]? = some (.cells #[x, y] 28 (0, 0)) ∧ ((W.setCell ⟨b7, 0, none⟩ x).setCell ⟨b7, 1, none⟩ y).heap[b8]? = some (.cells c 28 (0, 0)) := by
  refine ⟨below_set (below_set hb _ hB) _ hB, ?_, ?_⟩
  · have := heap_set_same (o := 1) (v := y) (heap_set_same (o := 0) (v := x) h7)
    simpa using this
  · have h1 : (W.setCell ⟨b7, 0, none⟩ x).heap[b8]? = some (.cells c 28 (0, 0)) := by
      simp only [World.setCell, Array.getElem?_modify]
      rw [if_neg (fun e => hne e.symm)]; exact h8
    simp only [World.setCell, Array.getElem?_modify] at h1 ⊢
    rw [if_neg (fun e => hne e.symm)]; exact h1

set_option maxRecDepth 100000 in
set_option maxHeartbeats 4000000 in
theorem meet_any (a b : Int × Int) (w : World) : Calls Try.prog 87 #[spanV a, spanV b] w fun e w' => e = .returned (spanV (meetS a b)) ∧ Below w.heap.size w w' := by
  obtain ⟨a1, a2⟩ := a
  obtain ⟨b1, b2⟩ := b
  obtain ⟨W3, hW3⟩ : ∃ W, W = ((w.alloc (.cells #[.int .i64 a1, .int .i64 a2] 28)).alloc (.cells #[.int .i64 b1, .int .i64 b2] 28)).alloc (.cells #[.int .i64 0, .int .i64 0] 28) := ⟨_, rfl⟩
  have h1 : W3.heap[w.heap.size]? = some (.cells #[.int .i64 a1, .int .i64 a2] 28 (0, 0)) := by
    rw [hW3]; exact alloc_old (by simp; omega) (alloc_old (by simp) (alloc_at rfl))
  have h2 : W3.heap[w.heap.size + 1]? = some (.cells #[.int .i64 b1, .int .i64 b2] 28 (0, 0)) := by
    rw [hW3]; exact alloc_old (by simp) (alloc_at (by simp))
  have h3 : W3.heap[w.heap.size + 1 + 1]? = some (.cells #[.int .i64 0, .int .i64 0] 28 (0, 0)) := by
    rw [hW3]; exact alloc_at (by simp)
  have hb : Below w.heap.size w W3 := by rw [hW3]; exact below_alloc (below_alloc (below_alloc (Below.refl _ _) _) _) _
  have hW3' := hid hW3
  clear hW3
  go_enter Try.func87, Try.ntmps87
  go_upto_region 1 with fail
  rw [← hW3'.out]
  clear hW3'
  have l1 := (cells_of h1).1
  have c1 := (cells_of h1).2
  have l2 := (cells_of h2).1
  have c2 := (cells_of h2).2
  have l3 := (cells_of h3).1
  have c3 := (cells_of h3).2
  have z3 := free_of h3
  replace hb := hid hb
  have h3' := hid h3
  have e1 : Hid (meetS (a1, a2) (b1, b2) = (max a1 b1, min a2 b2)) := hid rfl
  clear h1 h2 h3
  have g : ∀ x y : Int, max a1 b1 = x → min a2 b2 = y → Ending.returned (.agg #[.int .i64 x, .int .i64 y]) = Ending.returned (spanV (meetS (a1, a2) (b1, b2))) := fun x y hx hy => by rw [e1.out, hx, hy]
  replace g := hid g
  clear e1
  by_cases g1 : a1 < b1
  · by_cases g2 : b2 < a2
    · go_wp2
      have hs := heap_set_same (o := 1) (v := .int .i64 b2) (heap_set_same (o := 0) (v := .int .i64 b1) h3'.out)
      have r0 := (cells_of hs).2 0
      have r1 := (cells_of hs).2 1
      exact bodyPost_ret (v := .agg #[.int .i64 b1, .int .i64 b2]) (by simp [results, Try.results87, go_sem, r0, r1]) rfl ⟨g.out _ _ (by omega) (by omega), below_set (below_set hb.out _ (by simp; omega)) _ (by simp; omega)⟩
    · go_wp2
      have hs := heap_set_same (o := 1) (v := .int .i64 a2) (heap_set_same (o := 0) (v := .int .i64 b1) h3'.out)
      have r0 := (cells_of hs).2 0
      have r1 := (cells_of hs).2 1
      exact bodyPost_ret (v := .agg #[.int .i64 b1, .int .i64 a2]) (by simp [results, Try.results87, go_sem, r0, r1]) rfl ⟨g.out _ _ (by omega) (by omega), below_set (below_set hb.out _ (by simp; omega)) _ (by simp; omega)⟩
  · by_cases g2 : b2 < a2
    · go_wp2
      have hs := heap_set_same (o := 1) (v := .int .i64 b2) (heap_set_same (o := 0) (v := .int .i64 a1) h3'.out)
      have r0 := (cells_of hs).2 0
      have r1 := (cells_of hs).2 1
      exact bodyPost_ret (v := .agg #[.int .i64 a1, .int .i64 b2]) (by simp [results, Try.results87, go_sem, r0, r1]) rfl ⟨g.out _ _ (by omega) (by omega), below_set (below_set hb.out _ (by simp; omega)) _ (by simp; omega)⟩
    · go_wp2
      have hs := heap_set_same (o := 1) (v := .int .i64 a2) (heap_set_same (o := 0) (v := .int .i64 a1) h3'.out)
      have r0 := (cells_of hs).2 0
      have r1 := (cells_of hs).2 1
      exact bodyPost_ret (v := .agg #[.int .i64 a1, .int .i64 a2]) (by simp [results, Try.results87, go_sem, r0, r1]) rfl ⟨g.out _ _ (by omega) (by omega), below_set (below_set hb.out _ (by simp; omega)) _ (by simp; omega)⟩

/-- What the first entries of two say of a time. -/
def Rel.meetUp (r : Rel) (set n : Nat) : Nat → Int × Int
  | 0 => (0, 600)
  | j + 1 => if set.testBit (n + j) then meetS (r.meetUp set n j) (r.entry (n + j)) else r.meetUp set n j
theorem Rel.first_on (r : Rel) (set k : Nat) : r.firstAt set (2 * k) = r.meetUp set (4 * k) 2 := by
  simp only [Rel.firstAt, Rel.meetUp]
  rw [show 2 * k / 2 * 4 + 2 * k % 2 * 2 = 4 * k by omega]
  simp only [Nat.add_zero]
theorem Rel.first_off (r : Rel) (set k : Nat) : r.firstAt set (2 * k + 1) = r.meetUp set (4 * k + 2) 2 := by
  simp only [Rel.firstAt, Rel.meetUp]
  rw [show (2 * k + 1) / 2 * 4 + (2 * k + 1) % 2 * 2 = 4 * k + 2 by omega]
def Rel.firstTo (r : Rel) (set k : Nat) : Box := (List.range (2 * k)).map (r.firstAt set)
theorem Rel.firstTo_succ (r : Rel) (set k : Nat) : r.firstTo set (k + 1) = r.firstTo set k ++ [r.meetUp set (4 * k) 2, r.meetUp set (4 * k + 2) 2] := by
  rw [← r.first_on, ← r.first_off]
  simp [Rel.firstTo, show 2 * (k + 1) = 2 * k + 1 + 1 by omega, List.range_succ]
theorem Rel.firstTo_len (r : Rel) (set k : Nat) : (r.firstTo set k).length = 2 * k := by simp [Rel.firstTo]
end Go.Proofs.Ytccgakdaiaigoaa

namespace Go.Proofs.Ytccgakdaiaigoaa
open Go.RowKit Go.Lap Go.Shelf

/-- Are relays far too long, or longer than so many and valid? -/
def farB (r : Rel) (m : Nat) : Bool := decide (40 < r.n) || (decide (m < r.n) && r.valid)

set_option maxRecDepth 100000 in
set_option maxHeartbeats 4000000 in
theorem far_any (r : Rel) (hn : r.n ≤ maxLen) (m : Nat) (hm : m ≤ 5) (sv : Value) (w : World) (hS : StintsAt w sv r.stints) : Calls Try.prog 12 #[relV r sv, .int .i64 m] w fun e w' => e = .returned (.bool (farB r m)) ∧ Below w.heap.size w w' := by
  obtain ⟨sa, scap, rfl, hs0⟩ := id hS
  clear hs0
  have hb0 := below_alloc (Below.refl _ w) (.cells #[.int .i64 r.rest, .slice sa r.stints.length scap] 24)
  have hx := alloc_at (w := w) (o := .cells #[.int .i64 r.rest, .slice sa r.stints.length scap] 24) rfl
  have hf := hid (fun h => refRelays_any r h (.slice sa r.stints.length scap) _ (hS.below hb0))
  have hbz := hid hb0
  replace hb0 := hid hb0
  replace hS := hid hS
  have hni : (r.stints.length : Int) ≤ 9223372036854775807 := by simp only [maxLen] at hn; have : r.stints.length = r.n := rfl; omega
  have hmi : (m : Int) ≤ 5 := by omega
  obtain ⟨z, hz⟩ : ∃ z, farB r m = z := ⟨_, rfl⟩
  rw [hz]
  by_cases h4 : 40 < r.n
  · have h4i : (40 : Int) < (r.stints.length : Int) := by have : r.stints.length = r.n := rfl; omega
    have hz1 := hid (show z = true by rw [← hz, farB]; simp [h4])
    clear hf hz h4 hn
    go_enter Try.func12, Try.ntmps12
    go_wp2
    go_ret
    exact ⟨by rw [hz1.out]; rfl, hb0.out⟩
  · have h4i : ¬ (40 : Int) < (r.stints.length : Int) := by have : r.stints.length = r.n := rfl; omega
    by_cases h5 : m < r.n
    · have h5i : (m : Int) < (r.stints.length : Int) := by have : r.stints.length = r.n := rfl; omega
      have hz1 := hid (show z = r.valid by rw [← hz, farB]; simp [h4, h5])
      have hf := hid (hf.out (by omega))
      obtain ⟨v, hv⟩ : ∃ v, r.valid = v := ⟨_, rfl⟩
      rw [hv] at hf hz1
      clear hz h4 h5 hn hv
      go_enter Try.func12, Try.ntmps12
      go_wp2_with (go_at_call 32; with_reducible refine hf.out.mono ?_; rintro e w1 ⟨rfl, hb1⟩; replace hb0 := hid (below_via hb1 hb0.out); clear hf hb1)
      go_ret
      exact ⟨by rw [hz1.out]; rfl, hb0.out⟩
    · have h5i : ¬ (m : Int) < (r.stints.length : Int) := by have : r.stints.length = r.n := rfl; omega
      have hz1 := hid (show z = false by rw [← hz, farB]; simp [h4, h5])
      clear hf hz h4 h5 hn
      go_enter Try.func12, Try.ntmps12
      go_wp2
      go_ret
      exact ⟨by rw [hz1.out]; rfl, hb0.out⟩
theorem far_as {r : Rel} {m : Nat} {M : Int} {x : Bool} (h : farB r m = x) (hM : M = m) (hn : r.n ≤ maxLen) (hm : m ≤ 5) (sv : Value) (w : World) (hS : StintsAt w sv r.stints) : Calls Try.prog 12 #[relV r sv, .int .i64 M] w fun e w' => e = .returned (.bool x) ∧ Below w.heap.size w w' := by
  subst h hM; exact far_any r hn m hm sv w hS
theorem far_n {r : Rel} {m : Nat} (h : farB r m = false) : r.n ≤ 1000000 := by
  simp only [farB, Bool.or_eq_false_iff, decide_eq_false_iff_not] at h
  omega
end Go.Proofs.Ytccgakdaiaigoaa
