/- The walks of the small functions of package relay: within, must, told. The walk of bits.OnesCount. The walk of bits.OnesCount, and of lesser. The walk of a table's can. The walk of a table's span. The walk of one step of a table's add. The walks of each, and of a table's add. -/
import Derived.Test.YtccgakdaiaigoaaRows
import Derived.Test.YtccgakdaiaigoaaGP
import Derived.Test.YtccgakdaiaigoaaGK
import Derived.Shelf.RegionOpen
import Derived.Deep.Cut
namespace Go.Proofs.Ytccgakdaiaigoaa
open Go.RowKit Go.Lap

def inB (n lo hi : Int) : Bool := decide (lo ≤ n) && decide (n ≤ hi)
theorem inB_iff {n lo hi : Int} : inB n lo hi = true ↔ lo ≤ n ∧ n ≤ hi := by simp [inB]

theorem hmf : ∀ (fn : Fn) (first cap : Array Value) (w : World), (Instr.makeFunc fn first cap).run Try.prog w = .ok (.func fn first cap) w := fun _ _ _ _ => rfl

set_option maxHeartbeats 400000 in
theorem within_any (n lo hi : Int) (w : World) :
    Calls Try.prog 73 #[.int .i64 n, .int .i64 lo, .int .i64 hi] w fun e w' => e = .returned (.bool (inB n lo hi)) ∧ w = w' := by
  by_cases h1 : lo ≤ n
  · go_enter Try.func73, Try.ntmps73
    go_wp2
    go_ret
    exact ⟨by simp [inB, h1], rfl⟩
  · go_enter Try.func73, Try.ntmps73
    go_wp2
    go_ret
    exact ⟨by have h2 : ¬ lo ≤ n := by omega
              simp [inB, h2], rfl⟩

/-- What a panic of the package tells. -/
abbrev failV (n : Int) : Value := .iface 99 (.agg #[.int .i64 n])

set_option maxHeartbeats 400000 in
theorem must_yes (n : Int) (w : World) :
    Calls Try.prog 61 #[.bool true, .int .i64 n] w fun e w' => e = .returned (.tuple #[]) ∧ w = w' := by
  go_enter Try.func61, Try.ntmps61
  go_wp2
  go_end0
  exact ⟨rfl, rfl⟩

set_option maxHeartbeats 400000 in
theorem must_no (n : Int) (w : World) :
    Calls Try.prog 61 #[.bool false, .int .i64 n] w fun e w' => e = .panicked [{ v := failV n, recovered := false }] ∧ w = w' := by
  go_enter Try.func61, Try.ntmps61
  go_wp2
  exact ⟨rfl, rfl, rfl⟩

theorem must_calls {c : Bool} {n : Int} {w : World} {R : Ending → World → Prop} (h1 : c = true → R (.returned (.tuple #[])) w) (h2 : c = false → R (.panicked [{ v := failV n, recovered := false }]) w) :
    Calls Try.prog 61 #[.bool c, .int .i64 n] w R := by
  cases c
  · exact (must_no n w).mono fun e w' ⟨he, hw⟩ => by subst he; subst hw; exact h2 rfl
  · exact (must_yes n w).mono fun e w' ⟨he, hw⟩ => by subst he; subst hw; exact h1 rfl

theorem assert_fail (n : Int) (w : World) : (Instr.typeAssert (failV n) 20 99 true).run Try.prog w = .ok (.tuple #[.agg #[.int .i64 n], .bool true]) w := by kernel_rfl

set_option maxRecDepth 100000 in
set_option maxHeartbeats 400000 in
theorem told_panicking (b : Nat) (n x : Int) (w : World) (hp : b < w.heap.size) (hc : w.cell? ⟨b, 0, none⟩ = some (.int .i64 x)) (hz : w.frozen? ⟨b, 0, none⟩ = false) :
    CallsD Try.prog 44 #[.pointer (some ⟨b, 0, none⟩)] (.panicking [{ v := failV n, recovered := false }]) w fun e u' w' =>
      e = .returned (.tuple #[]) ∧ u' = .panicking [{ v := failV n, recovered := true }] ∧ w' = (w.setCell ⟨b, 0, none⟩ (.int .i64 n)).alloc (.cells #[.int .i64 n] 99) := by
  have ha := assert_fail n
  have hne : ¬ b = w.heap.size := by omega
  refine callsD_of_wpS Try.func44 rfl fun c₀ cs hu => ?_
  simp only [Try.ntmps44, List.size_toArray, List.length_cons, List.length_nil, Nat.reduceAdd, Nat.reduceSub, Array.replicate_succ, Array.replicate_zero, List.push_toArray, List.append_toArray, List.nil_append, List.cons_append]
  apply wpS_seq
  apply wpS_region
  simp [wpOpsS, go_sem, recoverD, hu, Exit.thenS]
  apply wpS_of_wp
  go_wp2
  cases c₀
  simp_all [bodyPostS, results, Try.results44]

set_option maxHeartbeats 400000 in
theorem told_idle (p : Addr) (w : World) :
    CallsD Try.prog 44 #[.pointer (some p)] .returning w fun e u' w' => e = .returned (.tuple #[]) ∧ u' = .returning ∧ w' = w := by
  refine callsD_of_wpS Try.func44 rfl fun c₀ cs hu => ?_
  simp only [Try.ntmps44, List.size_toArray, List.length_cons, List.length_nil, Nat.reduceAdd, Nat.reduceSub, Array.replicate_succ, Array.replicate_zero, List.push_toArray, List.append_toArray, List.nil_append, List.cons_append]
  apply wpS_seq
  apply wpS_region
  simp [wpOpsS, go_sem, recoverD, hu, Exit.thenS]
  apply wpS_of_wp
  go_wp2
  cases c₀
  simp_all [bodyPostS, results, Try.results44]
end Go.Proofs.Ytccgakdaiaigoaa

namespace Go.Proofs.Ytccgakdaiaigoaa
open Go.RowKit Go.Lap Go.Shelf

theorem and_u (a b : Nat) (ha : a < 18446744073709551616) (hb : b < 18446744073709551616) : bits .and .u64 (a : Int) (b : Int) = ((a &&& b : Nat) : Int) := (bits_u a b ha hb).1
theorem wrap_u {n : Int} (h1 : 0 ≤ n) (h2 : n < 18446744073709551616) : IntKind.u64.wrap n = n := by
  rw [IntKind.wrap_u64]; omega
theorem val_lt {l : List Nat} (h : ∀ b ∈ l, b < 256) : val l < 256 ^ l.length := by
  induction l with
  | nil => simp [val]
  | cons b l ih =>
    have h1 := h b (by simp)
    have h2 := ih (fun x hx => h x (by simp [hx]))
    simp only [val, List.length_cons, Nat.pow_succ]
    omega
theorem add_chain {x y d e q r : Nat} (hx : x = d + 256 * q) (hy : y = e + 256 * r) : x + y = (d + e) + 256 * (q + r) := by omega
theorem dv_chain {x d q : Nat} (e : x = d + 256 * q) (hd : d < 256) : x / 256 = q := by omega
theorem c_lt {c0 c1 c2 c3 c4 c5 c6 c7 d0 d1 d2 d3 d4 d5 d6 d7 : Nat} (m0 : c0 = d0 + 256 * c1) (m1 : c1 = d1 + 256 * c2) (m2 : c2 = d2 + 256 * c3) (m3 : c3 = d3 + 256 * c4) (m4 : c4 = d4 + 256 * c5) (m5 : c5 = d5 + 256 * c6) (m6 : c6 = d6 + 256 * c7) (m7 : c7 = d7 + 256 * 0)
    (b0 : d0 ≤ 64) (b1 : d1 ≤ 64) (b2 : d2 ≤ 64) (b3 : d3 ≤ 64) (b4 : d4 ≤ 64) (b5 : d5 ≤ 64) (b6 : d6 ≤ 64) (b7 : d7 ≤ 64) : c0 < 18446744073709551616 := by omega
theorem c_mod {d q : Nat} (h : d ≤ 64) : (d + 256 * q) % 128 = d := by omega
/-- The bytes' sum, in the least byte. -/
theorem fold_sum {p0 p1 p2 p3 p4 p5 p6 p7 : Nat} (h : p0 ≤ 8 ∧ p1 ≤ 8 ∧ p2 ≤ 8 ∧ p3 ≤ 8 ∧ p4 ≤ 8 ∧ p5 ≤ 8 ∧ p6 ≤ 8 ∧ p7 ≤ 8) :
    ∃ u a b c : Nat, val [p0, p1, p2, p3, p4, p5, p6, p7] = u ∧ u + u / 256 = a ∧ a + a / 65536 = b ∧ b + b / 4294967296 = c ∧ c < 18446744073709551616 ∧ c % 128 = p0 + p1 + p2 + p3 + p4 + p5 + p6 + p7 := by
  obtain ⟨h0, h1, h2, h3, h4, h5, h6, h7⟩ := h
  have dv2 : ∀ x : Nat, x / 65536 = x / 256 / 256 := fun x => by omega
  have dv4 : ∀ x : Nat, x / 4294967296 = x / 256 / 256 / 256 / 256 := fun x => by omega
  have bu0 : p0 < 256 := by omega
  have bA0 : (p0 + p1) < 256 := by omega
  have bA1 : (p1 + p2) < 256 := by omega
  have bB0 : ((p0 + p1) + (p2 + p3)) < 256 := by omega
  have bB1 : ((p1 + p2) + (p3 + p4)) < 256 := by omega
  have bB2 : ((p2 + p3) + (p4 + p5)) < 256 := by omega
  have bB3 : ((p3 + p4) + (p5 + p6)) < 256 := by omega
  have bC0 : (((p0 + p1) + (p2 + p3)) + ((p4 + p5) + (p6 + p7))) ≤ 64 := by omega
  have bC1 : (((p1 + p2) + (p3 + p4)) + ((p5 + p6) + (p7 + 0))) ≤ 64 := by omega
  have bC2 : (((p2 + p3) + (p4 + p5)) + ((p6 + p7) + 0)) ≤ 64 := by omega
  have bC3 : (((p3 + p4) + (p5 + p6)) + ((p7 + 0) + 0)) ≤ 64 := by omega
  have bC4 : (((p4 + p5) + (p6 + p7)) + 0) ≤ 64 := by omega
  have bC5 : (((p5 + p6) + (p7 + 0)) + 0) ≤ 64 := by omega
  have bC6 : (((p6 + p7) + 0) + 0) ≤ 64 := by omega
  have bC7 : (((p7 + 0) + 0) + 0) ≤ 64 := by omega
  have bz : (((p0 + p1) + (p2 + p3)) + ((p4 + p5) + (p6 + p7))) = p0 + p1 + p2 + p3 + p4 + p5 + p6 + p7 := by omega
  have u8 : (0 : Nat) = 0 + 256 * 0 := rfl
  obtain ⟨u7, e7⟩ : ∃ u, u = p7 + 256 * 0 := ⟨_, rfl⟩
  obtain ⟨u6, e6⟩ : ∃ u, u = p6 + 256 * u7 := ⟨_, rfl⟩
  obtain ⟨u5, e5⟩ : ∃ u, u = p5 + 256 * u6 := ⟨_, rfl⟩
  obtain ⟨u4, e4⟩ : ∃ u, u = p4 + 256 * u5 := ⟨_, rfl⟩
  obtain ⟨u3, e3⟩ : ∃ u, u = p3 + 256 * u4 := ⟨_, rfl⟩
  obtain ⟨u2, e2⟩ : ∃ u, u = p2 + 256 * u3 := ⟨_, rfl⟩
  obtain ⟨u1, e1⟩ : ∃ u, u = p1 + 256 * u2 := ⟨_, rfl⟩
  obtain ⟨u0, e0⟩ : ∃ u, u = p0 + 256 * u1 := ⟨_, rfl⟩
  have hu : val [p0, p1, p2, p3, p4, p5, p6, p7] = u0 := by
    simp only [val]; rw [e0, e1, e2, e3, e4, e5, e6, e7]
  obtain ⟨A7, gA7⟩ : ∃ x, x = u7 + 0 := ⟨_, rfl⟩
  have f7 : A7 = (p7 + 0) + 256 * 0 := by rw [gA7]; exact add_chain e7 u8
  obtain ⟨A6, gA6⟩ : ∃ x, x = u6 + u7 := ⟨_, rfl⟩
  have f6 : A6 = (p6 + p7) + 256 * A7 := by rw [gA6, gA7]; exact add_chain e6 e7
  obtain ⟨A5, gA5⟩ : ∃ x, x = u5 + u6 := ⟨_, rfl⟩
  have f5 : A5 = (p5 + p6) + 256 * A6 := by rw [gA5, gA6]; exact add_chain e5 e6
  obtain ⟨A4, gA4⟩ : ∃ x, x = u4 + u5 := ⟨_, rfl⟩
  have f4 : A4 = (p4 + p5) + 256 * A5 := by rw [gA4, gA5]; exact add_chain e4 e5
  obtain ⟨A3, gA3⟩ : ∃ x, x = u3 + u4 := ⟨_, rfl⟩
  have f3 : A3 = (p3 + p4) + 256 * A4 := by rw [gA3, gA4]; exact add_chain e3 e4
  obtain ⟨A2, gA2⟩ : ∃ x, x = u2 + u3 := ⟨_, rfl⟩
  have f2 : A2 = (p2 + p3) + 256 * A3 := by rw [gA2, gA3]; exact add_chain e2 e3
  obtain ⟨A1, gA1⟩ : ∃ x, x = u1 + u2 := ⟨_, rfl⟩
  have f1 : A1 = (p1 + p2) + 256 * A2 := by rw [gA1, gA2]; exact add_chain e1 e2
  obtain ⟨A0, gA0⟩ : ∃ x, x = u0 + u1 := ⟨_, rfl⟩
  have f0 : A0 = (p0 + p1) + 256 * A1 := by rw [gA0, gA1]; exact add_chain e0 e1
  obtain ⟨B7, gB7⟩ : ∃ x, x = A7 + 0 := ⟨_, rfl⟩
  have k7 : B7 = ((p7 + 0) + 0) + 256 * 0 := by rw [gB7]; exact add_chain f7 u8
  obtain ⟨B6, gB6⟩ : ∃ x, x = A6 + 0 := ⟨_, rfl⟩
  have k6 : B6 = ((p6 + p7) + 0) + 256 * B7 := by rw [gB6, gB7]; exact add_chain f6 u8
  obtain ⟨B5, gB5⟩ : ∃ x, x = A5 + A7 := ⟨_, rfl⟩
  have k5 : B5 = ((p5 + p6) + (p7 + 0)) + 256 * B6 := by rw [gB5, gB6]; exact add_chain f5 f7
  obtain ⟨B4, gB4⟩ : ∃ x, x = A4 + A6 := ⟨_, rfl⟩
  have k4 : B4 = ((p4 + p5) + (p6 + p7)) + 256 * B5 := by rw [gB4, gB5]; exact add_chain f4 f6
  obtain ⟨B3, gB3⟩ : ∃ x, x = A3 + A5 := ⟨_, rfl⟩
  have k3 : B3 = ((p3 + p4) + (p5 + p6)) + 256 * B4 := by rw [gB3, gB4]; exact add_chain f3 f5
  obtain ⟨B2, gB2⟩ : ∃ x, x = A2 + A4 := ⟨_, rfl⟩
  have k2 : B2 = ((p2 + p3) + (p4 + p5)) + 256 * B3 := by rw [gB2, gB3]; exact add_chain f2 f4
  obtain ⟨B1, gB1⟩ : ∃ x, x = A1 + A3 := ⟨_, rfl⟩
  have k1 : B1 = ((p1 + p2) + (p3 + p4)) + 256 * B2 := by rw [gB1, gB2]; exact add_chain f1 f3
  obtain ⟨B0, gB0⟩ : ∃ x, x = A0 + A2 := ⟨_, rfl⟩
  have k0 : B0 = ((p0 + p1) + (p2 + p3)) + 256 * B1 := by rw [gB0, gB1]; exact add_chain f0 f2
  obtain ⟨C7, gC7⟩ : ∃ x, x = B7 + 0 := ⟨_, rfl⟩
  have m7 : C7 = (((p7 + 0) + 0) + 0) + 256 * 0 := by rw [gC7]; exact add_chain k7 u8
  obtain ⟨C6, gC6⟩ : ∃ x, x = B6 + 0 := ⟨_, rfl⟩
  have m6 : C6 = (((p6 + p7) + 0) + 0) + 256 * C7 := by rw [gC6, gC7]; exact add_chain k6 u8
  obtain ⟨C5, gC5⟩ : ∃ x, x = B5 + 0 := ⟨_, rfl⟩
  have m5 : C5 = (((p5 + p6) + (p7 + 0)) + 0) + 256 * C6 := by rw [gC5, gC6]; exact add_chain k5 u8
  obtain ⟨C4, gC4⟩ : ∃ x, x = B4 + 0 := ⟨_, rfl⟩
  have m4 : C4 = (((p4 + p5) + (p6 + p7)) + 0) + 256 * C5 := by rw [gC4, gC5]; exact add_chain k4 u8
  obtain ⟨C3, gC3⟩ : ∃ x, x = B3 + B7 := ⟨_, rfl⟩
  have m3 : C3 = (((p3 + p4) + (p5 + p6)) + ((p7 + 0) + 0)) + 256 * C4 := by rw [gC3, gC4]; exact add_chain k3 k7
  obtain ⟨C2, gC2⟩ : ∃ x, x = B2 + B6 := ⟨_, rfl⟩
  have m2 : C2 = (((p2 + p3) + (p4 + p5)) + ((p6 + p7) + 0)) + 256 * C3 := by rw [gC2, gC3]; exact add_chain k2 k6
  obtain ⟨C1, gC1⟩ : ∃ x, x = B1 + B5 := ⟨_, rfl⟩
  have m1 : C1 = (((p1 + p2) + (p3 + p4)) + ((p5 + p6) + (p7 + 0))) + 256 * C2 := by rw [gC1, gC2]; exact add_chain k1 k5
  obtain ⟨C0, gC0⟩ : ∃ x, x = B0 + B4 := ⟨_, rfl⟩
  have m0 : C0 = (((p0 + p1) + (p2 + p3)) + ((p4 + p5) + (p6 + p7))) + 256 * C1 := by rw [gC0, gC1]; exact add_chain k0 k4
  have q1 : u0 / 256 = u1 := dv_chain e0 bu0
  have r0 : A0 / 256 = A1 := dv_chain f0 bA0
  have r1 : A1 / 256 = A2 := dv_chain f1 bA1
  have s0 : B0 / 256 = B1 := dv_chain k0 bB0
  have s1 : B1 / 256 = B2 := dv_chain k1 bB1
  have s2 : B2 / 256 = B3 := dv_chain k2 bB2
  have s3 : B3 / 256 = B4 := dv_chain k3 bB3
  refine ⟨u0, A0, B0, C0, hu, by rw [q1, gA0], by rw [dv2, r0, r1, gB0], by rw [dv4, s0, s1, s2, s3, gC0], ?_, ?_⟩
  · exact c_lt m0 m1 m2 m3 m4 m5 m6 m7 bC0 bC1 bC2 bC3 bC4 bC5 bC6 bC7
  · rw [m0, ← bz]
    exact c_mod bC0

theorem and127 (c : Nat) (hc : c < 18446744073709551616) : bits .and .i64 (wrap64 (c : Int)) 127 = ((c % 128 : Nat) : Int) := by
  have ea : (BitVec.ofInt 64 (wrap64 (c : Int))).toNat = c := by
    rw [BitVec.toNat_ofInt]; simp only [wrap64]; omega
  have eb : (BitVec.ofInt 64 (127 : Int)).toNat = 127 := by decide
  have em : c &&& 127 = c % 128 := Nat.and_two_pow_sub_one_eq_mod c 7
  show IntKind.i64.wrap ((BitVec.ofInt 64 (wrap64 (c : Int)) &&& BitVec.ofInt 64 (127 : Int)).toNat : Nat) = _
  rw [BitVec.toNat_and, ea, eb, em]
  exact Go.IntWalk.i64_in _ (by omega)

set_option maxRecDepth 100000 in
set_option maxHeartbeats 4000000 in
theorem ones64_any (x : Nat) (hx : x < 18446744073709551616) (w : World) : Calls Try.prog 91 #[.int .u64 x] w fun e w' => e = .returned (.int .i64 (popc x : Nat)) ∧ Below w.heap.size w w' := by
  go_enter Try.func91, Try.ntmps91
  go_wp2
  go_ret
  refine ⟨ret_int ?_, Below.refl _ _⟩
  have e1 : bits .and .u64 ((x : Int) / 2) 6148914691236517205 = ((x / 2 &&& 6148914691236517205 : Nat) : Int) := and_u (x / 2) 6148914691236517205 (by omega) (by decide)
  have e2 : bits .and .u64 (x : Int) 6148914691236517205 = ((x &&& 6148914691236517205 : Nat) : Int) := and_u x 6148914691236517205 hx (by decide)
  have l1 : x / 2 &&& 6148914691236517205 ≤ 6148914691236517205 := Nat.and_le_right
  have l2 : x &&& 6148914691236517205 ≤ 6148914691236517205 := Nat.and_le_right
  rw [e1, e2]
  obtain ⟨y, hy⟩ : ∃ y, (x / 2 &&& 6148914691236517205) + (x &&& 6148914691236517205) = y := ⟨_, rfl⟩
  have e3 : IntKind.u64.wrap (((x / 2 &&& 6148914691236517205 : Nat) : Int) + ((x &&& 6148914691236517205 : Nat) : Int)) = (y : Int) := by
    rw [wrap_u (by omega) (by omega)]; omega
  rw [e3]
  have e4 : bits .and .u64 ((y : Int) / 4) 3689348814741910323 = ((y / 4 &&& 3689348814741910323 : Nat) : Int) := and_u (y / 4) 3689348814741910323 (by omega) (by decide)
  have e5 : bits .and .u64 (y : Int) 3689348814741910323 = ((y &&& 3689348814741910323 : Nat) : Int) := and_u y 3689348814741910323 (by omega) (by decide)
  have l3 : y / 4 &&& 3689348814741910323 ≤ 3689348814741910323 := Nat.and_le_right
  have l4 : y &&& 3689348814741910323 ≤ 3689348814741910323 := Nat.and_le_right
  rw [e4, e5]
  obtain ⟨z, hz⟩ : ∃ z, (y / 4 &&& 3689348814741910323) + (y &&& 3689348814741910323) = z := ⟨_, rfl⟩
  have e6 : IntKind.u64.wrap (((y / 4 &&& 3689348814741910323 : Nat) : Int) + ((y &&& 3689348814741910323 : Nat) : Int)) = (z : Int) := by
    rw [wrap_u (by omega) (by omega)]; omega
  rw [e6]
  have hsw := swar_bytes hx
  simp only [swar] at hsw
  rw [hy, hz] at hsw
  have hyl : y ≤ 12297829382473034410 := by omega
  have hzl : z ≤ 7378697629483820646 := by omega
  have e7 : IntKind.u64.wrap ((z : Int) / 16 + (z : Int)) = ((z / 16 + z : Nat) : Int) := by
    rw [wrap_u (by omega) (by omega)]; omega
  have e8 : bits .and .u64 ((z / 16 + z : Nat) : Int) 1085102592571150095 = (((z / 16 + z) &&& 1085102592571150095 : Nat) : Int) := and_u (z / 16 + z) 1085102592571150095 (by omega) (by decide)
  rw [e7, e8, hsw, popc_bytes hx]
  have hp : ∀ v : Nat, cnt 8 (v % 256) ≤ 8 := fun v => (f_cnt (Nat.mod_lt v (by decide))).2.2.2
  obtain ⟨u, a, b, c, hu, ha, hb, hc, hc1, hc2⟩ := fold_sum ⟨hp x, hp (x / 256), hp (x / 65536), hp (x / 16777216), hp (x / 4294967296), hp (x / 1099511627776), hp (x / 281474976710656), hp (x / 72057594037927936)⟩
  have hu' : val ((bytes x).map (cnt 8)) = u := hu
  rw [hu']
  have hsum : ((bytes x).map (cnt 8)).sum = c % 128 := by
    rw [hc2]
    simp only [bytes, List.map_cons, List.map_nil, List.sum_cons, List.sum_nil]
    omega
  rw [hsum]
  have w1 : IntKind.u64.wrap ((u : Int) + (u : Int) / 256) = (a : Int) := by
    rw [wrap_u (by omega) (by omega)]; omega
  have w2 : IntKind.u64.wrap ((a : Int) + (a : Int) / 65536) = (b : Int) := by
    rw [wrap_u (by omega) (by omega)]; omega
  have w3 : IntKind.u64.wrap ((b : Int) + (b : Int) / 4294967296) = (c : Int) := by
    rw [wrap_u (by omega) (by omega)]; omega
  rw [w1, w2, w3]
  clear hsum w1 w2 w3 hu' hc2 hu hsw e1 e2 e3 e4 e5 e6 e7 e8 hp l1 l2 l3 l4 hy hz hyl hzl ha hb hc
  exact and127 c hc1
end Go.Proofs.Ytccgakdaiaigoaa

namespace Go.Proofs.Ytccgakdaiaigoaa
open Go.RowKit Go.Lap Go.Shelf

set_option maxRecDepth 100000 in
set_option maxHeartbeats 4000000 in
theorem ones_any (x : Nat) (hx : x < 18446744073709551616) (w : World) : Calls Try.prog 85 #[.int .u64 x] w fun e w' => e = .returned (.int .i64 (popc x : Nat)) ∧ Below w.heap.size w w' := by
  have H := hid (fun W => ones64_any x hx W)
  clear hx
  go_enter Try.func85, Try.ntmps85
  go_wp2_with (go_at_call 91; with_reducible refine (H.out _).mono ?_; rintro e w1 ⟨rfl, hb⟩)
  go_ret
  exact ⟨rfl, hb⟩
set_option maxRecDepth 100000 in
set_option maxHeartbeats 4000000 in
theorem lesser_any (x y : Nat) (hx : x < 18446744073709551616) (hy : y < 18446744073709551616) (w : World) : Calls Try.prog 65 #[.int .u64 x, .int .u64 y] w fun e w' => e = .returned (.bool (lesserB x y)) ∧ Below w.heap.size w w' := by
  have H1 := hid (fun W => ones_any x hx W)
  have H2 := hid (fun W => ones_any y hy W)
  clear hx hy
  unfold lesserB
  obtain ⟨p, hp⟩ : ∃ p, popc x = p := ⟨_, rfl⟩
  obtain ⟨q, hq⟩ : ∃ q, popc y = q := ⟨_, rfl⟩
  rw [hp] at H1 ⊢
  rw [hq] at H2 ⊢
  clear hp hq
  by_cases h1 : p < q <;> by_cases h2 : p = q <;>
  · go_enter Try.func65, Try.ntmps65
    go_wp2_with (first
      | (go_at_call 85; with_reducible refine (H1.out _).mono ?_; rintro e w1 ⟨rfl, hb1⟩)
      | (go_at_call 85; with_reducible refine (H2.out _).mono ?_; rintro e w2 ⟨rfl, hb2⟩))
    go_ret
    exact ⟨by simp [h1, h2], below_via hb2 hb1⟩
end Go.Proofs.Ytccgakdaiaigoaa

namespace Go.Proofs.Ytccgakdaiaigoaa
open Go.RowKit Go.Lap Go.Shelf

/-- The table's cells. -/
abbrev tabV (t : List Int) : Array Value := (t.map fun z => Value.int .i64 z).toArray
theorem canB_false {t : List Int} {i : Nat} (hi : i < 11) (h : t.getD (i * 11 + i) 0 < 0) : canB t = false := by
  simp only [canB]
  rw [List.all_eq_false]
  exact ⟨i, List.mem_range.2 hi, by simp only [decide_eq_true_eq]; omega⟩
theorem canB_true {t : List Int} (h : ∀ i, i < 11 → 0 ≤ t.getD (i * 11 + i) 0) : canB t = true := by
  simp only [canB, List.all_eq_true, decide_eq_true_eq]
  exact fun i hi => h i (List.mem_range.1 hi)
theorem tab_cell {W : World} {tb : Nat} {t : List Int} {ty : TypeId} (h : W.heap[tb]? = some (.cells (tabV t) ty (0, 0))) {k : Nat} (hk : k < t.length) : W.cell? ⟨tb, k, none⟩ = some (.int .i64 (t.getD k 0)) := by
  rw [(cells_of h).2]
  simp [hk]

set_option maxRecDepth 100000 in
set_option maxHeartbeats 4000000 in
theorem can_any (tb : Nat) (t : List Int) (ty : TypeId) (w : World) (h : w.heap[tb]? = some (.cells (tabV t) ty (0, 0))) (ht : t.length = 121) :
    Calls Try.prog 72 #[.pointer (some ⟨tb, 0, none⟩)] w fun e w' => e = .returned (.bool (canB t)) ∧ w' = w := by
  have hc := hid (fun k (hk : k < 121) => tab_cell h (k := k) (by omega))
  have lt := (cells_of h).1
  clear h ht
  go_enter Try.func72, Try.ntmps72
  go_wp2
  go_loopw [4] (fun ix wr => ∃ i : Nat, i ≤ 11 ∧ ix = .int .i64 i ∧ wr = w ∧ Hid (∀ k, k < i → 0 ≤ t.getD (k * 11 + k) 0)) (fun ix _ => 11 - (intOf ix).toNat)
  case atStart => exact ⟨0, by omega, rfl, rfl, hid (fun k hk => absurd hk (by omega))⟩
  case round =>
    obtain ⟨i, hi, rfl, rfl, hp⟩ := hrel
    by_cases hlt : i < 11
    · have hki : (i : Int) < 11 := by omega
      have hci := hc.out (i * 11 + i) (by omega)
      obtain ⟨z, hz⟩ : ∃ z, t.getD (i * 11 + i) 0 = z := ⟨_, rfl⟩
      rw [hz] at hci
      have hz' := hid hz
      clear hz
      by_cases hn : z < 0
      · go_wp2
        go_ret
        exact ⟨by rw [canB_false hlt (by rw [hz'.out]; exact hn)]; rfl, rfl⟩
      · go_wp2
        go_roundw
        case rel => exact ⟨i + 1, by omega, by go_num, (by first | trivial | rfl), hid (fun k hk => by
          by_cases e : k = i
          · rw [e, hz'.out]; omega
          · exact hp.out k (by omega))⟩
        case measure => simp [intOf]; omega
    · obtain rfl : i = 11 := by omega
      go_wp2
      go_ret
      exact ⟨by rw [canB_true hp.out]; rfl, rfl⟩
end Go.Proofs.Ytccgakdaiaigoaa

namespace Go.Proofs.Ytccgakdaiaigoaa
open Go.RowKit Go.Lap Go.Shelf

theorem heap_set_same {W : World} {b o : Nat} {c : Array Value} {t : TypeId} {v : Value} (h : W.heap[b]? = some (.cells c t (0, 0))) : (W.setCell ⟨b, o, none⟩ v).heap[b]? = some (.cells (c.setIfInBounds o v) t (0, 0)) := by
  simp [World.setCell, Array.getElem?_modify, h]

set_option maxRecDepth 100000 in
set_option maxHeartbeats 4000000 in
theorem span_any (tb : Nat) (t : List Int) (ty : TypeId) (w : World) (h : w.heap[tb]? = some (.cells (tabV t) ty (0, 0))) (ht : t.length = 121) (a b : Nat) (ha : a < 11) (hb : b < 11) (hr : -9000000000000000000 ≤ t.getD (b * 11 + a) 0 ∧ t.getD (b * 11 + a) 0 ≤ 9000000000000000000) :
    Calls Try.prog 47 #[.pointer (some ⟨tb, 0, none⟩), .int .i64 a, .int .i64 b] w fun e w' => e = .returned (.agg #[.int .i64 (- t.getD (b * 11 + a) 0), .int .i64 (t.getD (a * 11 + b) 0)]) ∧ Below w.heap.size w w' := by
  have c1 := tab_cell h (k := b * 11 + a) (by omega)
  have c2 := tab_cell h (k := a * 11 + b) (by omega)
  have lt := (cells_of h).1
  clear h ht
  obtain ⟨x, hx⟩ : ∃ x, t.getD (b * 11 + a) 0 = x := ⟨_, rfl⟩
  obtain ⟨y, hy⟩ : ∃ y, t.getD (a * 11 + b) 0 = y := ⟨_, rfl⟩
  rw [hx] at c1 hr ⊢
  rw [hy] at c2 ⊢
  clear hx hy
  have hn : IntKind.i64.wrap (-x) = -x := Go.IntWalk.i64_in _ (by omega)
  have ha' : (a : Int) < 11 := by omega
  have hb' : (b : Int) < 11 := by omega
  have hb1 := below_alloc (Below.refl w.heap.size w) (.cells #[.int .i64 0, .int .i64 0] 28)
  go_enter Try.func47, Try.ntmps47
  go_upto_region 1 with fail
  have hnew : (w.alloc (.cells #[.int .i64 0, .int .i64 0] 28)).heap[w.heap.size]? = some (.cells #[.int .i64 0, .int .i64 0] 28 (0, 0)) := alloc_at rfl
  have k1 := (hb1.cell (p := ⟨tb, b * 11 + a, none⟩) lt).trans c1
  have k2 := (hb1.cell (p := ⟨tb, a * 11 + b, none⟩) lt).trans c2
  have l1 := Nat.lt_of_lt_of_le lt hb1.size
  clear c1 c2 lt
  generalize w.alloc (.cells #[.int .i64 0, .int .i64 0] 28) = w1 at hb1 hnew k1 k2 l1 ⊢
  replace hb1 := hid hb1
  replace hnew := hid hnew
  refine wp_region_later_tail 16 (by kernel_rfl) (by kernel_rfl) ?_
  intro hx
  simp only [List.take_succ_cons, List.take_zero, List.drop_succ_cons, List.drop_zero]
  repeat (any_goals (first | go_big_quiet_step (fail) | quiet_step (fail)))
  refine wpQuiet_nil ?_
  rintro w4 ⟨x4, hxw⟩
  have hb4 := x4.below
  rw [← hxw] at hb4
  clear hx hxw x4
  have hn4 := (hb4.block _ (cells_of hnew.out).1).trans hnew.out
  have l4 := (cells_of hn4).1
  have d4 := (cells_of hn4).2
  have z4 := free_of hn4
  have s1 := heap_set_same (o := 1) (v := .int .i64 y) (heap_set_same (o := 0) (v := .int .i64 (-x)) hn4)
  have r0 := (cells_of s1).2 0
  have r1 := (cells_of s1).2 1
  clear k1 k2 l1 hn4 s1
  replace r0 := hid r0
  replace r1 := hid r1
  replace hb4 := hid hb4
  go_wp2
  have q0 := r0.out
  have q1 := r1.out
  refine bodyPost_ret (v := .agg #[.int .i64 (-x), .int .i64 y]) (by simp [results, Try.results47, go_sem, q0, q1]) rfl ⟨rfl, ?_⟩
  exact below_set (below_set (below_via hb4.out hb1.out) _ (by simp)) _ (by simp)
end Go.Proofs.Ytccgakdaiaigoaa

namespace Go.Proofs.Ytccgakdaiaigoaa
open Go.RowKit Go.Lap Go.Shelf

/-- A table in memory. -/
abbrev TabAt (w : World) (tb : Nat) (t : List Int) : Prop := w.heap[tb]? = some (.cells (tabV t) 113 (0, 0))
theorem tabV_set (t : List Int) (j : Nat) (z : Int) : (tabV t).setIfInBounds j (.int .i64 z) = tabV (t.set j z) := by
  simp [tabV, List.map_set]
theorem grown_of_below {w w' : World} (h : Below w.heap.size w w') (r : Option Nat) : w.grownBy w' r := ⟨h.os, h.tape, h.output, h.size, fun k hk _ => h.block k hk⟩
theorem grown_set {a w : World} {r : Nat} (h : a.grownBy w (some r)) (o : Nat) (v : Value) : a.grownBy (w.setCell ⟨r, o, none⟩ v) (some r) :=
  ⟨h.os, h.tape, h.output, by simpa [World.setCell] using h.size, fun k hk hne => (Below.heap_setCell _ _ _ _ (fun e => hne (by rw [e]))).trans (h.block k hk hne)⟩

set_option maxRecDepth 100000 in
set_option maxHeartbeats 4000000 in
theorem stepT_any (tb eb ib xb : Nat) (t : List Int) (x : Bd) (hx : x.fit) (i k : Nat) (hi : i < 11) (hk : k < 11) (w : World) (h : TabAt w tb t) (ht : t.length = 121)
    (he : w.cell? ⟨eb, 0, none⟩ = some (.pointer (some ⟨tb, 0, none⟩))) (hii : w.cell? ⟨ib, 0, none⟩ = some (.int .i64 (i : Int))) (hx0 : w.cell? ⟨xb, 0, none⟩ = some (.int .i64 (x.a : Int))) (hx1 : w.cell? ⟨xb, 1, none⟩ = some (.int .i64 (x.b : Int))) (hx2 : w.cell? ⟨xb, 2, none⟩ = some (.int .i64 x.m)) :
    Calls Try.prog 89 #[.int .i64 k, .pointer (some ⟨eb, 0, none⟩), .pointer (some ⟨ib, 0, none⟩), .pointer (some ⟨xb, 0, none⟩)] w fun e w' => e = .returned (.tuple #[]) ∧ TabAt w' tb (stepT x t i k) ∧ w.grownBy w' (some tb) := by
  obtain ⟨a, b, m⟩ := x
  obtain ⟨ha, hb, _, _⟩ := hx
  simp only [stepT] at ha hb hx0 hx1 hx2 ⊢
  have c1 := tab_cell h (k := i * 11 + k) (by omega)
  have c2 := tab_cell h (k := i * 11 + a) (by have : a < 11 := ha; omega)
  have c3 := tab_cell h (k := b * 11 + k) (by have : b < 11 := hb; omega)
  have lt := (cells_of h).1
  obtain ⟨z1, e1⟩ : ∃ z, t.getD (i * 11 + k) 0 = z := ⟨_, rfl⟩
  obtain ⟨z2, e2⟩ : ∃ z, t.getD (i * 11 + a) 0 = z := ⟨_, rfl⟩
  obtain ⟨z3, e3⟩ : ∃ z, t.getD (b * 11 + k) 0 = z := ⟨_, rfl⟩
  rw [e1] at c1 ⊢
  rw [e2] at c2 ⊢
  rw [e3] at c3 ⊢
  clear e2 e3
  replace e1 := hid e1
  have le := cell_lt he
  have li := cell_lt hii
  have lx := cell_lt hx0
  have hh := hid h
  have hki : (k : Int) < 11 := by omega
  have hii' : (i : Int) < 11 := by omega
  have hai : (a : Int) < 11 := by have : a < 11 := ha; omega
  have hbi : (b : Int) < 11 := by have : b < 11 := hb; omega
  clear h
  replace ht := hid ht
  go_enter Try.func89, Try.ntmps89
  refine wp_region_later_tail 34 (by kernel_rfl) (by kernel_rfl) ?_
  intro hx
  simp only [List.take_succ_cons, List.take_zero, List.drop_succ_cons, List.drop_zero]
  repeat (any_goals (first | go_big_quiet_step (fail) | quiet_step (fail)))
  refine wpQuiet_nil ?_
  rintro w4 ⟨x4, hxw⟩
  have hb4 := x4.below
  rw [← hxw] at hb4
  clear hx hxw x4
  have hn4 := (hb4.block _ lt).trans hh.out
  have l4 := (cells_of hn4).1
  have c4 := tab_cell hn4 (k := i * 11 + k) (by have := ht.out; omega)
  rw [e1.out] at c4
  have z4 := free_of hn4
  have s4 := heap_set_same (o := i * 11 + k) (v := .int .i64 (min z1 (wr (wr (z2 + m) + z3)))) hn4
  rw [tabV_set] at s4
  have g4 := hid (grown_set (grown_of_below hb4 (some tb)) (i * 11 + k) (.int .i64 (min z1 (wr (wr (z2 + m) + z3)))))
  replace s4 := hid s4
  clear c1 c2 c3 he hii hx0 hx1 hx2 hn4 hh e1
  replace hb4 := hid hb4
  have hw : ∀ n, wr n = wrap64 n := fun n => by simp [wr, wrap64, IntKind.wrap_i64]
  have fin : ∀ v, min z1 (wr (wr (z2 + m) + z3)) = v → (TabAt (w4.setCell ⟨tb, i * 11 + k, none⟩ (.int .i64 v)) tb (t.set (i * 11 + k) (min z1 (wr (wr (z2 + m) + z3)))) ∧ w.grownBy (w4.setCell ⟨tb, i * 11 + k, none⟩ (.int .i64 v)) (some tb)) := fun v hv => by
    subst hv
    exact ⟨s4.out, g4.out⟩
  replace fin := hid fin
  go_wp2
  · next hlt =>
    go_end0
    refine ⟨rfl, ?_⟩
    have f := fin.out (wrap64 (wrap64 (z2 + m) + z3)) (by rw [hw, hw]; omega)
    simp only [hw] at f
    exact f
  · next hlt =>
    go_end0
    refine ⟨rfl, ?_⟩
    have f := fin.out z1 (by rw [hw, hw]; omega)
    simp only [hw] at f
    exact f
end Go.Proofs.Ytccgakdaiaigoaa

namespace Go.Proofs.Ytccgakdaiaigoaa
open Go.RowKit Go.Lap Go.Shelf

set_option maxRecDepth 100000 in
set_option maxHeartbeats 4000000 in
theorem each_any (m : Nat) (hm : m < 1000) (f : Nat) (cap : Array Value) (he : ∀ args w, (callFunc f args).run Try.prog w = .ok (.enter f args) w) (J : Nat → World → Prop) (w : World) (h0 : J 0 w)
    (hs : ∀ (k : Nat) (W : World), k < m → J k W → Calls Try.prog f (#[.int .i64 k] ++ cap) W fun e W' => e = .returned (.tuple #[]) ∧ J (k + 1) W') :
    Calls Try.prog 81 #[.int .i64 m, .func (.func f) #[] cap] w fun e w' => e = .returned (.tuple #[]) ∧ J m w' := by
  have h0' := hid h0
  have hs' := hid hs
  clear h0 hs
  go_enter Try.func81, Try.ntmps81
  go_wp2
  go_loopw [6] (fun ix wr => ∃ i : Nat, i ≤ m ∧ ix = .int .i64 i ∧ Hid (J i wr)) (fun ix _ => m - (intOf ix).toNat)
  case atStart => exact ⟨0, by omega, rfl, h0'⟩
  case round =>
    obtain ⟨i, hi, rfl, hp⟩ := hrel
    by_cases hlt : i < m
    · have hlt' : (i : Int) < (m : Int) := by omega
      go_wp2_with fail
      refine (hs'.out i _ hlt hp.out).mono ?_
      rintro e w1 ⟨rfl, hj⟩
      have hj' := hid hj
      clear hj
      go_wp2
      go_roundw
      case rel => exact ⟨i + 1, by omega, by go_num, hj'⟩
      case measure => simp [intOf]; omega
    · obtain rfl : i = m := by omega
      go_wp2
      go_end0
      exact ⟨rfl, hp.out⟩

theorem blk_grown {a w : World} {r b : Nat} {o : Obj} (h : a.grownBy w (some r)) (hb : a.heap[b]? = some o) (hne : b ≠ r) : w.heap[b]? = some o :=
  (h.block b (Array.getElem?_eq_some_iff.1 hb).1 (fun e => hne (by cases e; rfl))).trans hb
theorem grown_of_both {a b c : World} {m : Nat} (h : a.grownBy b (some m)) (k : b.grownBy c (some m)) : a.grownBy c (some m) :=
  ⟨k.os.trans h.os, k.tape.trans h.tape, k.output.trans h.output, Nat.le_trans h.size k.size, fun i hi hm => (k.block i (Nat.lt_of_lt_of_le hi h.size) hm).trans (h.block i hi hm)⟩
theorem grown_alloc {a w : World} {r : Nat} (h : a.grownBy w (some r)) (o : Obj) : a.grownBy (w.alloc o) (some r) :=
  grown_of_both h (grown_of_below (below_alloc (Below.refl _ w) o) _)
abbrev bdV (x : Bd) : Array Value := #[.int .i64 x.a, .int .i64 x.b, .int .i64 x.m]

set_option maxRecDepth 100000 in
set_option maxHeartbeats 4000000 in
theorem row_any (tb eb xb : Nat) (t : List Int) (x : Bd) (hx : x.fit) (i : Nat) (hi : i < 11) (w : World) (h : TabAt w tb (upTo x t (i * 11))) (ht : t.length = 121)
    (he : w.heap[eb]? = some (.cells #[.pointer (some ⟨tb, 0, none⟩)] 68 (0, 0))) (hxb : w.heap[xb]? = some (.cells (bdV x) 77 (0, 0))) (h1 : eb ≠ tb) (h2 : xb ≠ tb) :
    Calls Try.prog 88 #[.int .i64 i, .pointer (some ⟨eb, 0, none⟩), .pointer (some ⟨xb, 0, none⟩)] w fun e w' => e = .returned (.tuple #[]) ∧ TabAt w' tb (upTo x t ((i + 1) * 11)) ∧ w.grownBy w' (some tb) := by
  have hmf := hmf
  have hh := hid h
  have he' := hid he
  have hxb' := hid hxb
  have hlt := (cells_of h).1
  clear h he hxb
  go_enter Try.func88, Try.ntmps88
  go_wp2_with fail
  refine (each_any 11 (by omega) 89 _ (fun _ _ => by simp [callFunc]; rfl) (fun k W => TabAt W tb (upTo x t (i * 11 + k)) ∧ w.grownBy W (some tb) ∧ W.heap[w.heap.size]? = some (.cells #[.int .i64 i] 3 (0, 0))) _ ⟨?_, ?_, ?_⟩ ?_).mono ?_
  · exact alloc_old hlt hh.out
  · exact grown_alloc (grown_of_below (Below.refl _ _) _) _
  · exact alloc_at rfl
  · rintro k W hk ⟨ha, hg, hib⟩
    refine (stepT_any tb eb w.heap.size xb _ x hx i k hi hk W ha (by rw [upTo_length]; exact ht) ((cells_of (blk_grown hg he'.out h1)).2 0) ((cells_of hib).2 0) ((cells_of (blk_grown hg hxb'.out h2)).2 0) ((cells_of (blk_grown hg hxb'.out h2)).2 1) ((cells_of (blk_grown hg hxb'.out h2)).2 2)).mono ?_
    rintro e w1 ⟨rfl, h3, h4⟩
    refine ⟨rfl, ?_, grown_of_both hg h4, blk_grown h4 hib (by omega)⟩
    have e1 : (i * 11 + k) / 11 = i := by omega
    have e2 : (i * 11 + k) % 11 = k := by omega
    have e3 : upTo x t (i * 11 + (k + 1)) = stepT x (upTo x t (i * 11 + k)) i k := by
      rw [← Nat.add_assoc, upTo, e1, e2]
    rw [e3]; exact h3
  · rintro e w1 ⟨rfl, h3, h4, _⟩
    go_wp2
    go_end0
    refine ⟨rfl, ?_, h4⟩
    rw [show (i + 1) * 11 = i * 11 + 11 by omega]; exact h3

set_option maxRecDepth 100000 in
set_option maxHeartbeats 4000000 in
theorem add_any (tb : Nat) (t : List Int) (x : Bd) (hx : x.fit) (w : World) (h : TabAt w tb t) (ht : t.length = 121) :
    Calls Try.prog 78 #[.pointer (some ⟨tb, 0, none⟩), .agg (bdV x)] w fun e w' => e = .returned (.tuple #[]) ∧ TabAt w' tb (upTo x t 121) ∧ w.grownBy w' (some tb) := by
  have hmf := hmf
  have hh := hid h
  have hlt := (cells_of h).1
  clear h
  go_enter Try.func78, Try.ntmps78
  go_wp2_with fail
  refine (each_any 11 (by omega) 88 _ (fun _ _ => by simp [callFunc]; rfl) (fun k W => TabAt W tb (upTo x t (k * 11)) ∧ w.grownBy W (some tb) ∧ W.heap[w.heap.size]? = some (.cells #[.pointer (some ⟨tb, 0, none⟩)] 68 (0, 0)) ∧ W.heap[w.heap.size + 1]? = some (.cells (bdV x) 77 (0, 0))) _ ⟨?_, ?_, ?_, ?_⟩ ?_).mono ?_
  · exact alloc_old (by simp; omega) (alloc_old hlt hh.out)
  · exact grown_alloc (grown_alloc (grown_of_below (Below.refl _ _) _) _) _
  · exact alloc_old (by simp) (alloc_at rfl)
  · exact alloc_at (by simp)
  · rintro k W hk ⟨ha, hg, h1, h2⟩
    refine (row_any tb w.heap.size (w.heap.size + 1) t x hx k hk W ha ht h1 h2 (by omega) (by omega)).mono ?_
    rintro e w1 ⟨rfl, h3, h4⟩
    exact ⟨rfl, h3, grown_of_both hg h4, blk_grown h4 h1 (by omega), blk_grown h4 h2 (by omega)⟩
  · rintro e w1 ⟨rfl, h3, h4, _⟩
    go_wp2
    go_end0
    exact ⟨rfl, h3, h4⟩
end Go.Proofs.Ytccgakdaiaigoaa
