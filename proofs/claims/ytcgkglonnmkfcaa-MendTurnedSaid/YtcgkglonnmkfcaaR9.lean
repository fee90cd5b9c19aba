/- The reference's Size, walked. -/
import Derived.Test.YtcgkglonnmkfcaaHD
import Derived.Test.YtcgkglonnmkfcaaR5
namespace Go.Proofs.Ytcgkglonnmkfcaa
open Go.RowKit Go.Lap Go.Shelf

def popc : Nat → Nat → Nat
  | 0, _ => 0
  | f + 1, n => n % 2 + popc f (n / 2)
theorem popc_zero : ∀ f, popc f 0 = 0
  | 0 => rfl
  | f + 1 => by simp [popc, popc_zero f]
theorem popc_small : ∀ f n, popc f n ≤ f
  | 0, _ => Nat.le_refl _
  | f + 1, n => by have := popc_small f (n / 2); simp only [popc]; omega
theorem popc_size {s : Nat} (h : s < 64) : popc 6 s = sizeN 6 s := by
  have key : ∀ s : Fin 64, popc 6 s.1 = sizeN 6 s.1 := by decide +kernel
  exact key ⟨s, h⟩

set_option maxRecDepth 100000 in
set_option maxHeartbeats 1000000 in
theorem refSize_any (s : Nat) (hs : s < 64) (w : World) : Calls Try.prog 44 #[.int .i64 (s : Int)] w fun e w' => e = .returned (.int .i64 (sizeN 6 s : Nat)) ∧ w = w' := by
  rw [← popc_size hs]
  generalize hz : popc 6 s = z
  have hz' := hid hz
  clear hz
  go_enter Try.func44, Try.ntmps44
  go_wp2
  go_loopw [0, 3] (fun x n wr => ∃ f t m : Nat, x = .int .i64 t ∧ n = .int .i64 m ∧ t < 64 ∧ m ≤ 64 ∧ f ≤ 6 ∧ t < 2 ^ f ∧ Hid (m + popc f t = z) ∧ w = wr) (fun x _ _ => (intOf x).toNat)
  case atStart => exact ⟨6, s, 0, rfl, rfl, hs, by omega, by omega, hs, hid (by rw [hz'.out]; omega), rfl⟩
  case round =>
    obtain ⟨f, t, m, rfl, rfl, ht, hm, hf, htf, he, rfl⟩ := hrel
    have hz6 := popc_small 6 s
    rw [hz'.out] at hz6
    have hpf := popc_small f t
    by_cases h0 : 0 < t
    · obtain ⟨g, rfl⟩ : ∃ g, f = g + 1 := ⟨f - 1, by cases f with
        | zero => simp at htf; omega
        | succ f => rfl⟩
      have he2 := he.out
      simp only [popc] at he2
      have hm2 : m + t % 2 ≤ 64 := by omega
      have htf2 : t / 2 < 2 ^ g := by rw [Nat.pow_succ] at htf; omega
      have he3 : Hid (m + t % 2 + popc g (t / 2) = z) := hid (by omega)
      have htf3 := hid htf2
      clear he he2 htf htf2 hz6 hpf
      go_wp2
      go_roundw
      case rel => exact ⟨g, t / 2, m + t % 2, by go_num, by go_num, by omega, by omega, by omega, htf3.out, he3, by simp⟩
      case measure => simp [intOf]; omega
    · obtain rfl : t = 0 := by omega
      have he2 : Hid (z = m) := hid (by have := he.out; rw [popc_zero] at this; omega)
      clear he h0 htf
      go_wp2
      go_ret
      refine ⟨?_, rfl⟩
      rw [he2.out]
      rfl
end Go.Proofs.Ytcgkglonnmkfcaa
