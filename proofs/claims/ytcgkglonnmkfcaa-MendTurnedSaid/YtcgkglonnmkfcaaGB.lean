/- The walks of the goal of 'Best' of package mend: what is paid. -/
import Derived.Test.YtcgkglonnmkfcaaHF
import Derived.Test.YtcgkglonnmkfcaaGK
namespace Go.Proofs.Ytcgkglonnmkfcaa
open Go.RowKit Go.Lap Go.Shelf

set_option maxHeartbeats 1000000 in
theorem cost_any (M : Mend) (hM : M.Ok) (left n : Nat) (sb : Nat) (b : Bench) (hb : Bench.In M left n b) (soon : Int) (i : Nat) (hi : i < M.jobs.length) (w : World) (hs : ShopAt w sb M left) :
    Calls Try.prog 68 #[.pointer (some ⟨sb, 0, none⟩), workV b soon i] w fun e w' => e = .returned (.int .i64 (M.pays b i)) ∧ Below w.heap.size w w' := by
  obtain ⟨sv, jb, jo, jcap, hsb, hjc⟩ := hs.open hi
  obtain ⟨ls, cs⟩ := cells_of hsb
  obtain ⟨j, hj⟩ : ∃ j, M.job i = j := ⟨_, rfl⟩
  have hpay := pays_in hM hb hi
  have hsoft := hM.soft i hi
  rw [hj] at hjc hsoft
  rw [Mend.pays, hj] at hpay ⊢
  have hc0 := hjc 0 (by decide)
  have hc1 := hjc 1 (by decide)
  have hc2 := hjc 2 (by decide)
  have hc3 := hjc 3 (by decide)
  have hc4 := hjc 4 (by decide)
  have hc5 := hjc 5 (by decide)
  have hc6 := hjc 6 (by decide)
  have hc7 := hjc 7 (by decide)
  simp only [Job.cells, List.getD_cons_zero, List.getD_cons_succ, Nat.add_zero] at hc0 hc1 hc2 hc3 hc4 hc5 hc6 hc7
  have ljb := cell_lt hc0
  have hi2 : (i : Int) < (M.jobs.length : Int) := by omega
  have e1 : IntKind.i64.wrap (b.late - j.soft) = b.late - j.soft := IntWalk.i64_in _ (by have := hb.late0; have := hb.late1; omega)
  clear hjc hj
  have hpay' := hid hpay
  clear hpay hsoft
  go_enter Try.func68, Try.ntmps68
  go_wp2
  go_region
  go_wp2
  · go_ret
    refine ⟨ret_int ?_, by repeat (first | exact Below.refl _ _ | apply below_alloc | apply Below.drew)⟩
    have hp := hpay'.out
    rw [show max 0 (b.late - j.soft) = b.late - j.soft by omega] at hp ⊢
    exact IntWalk.wrap64_in _ (by omega)
  · go_ret
    refine ⟨ret_int ?_, by repeat (first | exact Below.refl _ _ | apply below_alloc | apply Below.drew)⟩
    rw [show max 0 (b.late - j.soft) = 0 by omega]
    simp [wrap64]

/-- The sum of some coins. -/
def coinsOf (xs : List Int) : Int := xs.foldl (fun n x => wrap64 (n + x)) 0
theorem coins_snoc (l : List Int) (y : Int) : coinsOf (l ++ [y]) = wrap64 (coinsOf l + y) := by simp [coinsOf]
theorem coins_two (x c : Int) : coinsOf [x, c] = wrap64 (x + c) := by
  simp only [coinsOf, List.foldl_cons, List.foldl_nil, wrap64]
  omega

set_option maxHeartbeats 1000000 in
theorem coins_any (v : Value) (xs : List Int) (hl : xs.length ≤ 1000) (w : World) (h : IntsAt w v xs) : Calls Try.prog 67 #[v] w fun e w' => e = .returned (.int .i64 (coinsOf xs)) ∧ w = w' := by
  obtain ⟨a, cap, rfl, hx⟩ := h
  have hx' := hid hx
  clear hx
  go_enter Try.func67, Try.ntmps67
  go_wp2
  go_loopw [2, 4, 7] (fun n _ i wr => ∃ k : Nat, k ≤ xs.length ∧ i = .int .i64 k ∧ n = .int .i64 (coinsOf (xs.take k)) ∧ w = wr) (fun _ _ i _ => xs.length - (intOf i).toNat)
  case atStart => exact ⟨0, by omega, rfl, rfl, rfl⟩
  case round =>
    obtain ⟨k, hk, rfl, rfl, rfl⟩ := hrel
    by_cases hlt : k < xs.length
    · obtain ⟨b1, bo, rfl, hc⟩ := hx'.out (fun e => by rw [e] at hlt; simp at hlt)
      have hck := hc k hlt
      have lb := cell_lt hck
      clear hc
      have hsn : Hid (coinsOf (xs.take (k + 1)) = wrap64 (coinsOf (xs.take k) + xs.getD k 0)) := hid (by
        rw [List.take_succ_eq_append_getElem hlt, coins_snoc]
        simp [hlt])
      obtain ⟨x, hx⟩ : ∃ x, xs.getD k 0 = x := ⟨_, rfl⟩
      rw [hx] at hck hsn
      obtain ⟨c, hc⟩ : ∃ c, coinsOf (xs.take k) = c := ⟨_, rfl⟩
      rw [hc] at hsn ⊢
      clear hx hc
      have hki : (k : Int) < (xs.length : Int) := by omega
      go_wp2
      go_roundw
      case rel => exact ⟨k + 1, by omega, by go_num, by rw [hsn.out], by simp⟩
      case measure => simp [intOf]; omega
    · obtain rfl : k = xs.length := by omega
      rw [List.take_length]
      go_wp2
      go_ret
      exact ⟨rfl, rfl⟩

set_option maxHeartbeats 400000 in
theorem best1_any (b : Bench) (soon last : Int) (w : World) : Calls Try.prog 65 #[workV b soon last] w fun e w' => e = .returned (.int .i64 0) ∧ Below w.heap.size w w' := by
  go_enter Try.func65, Try.ntmps65
  go_wp2
  go_ret
  exact ⟨rfl, below_alloc (Below.refl _ _) _⟩

theorem pair_ints {w : World} {x y : Int} : IntsAt (w.alloc (.cells #[.int .i64 x, .int .i64 y] 3)) (.slice (some ⟨w.heap.size, 0, none⟩) 2 2) [x, y] := by
  refine ⟨_, 2, rfl, fun _ => ⟨w.heap.size, 0, rfl, fun k hk => ?_⟩⟩
  have hk2 : k < 2 := hk
  rw [(cells_of (alloc_at (w := w) (n := w.heap.size) rfl)).2]
  obtain rfl | rfl : k = 0 ∨ k = 1 := by omega
  · rfl
  · rfl

set_option maxHeartbeats 1000000 in
theorem best2_any (M : Mend) (hM : M.Ok) (left n : Nat) (sb cb : Nat) (b : Bench) (hb : Bench.In M left n b) (soon : Int) (i : Nat) (hi : i < M.jobs.length) (x : Int) (w : World) (hc : w.heap[cb]? = some (.cells #[.pointer (some ⟨sb, 0, none⟩)] 66 (0, 0))) (hs : ShopAt w sb M left) :
    Calls Try.prog 66 #[workV b soon i, .int .i64 x, .pointer (some ⟨cb, 0, none⟩)] w fun e w' => e = .returned (.int .i64 (wrap64 (x + M.pays b i))) ∧ Below w.heap.size w w' := by
  obtain ⟨lc, cc⟩ := cells_of hc
  have hs' := hid hs
  have hco := hid (fun (w : World) h => coins_any (.slice (some ⟨w.heap.size, 0, none⟩) 2 2) [x, M.pays b i] (by simp) (w.alloc (.cells #[.int .i64 x, .int .i64 (M.pays b i)] 3)) h)
  rw [coins_two] at hco
  clear hs
  go_enter Try.func66, Try.ntmps66
  go_wp2_with (first
    | (go_at_call 68; with_reducible refine (cost_any M hM left n sb b hb soon i hi _ (hs'.out.below (below_alloc (Below.refl _ _) _))).mono ?_; rintro e w1 ⟨rfl, hb1⟩)
    | (go_at_call 67; with_reducible refine (hco.out _ pair_ints).mono ?_; rintro e w2 ⟨rfl, rfl⟩))
  go_ret
  exact ⟨rfl, below_alloc (below_via hb1 (below_alloc (Below.refl _ _) _)) _⟩

abbrev bestFns (cb : Nat) : GoalFns := ⟨65, #[], 66, #[.pointer (some ⟨cb, 0, none⟩)], 69, #[]⟩
/-- What the goal of 'Best' needs in memory. -/
def BestE (M : Mend) (left : Nat) (B : Nat × Nat) (sb cb : Nat) (W : World) : Prop := W.heap[cb]? = some (.cells #[.pointer (some ⟨sb, 0, none⟩)] 66 (0, 0)) ∧ ShopUnder B W sb M left
theorem best_ok (M : Mend) (hM : M.Ok) (left : Nat) (B : Nat × Nat) (sb cb : Nat) (hc : cb < B.1) (hne : cb ≠ B.2) : GoalOkI (bestFns cb) (costG M) M left B (BestE M left B sb cb) :=
  ⟨enters_of Try.func65 (by kernel_rfl) rfl, enters_of Try.func66 (by kernel_rfl) rfl, enters_of Try.func69 (by kernel_rfl) rfl, fun b soon last w => best1_any b soon last w,
    fun n b soon i x w hb hi hE => best2_any M hM left n sb cb b hb soon i hi x w hE.1 hE.2.at, fun a b w => lesser_any a b w, fun _ _ hE hk => ⟨hk cb ⟨hc, hne⟩ _ hE.1, hE.2.keep hk⟩⟩

end Go.Proofs.Ytcgkglonnmkfcaa
