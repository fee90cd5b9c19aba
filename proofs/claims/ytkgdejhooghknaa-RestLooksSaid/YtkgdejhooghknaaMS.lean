/- The walks of the reference's 'Rides', 'Difference', 'Changes'. The walks of 'by' and 'right' of the law, and of the reference's 'Plan'. -/
import Derived.Test.YtkgdejhooghknaaH2
import Derived.Test.YtkgdejhooghknaaT1
import Derived.Test.YtkgdejhooghknaaN4
namespace Go.Proofs.Ytkgdejhooghknaa
open Go.RowKit Go.Lap Go.Shelf

set_option maxRecDepth 100000 in
set_option maxHeartbeats 1000000 in
theorem rides_any (v : Value) (xs : List Int) (r : Int) (hl : xs.length ≤ 1000) (w : World) (h : IntsAt w v xs) :
    Calls Try.prog 39 #[v, .int .i64 r] w fun e w' => e = .returned (.int .i64 (rid r xs)) ∧ Below w.heap.size w w' := by
  cases hxs : xs with
  | nil =>
    subst hxs
    obtain ⟨a, cap, rfl⟩ := h.nil
    go_enter Try.func39, Try.ntmps39
    go_wp2
    refine wp_loop_rounds 1 ?_
    rw [rounds_succ]
    go_wp2
    go_ret
    exact ⟨rfl, Below.refl _ _⟩
  | cons x0 l0 =>
    have hne : xs ≠ [] := by rw [hxs]; simp
    rw [← hxs]
    clear hxs
    obtain ⟨b, off, cap, rfl, hb0, hc⟩ := h.some hne
    clear h
    have hc' := hid hc
    clear hc
    go_enter Try.func39, Try.ntmps39
    go_wp2
    go_loopw [5, 6] (fun n i wr => ∃ k : Nat, k ≤ xs.length ∧ i = .int .i64 k ∧ n = .int .i64 (rid r (xs.take k)) ∧ Below w.heap.size w wr) (fun _ i _ => xs.length - (intOf i).toNat)
    case atStart => exact ⟨0, by omega, rfl, rfl, Below.refl _ _⟩
    case round =>
      obtain ⟨k, hk, rfl, rfl, hw⟩ := hrel
      by_cases hlt : k < xs.length
      · have hcell := (hw.cell (p := ⟨b, off + k, none⟩) hb0).trans (hc'.out k hlt)
        have hs := rid_take r hlt
        have hbd := rid_bound r (xs.take k)
        have hlen : (xs.take k).length = k := by simp; omega
        rw [hlen] at hbd
        generalize xs.getD k 0 = x at hcell hs
        generalize rid r (xs.take k) = n at *
        have hs' := hid hs
        clear hs hlen
        by_cases hx : x = r
        · subst hx
          go_wp2
          go_roundw
          case rel => exact ⟨k + 1, by omega, by go_num, by rw [hs'.out, if_pos rfl], hw⟩
          case measure => simp [intOf]; omega
        · have hx2 : (x == r) = false := by simpa using hx
          have hx' := hid hx
          clear hx
          go_wp2
          go_roundw
          case rel => exact ⟨k + 1, by omega, by go_num, by rw [hs'.out, if_neg hx'.out, Int.add_zero], hw⟩
          case measure => simp [intOf]; omega
      · obtain rfl : k = xs.length := by omega
        go_wp2
        go_ret
        exact ⟨ret_int (by rw [List.take_length]), hw⟩

set_option maxRecDepth 100000 in
set_option maxHeartbeats 1000000 in
theorem difference_any (v : Value) (xs : List Int) (hl : xs.length ≤ 1000) (w : World) (h : IntsAt w v xs) :
    Calls Try.prog 38 #[v] w fun e w' => e = .returned (.int .i64 (dif xs)) ∧ Below w.heap.size w w' := by
  have h0 := rid_bound 0 xs
  have h1 := rid_bound 1 xs
  have c0 := hid (fun (w1 : World) (h : IntsAt w1 v xs) => rides_any v xs 0 hl w1 h)
  have c1 := hid (fun (w1 : World) (h : IntsAt w1 v xs) => rides_any v xs 1 hl w1 h)
  have hd : dif xs = max (rid 0 xs - rid 1 xs) (rid 1 xs - rid 0 xs) := rfl
  rw [hd]
  clear hd
  generalize rid 0 xs = a at *
  generalize rid 1 xs = b at *
  go_enter Try.func38, Try.ntmps38
  go_wp2_with (first
    | (go_at_call 39; with_reducible refine (c0.out _ (by assumption)).mono ?_; rintro e w1 ⟨rfl, hb1⟩; have h2 := h.below hb1)
    | (go_at_call 39; with_reducible refine (c1.out _ (by assumption)).mono ?_; rintro e w2 ⟨rfl, hb2⟩))
  all_goals
    go_ret
    exact ⟨ret_int (by omega), below_via hb2 hb1⟩

set_option maxRecDepth 100000 in
set_option maxHeartbeats 1000000 in
theorem changes_ref (v : Value) (xs : List Int) (hl : xs.length ≤ 1000) (w : World) (h : IntsAt w v xs) :
    Calls Try.prog 37 #[v] w fun e w' => e = .returned (.int .i64 (chg xs)) ∧ Below w.heap.size w w' := by
  cases hxs : xs with
  | nil =>
    subst hxs
    obtain ⟨a, cap, rfl⟩ := h.nil
    go_enter Try.func37, Try.ntmps37
    go_wp2
    refine wp_loop_rounds 1 ?_
    rw [rounds_succ]
    go_wp2
    go_ret
    exact ⟨rfl, Below.refl _ _⟩
  | cons x0 l0 =>
    have hne : xs ≠ [] := by rw [hxs]; simp
    have hpos : 1 ≤ xs.length := by rw [hxs]; simp
    rw [← hxs]
    clear hxs
    obtain ⟨b, off, cap, rfl, hb0, hc⟩ := h.some hne
    clear h
    have hc' := hid hc
    clear hc
    go_enter Try.func37, Try.ntmps37
    go_wp2
    go_loopw [3, 4] (fun n i wr => ∃ k : Nat, 1 ≤ k ∧ k ≤ xs.length ∧ i = .int .i64 k ∧ n = .int .i64 (chg (xs.take k)) ∧ Below w.heap.size w wr) (fun _ i _ => xs.length - (intOf i).toNat)
    case atStart => exact ⟨1, by omega, by omega, rfl, by cases xs <;> simp [chg], Below.refl _ _⟩
    case round =>
      obtain ⟨k, hk1, hk, rfl, rfl, hw⟩ := hrel
      by_cases hlt : k < xs.length
      · have hcell := (hw.cell (p := ⟨b, off + k, none⟩) hb0).trans (hc'.out k hlt)
        have hcell2 := (hw.cell (p := ⟨b, off + (k - 1), none⟩) hb0).trans (hc'.out (k - 1) (by omega))
        have hs := chg_take hk1 hlt
        have hbd := chg_bound (xs.take k)
        have hlen : (xs.take k).length = k := by simp; omega
        rw [hlen] at hbd
        generalize xs.getD k 0 = x at hcell hs
        generalize xs.getD (k - 1) 0 = y at hcell2 hs
        generalize chg (xs.take k) = n at *
        have hs' := hid hs
        have hw1 : IntKind.i64.wrap ((k : Int) - 1) = (k : Int) - 1 := IntWalk.i64_in _ (by omega)
        have hw2 : ((k : Int) - 1).toNat = k - 1 := by omega
        have hw3 : (0 : Int) ≤ (k : Int) - 1 := by omega
        have hw4 : ((k : Int) - 1) < xs.length := by omega
        have hw' := hid hw
        clear hs hlen hw
        by_cases hx : x = y
        · subst hx
          go_wp2
          go_quiet (fail)
          go_wp2
          go_roundw
          case rel => exact ⟨k + 1, by omega, by omega, by go_num, by rw [hs'.out]; simp, below_drewN hw'.out _⟩
          case measure => simp [intOf]; omega
        · have hx2 : (x == y) = false := by simpa using hx
          have hx3 : (x != y) = true := by simpa using hx
          have hx' := hid hx
          clear hx
          go_wp2
          go_quiet (fail)
          go_wp2
          go_roundw
          case rel => exact ⟨k + 1, by omega, by omega, by go_num, by rw [hs'.out, if_neg (fun e => hx'.out e.symm)], below_drewN hw'.out _⟩
          case measure => simp [intOf]; omega
      · obtain rfl : k = xs.length := by omega
        go_wp2
        go_ret
        exact ⟨ret_int (by rw [List.take_length]), hw⟩

end Go.Proofs.Ytkgdejhooghknaa

namespace Go.Proofs.Ytkgdejhooghknaa
open Go.RowKit Go.Lap Go.Shelf

/-- A plan for some hours, by bits. -/
def bitsL (n : Nat) (b : Int) : List Int := (List.range n).map fun i => b / 2 ^ i % 2
def bitsTo (n : Nat) (b : Int) (k : Nat) : List Int := bitsL k b ++ List.replicate (n - k) 0
theorem bitsL_length (n : Nat) (b : Int) : (bitsL n b).length = n := by simp [bitsL]
theorem bitsTo_set {n k : Nat} (b : Int) (h : k < n) : (bitsTo n b k).set k (b / 2 ^ k % 2) = bitsTo n b (k + 1) := by
  unfold bitsTo
  rw [List.set_append_right _ _ (by rw [bitsL_length]; omega), bitsL_length, Nat.sub_self]
  obtain ⟨m, hm⟩ : ∃ m, n - k = m + 1 := ⟨n - k - 1, by omega⟩
  rw [hm, show n - (k + 1) = m by omega, List.replicate_succ, List.set_cons_zero]
  simp [bitsL, List.range_succ]
theorem bitsL_mem {n : Nat} {b : Int} : ∀ x, x ∈ bitsL n b → x = 0 ∨ x = 1 := by
  intro x hx
  obtain ⟨i, _, rfl⟩ := List.mem_map.1 hx
  omega

theorem shr_u16 {P : Program} (x c : Int) (h0 : 0 ≤ c) (h1 : c ≤ 15) (w : World) : (Op.shift .shr .u16 x .i64 c).run P w = .ok (.int .u16 (x / 2 ^ c.toNat)) w := by
  have h : ¬ c < 0 := by omega
  have h3 : min c.toNat 16 = c.toNat := by omega
  simp only [Op.shift, h, if_false, IntKind.bits, h3]
  show Result.ok (Value.int IntKind.u16 (x.fdiv (2 ^ c.toNat))) w = _
  rw [Int.fdiv_eq_ediv_of_nonneg _ (Int.le_of_lt (Int.pow_pos (by decide)))]
theorem u16_and1 (n : Int) : bits .and .u16 n 1 = n % 2 := by
  have h1 : (BitVec.ofInt 16 1).toNat = 2 ^ 1 - 1 := by decide
  have key : (BitVec.ofInt 16 n &&& BitVec.ofInt 16 1).toNat = (n % ((2 ^ 16 : Nat) : Int)).toNat % 2 ^ 1 := by
    rw [BitVec.toNat_and, BitVec.toNat_ofInt, h1, Nat.and_two_pow_sub_one_eq_mod]
  show IntKind.u16.wrap ((BitVec.ofInt 16 n &&& BitVec.ofInt 16 1).toNat : Nat) = n % 2
  rw [key]
  have : ∀ m : Int, 0 ≤ m → m < 2 → IntKind.u16.wrap m = m := by
    intro m h0 h1
    obtain rfl | rfl : m = 0 ∨ m = 1 := by omega
    · rfl
    · rfl
  rw [this _ (by omega) (by omega)]
  omega

set_option maxRecDepth 100000 in
set_option maxHeartbeats 1000000 in
theorem by_any (n b : Int) (h0 : 0 ≤ n) (h1 : n ≤ 16) (_hb0 : 0 ≤ b) (w : World) :
    Calls Try.prog 33 #[.int .i64 n, .int .u16 b] w fun e w' => ∃ sv, e = .returned sv ∧ NewInts w.heap.size w' sv (bitsL n.toNat b) ∧ Below w.heap.size w w' := by
  have hmk := make_ints n h0 (by omega) w
  obtain ⟨m, rfl⟩ : ∃ m : Nat, n = m := ⟨n.toNat, by omega⟩
  have hX : (w.alloc (.cells (intsV (List.replicate m 0)) 3)).heap[w.heap.size]? = some (.cells (intsV (bitsTo m b 0)) 3 (0, 0)) := by
    have e : bitsTo m b 0 = List.replicate m 0 := by simp [bitsTo, bitsL]
    rw [e]; exact alloc_at rfl
  have hB : Below w.heap.size w (w.alloc (.cells (intsV (List.replicate m 0)) 3)) := below_alloc (Below.refl _ _) _
  have hX' := hid hX
  have hB' := hid hB
  simp only [Int.toNat_natCast] at hmk ⊢
  generalize w.alloc (.cells (intsV (List.replicate m 0)) 3) = W1 at hmk hX' hB'
  clear hX hB
  go_enter Try.func33, Try.ntmps33
  go_wp2
  clear hmk
  go_loopw [11] (fun x wr => ∃ k : Nat, k ≤ m ∧ x = .int .i64 k ∧ Hid (wr.heap[w.heap.size]? = some (.cells (intsV (bitsTo m b k)) 3 (0, 0))) ∧ Below w.heap.size w wr) (fun x _ => m - (intOf x).toNat)
  case atStart => exact ⟨0, by omega, rfl, hX', hB'.out⟩
  case round =>
    obtain ⟨k, hk, rfl, hc, hbr⟩ := hrel
    by_cases hlt : k < m
    · have hsh := shr_u16 (P := Try.prog) b k (by omega) (by omega)
      have hand := u16_and1 (b / 2 ^ k)
      simp only [Int.toNat_natCast] at hsh
      have hcv : ∀ n : Int, IntKind.i64.wrap (n % 2) = n % 2 := fun n => IntWalk.i64_in _ (by omega)
      have hcv2 : ∀ n : Int, wrap64 (n % 2) = n % 2 := fun n => IntWalk.wrap64_in _ (by omega)
      have hcell : (wr.cell? ⟨w.heap.size, k, none⟩).isSome := by
        rw [(cells_of hc.out).2]
        simp [intsV, bitsTo, bitsL]; omega
      obtain ⟨u, hu⟩ := Option.isSome_iff_exists.1 hcell
      have hfz := free_of hc.out k
      clear hcell
      go_wp2
      go_roundw
      case rel =>
        refine ⟨k + 1, by omega, by go_num, hid ?_, below_set hbr _ (by simp)⟩
        rw [heap_setCell_same hc.out, ← bitsTo_set b hlt]
        simp [intsV, List.map_set]
      case measure => simp [intOf]; omega
    · obtain rfl : k = m := by omega
      go_wp2
      go_ret
      refine ⟨_, rfl, ⟨_, Nat.le_refl _, ?_, ?_⟩, hbr⟩
      · rw [bitsL_length]; rfl
      · rw [hc.out]; simp [bitsTo]

/-- Is a plan right, by what is told? -/
def rightB (R : Rest) (xs : List Int) : Bool := (checkOf R xs).2.2 == 4

set_option maxRecDepth 100000 in
set_option maxHeartbeats 1000000 in
theorem right_any (R : Rest) (v : Value) (xs : List Int) (hl : xs.length ≤ 1000) (w : World) (h : IntsAt w v xs) :
    Calls Try.prog 35 #[restV R, v] w fun e w' => e = .returned (.bool (rightB R xs)) ∧ Below w.heap.size w w' := by
  have hbx : Below w.heap.size w (w.alloc (.cells #[.int .i64 R.hours, .int .i64 R.r0.out, .int .i64 R.r0.total, .int .i64 R.r0.run, .int .i64 R.r0.off, .int .i64 R.r1.out, .int .i64 R.r1.total, .int .i64 R.r1.run, .int .i64 R.r1.off] 26)) := below_alloc (Below.refl _ _) _
  have hbx' := hid hbx
  have h1 := h.below hbx
  clear hbx
  have c15 := hid (fun w h => Check_any R v xs hl w h)
  have hr : rightB R xs = ((checkOf R xs).2.2 == 4) := rfl
  rw [hr]
  clear hr
  generalize checkOf R xs = c at *
  obtain ⟨a, b, e⟩ := c
  go_enter Try.func35, Try.ntmps35
  go_wp2_with (go_at_call 15; with_reducible refine (c15.out _ (by assumption)).mono ?_; rintro e w1 ⟨rfl, hb1⟩)
  go_ret
  exact ⟨rfl, below_via hb1 hbx'.out⟩

set_option maxRecDepth 100000 in
set_option maxHeartbeats 1000000 in
theorem plan_ref (R : Rest) (v : Value) (xs : List Int) (hl : xs.length ≤ 1000) (w : World) (h : IntsAt w v xs) :
    Calls Try.prog 36 #[restV R, v] w fun e w' => e = .returned (.bool (planOk R xs)) ∧ Below w.heap.size w w' := by
  have hX : (w.alloc (.cells #[.int .i64 R.hours, .int .i64 R.r0.out, .int .i64 R.r0.total, .int .i64 R.r0.run, .int .i64 R.r0.off, .int .i64 R.r1.out, .int .i64 R.r1.total, .int .i64 R.r1.run, .int .i64 R.r1.off] 26)).heap[w.heap.size]? = some (.cells #[.int .i64 R.hours, .int .i64 R.r0.out, .int .i64 R.r0.total, .int .i64 R.r0.run, .int .i64 R.r0.off, .int .i64 R.r1.out, .int .i64 R.r1.total, .int .i64 R.r1.run, .int .i64 R.r1.off] 26 (0, 0)) := alloc_at rfl
  have hB : Below w.heap.size w (w.alloc (.cells #[.int .i64 R.hours, .int .i64 R.r0.out, .int .i64 R.r0.total, .int .i64 R.r0.run, .int .i64 R.r0.off, .int .i64 R.r1.out, .int .i64 R.r1.total, .int .i64 R.r1.run, .int .i64 R.r1.off] 26)) := below_alloc (Below.refl _ _) _
  have hX' := hid hX
  have hB' := hid hB
  have hBB := hid (hX'.out)
  cases hxs : xs with
  | nil =>
    subst hxs
    obtain ⟨a, cap, rfl⟩ := h.nil
    clear hX hB
    go_enter Try.func36, Try.ntmps36
    go_wp2
    refine wp_loop_rounds 1 ?_
    rw [rounds_succ]
    go_wp2
    go_ret
    exact ⟨by simp [planOk, Bool.beq_eq_decide_eq], hB'.out⟩
  | cons x0 l0 =>
    have hne : xs ≠ [] := by rw [hxs]; simp
    rw [← hxs]
    clear hxs
    obtain ⟨b, off, cap, rfl, hb0, hc⟩ := h.some hne
    clear h
    have hc' := hid hc
    clear hc hX hB
    go_enter Try.func36, Try.ntmps36
    go_wp2
    go_loopw [5] (fun i wr => ∃ k : Nat, k ≤ xs.length ∧ i = .int .i64 k ∧ Hid (xs.any badB = (xs.drop k).any badB) ∧ Below (w.alloc (.cells #[.int .i64 R.hours, .int .i64 R.r0.out, .int .i64 R.r0.total, .int .i64 R.r0.run, .int .i64 R.r0.off, .int .i64 R.r1.out, .int .i64 R.r1.total, .int .i64 R.r1.run, .int .i64 R.r1.off] 26)).heap.size (w.alloc (.cells #[.int .i64 R.hours, .int .i64 R.r0.out, .int .i64 R.r0.total, .int .i64 R.r0.run, .int .i64 R.r0.off, .int .i64 R.r1.out, .int .i64 R.r1.total, .int .i64 R.r1.run, .int .i64 R.r1.off] 26)) wr) (fun i _ => xs.length - (intOf i).toNat)
    case atStart => exact ⟨0, by omega, rfl, hid rfl, Below.refl _ _⟩
    case round =>
      obtain ⟨k, hk, rfl, hf, hw⟩ := hrel
      have hXr := (hw.block _ (cells_of hX'.out).1).trans hX'.out
      obtain ⟨lx, cx⟩ := cells_of hXr
      have hfin := hid (below_via hw hB'.out)
      by_cases hlt : k < xs.length
      · have hcell := (hfin.out.cell (p := ⟨b, off + k, none⟩) hb0).trans (hc'.out k hlt)
        have hd : xs.drop k = xs.getD k 0 :: xs.drop (k + 1) := drop_getD hlt
        generalize xs.getD k 0 = x at hcell hd
        have hd' := hid hd
        have hw' := hid hw
        clear hd hXr hw
        cases hB : inB x 0 1
        all_goals
          have hB2 := hid hB
          clear hB
          go_wp2_with (go_at_call 73; refine (in_as hB2.out _).mono ?_; rintro e w' ⟨rfl, rfl⟩)
        · go_ret
          refine ⟨?_, hfin.out⟩
          have : xs.any badB = true := by rw [hf.out, hd'.out]; simp [badB, hB2.out]
          simp [planOk, this]
        · go_roundw
          case rel =>
            refine ⟨k + 1, by omega, by go_num, hid ?_, hw'.out⟩
            rw [hf.out, hd'.out]; simp [badB, hB2.out]
          case measure => simp [intOf]; omega
      · obtain rfl : k = xs.length := by omega
        clear hXr
        go_wp2
        go_ret
        refine ⟨?_, hfin.out⟩
        have : xs.any badB = false := by rw [hf.out]; simp
        simp [planOk, this, Bool.beq_eq_decide_eq]

end Go.Proofs.Ytkgdejhooghknaa
