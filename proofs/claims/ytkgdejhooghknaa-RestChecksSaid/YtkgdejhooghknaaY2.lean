/- The walk of 'RestChecks'. -/
import Derived.Test.YtkgdejhooghknaaY0
namespace Go.Proofs.Ytkgdejhooghknaa
open Go.RowKit Go.Lap Go.Shelf

theorem size_le_alloc (w : World) (o : Obj) : w.heap.size ≤ (w.alloc o).heap.size := by simp
theorem block_all {W : World} {b : Nat} {xs : List Int} (h : W.heap[b]? = some (.cells (intsV xs) 3 (0, 0))) : IntsAt W (.slice (some ⟨b, 0, none⟩) xs.length xs.length) xs := by
  have := block_ints h (Nat.le_refl _) xs.length
  rwa [List.take_length] at this
theorem law_as {v : Value} {R : Rest} {h a b : Int} {w : World} (he : a = b) (hc : Calls Try.prog 34 #[restV R, v, .int .i64 h] w fun e w' => e = .returned (.int .i64 a) ∧ Below w.heap.size w w') : Calls Try.prog 34 #[restV R, v, .int .i64 h] w fun e w' => e = .returned (.int .i64 b) ∧ Below w.heap.size w w' := by
  subst he; exact hc

set_option maxRecDepth 100000 in
set_option maxHeartbeats 2000000 in
theorem restChecks_bad (R : Rest) (z : Int) (hv : R.valid = false) (w : World) : Calls Try.prog 6 #[restV R, .int .u16 z] w fun e w' => e = .returned (.bool true) ∧ Below w.heap.size w w' := by
  have c32 := hid (fun w => valid_as hv w)
  have c15 := hid (fun w => check_as (R := R) (v := .slice none 0 0) (xs := []) (a := 0) (b := 0) (c := 1) (by simp [checkOf, hv]) (by simp) w (nil_ints w))
  have c14 := hid awake_any
  clear hv
  have hk := KeepR.start w R
  go_enter Try.func6, Try.ntmps6
  go_wp2_with (first | (go_at_call 32; with_reducible refine (c32.out _).mono ?_; rintro e w1 ⟨rfl, hb1⟩; have hk := hk.below hb1; obtain ⟨lx, cx⟩ := cells_of hk.x) | (go_at_call 15; with_reducible refine (c15.out _).mono ?_; rintro e w1 ⟨rfl, hb1⟩; have hk := hk.below hb1; obtain ⟨lx, cx⟩ := cells_of hk.x) | (go_at_call 14; with_reducible refine (c14.out _).mono ?_; rintro e w1 ⟨rfl, hb1⟩; have hk := hk.below hb1; obtain ⟨lx, cx⟩ := cells_of hk.x))
  go_ret
  exact ⟨rfl, hk.bel⟩

set_option maxRecDepth 100000 in
set_option maxHeartbeats 8000000 in
theorem restChecks_none (R : Rest) (z : Int) (hz0 : 0 ≤ z) (hv : R.valid = true) (Q : List Int) (hQ : bitsL R.hours.toNat z = Q) (hck : checkOf R Q = (0, 0, 4)) (hzero : ∀ j, j < Q.length → lawB R (Q.take j) (Q.getD j 0) = 0) (w : World) :
    Calls Try.prog 6 #[restV R, .int .u16 z] w fun e w' => e = .returned (.bool true) ∧ Below w.heap.size w w' := by
  have hh := Rest.valid_hours hv
  have hlQ : Q.length = R.hours.toNat := by rw [← hQ, bitsL_length]
  have hQ16 : Q.length ≤ 16 := by omega
  have hQ01 : ∀ x, x ∈ Q → x = 0 ∨ x = 1 := by rw [← hQ]; exact bitsL_mem
  have c32 := hid (fun w => valid_as hv w)
  have c33 := hid (fun w => by_own hQ hh.1 hh.2 hz0 w)
  have c15 := hid (fun v w h => check_as (v := v) hck (by omega) w h)
  have c34 := hid (fun (j : Nat) (hj : j < Q.length) (a : Option Addr) (cap : Nat) (w : World) h => lawBroken_any R hv a cap Q j hj hQ16 hQ01 w h)
  have cb0 := hid (fun v w h => check_as (v := v) (check_refuses hv (planOk_long (xs := 0 :: Q) (by simp; omega))) (by simp; omega) w h)
  have cb1 := hid (fun (xs : List Int) (h2 : (2 : Int) ∈ xs) (hl : xs.length ≤ 1000) v w h => check_as (v := v) (check_refuses hv (planOk_bad h2 (.inr (by decide)))) hl w h)
  have cb2 := hid (fun (xs : List Int) (h2 : (-1 : Int) ∈ xs) (hl : xs.length ≤ 1000) v w h => check_as (v := v) (check_refuses hv (planOk_bad h2 (.inl (by decide)))) hl w h)
  have c14 := hid awake_any
  have hlQ' := hid hlQ
  have hz := hid hzero
  clear hzero
  clear hv hQ hQ01 hck hlQ
  have hk := KeepR.start w R
  go_enter Try.func6, Try.ntmps6
  go_wp2_with (first | (go_at_call 32; with_reducible refine (c32.out _).mono ?_; rintro e w1 ⟨rfl, hb1⟩; have hk := hk.below hb1; obtain ⟨lx, cx⟩ := cells_of hk.x) | (go_at_call 33; with_reducible refine (c33.out _).mono ?_; rintro e w1 ⟨gb, rfl, hgb, hG0, hb1⟩; have hk := hk.below hb1; have hG := hid hG0; clear hG0; obtain ⟨lx, cx⟩ := cells_of hk.x) | (go_at_call 15; with_reducible refine (c15.out _ _ (block_all hG.out)).mono ?_; rintro e w1 ⟨rfl, hb1⟩; have hG := hid ((hb1.block _ (cells_of hG.out).1).trans hG.out); have hk := hk.below hb1; obtain ⟨lx, cx⟩ := cells_of hk.x))
  go_loopw [90] (fun x wr => ∃ k : Nat, k ≤ Q.length ∧ x = .int .i64 k ∧ KeepR w R wr ∧ Hid (wr.heap[gb]? = some (.cells (intsV Q) 3 (0, 0)))) (fun x _ => Q.length - (intOf x).toNat)
  case atStart => exact ⟨0, by omega, rfl, hk, hG⟩
  case round =>
    obtain ⟨k, hkk, rfl, hk, hG⟩ := hrel
    obtain ⟨lx, cx⟩ := cells_of hk.x
    by_cases hlt : k < Q.length
    · have c34k := hid (fun w h => law_as (hz.out k hlt) (c34.out k hlt (some ⟨gb, 0, none⟩) Q.length w h))
      go_wp2_with (first | (go_at_call 34; with_reducible refine (c34k.out _ (block_all hG.out)).mono ?_; rintro e w1 ⟨rfl, hb1⟩; have hG := hid ((hb1.block _ (cells_of hG.out).1).trans hG.out); have hk := hk.below hb1; obtain ⟨lx, cx⟩ := cells_of hk.x))
      go_roundw
      case rel => exact ⟨k + 1, by omega, by go_num, hk, hG⟩
      case measure => simp [intOf]; omega
    · obtain rfl : k = Q.length := by omega
      go_upto_region 18 with fail
      by_cases hq1 : 1 < Q.length
      · have hp1 : (1 : Int) < (Q.length : Int) := by omega
        have htn : ((Q.length : Int) - 1).toNat = Q.length - 1 := by omega
        clear hq1
        obtain ⟨lx, cx⟩ := cells_of hk.x
        have lg := (cells_of hG.out).1
        have hsz1 := hid (show ([0] : List Int).length + Q.length ≤ 1000 by simp <;> omega)
        have hsz2 := hid (show ([] : List Int).length + Q.length ≤ 1000 by simp <;> omega)
        have hsz3 := hid (show (Q.take (Q.length - 1)).length + ([2] : List Int).length ≤ 1000 by simp <;> omega)
        have hsz4 := hid (show (Q.take (Q.length - 1)).length + ([-1] : List Int).length ≤ 1000 by simp <;> omega)
        go_wp2_with (at_builtin; refine wpList_append_ints rfl _ _ rfl wr.heap.size _ [0] Q rfl (ownRow_one 0 (Nat.le_refl _)) ⟨gb, 0, none⟩ Q.length _ rfl rfl (block_src (alloc_old lg hG.out)) hsz1.out (size_le_alloc _ _) ?_)
        intro v1 wa hr1 hb1 g1 q1 hv1 hq1
        subst hv1
        have hbA : Below wr.heap.size wr wa := (below_alloc (Below.refl _ _) _).trans hb1
        replace hk := hk.below hbA
        replace hG := hid ((hbA.block _ lg).trans hG.out)
        have hI1 := hid (OwnRow.ints hr1)
        clear hr1 hb1 hbA lx cx lg hq1
        have lg := (cells_of hG.out).1
        go_wp2_with (at_builtin; refine wpList_append_ints rfl _ _ rfl wa.heap.size _ [] Q rfl (ownRow_zero (Nat.le_refl _)) ⟨gb, 0, none⟩ Q.length _ rfl rfl (block_src (alloc_old lg hG.out)) hsz2.out (size_le_alloc _ _) ?_)
        intro v2 wb hr2 hb1 g2 q2 hv2 hq2
        subst hv2
        have hbB : Below wa.heap.size wa wb := (below_alloc (Below.refl _ _) _).trans hb1
        have hsB := hbB.size
        have hcap2 : (Q.length : Int) - 1 ≤ (q2 : Int) := by omega
        have hr2' := hid (OwnRow.below (ownRow_trunc hr2 (m := Q.length - 1) (by omega)) (below_alloc (Below.refl _ (wb)) (.cells #[.int .i64 2] 3)))
        clear hr2 hb1
        go_wp2_with (at_builtin; refine wpList_append_ints rfl _ _ rfl wa.heap.size _ (Q.take (Q.length - 1)) [2] rfl hr2'.out ⟨wb.heap.size, 0, none⟩ 1 _ rfl rfl (one_src wb 2) hsz3.out (Nat.le_trans hsB (size_le_alloc _ _)) ?_)
        intro v3 wc hr3 hb1 g3 q3 hv3 hq3
        subst hv3
        have hI3 := hid (OwnRow.ints hr3)
        have hbC : Below wa.heap.size wa wc := (hbB.trans ((Below.refl _ _).alloc hsB _)).trans hb1
        clear hr3 hb1 hr2' hbB hq2 hq3
        replace hk := hk.below hbC
        replace hG := hid ((hbC.block _ lg).trans hG.out)
        replace hI1 := hid (hI1.out.below hbC)
        clear lg hbC hsB
        have lg := (cells_of hG.out).1
        go_wp2_with (at_builtin; refine wpList_append_ints rfl _ _ rfl wc.heap.size _ [] Q rfl (ownRow_zero (Nat.le_refl _)) ⟨gb, 0, none⟩ Q.length _ rfl rfl (block_src (alloc_old lg hG.out)) hsz2.out (size_le_alloc _ _) ?_)
        intro v4 wd hr4 hb1 g4 q4 hv4 hq4
        subst hv4
        have hbD : Below wc.heap.size wc wd := (below_alloc (Below.refl _ _) _).trans hb1
        have hsD := hbD.size
        have hr4' := hid (OwnRow.below (ownRow_trunc hr4 (m := Q.length - 1) (by omega)) (below_alloc (Below.refl _ (wd)) (.cells #[.int .i64 (-1)] 3)))
        clear hr4 hb1
        go_wp2_with (at_builtin; refine wpList_append_ints rfl _ _ rfl wc.heap.size _ (Q.take (Q.length - 1)) [-1] rfl hr4'.out ⟨wd.heap.size, 0, none⟩ 1 _ rfl rfl (one_src wd (-1)) hsz4.out (Nat.le_trans hsD (size_le_alloc _ _)) ?_)
        intro v5 we hr5 hb1 g5 q5 hv5 hq5
        subst hv5
        have hI5 := hid (OwnRow.ints hr5)
        have hbE : Below wc.heap.size wc we := (hbD.trans ((Below.refl _ _).alloc hsD _)).trans hb1
        clear hr5 hb1 hr4' hbD hq4 hq5
        replace hk := hk.below hbE
        replace hI1 := hid (hI1.out.below hbE)
        replace hI3 := hid (hI3.out.below hbE)
        clear lg hbE hsD hG
        obtain ⟨lx, cx⟩ := cells_of hk.x
        have hbV : Below we.heap.size we (we.alloc (.cells #[.slice (some ⟨g1, 0, none⟩) (Q.length + 1) q1, .slice (some ⟨g3, 0, none⟩) (Q.length - 1 + 1) q3, .slice (some ⟨g5, 0, none⟩) (Q.length - 1 + 1) q5] 27)) := below_alloc (Below.refl _ _) _
        have hV := hid (show (we.alloc (.cells #[.slice (some ⟨g1, 0, none⟩) (Q.length + 1) q1, .slice (some ⟨g3, 0, none⟩) (Q.length - 1 + 1) q3, .slice (some ⟨g5, 0, none⟩) (Q.length - 1 + 1) q5] 27)).heap[we.heap.size]? = some (.cells #[.slice (some ⟨g1, 0, none⟩) (Q.length + 1) q1, .slice (some ⟨g3, 0, none⟩) (Q.length - 1 + 1) q3, .slice (some ⟨g5, 0, none⟩) (Q.length - 1 + 1) q5] 27 (0, 0)) from alloc_at rfl)
        go_wp2
        replace hk := hk.below hbV
        replace hI1 := hid (hI1.out.below hbV)
        replace hI3 := hid (hI3.out.below hbV)
        replace hI5 := hid (hI5.out.below hbV)
        have hm3 := hid (show (2 : Int) ∈ (Q.take (Q.length - 1) ++ [2]) by simp)
        have hm5 := hid (show (-1 : Int) ∈ (Q.take (Q.length - 1) ++ [-1]) by simp)
        have hl3 := hid (show ((Q.take (Q.length - 1) ++ [2])).length ≤ 1000 by simp <;> omega)
        have hl5 := hid (show ((Q.take (Q.length - 1) ++ [-1])).length ≤ 1000 by simp <;> omega)
        clear hbV lx cx
        obtain ⟨lx, cx⟩ := cells_of hk.x
        obtain ⟨lv, cv⟩ := cells_of hV.out
        refine wp_loop_rounds 4 ?_
        rw [rounds_succ]
        go_wp2_with (first | (go_at_call 15; with_reducible refine (cb0.out _ _ hI1.out).mono ?_; rintro e w1 ⟨rfl, hb1⟩; have hk := hk.below hb1; have hI1 := hid (hI1.out.below hb1); have hI3 := hid (hI3.out.below hb1); have hI5 := hid (hI5.out.below hb1); have hV := hid ((hb1.block _ (cells_of hV.out).1).trans hV.out); obtain ⟨lx, cx⟩ := cells_of hk.x; obtain ⟨lv, cv⟩ := cells_of hV.out) | (go_at_call 15; with_reducible refine (cb1.out _ hm3.out hl3.out _ _ hI3.out).mono ?_; rintro e w1 ⟨rfl, hb1⟩; have hk := hk.below hb1; have hI1 := hid (hI1.out.below hb1); have hI3 := hid (hI3.out.below hb1); have hI5 := hid (hI5.out.below hb1); have hV := hid ((hb1.block _ (cells_of hV.out).1).trans hV.out); obtain ⟨lx, cx⟩ := cells_of hk.x; obtain ⟨lv, cv⟩ := cells_of hV.out) | (go_at_call 15; with_reducible refine (cb2.out _ hm5.out hl5.out _ _ hI5.out).mono ?_; rintro e w1 ⟨rfl, hb1⟩; have hk := hk.below hb1; have hI1 := hid (hI1.out.below hb1); have hI3 := hid (hI3.out.below hb1); have hI5 := hid (hI5.out.below hb1); have hV := hid ((hb1.block _ (cells_of hV.out).1).trans hV.out); obtain ⟨lx, cx⟩ := cells_of hk.x; obtain ⟨lv, cv⟩ := cells_of hV.out) | (go_at_call 14; with_reducible refine (c14.out _).mono ?_; rintro e w1 ⟨rfl, hb1⟩; have hk := hk.below hb1; have hI1 := hid (hI1.out.below hb1); have hI3 := hid (hI3.out.below hb1); have hI5 := hid (hI5.out.below hb1); have hV := hid ((hb1.block _ (cells_of hV.out).1).trans hV.out); obtain ⟨lx, cx⟩ := cells_of hk.x; obtain ⟨lv, cv⟩ := cells_of hV.out))
        rw [rounds_succ]
        go_wp2_with (first | (go_at_call 15; with_reducible refine (cb0.out _ _ hI1.out).mono ?_; rintro e w1 ⟨rfl, hb1⟩; have hk := hk.below hb1; have hI1 := hid (hI1.out.below hb1); have hI3 := hid (hI3.out.below hb1); have hI5 := hid (hI5.out.below hb1); have hV := hid ((hb1.block _ (cells_of hV.out).1).trans hV.out); obtain ⟨lx, cx⟩ := cells_of hk.x; obtain ⟨lv, cv⟩ := cells_of hV.out) | (go_at_call 15; with_reducible refine (cb1.out _ hm3.out hl3.out _ _ hI3.out).mono ?_; rintro e w1 ⟨rfl, hb1⟩; have hk := hk.below hb1; have hI1 := hid (hI1.out.below hb1); have hI3 := hid (hI3.out.below hb1); have hI5 := hid (hI5.out.below hb1); have hV := hid ((hb1.block _ (cells_of hV.out).1).trans hV.out); obtain ⟨lx, cx⟩ := cells_of hk.x; obtain ⟨lv, cv⟩ := cells_of hV.out) | (go_at_call 15; with_reducible refine (cb2.out _ hm5.out hl5.out _ _ hI5.out).mono ?_; rintro e w1 ⟨rfl, hb1⟩; have hk := hk.below hb1; have hI1 := hid (hI1.out.below hb1); have hI3 := hid (hI3.out.below hb1); have hI5 := hid (hI5.out.below hb1); have hV := hid ((hb1.block _ (cells_of hV.out).1).trans hV.out); obtain ⟨lx, cx⟩ := cells_of hk.x; obtain ⟨lv, cv⟩ := cells_of hV.out) | (go_at_call 14; with_reducible refine (c14.out _).mono ?_; rintro e w1 ⟨rfl, hb1⟩; have hk := hk.below hb1; have hI1 := hid (hI1.out.below hb1); have hI3 := hid (hI3.out.below hb1); have hI5 := hid (hI5.out.below hb1); have hV := hid ((hb1.block _ (cells_of hV.out).1).trans hV.out); obtain ⟨lx, cx⟩ := cells_of hk.x; obtain ⟨lv, cv⟩ := cells_of hV.out))
        rw [rounds_succ]
        go_wp2_with (first | (go_at_call 15; with_reducible refine (cb0.out _ _ hI1.out).mono ?_; rintro e w1 ⟨rfl, hb1⟩; have hk := hk.below hb1; have hI1 := hid (hI1.out.below hb1); have hI3 := hid (hI3.out.below hb1); have hI5 := hid (hI5.out.below hb1); have hV := hid ((hb1.block _ (cells_of hV.out).1).trans hV.out); obtain ⟨lx, cx⟩ := cells_of hk.x; obtain ⟨lv, cv⟩ := cells_of hV.out) | (go_at_call 15; with_reducible refine (cb1.out _ hm3.out hl3.out _ _ hI3.out).mono ?_; rintro e w1 ⟨rfl, hb1⟩; have hk := hk.below hb1; have hI1 := hid (hI1.out.below hb1); have hI3 := hid (hI3.out.below hb1); have hI5 := hid (hI5.out.below hb1); have hV := hid ((hb1.block _ (cells_of hV.out).1).trans hV.out); obtain ⟨lx, cx⟩ := cells_of hk.x; obtain ⟨lv, cv⟩ := cells_of hV.out) | (go_at_call 15; with_reducible refine (cb2.out _ hm5.out hl5.out _ _ hI5.out).mono ?_; rintro e w1 ⟨rfl, hb1⟩; have hk := hk.below hb1; have hI1 := hid (hI1.out.below hb1); have hI3 := hid (hI3.out.below hb1); have hI5 := hid (hI5.out.below hb1); have hV := hid ((hb1.block _ (cells_of hV.out).1).trans hV.out); obtain ⟨lx, cx⟩ := cells_of hk.x; obtain ⟨lv, cv⟩ := cells_of hV.out) | (go_at_call 14; with_reducible refine (c14.out _).mono ?_; rintro e w1 ⟨rfl, hb1⟩; have hk := hk.below hb1; have hI1 := hid (hI1.out.below hb1); have hI3 := hid (hI3.out.below hb1); have hI5 := hid (hI5.out.below hb1); have hV := hid ((hb1.block _ (cells_of hV.out).1).trans hV.out); obtain ⟨lx, cx⟩ := cells_of hk.x; obtain ⟨lv, cv⟩ := cells_of hV.out))
        rw [rounds_succ]
        go_wp2_with (first | (go_at_call 15; with_reducible refine (cb0.out _ _ hI1.out).mono ?_; rintro e w1 ⟨rfl, hb1⟩; have hk := hk.below hb1; have hI1 := hid (hI1.out.below hb1); have hI3 := hid (hI3.out.below hb1); have hI5 := hid (hI5.out.below hb1); have hV := hid ((hb1.block _ (cells_of hV.out).1).trans hV.out); obtain ⟨lx, cx⟩ := cells_of hk.x; obtain ⟨lv, cv⟩ := cells_of hV.out) | (go_at_call 15; with_reducible refine (cb1.out _ hm3.out hl3.out _ _ hI3.out).mono ?_; rintro e w1 ⟨rfl, hb1⟩; have hk := hk.below hb1; have hI1 := hid (hI1.out.below hb1); have hI3 := hid (hI3.out.below hb1); have hI5 := hid (hI5.out.below hb1); have hV := hid ((hb1.block _ (cells_of hV.out).1).trans hV.out); obtain ⟨lx, cx⟩ := cells_of hk.x; obtain ⟨lv, cv⟩ := cells_of hV.out) | (go_at_call 15; with_reducible refine (cb2.out _ hm5.out hl5.out _ _ hI5.out).mono ?_; rintro e w1 ⟨rfl, hb1⟩; have hk := hk.below hb1; have hI1 := hid (hI1.out.below hb1); have hI3 := hid (hI3.out.below hb1); have hI5 := hid (hI5.out.below hb1); have hV := hid ((hb1.block _ (cells_of hV.out).1).trans hV.out); obtain ⟨lx, cx⟩ := cells_of hk.x; obtain ⟨lv, cv⟩ := cells_of hV.out) | (go_at_call 14; with_reducible refine (c14.out _).mono ?_; rintro e w1 ⟨rfl, hb1⟩; have hk := hk.below hb1; have hI1 := hid (hI1.out.below hb1); have hI3 := hid (hI3.out.below hb1); have hI5 := hid (hI5.out.below hb1); have hV := hid ((hb1.block _ (cells_of hV.out).1).trans hV.out); obtain ⟨lx, cx⟩ := cells_of hk.x; obtain ⟨lv, cv⟩ := cells_of hV.out))
        go_ret
        exact ⟨rfl, hk.bel⟩
      · have hp1 : ¬ (1 : Int) < (Q.length : Int) := by omega
        clear hq1
        obtain ⟨lx, cx⟩ := cells_of hk.x
        have lg := (cells_of hG.out).1
        have hsz1 := hid (show ([0] : List Int).length + Q.length ≤ 1000 by simp <;> omega)
        have hsz2 := hid (show ([] : List Int).length + Q.length ≤ 1000 by simp <;> omega)
        have hsz3 := hid (show (Q.take (0)).length + ([2] : List Int).length ≤ 1000 by simp <;> omega)
        have hsz4 := hid (show (Q.take (0)).length + ([-1] : List Int).length ≤ 1000 by simp <;> omega)
        go_wp2_with (at_builtin; refine wpList_append_ints rfl _ _ rfl wr.heap.size _ [0] Q rfl (ownRow_one 0 (Nat.le_refl _)) ⟨gb, 0, none⟩ Q.length _ rfl rfl (block_src (alloc_old lg hG.out)) hsz1.out (size_le_alloc _ _) ?_)
        intro v1 wa hr1 hb1 g1 q1 hv1 hq1
        subst hv1
        have hbA : Below wr.heap.size wr wa := (below_alloc (Below.refl _ _) _).trans hb1
        replace hk := hk.below hbA
        replace hG := hid ((hbA.block _ lg).trans hG.out)
        have hI1 := hid (OwnRow.ints hr1)
        clear hr1 hb1 hbA lx cx lg hq1
        have lg := (cells_of hG.out).1
        go_wp2_with (at_builtin; refine wpList_append_ints rfl _ _ rfl wa.heap.size _ [] Q rfl (ownRow_zero (Nat.le_refl _)) ⟨gb, 0, none⟩ Q.length _ rfl rfl (block_src (alloc_old lg hG.out)) hsz2.out (size_le_alloc _ _) ?_)
        intro v2 wb hr2 hb1 g2 q2 hv2 hq2
        subst hv2
        have hbB : Below wa.heap.size wa wb := (below_alloc (Below.refl _ _) _).trans hb1
        have hsB := hbB.size
        have hcap2 : (Q.length : Int) - 1 ≤ (q2 : Int) := by omega
        have hr2' := hid (OwnRow.below (ownRow_trunc hr2 (m := 0) (by omega)) (below_alloc (Below.refl _ (wb)) (.cells #[.int .i64 2] 3)))
        clear hr2 hb1
        go_wp2_with (at_builtin; refine wpList_append_ints rfl _ _ rfl wa.heap.size _ (Q.take (0)) [2] rfl hr2'.out ⟨wb.heap.size, 0, none⟩ 1 _ rfl rfl (one_src wb 2) hsz3.out (Nat.le_trans hsB (size_le_alloc _ _)) ?_)
        intro v3 wc hr3 hb1 g3 q3 hv3 hq3
        subst hv3
        have hI3 := hid (OwnRow.ints hr3)
        have hbC : Below wa.heap.size wa wc := (hbB.trans ((Below.refl _ _).alloc hsB _)).trans hb1
        clear hr3 hb1 hr2' hbB hq2 hq3
        replace hk := hk.below hbC
        replace hG := hid ((hbC.block _ lg).trans hG.out)
        replace hI1 := hid (hI1.out.below hbC)
        clear lg hbC hsB
        have lg := (cells_of hG.out).1
        go_wp2_with (at_builtin; refine wpList_append_ints rfl _ _ rfl wc.heap.size _ [] Q rfl (ownRow_zero (Nat.le_refl _)) ⟨gb, 0, none⟩ Q.length _ rfl rfl (block_src (alloc_old lg hG.out)) hsz2.out (size_le_alloc _ _) ?_)
        intro v4 wd hr4 hb1 g4 q4 hv4 hq4
        subst hv4
        have hbD : Below wc.heap.size wc wd := (below_alloc (Below.refl _ _) _).trans hb1
        have hsD := hbD.size
        have hr4' := hid (OwnRow.below (ownRow_trunc hr4 (m := 0) (by omega)) (below_alloc (Below.refl _ (wd)) (.cells #[.int .i64 (-1)] 3)))
        clear hr4 hb1
        go_wp2_with (at_builtin; refine wpList_append_ints rfl _ _ rfl wc.heap.size _ (Q.take (0)) [-1] rfl hr4'.out ⟨wd.heap.size, 0, none⟩ 1 _ rfl rfl (one_src wd (-1)) hsz4.out (Nat.le_trans hsD (size_le_alloc _ _)) ?_)
        intro v5 we hr5 hb1 g5 q5 hv5 hq5
        subst hv5
        have hI5 := hid (OwnRow.ints hr5)
        have hbE : Below wc.heap.size wc we := (hbD.trans ((Below.refl _ _).alloc hsD _)).trans hb1
        clear hr5 hb1 hr4' hbD hq4 hq5
        replace hk := hk.below hbE
        replace hI1 := hid (hI1.out.below hbE)
        replace hI3 := hid (hI3.out.below hbE)
        clear lg hbE hsD hG
        obtain ⟨lx, cx⟩ := cells_of hk.x
        have hbV : Below we.heap.size we (we.alloc (.cells #[.slice (some ⟨g1, 0, none⟩) (Q.length + 1) q1, .slice (some ⟨g3, 0, none⟩) (1) q3, .slice (some ⟨g5, 0, none⟩) (1) q5] 27)) := below_alloc (Below.refl _ _) _
        have hV := hid (show (we.alloc (.cells #[.slice (some ⟨g1, 0, none⟩) (Q.length + 1) q1, .slice (some ⟨g3, 0, none⟩) (1) q3, .slice (some ⟨g5, 0, none⟩) (1) q5] 27)).heap[we.heap.size]? = some (.cells #[.slice (some ⟨g1, 0, none⟩) (Q.length + 1) q1, .slice (some ⟨g3, 0, none⟩) (1) q3, .slice (some ⟨g5, 0, none⟩) (1) q5] 27 (0, 0)) from alloc_at rfl)
        go_wp2
        replace hk := hk.below hbV
        replace hI1 := hid (hI1.out.below hbV)
        replace hI3 := hid (hI3.out.below hbV)
        replace hI5 := hid (hI5.out.below hbV)
        have hm3 := hid (show (2 : Int) ∈ ([2] : List Int) by simp)
        have hm5 := hid (show (-1 : Int) ∈ ([-1] : List Int) by simp)
        have hl3 := hid (show (([2] : List Int)).length ≤ 1000 by simp <;> omega)
        have hl5 := hid (show (([-1] : List Int)).length ≤ 1000 by simp <;> omega)
        clear hbV lx cx
        obtain ⟨lx, cx⟩ := cells_of hk.x
        obtain ⟨lv, cv⟩ := cells_of hV.out
        refine wp_loop_rounds 4 ?_
        rw [rounds_succ]
        go_wp2_with (first | (go_at_call 15; with_reducible refine (cb0.out _ _ hI1.out).mono ?_; rintro e w1 ⟨rfl, hb1⟩; have hk := hk.below hb1; have hI1 := hid (hI1.out.below hb1); have hI3 := hid (hI3.out.below hb1); have hI5 := hid (hI5.out.below hb1); have hV := hid ((hb1.block _ (cells_of hV.out).1).trans hV.out); obtain ⟨lx, cx⟩ := cells_of hk.x; obtain ⟨lv, cv⟩ := cells_of hV.out) | (go_at_call 15; with_reducible refine (cb1.out _ hm3.out hl3.out _ _ hI3.out).mono ?_; rintro e w1 ⟨rfl, hb1⟩; have hk := hk.below hb1; have hI1 := hid (hI1.out.below hb1); have hI3 := hid (hI3.out.below hb1); have hI5 := hid (hI5.out.below hb1); have hV := hid ((hb1.block _ (cells_of hV.out).1).trans hV.out); obtain ⟨lx, cx⟩ := cells_of hk.x; obtain ⟨lv, cv⟩ := cells_of hV.out) | (go_at_call 15; with_reducible refine (cb2.out _ hm5.out hl5.out _ _ hI5.out).mono ?_; rintro e w1 ⟨rfl, hb1⟩; have hk := hk.below hb1; have hI1 := hid (hI1.out.below hb1); have hI3 := hid (hI3.out.below hb1); have hI5 := hid (hI5.out.below hb1); have hV := hid ((hb1.block _ (cells_of hV.out).1).trans hV.out); obtain ⟨lx, cx⟩ := cells_of hk.x; obtain ⟨lv, cv⟩ := cells_of hV.out) | (go_at_call 14; with_reducible refine (c14.out _).mono ?_; rintro e w1 ⟨rfl, hb1⟩; have hk := hk.below hb1; have hI1 := hid (hI1.out.below hb1); have hI3 := hid (hI3.out.below hb1); have hI5 := hid (hI5.out.below hb1); have hV := hid ((hb1.block _ (cells_of hV.out).1).trans hV.out); obtain ⟨lx, cx⟩ := cells_of hk.x; obtain ⟨lv, cv⟩ := cells_of hV.out))
        rw [rounds_succ]
        go_wp2_with (first | (go_at_call 15; with_reducible refine (cb0.out _ _ hI1.out).mono ?_; rintro e w1 ⟨rfl, hb1⟩; have hk := hk.below hb1; have hI1 := hid (hI1.out.below hb1); have hI3 := hid (hI3.out.below hb1); have hI5 := hid (hI5.out.below hb1); have hV := hid ((hb1.block _ (cells_of hV.out).1).trans hV.out); obtain ⟨lx, cx⟩ := cells_of hk.x; obtain ⟨lv, cv⟩ := cells_of hV.out) | (go_at_call 15; with_reducible refine (cb1.out _ hm3.out hl3.out _ _ hI3.out).mono ?_; rintro e w1 ⟨rfl, hb1⟩; have hk := hk.below hb1; have hI1 := hid (hI1.out.below hb1); have hI3 := hid (hI3.out.below hb1); have hI5 := hid (hI5.out.below hb1); have hV := hid ((hb1.block _ (cells_of hV.out).1).trans hV.out); obtain ⟨lx, cx⟩ := cells_of hk.x; obtain ⟨lv, cv⟩ := cells_of hV.out) | (go_at_call 15; with_reducible refine (cb2.out _ hm5.out hl5.out _ _ hI5.out).mono ?_; rintro e w1 ⟨rfl, hb1⟩; have hk := hk.below hb1; have hI1 := hid (hI1.out.below hb1); have hI3 := hid (hI3.out.below hb1); have hI5 := hid (hI5.out.below hb1); have hV := hid ((hb1.block _ (cells_of hV.out).1).trans hV.out); obtain ⟨lx, cx⟩ := cells_of hk.x; obtain ⟨lv, cv⟩ := cells_of hV.out) | (go_at_call 14; with_reducible refine (c14.out _).mono ?_; rintro e w1 ⟨rfl, hb1⟩; have hk := hk.below hb1; have hI1 := hid (hI1.out.below hb1); have hI3 := hid (hI3.out.below hb1); have hI5 := hid (hI5.out.below hb1); have hV := hid ((hb1.block _ (cells_of hV.out).1).trans hV.out); obtain ⟨lx, cx⟩ := cells_of hk.x; obtain ⟨lv, cv⟩ := cells_of hV.out))
        rw [rounds_succ]
        go_wp2_with (first | (go_at_call 15; with_reducible refine (cb0.out _ _ hI1.out).mono ?_; rintro e w1 ⟨rfl, hb1⟩; have hk := hk.below hb1; have hI1 := hid (hI1.out.below hb1); have hI3 := hid (hI3.out.below hb1); have hI5 := hid (hI5.out.below hb1); have hV := hid ((hb1.block _ (cells_of hV.out).1).trans hV.out); obtain ⟨lx, cx⟩ := cells_of hk.x; obtain ⟨lv, cv⟩ := cells_of hV.out) | (go_at_call 15; with_reducible refine (cb1.out _ hm3.out hl3.out _ _ hI3.out).mono ?_; rintro e w1 ⟨rfl, hb1⟩; have hk := hk.below hb1; have hI1 := hid (hI1.out.below hb1); have hI3 := hid (hI3.out.below hb1); have hI5 := hid (hI5.out.below hb1); have hV := hid ((hb1.block _ (cells_of hV.out).1).trans hV.out); obtain ⟨lx, cx⟩ := cells_of hk.x; obtain ⟨lv, cv⟩ := cells_of hV.out) | (go_at_call 15; with_reducible refine (cb2.out _ hm5.out hl5.out _ _ hI5.out).mono ?_; rintro e w1 ⟨rfl, hb1⟩; have hk := hk.below hb1; have hI1 := hid (hI1.out.below hb1); have hI3 := hid (hI3.out.below hb1); have hI5 := hid (hI5.out.below hb1); have hV := hid ((hb1.block _ (cells_of hV.out).1).trans hV.out); obtain ⟨lx, cx⟩ := cells_of hk.x; obtain ⟨lv, cv⟩ := cells_of hV.out) | (go_at_call 14; with_reducible refine (c14.out _).mono ?_; rintro e w1 ⟨rfl, hb1⟩; have hk := hk.below hb1; have hI1 := hid (hI1.out.below hb1); have hI3 := hid (hI3.out.below hb1); have hI5 := hid (hI5.out.below hb1); have hV := hid ((hb1.block _ (cells_of hV.out).1).trans hV.out); obtain ⟨lx, cx⟩ := cells_of hk.x; obtain ⟨lv, cv⟩ := cells_of hV.out))
        rw [rounds_succ]
        go_wp2_with (first | (go_at_call 15; with_reducible refine (cb0.out _ _ hI1.out).mono ?_; rintro e w1 ⟨rfl, hb1⟩; have hk := hk.below hb1; have hI1 := hid (hI1.out.below hb1); have hI3 := hid (hI3.out.below hb1); have hI5 := hid (hI5.out.below hb1); have hV := hid ((hb1.block _ (cells_of hV.out).1).trans hV.out); obtain ⟨lx, cx⟩ := cells_of hk.x; obtain ⟨lv, cv⟩ := cells_of hV.out) | (go_at_call 15; with_reducible refine (cb1.out _ hm3.out hl3.out _ _ hI3.out).mono ?_; rintro e w1 ⟨rfl, hb1⟩; have hk := hk.below hb1; have hI1 := hid (hI1.out.below hb1); have hI3 := hid (hI3.out.below hb1); have hI5 := hid (hI5.out.below hb1); have hV := hid ((hb1.block _ (cells_of hV.out).1).trans hV.out); obtain ⟨lx, cx⟩ := cells_of hk.x; obtain ⟨lv, cv⟩ := cells_of hV.out) | (go_at_call 15; with_reducible refine (cb2.out _ hm5.out hl5.out _ _ hI5.out).mono ?_; rintro e w1 ⟨rfl, hb1⟩; have hk := hk.below hb1; have hI1 := hid (hI1.out.below hb1); have hI3 := hid (hI3.out.below hb1); have hI5 := hid (hI5.out.below hb1); have hV := hid ((hb1.block _ (cells_of hV.out).1).trans hV.out); obtain ⟨lx, cx⟩ := cells_of hk.x; obtain ⟨lv, cv⟩ := cells_of hV.out) | (go_at_call 14; with_reducible refine (c14.out _).mono ?_; rintro e w1 ⟨rfl, hb1⟩; have hk := hk.below hb1; have hI1 := hid (hI1.out.below hb1); have hI3 := hid (hI3.out.below hb1); have hI5 := hid (hI5.out.below hb1); have hV := hid ((hb1.block _ (cells_of hV.out).1).trans hV.out); obtain ⟨lx, cx⟩ := cells_of hk.x; obtain ⟨lv, cv⟩ := cells_of hV.out))
        go_ret
        exact ⟨rfl, hk.bel⟩

set_option maxRecDepth 100000 in
set_option maxHeartbeats 8000000 in
theorem restChecks_some (R : Rest) (z : Int) (hz0 : 0 ≤ z) (hv : R.valid = true) (Q : List Int) (hQ : bitsL R.hours.toNat z = Q) (j : Nat) (n : Int) (hj : j < Q.length) (hck : checkOf R Q = ((j : Int), n, 0)) (hn1 : 1 ≤ n) (hn4 : n ≤ 4) (hjn : lawB R (Q.take j) (Q.getD j 0) = n) (hzero : ∀ i, i < j → lawB R (Q.take i) (Q.getD i 0) = 0) (w : World) :
    Calls Try.prog 6 #[restV R, .int .u16 z] w fun e w' => e = .returned (.bool true) ∧ Below w.heap.size w w' := by
  have hh := Rest.valid_hours hv
  have hlQ : Q.length = R.hours.toNat := by rw [← hQ, bitsL_length]
  have hQ16 : Q.length ≤ 16 := by omega
  have hQ01 : ∀ x, x ∈ Q → x = 0 ∨ x = 1 := by rw [← hQ]; exact bitsL_mem
  have c32 := hid (fun w => valid_as hv w)
  have c33 := hid (fun w => by_own hQ hh.1 hh.2 hz0 w)
  have c15 := hid (fun v w h => check_as (v := v) hck (by omega) w h)
  have c34 := hid (fun (j : Nat) (hj : j < Q.length) (a : Option Addr) (cap : Nat) (w : World) h => lawBroken_any R hv a cap Q j hj hQ16 hQ01 w h)
  have cb0 := hid (fun v w h => check_as (v := v) (check_refuses hv (planOk_long (xs := 0 :: Q) (by simp; omega))) (by simp; omega) w h)
  have cb1 := hid (fun (xs : List Int) (h2 : (2 : Int) ∈ xs) (hl : xs.length ≤ 1000) v w h => check_as (v := v) (check_refuses hv (planOk_bad h2 (.inr (by decide)))) hl w h)
  have cb2 := hid (fun (xs : List Int) (h2 : (-1 : Int) ∈ xs) (hl : xs.length ≤ 1000) v w h => check_as (v := v) (check_refuses hv (planOk_bad h2 (.inl (by decide)))) hl w h)
  have c14 := hid awake_any
  have hlQ' := hid hlQ
  have hz := hid hzero
  have hjn' := hid hjn
  clear hzero hjn
  have d1 : decide (n < 1) = false := by simp; omega
  have d2 : decide (4 < n) = false := by simp; omega
  have d3 : (n == 0) = false := by simp; omega
  have d4 : decide (R.hours ≤ (j : Int)) = false := by simp; omega
  clear hv hQ hQ01 hck hlQ
  have hk := KeepR.start w R
  go_enter Try.func6, Try.ntmps6
  go_wp2_with (first | (go_at_call 32; with_reducible refine (c32.out _).mono ?_; rintro e w1 ⟨rfl, hb1⟩; have hk := hk.below hb1; obtain ⟨lx, cx⟩ := cells_of hk.x) | (go_at_call 33; with_reducible refine (c33.out _).mono ?_; rintro e w1 ⟨gb, rfl, hgb, hG0, hb1⟩; have hk := hk.below hb1; have hG := hid hG0; clear hG0; obtain ⟨lx, cx⟩ := cells_of hk.x) | (go_at_call 15; with_reducible refine (c15.out _ _ (block_all hG.out)).mono ?_; rintro e w1 ⟨rfl, hb1⟩; have hG := hid ((hb1.block _ (cells_of hG.out).1).trans hG.out); have hk := hk.below hb1; obtain ⟨lx, cx⟩ := cells_of hk.x))
  go_loopw [90] (fun x wr => ∃ k : Nat, k ≤ j ∧ x = .int .i64 k ∧ KeepR w R wr ∧ Hid (wr.heap[gb]? = some (.cells (intsV Q) 3 (0, 0)))) (fun x _ => Q.length - (intOf x).toNat)
  case atStart => exact ⟨0, by omega, rfl, hk, hG⟩
  case round =>
    obtain ⟨k, hkk, rfl, hk, hG⟩ := hrel
    obtain ⟨lx, cx⟩ := cells_of hk.x
    by_cases hlt : k < j
    · have hlt2 : k < Q.length := by omega
      have c34k := hid (fun w h => law_as (hz.out k hlt) (c34.out k hlt2 (some ⟨gb, 0, none⟩) Q.length w h))
      have hkj : ((k : Int) == (j : Int)) = false := by simp; omega
      go_wp2_with (first | (go_at_call 34; with_reducible refine (c34k.out _ (block_all hG.out)).mono ?_; rintro e w1 ⟨rfl, hb1⟩; have hG := hid ((hb1.block _ (cells_of hG.out).1).trans hG.out); have hk := hk.below hb1; obtain ⟨lx, cx⟩ := cells_of hk.x))
      go_roundw
      case rel => exact ⟨k + 1, by omega, by go_num, hk, hG⟩
      case measure => simp [intOf]; omega
    · obtain rfl : k = j := by omega
      have c34k := hid (fun w h => law_as hjn'.out (c34.out k hj (some ⟨gb, 0, none⟩) Q.length w h))
      go_upto_region 18 with (first | (go_at_call 34; with_reducible refine (c34k.out _ (block_all hG.out)).mono ?_; rintro e w1 ⟨rfl, hb1⟩; have hG := hid ((hb1.block _ (cells_of hG.out).1).trans hG.out); have hk := hk.below hb1; obtain ⟨lx, cx⟩ := cells_of hk.x))
      by_cases hq1 : 1 < Q.length
      · have hp1 : (1 : Int) < (Q.length : Int) := by omega
        have htn : ((Q.length : Int) - 1).toNat = Q.length - 1 := by omega
        clear hq1
        obtain ⟨lx, cx⟩ := cells_of hk.x
        have lg := (cells_of hG.out).1
        have hsz1 := hid (show ([0] : List Int).length + Q.length ≤ 1000 by simp <;> omega)
        have hsz2 := hid (show ([] : List Int).length + Q.length ≤ 1000 by simp <;> omega)
        have hsz3 := hid (show (Q.take (Q.length - 1)).length + ([2] : List Int).length ≤ 1000 by simp <;> omega)
        have hsz4 := hid (show (Q.take (Q.length - 1)).length + ([-1] : List Int).length ≤ 1000 by simp <;> omega)
        go_wp2_with (at_builtin; refine wpList_append_ints rfl _ _ rfl w1.heap.size _ [0] Q rfl (ownRow_one 0 (Nat.le_refl _)) ⟨gb, 0, none⟩ Q.length _ rfl rfl (block_src (alloc_old lg hG.out)) hsz1.out (size_le_alloc _ _) ?_)
        intro v1 wa hr1 hb1 g1 q1 hv1 hq1
        subst hv1
        have hbA : Below w1.heap.size w1 wa := (below_alloc (Below.refl _ _) _).trans hb1
        replace hk := hk.below hbA
        replace hG := hid ((hbA.block _ lg).trans hG.out)
        have hI1 := hid (OwnRow.ints hr1)
        clear hr1 hb1 hbA lx cx lg hq1
        have lg := (cells_of hG.out).1
        go_wp2_with (at_builtin; refine wpList_append_ints rfl _ _ rfl wa.heap.size _ [] Q rfl (ownRow_zero (Nat.le_refl _)) ⟨gb, 0, none⟩ Q.length _ rfl rfl (block_src (alloc_old lg hG.out)) hsz2.out (size_le_alloc _ _) ?_)
        intro v2 wb hr2 hb1 g2 q2 hv2 hq2
        subst hv2
        have hbB : Below wa.heap.size wa wb := (below_alloc (Below.refl _ _) _).trans hb1
        have hsB := hbB.size
        have hcap2 : (Q.length : Int) - 1 ≤ (q2 : Int) := by omega
        have hr2' := hid (OwnRow.below (ownRow_trunc hr2 (m := Q.length - 1) (by omega)) (below_alloc (Below.refl _ (wb)) (.cells #[.int .i64 2] 3)))
        clear hr2 hb1
        go_wp2_with (at_builtin; refine wpList_append_ints rfl _ _ rfl wa.heap.size _ (Q.take (Q.length - 1)) [2] rfl hr2'.out ⟨wb.heap.size, 0, none⟩ 1 _ rfl rfl (one_src wb 2) hsz3.out (Nat.le_trans hsB (size_le_alloc _ _)) ?_)
        intro v3 wc hr3 hb1 g3 q3 hv3 hq3
        subst hv3
        have hI3 := hid (OwnRow.ints hr3)
        have hbC : Below wa.heap.size wa wc := (hbB.trans ((Below.refl _ _).alloc hsB _)).trans hb1
        clear hr3 hb1 hr2' hbB hq2 hq3
        replace hk := hk.below hbC
        replace hG := hid ((hbC.block _ lg).trans hG.out)
        replace hI1 := hid (hI1.out.below hbC)
        clear lg hbC hsB
        have lg := (cells_of hG.out).1
        go_wp2_with (at_builtin; refine wpList_append_ints rfl _ _ rfl wc.heap.size _ [] Q rfl (ownRow_zero (Nat.le_refl _)) ⟨gb, 0, none⟩ Q.length _ rfl rfl (block_src (alloc_old lg hG.out)) hsz2.out (size_le_alloc _ _) ?_)
        intro v4 wd hr4 hb1 g4 q4 hv4 hq4
        subst hv4
        have hbD : Below wc.heap.size wc wd := (below_alloc (Below.refl _ _) _).trans hb1
        have hsD := hbD.size
        have hr4' := hid (OwnRow.below (ownRow_trunc hr4 (m := Q.length - 1) (by omega)) (below_alloc (Below.refl _ (wd)) (.cells #[.int .i64 (-1)] 3)))
        clear hr4 hb1
        go_wp2_with (at_builtin; refine wpList_append_ints rfl _ _ rfl wc.heap.size _ (Q.take (Q.length - 1)) [-1] rfl hr4'.out ⟨wd.heap.size, 0, none⟩ 1 _ rfl rfl (one_src wd (-1)) hsz4.out (Nat.le_trans hsD (size_le_alloc _ _)) ?_)
        intro v5 we hr5 hb1 g5 q5 hv5 hq5
        subst hv5
        have hI5 := hid (OwnRow.ints hr5)
        have hbE : Below wc.heap.size wc we := (hbD.trans ((Below.refl _ _).alloc hsD _)).trans hb1
        clear hr5 hb1 hr4' hbD hq4 hq5
        replace hk := hk.below hbE
        replace hI1 := hid (hI1.out.below hbE)
        replace hI3 := hid (hI3.out.below hbE)
        clear lg hbE hsD hG
        obtain ⟨lx, cx⟩ := cells_of hk.x
        have hbV : Below we.heap.size we (we.alloc (.cells #[.slice (some ⟨g1, 0, none⟩) (Q.length + 1) q1, .slice (some ⟨g3, 0, none⟩) (Q.length - 1 + 1) q3, .slice (some ⟨g5, 0, none⟩) (Q.length - 1 + 1) q5] 27)) := below_alloc (Below.refl _ _) _
        have hV := hid (show (we.alloc (.cells #[.slice (some ⟨g1, 0, none⟩) (Q.length + 1) q1, .slice (some ⟨g3, 0, none⟩) (Q.length - 1 + 1) q3, .slice (some ⟨g5, 0, none⟩) (Q.length - 1 + 1) q5] 27)).heap[we.heap.size]? = some (.cells #[.slice (some ⟨g1, 0, none⟩) (Q.length + 1) q1, .slice (some ⟨g3, 0, none⟩) (Q.length - 1 + 1) q3, .slice (some ⟨g5, 0, none⟩) (Q.length - 1 + 1) q5] 27 (0, 0)) from alloc_at rfl)
        go_wp2
        replace hk := hk.below hbV
        replace hI1 := hid (hI1.out.below hbV)
        replace hI3 := hid (hI3.out.below hbV)
        replace hI5 := hid (hI5.out.below hbV)
        have hm3 := hid (show (2 : Int) ∈ (Q.take (Q.length - 1) ++ [2]) by simp)
        have hm5 := hid (show (-1 : Int) ∈ (Q.take (Q.length - 1) ++ [-1]) by simp)
        have hl3 := hid (show ((Q.take (Q.length - 1) ++ [2])).length ≤ 1000 by simp <;> omega)
        have hl5 := hid (show ((Q.take (Q.length - 1) ++ [-1])).length ≤ 1000 by simp <;> omega)
        clear hbV lx cx
        obtain ⟨lx, cx⟩ := cells_of hk.x
        obtain ⟨lv, cv⟩ := cells_of hV.out
        refine wp_loop_rounds 4 ?_
        rw [rounds_succ]
        go_wp2_with (first | (go_at_call 15; with_reducible refine (cb0.out _ _ hI1.out).mono ?_; rintro e w1 ⟨rfl, hb1⟩; have hk := hk.below hb1; have hI1 := hid (hI1.out.below hb1); have hI3 := hid (hI3.out.below hb1); have hI5 := hid (hI5.out.below hb1); have hV := hid ((hb1.block _ (cells_of hV.out).1).trans hV.out); obtain ⟨lx, cx⟩ := cells_of hk.x; obtain ⟨lv, cv⟩ := cells_of hV.out) | (go_at_call 15; with_reducible refine (cb1.out _ hm3.out hl3.out _ _ hI3.out).mono ?_; rintro e w1 ⟨rfl, hb1⟩; have hk := hk.below hb1; have hI1 := hid (hI1.out.below hb1); have hI3 := hid (hI3.out.below hb1); have hI5 := hid (hI5.out.below hb1); have hV := hid ((hb1.block _ (cells_of hV.out).1).trans hV.out); obtain ⟨lx, cx⟩ := cells_of hk.x; obtain ⟨lv, cv⟩ := cells_of hV.out) | (go_at_call 15; with_reducible refine (cb2.out _ hm5.out hl5.out _ _ hI5.out).mono ?_; rintro e w1 ⟨rfl, hb1⟩; have hk := hk.below hb1; have hI1 := hid (hI1.out.below hb1); have hI3 := hid (hI3.out.below hb1); have hI5 := hid (hI5.out.below hb1); have hV := hid ((hb1.block _ (cells_of hV.out).1).trans hV.out); obtain ⟨lx, cx⟩ := cells_of hk.x; obtain ⟨lv, cv⟩ := cells_of hV.out) | (go_at_call 14; with_reducible refine (c14.out _).mono ?_; rintro e w1 ⟨rfl, hb1⟩; have hk := hk.below hb1; have hI1 := hid (hI1.out.below hb1); have hI3 := hid (hI3.out.below hb1); have hI5 := hid (hI5.out.below hb1); have hV := hid ((hb1.block _ (cells_of hV.out).1).trans hV.out); obtain ⟨lx, cx⟩ := cells_of hk.x; obtain ⟨lv, cv⟩ := cells_of hV.out))
        rw [rounds_succ]
        go_wp2_with (first | (go_at_call 15; with_reducible refine (cb0.out _ _ hI1.out).mono ?_; rintro e w1 ⟨rfl, hb1⟩; have hk := hk.below hb1; have hI1 := hid (hI1.out.below hb1); have hI3 := hid (hI3.out.below hb1); have hI5 := hid (hI5.out.below hb1); have hV := hid ((hb1.block _ (cells_of hV.out).1).trans hV.out); obtain ⟨lx, cx⟩ := cells_of hk.x; obtain ⟨lv, cv⟩ := cells_of hV.out) | (go_at_call 15; with_reducible refine (cb1.out _ hm3.out hl3.out _ _ hI3.out).mono ?_; rintro e w1 ⟨rfl, hb1⟩; have hk := hk.below hb1; have hI1 := hid (hI1.out.below hb1); have hI3 := hid (hI3.out.below hb1); have hI5 := hid (hI5.out.below hb1); have hV := hid ((hb1.block _ (cells_of hV.out).1).trans hV.out); obtain ⟨lx, cx⟩ := cells_of hk.x; obtain ⟨lv, cv⟩ := cells_of hV.out) | (go_at_call 15; with_reducible refine (cb2.out _ hm5.out hl5.out _ _ hI5.out).mono ?_; rintro e w1 ⟨rfl, hb1⟩; have hk := hk.below hb1; have hI1 := hid (hI1.out.below hb1); have hI3 := hid (hI3.out.below hb1); have hI5 := hid (hI5.out.below hb1); have hV := hid ((hb1.block _ (cells_of hV.out).1).trans hV.out); obtain ⟨lx, cx⟩ := cells_of hk.x; obtain ⟨lv, cv⟩ := cells_of hV.out) | (go_at_call 14; with_reducible refine (c14.out _).mono ?_; rintro e w1 ⟨rfl, hb1⟩; have hk := hk.below hb1; have hI1 := hid (hI1.out.below hb1); have hI3 := hid (hI3.out.below hb1); have hI5 := hid (hI5.out.below hb1); have hV := hid ((hb1.block _ (cells_of hV.out).1).trans hV.out); obtain ⟨lx, cx⟩ := cells_of hk.x; obtain ⟨lv, cv⟩ := cells_of hV.out))
        rw [rounds_succ]
        go_wp2_with (first | (go_at_call 15; with_reducible refine (cb0.out _ _ hI1.out).mono ?_; rintro e w1 ⟨rfl, hb1⟩; have hk := hk.below hb1; have hI1 := hid (hI1.out.below hb1); have hI3 := hid (hI3.out.below hb1); have hI5 := hid (hI5.out.below hb1); have hV := hid ((hb1.block _ (cells_of hV.out).1).trans hV.out); obtain ⟨lx, cx⟩ := cells_of hk.x; obtain ⟨lv, cv⟩ := cells_of hV.out) | (go_at_call 15; with_reducible refine (cb1.out _ hm3.out hl3.out _ _ hI3.out).mono ?_; rintro e w1 ⟨rfl, hb1⟩; have hk := hk.below hb1; have hI1 := hid (hI1.out.below hb1); have hI3 := hid (hI3.out.below hb1); have hI5 := hid (hI5.out.below hb1); have hV := hid ((hb1.block _ (cells_of hV.out).1).trans hV.out); obtain ⟨lx, cx⟩ := cells_of hk.x; obtain ⟨lv, cv⟩ := cells_of hV.out) | (go_at_call 15; with_reducible refine (cb2.out _ hm5.out hl5.out _ _ hI5.out).mono ?_; rintro e w1 ⟨rfl, hb1⟩; have hk := hk.below hb1; have hI1 := hid (hI1.out.below hb1); have hI3 := hid (hI3.out.below hb1); have hI5 := hid (hI5.out.below hb1); have hV := hid ((hb1.block _ (cells_of hV.out).1).trans hV.out); obtain ⟨lx, cx⟩ := cells_of hk.x; obtain ⟨lv, cv⟩ := cells_of hV.out) | (go_at_call 14; with_reducible refine (c14.out _).mono ?_; rintro e w1 ⟨rfl, hb1⟩; have hk := hk.below hb1; have hI1 := hid (hI1.out.below hb1); have hI3 := hid (hI3.out.below hb1); have hI5 := hid (hI5.out.below hb1); have hV := hid ((hb1.block _ (cells_of hV.out).1).trans hV.out); obtain ⟨lx, cx⟩ := cells_of hk.x; obtain ⟨lv, cv⟩ := cells_of hV.out))
        rw [rounds_succ]
        go_wp2_with (first | (go_at_call 15; with_reducible refine (cb0.out _ _ hI1.out).mono ?_; rintro e w1 ⟨rfl, hb1⟩; have hk := hk.below hb1; have hI1 := hid (hI1.out.below hb1); have hI3 := hid (hI3.out.below hb1); have hI5 := hid (hI5.out.below hb1); have hV := hid ((hb1.block _ (cells_of hV.out).1).trans hV.out); obtain ⟨lx, cx⟩ := cells_of hk.x; obtain ⟨lv, cv⟩ := cells_of hV.out) | (go_at_call 15; with_reducible refine (cb1.out _ hm3.out hl3.out _ _ hI3.out).mono ?_; rintro e w1 ⟨rfl, hb1⟩; have hk := hk.below hb1; have hI1 := hid (hI1.out.below hb1); have hI3 := hid (hI3.out.below hb1); have hI5 := hid (hI5.out.below hb1); have hV := hid ((hb1.block _ (cells_of hV.out).1).trans hV.out); obtain ⟨lx, cx⟩ := cells_of hk.x; obtain ⟨lv, cv⟩ := cells_of hV.out) | (go_at_call 15; with_reducible refine (cb2.out _ hm5.out hl5.out _ _ hI5.out).mono ?_; rintro e w1 ⟨rfl, hb1⟩; have hk := hk.below hb1; have hI1 := hid (hI1.out.below hb1); have hI3 := hid (hI3.out.below hb1); have hI5 := hid (hI5.out.below hb1); have hV := hid ((hb1.block _ (cells_of hV.out).1).trans hV.out); obtain ⟨lx, cx⟩ := cells_of hk.x; obtain ⟨lv, cv⟩ := cells_of hV.out) | (go_at_call 14; with_reducible refine (c14.out _).mono ?_; rintro e w1 ⟨rfl, hb1⟩; have hk := hk.below hb1; have hI1 := hid (hI1.out.below hb1); have hI3 := hid (hI3.out.below hb1); have hI5 := hid (hI5.out.below hb1); have hV := hid ((hb1.block _ (cells_of hV.out).1).trans hV.out); obtain ⟨lx, cx⟩ := cells_of hk.x; obtain ⟨lv, cv⟩ := cells_of hV.out))
        go_ret
        exact ⟨rfl, hk.bel⟩
      · have hp1 : ¬ (1 : Int) < (Q.length : Int) := by omega
        clear hq1
        obtain ⟨lx, cx⟩ := cells_of hk.x
        have lg := (cells_of hG.out).1
        have hsz1 := hid (show ([0] : List Int).length + Q.length ≤ 1000 by simp <;> omega)
        have hsz2 := hid (show ([] : List Int).length + Q.length ≤ 1000 by simp <;> omega)
        have hsz3 := hid (show (Q.take (0)).length + ([2] : List Int).length ≤ 1000 by simp <;> omega)
        have hsz4 := hid (show (Q.take (0)).length + ([-1] : List Int).length ≤ 1000 by simp <;> omega)
        go_wp2_with (at_builtin; refine wpList_append_ints rfl _ _ rfl w1.heap.size _ [0] Q rfl (ownRow_one 0 (Nat.le_refl _)) ⟨gb, 0, none⟩ Q.length _ rfl rfl (block_src (alloc_old lg hG.out)) hsz1.out (size_le_alloc _ _) ?_)
        intro v1 wa hr1 hb1 g1 q1 hv1 hq1
        subst hv1
        have hbA : Below w1.heap.size w1 wa := (below_alloc (Below.refl _ _) _).trans hb1
        replace hk := hk.below hbA
        replace hG := hid ((hbA.block _ lg).trans hG.out)
        have hI1 := hid (OwnRow.ints hr1)
        clear hr1 hb1 hbA lx cx lg hq1
        have lg := (cells_of hG.out).1
        go_wp2_with (at_builtin; refine wpList_append_ints rfl _ _ rfl wa.heap.size _ [] Q rfl (ownRow_zero (Nat.le_refl _)) ⟨gb, 0, none⟩ Q.length _ rfl rfl (block_src (alloc_old lg hG.out)) hsz2.out (size_le_alloc _ _) ?_)
        intro v2 wb hr2 hb1 g2 q2 hv2 hq2
        subst hv2
        have hbB : Below wa.heap.size wa wb := (below_alloc (Below.refl _ _) _).trans hb1
        have hsB := hbB.size
        have hcap2 : (Q.length : Int) - 1 ≤ (q2 : Int) := by omega
        have hr2' := hid (OwnRow.below (ownRow_trunc hr2 (m := 0) (by omega)) (below_alloc (Below.refl _ (wb)) (.cells #[.int .i64 2] 3)))
        clear hr2 hb1
        go_wp2_with (at_builtin; refine wpList_append_ints rfl _ _ rfl wa.heap.size _ (Q.take (0)) [2] rfl hr2'.out ⟨wb.heap.size, 0, none⟩ 1 _ rfl rfl (one_src wb 2) hsz3.out (Nat.le_trans hsB (size_le_alloc _ _)) ?_)
        intro v3 wc hr3 hb1 g3 q3 hv3 hq3
        subst hv3
        have hI3 := hid (OwnRow.ints hr3)
        have hbC : Below wa.heap.size wa wc := (hbB.trans ((Below.refl _ _).alloc hsB _)).trans hb1
        clear hr3 hb1 hr2' hbB hq2 hq3
        replace hk := hk.below hbC
        replace hG := hid ((hbC.block _ lg).trans hG.out)
        replace hI1 := hid (hI1.out.below hbC)
        clear lg hbC hsB
        have lg := (cells_of hG.out).1
        go_wp2_with (at_builtin; refine wpList_append_ints rfl _ _ rfl wc.heap.size _ [] Q rfl (ownRow_zero (Nat.le_refl _)) ⟨gb, 0, none⟩ Q.length _ rfl rfl (block_src (alloc_old lg hG.out)) hsz2.out (size_le_alloc _ _) ?_)
        intro v4 wd hr4 hb1 g4 q4 hv4 hq4
        subst hv4
        have hbD : Below wc.heap.size wc wd := (below_alloc (Below.refl _ _) _).trans hb1
        have hsD := hbD.size
        have hr4' := hid (OwnRow.below (ownRow_trunc hr4 (m := 0) (by omega)) (below_alloc (Below.refl _ (wd)) (.cells #[.int .i64 (-1)] 3)))
        clear hr4 hb1
        go_wp2_with (at_builtin; refine wpList_append_ints rfl _ _ rfl wc.heap.size _ (Q.take (0)) [-1] rfl hr4'.out ⟨wd.heap.size, 0, none⟩ 1 _ rfl rfl (one_src wd (-1)) hsz4.out (Nat.le_trans hsD (size_le_alloc _ _)) ?_)
        intro v5 we hr5 hb1 g5 q5 hv5 hq5
        subst hv5
        have hI5 := hid (OwnRow.ints hr5)
        have hbE : Below wc.heap.size wc we := (hbD.trans ((Below.refl _ _).alloc hsD _)).trans hb1
        clear hr5 hb1 hr4' hbD hq4 hq5
        replace hk := hk.below hbE
        replace hI1 := hid (hI1.out.below hbE)
        replace hI3 := hid (hI3.out.below hbE)
        clear lg hbE hsD hG
        obtain ⟨lx, cx⟩ := cells_of hk.x
        have hbV : Below we.heap.size we (we.alloc (.cells #[.slice (some ⟨g1, 0, none⟩) (Q.length + 1) q1, .slice (some ⟨g3, 0, none⟩) (1) q3, .slice (some ⟨g5, 0, none⟩) (1) q5] 27)) := below_alloc (Below.refl _ _) _
        have hV := hid (show (we.alloc (.cells #[.slice (some ⟨g1, 0, none⟩) (Q.length + 1) q1, .slice (some ⟨g3, 0, none⟩) (1) q3, .slice (some ⟨g5, 0, none⟩) (1) q5] 27)).heap[we.heap.size]? = some (.cells #[.slice (some ⟨g1, 0, none⟩) (Q.length + 1) q1, .slice (some ⟨g3, 0, none⟩) (1) q3, .slice (some ⟨g5, 0, none⟩) (1) q5] 27 (0, 0)) from alloc_at rfl)
        go_wp2
        replace hk := hk.below hbV
        replace hI1 := hid (hI1.out.below hbV)
        replace hI3 := hid (hI3.out.below hbV)
        replace hI5 := hid (hI5.out.below hbV)
        have hm3 := hid (show (2 : Int) ∈ ([2] : List Int) by simp)
        have hm5 := hid (show (-1 : Int) ∈ ([-1] : List Int) by simp)
        have hl3 := hid (show (([2] : List Int)).length ≤ 1000 by simp <;> omega)
        have hl5 := hid (show (([-1] : List Int)).length ≤ 1000 by simp <;> omega)
        clear hbV lx cx
        obtain ⟨lx, cx⟩ := cells_of hk.x
        obtain ⟨lv, cv⟩ := cells_of hV.out
        refine wp_loop_rounds 4 ?_
        rw [rounds_succ]
        go_wp2_with (first | (go_at_call 15; with_reducible refine (cb0.out _ _ hI1.out).mono ?_; rintro e w1 ⟨rfl, hb1⟩; have hk := hk.below hb1; have hI1 := hid (hI1.out.below hb1); have hI3 := hid (hI3.out.below hb1); have hI5 := hid (hI5.out.below hb1); have hV := hid ((hb1.block _ (cells_of hV.out).1).trans hV.out); obtain ⟨lx, cx⟩ := cells_of hk.x; obtain ⟨lv, cv⟩ := cells_of hV.out) | (go_at_call 15; with_reducible refine (cb1.out _ hm3.out hl3.out _ _ hI3.out).mono ?_; rintro e w1 ⟨rfl, hb1⟩; have hk := hk.below hb1; have hI1 := hid (hI1.out.below hb1); have hI3 := hid (hI3.out.below hb1); have hI5 := hid (hI5.out.below hb1); have hV := hid ((hb1.block _ (cells_of hV.out).1).trans hV.out); obtain ⟨lx, cx⟩ := cells_of hk.x; obtain ⟨lv, cv⟩ := cells_of hV.out) | (go_at_call 15; with_reducible refine (cb2.out _ hm5.out hl5.out _ _ hI5.out).mono ?_; rintro e w1 ⟨rfl, hb1⟩; have hk := hk.below hb1; have hI1 := hid (hI1.out.below hb1); have hI3 := hid (hI3.out.below hb1); have hI5 := hid (hI5.out.below hb1); have hV := hid ((hb1.block _ (cells_of hV.out).1).trans hV.out); obtain ⟨lx, cx⟩ := cells_of hk.x; obtain ⟨lv, cv⟩ := cells_of hV.out) | (go_at_call 14; with_reducible refine (c14.out _).mono ?_; rintro e w1 ⟨rfl, hb1⟩; have hk := hk.below hb1; have hI1 := hid (hI1.out.below hb1); have hI3 := hid (hI3.out.below hb1); have hI5 := hid (hI5.out.below hb1); have hV := hid ((hb1.block _ (cells_of hV.out).1).trans hV.out); obtain ⟨lx, cx⟩ := cells_of hk.x; obtain ⟨lv, cv⟩ := cells_of hV.out))
        rw [rounds_succ]
        go_wp2_with (first | (go_at_call 15; with_reducible refine (cb0.out _ _ hI1.out).mono ?_; rintro e w1 ⟨rfl, hb1⟩; have hk := hk.below hb1; have hI1 := hid (hI1.out.below hb1); have hI3 := hid (hI3.out.below hb1); have hI5 := hid (hI5.out.below hb1); have hV := hid ((hb1.block _ (cells_of hV.out).1).trans hV.out); obtain ⟨lx, cx⟩ := cells_of hk.x; obtain ⟨lv, cv⟩ := cells_of hV.out) | (go_at_call 15; with_reducible refine (cb1.out _ hm3.out hl3.out _ _ hI3.out).mono ?_; rintro e w1 ⟨rfl, hb1⟩; have hk := hk.below hb1; have hI1 := hid (hI1.out.below hb1); have hI3 := hid (hI3.out.below hb1); have hI5 := hid (hI5.out.below hb1); have hV := hid ((hb1.block _ (cells_of hV.out).1).trans hV.out); obtain ⟨lx, cx⟩ := cells_of hk.x; obtain ⟨lv, cv⟩ := cells_of hV.out) | (go_at_call 15; with_reducible refine (cb2.out _ hm5.out hl5.out _ _ hI5.out).mono ?_; rintro e w1 ⟨rfl, hb1⟩; have hk := hk.below hb1; have hI1 := hid (hI1.out.below hb1); have hI3 := hid (hI3.out.below hb1); have hI5 := hid (hI5.out.below hb1); have hV := hid ((hb1.block _ (cells_of hV.out).1).trans hV.out); obtain ⟨lx, cx⟩ := cells_of hk.x; obtain ⟨lv, cv⟩ := cells_of hV.out) | (go_at_call 14; with_reducible refine (c14.out _).mono ?_; rintro e w1 ⟨rfl, hb1⟩; have hk := hk.below hb1; have hI1 := hid (hI1.out.below hb1); have hI3 := hid (hI3.out.below hb1); have hI5 := hid (hI5.out.below hb1); have hV := hid ((hb1.block _ (cells_of hV.out).1).trans hV.out); obtain ⟨lx, cx⟩ := cells_of hk.x; obtain ⟨lv, cv⟩ := cells_of hV.out))
        rw [rounds_succ]
        go_wp2_with (first | (go_at_call 15; with_reducible refine (cb0.out _ _ hI1.out).mono ?_; rintro e w1 ⟨rfl, hb1⟩; have hk := hk.below hb1; have hI1 := hid (hI1.out.below hb1); have hI3 := hid (hI3.out.below hb1); have hI5 := hid (hI5.out.below hb1); have hV := hid ((hb1.block _ (cells_of hV.out).1).trans hV.out); obtain ⟨lx, cx⟩ := cells_of hk.x; obtain ⟨lv, cv⟩ := cells_of hV.out) | (go_at_call 15; with_reducible refine (cb1.out _ hm3.out hl3.out _ _ hI3.out).mono ?_; rintro e w1 ⟨rfl, hb1⟩; have hk := hk.below hb1; have hI1 := hid (hI1.out.below hb1); have hI3 := hid (hI3.out.below hb1); have hI5 := hid (hI5.out.below hb1); have hV := hid ((hb1.block _ (cells_of hV.out).1).trans hV.out); obtain ⟨lx, cx⟩ := cells_of hk.x; obtain ⟨lv, cv⟩ := cells_of hV.out) | (go_at_call 15; with_reducible refine (cb2.out _ hm5.out hl5.out _ _ hI5.out).mono ?_; rintro e w1 ⟨rfl, hb1⟩; have hk := hk.below hb1; have hI1 := hid (hI1.out.below hb1); have hI3 := hid (hI3.out.below hb1); have hI5 := hid (hI5.out.below hb1); have hV := hid ((hb1.block _ (cells_of hV.out).1).trans hV.out); obtain ⟨lx, cx⟩ := cells_of hk.x; obtain ⟨lv, cv⟩ := cells_of hV.out) | (go_at_call 14; with_reducible refine (c14.out _).mono ?_; rintro e w1 ⟨rfl, hb1⟩; have hk := hk.below hb1; have hI1 := hid (hI1.out.below hb1); have hI3 := hid (hI3.out.below hb1); have hI5 := hid (hI5.out.below hb1); have hV := hid ((hb1.block _ (cells_of hV.out).1).trans hV.out); obtain ⟨lx, cx⟩ := cells_of hk.x; obtain ⟨lv, cv⟩ := cells_of hV.out))
        rw [rounds_succ]
        go_wp2_with (first | (go_at_call 15; with_reducible refine (cb0.out _ _ hI1.out).mono ?_; rintro e w1 ⟨rfl, hb1⟩; have hk := hk.below hb1; have hI1 := hid (hI1.out.below hb1); have hI3 := hid (hI3.out.below hb1); have hI5 := hid (hI5.out.below hb1); have hV := hid ((hb1.block _ (cells_of hV.out).1).trans hV.out); obtain ⟨lx, cx⟩ := cells_of hk.x; obtain ⟨lv, cv⟩ := cells_of hV.out) | (go_at_call 15; with_reducible refine (cb1.out _ hm3.out hl3.out _ _ hI3.out).mono ?_; rintro e w1 ⟨rfl, hb1⟩; have hk := hk.below hb1; have hI1 := hid (hI1.out.below hb1); have hI3 := hid (hI3.out.below hb1); have hI5 := hid (hI5.out.below hb1); have hV := hid ((hb1.block _ (cells_of hV.out).1).trans hV.out); obtain ⟨lx, cx⟩ := cells_of hk.x; obtain ⟨lv, cv⟩ := cells_of hV.out) | (go_at_call 15; with_reducible refine (cb2.out _ hm5.out hl5.out _ _ hI5.out).mono ?_; rintro e w1 ⟨rfl, hb1⟩; have hk := hk.below hb1; have hI1 := hid (hI1.out.below hb1); have hI3 := hid (hI3.out.below hb1); have hI5 := hid (hI5.out.below hb1); have hV := hid ((hb1.block _ (cells_of hV.out).1).trans hV.out); obtain ⟨lx, cx⟩ := cells_of hk.x; obtain ⟨lv, cv⟩ := cells_of hV.out) | (go_at_call 14; with_reducible refine (c14.out _).mono ?_; rintro e w1 ⟨rfl, hb1⟩; have hk := hk.below hb1; have hI1 := hid (hI1.out.below hb1); have hI3 := hid (hI3.out.below hb1); have hI5 := hid (hI5.out.below hb1); have hV := hid ((hb1.block _ (cells_of hV.out).1).trans hV.out); obtain ⟨lx, cx⟩ := cells_of hk.x; obtain ⟨lv, cv⟩ := cells_of hV.out))
        go_ret
        exact ⟨rfl, hk.bel⟩

theorem restChecks_any (R : Rest) (z : Int) (hz0 : 0 ≤ z) (_hz1 : z ≤ 65535) (w : World) : Calls Try.prog 6 #[restV R, .int .u16 z] w fun e w' => e = .returned (.bool true) ∧ Below w.heap.size w w' := by
  cases hv : R.valid
  · exact restChecks_bad R z hv w
  · have hh := Rest.valid_hours hv
    have hl : ((bitsL R.hours.toNat z).length : Int) = R.hours := by rw [bitsL_length]; omega
    rcases check_told hv bitsL_mem hl with ⟨h1, h2⟩ | ⟨j, n, hj, h1, h2, h3, h4, h5⟩
    · exact restChecks_none R z hz0 hv _ rfl h1 h2 w
    · exact restChecks_some R z hz0 hv _ rfl j n hj h1 h2 h3 h4 h5 w

end Go.Proofs.Ytkgdejhooghknaa
