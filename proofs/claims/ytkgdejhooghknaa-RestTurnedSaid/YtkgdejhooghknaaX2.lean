/- The walk of 'RestTurned', where there is no right plan. -/
import Derived.Test.YtkgdejhooghknaaX0
import Derived.Deep.CutRange
import Derived.Deep.DeepCutAuto
namespace Go.Proofs.Ytkgdejhooghknaa
open Go.RowKit Go.Lap Go.Shelf

set_option maxRecDepth 100000 in
set_option maxHeartbeats 8000000 in
theorem restTurned_none (R : Rest) (z t : Int) (hz0 : 0 ≤ z) (ht0 : 0 ≤ t) (ht1 : t ≤ 255) (hv : R.valid = true) (a i n0 n1 s u : Int) (q q2 : List Int) (e2 e3 e4 : Int)
    (ha : countR R = (a, 0)) (ha2 : countR R.swap = (a, 0)) (hc : planR R changesG = (0, [], 4)) (hc2 : planR R.swap changesG = (0, [], 4)) (hi : planR R evenG = (i, q, e2)) (hi2 : planR R.swap evenG = (i, q2, e2))
    (hn : hoursR R 0 = ((n0, n1), e3)) (hn2 : hoursR R.swap 1 = ((n0, n1), e3)) (hs : mustR R = (s, u, e4)) (hs2 : mustR R.swap = (u, s, e4))
    (Q : List Int) (hQ : bitsL R.hours.toNat z = Q) (k1 k2 k3 : Int) (hk1 : checkOf R Q = (k1, k2, k3)) (hk2 : checkOf R.swap (Q.map (1 - ·)) = (k1, k2, k3)) (hr : k3 = 4 → rightB (firstR R (t % (R.hours + 1))) (Q.take (t % (R.hours + 1)).toNat) = true) (w : World) :
    Calls Try.prog 12 #[restV R, .int .u16 z, .int .u8 t] w fun e w' => e = .returned (.bool true) ∧ Below w.heap.size w w' := by
  have hh := Rest.valid_hours hv
  have ho := Rest.valid_ok hv
  have c32 := hid (fun w => valid_as hv w)
  have c17 := hid (fun w => count_as ha w)
  have c17x := hid (fun w => (show Calls Try.prog 17 #[.agg #[.int .i64 R.hours, .int .i64 R.r1.out, .int .i64 R.r1.total, .int .i64 R.r1.run, .int .i64 R.r1.off, .int .i64 R.r0.out, .int .i64 R.r0.total, .int .i64 R.r0.run, .int .i64 R.r0.off]] w _ from count_as ha2 w))
  have c21 := hid (fun w => fewest_nil hc (by decide) w)
  have c21b := hid (fun w => fewest_nil hc (by decide) w)
  have c25 := hid (fun (v1 v2 : Value) w h1 h2 => aw_ints w [] (by simp) v1 v2 h1 h2)
  have c33 := hid (fun w => by_own hQ hh.1 hh.2 hz0 w)
  have c15 := hid (fun v w h => check_as (v := v) hk1 (by rw [← hQ, bitsL_length]; omega) w h)
  have c15x := hid (fun v w h => (show Calls Try.prog 15 #[.agg #[.int .i64 R.hours, .int .i64 R.r1.out, .int .i64 R.r1.total, .int .i64 R.r1.run, .int .i64 R.r1.off, .int .i64 R.r0.out, .int .i64 R.r0.total, .int .i64 R.r0.run, .int .i64 R.r0.off], v] w _ from check_as (R := R.swap) (v := v) hk2 (by rw [List.length_map, ← hQ, bitsL_length]; omega) w h))
  have c21x := hid (fun w => (show Calls Try.prog 21 #[.agg #[.int .i64 R.hours, .int .i64 R.r1.out, .int .i64 R.r1.total, .int .i64 R.r1.run, .int .i64 R.r1.off, .int .i64 R.r0.out, .int .i64 R.r0.total, .int .i64 R.r0.run, .int .i64 R.r0.off]] w _ from fewest_nil hc2 (by decide) w))
  have c23 := hid (fun w => even_as hi w)
  have c23x := hid (fun w => (show Calls Try.prog 23 #[.agg #[.int .i64 R.hours, .int .i64 R.r1.out, .int .i64 R.r1.total, .int .i64 R.r1.run, .int .i64 R.r1.off, .int .i64 R.r0.out, .int .i64 R.r0.total, .int .i64 R.r0.run, .int .i64 R.r0.off]] w _ from even_as hi2 w))
  have c26 := hid (fun w => hours_as hn w)
  have c26x := hid (fun w => (show Calls Try.prog 26 #[.agg #[.int .i64 R.hours, .int .i64 R.r1.out, .int .i64 R.r1.total, .int .i64 R.r1.run, .int .i64 R.r1.off, .int .i64 R.r0.out, .int .i64 R.r0.total, .int .i64 R.r0.run, .int .i64 R.r0.off], .int .i64 1] w _ from hours_as hn2 w))
  have c28 := hid (fun w => must_as hs w)
  have c28x := hid (fun w => (show Calls Try.prog 28 #[.agg #[.int .i64 R.hours, .int .i64 R.r1.out, .int .i64 R.r1.total, .int .i64 R.r1.run, .int .i64 R.r1.off, .int .i64 R.r0.out, .int .i64 R.r0.total, .int .i64 R.r0.run, .int .i64 R.r0.off]] w _ from must_as hs2 w))
  have c14 := hid awake_any
  have hQ' := hid hQ
  have hk1' := hid hk1
  have hk2' := hid hk2
  have hr' := hid hr
  have hv' := hid hv
  clear hv ha ha2 hc hc2 hi hi2 hn hn2 hs hs2 hQ hk1 hk2 hr
  have hk := KeepR.start w R
  go_enter Try.func12, Try.ntmps12
  go_upto_region 4 with (first | (go_at_call 32; with_reducible refine (c32.out _).mono ?_; rintro e wv ⟨rfl, hb1⟩; have hk := hk.below hb1; obtain ⟨lx, cx⟩ := cells_of hk.x))
  have hlt := (cells_of hk.x).1
  have hsp := eq_span_true n0 n1
  have hsp2 := neq_span_false n0 n1
  go_region
  go_upto_region 17 with (first | (go_at_call 17; with_reducible refine (c17.out _).mono ?_; rintro e w1 ⟨rfl, hb1⟩; have hk := hk.pair (X := ⟨R.hours, R.r1, R.r0⟩) hb1; obtain ⟨lx, cx⟩ := cells_of hk.x; obtain ⟨ly, cy⟩ := cells_of hk.y) | (go_at_call 17; with_reducible refine (c17x.out _).mono ?_; rintro e w1 ⟨rfl, hb1⟩; have hk := hk.below hb1; obtain ⟨lx, cx⟩ := cells_of hk.x; obtain ⟨ly, cy⟩ := cells_of hk.y) | (go_at_call 21; with_reducible refine (c21.out _).mono ?_; rintro e w1 ⟨rfl, hb1⟩; have hk := hk.below hb1; obtain ⟨lx, cx⟩ := cells_of hk.x; obtain ⟨ly, cy⟩ := cells_of hk.y) | (go_at_call 21; with_reducible refine (c21x.out _).mono ?_; rintro e w1 ⟨rfl, hb1⟩; have hk := hk.below hb1; obtain ⟨lx, cx⟩ := cells_of hk.x; obtain ⟨ly, cy⟩ := cells_of hk.y) | (go_at_call 23; with_reducible refine (c23.out _).mono ?_; rintro e w1 ⟨sa, sc, rfl, hn, hb1⟩; clear hn; have hk := hk.below hb1; obtain ⟨lx, cx⟩ := cells_of hk.x; obtain ⟨ly, cy⟩ := cells_of hk.y) | (go_at_call 23; with_reducible refine (c23x.out _).mono ?_; rintro e w1 ⟨sa, sc, rfl, hn, hb1⟩; clear hn; have hk := hk.below hb1; obtain ⟨lx, cx⟩ := cells_of hk.x; obtain ⟨ly, cy⟩ := cells_of hk.y) | (go_at_call 26; with_reducible refine (c26.out _).mono ?_; rintro e w1 ⟨rfl, hb1⟩; have hk := hk.below hb1; obtain ⟨lx, cx⟩ := cells_of hk.x; obtain ⟨ly, cy⟩ := cells_of hk.y) | (go_at_call 26; with_reducible refine (c26x.out _).mono ?_; rintro e w1 ⟨rfl, hb1⟩; have hA := hid (alloc_keep hb1).1; have hb1 := (alloc_keep hb1).2; have hk := hk.below hb1; obtain ⟨lx, cx⟩ := cells_of hk.x; obtain ⟨ly, cy⟩ := cells_of hk.y) | (go_at_call 28; with_reducible refine (c28.out _).mono ?_; rintro e w1 ⟨rfl, hb1⟩; have hB := hid (alloc_keep hb1).1; have hb1 := (alloc_keep hb1).2; have hA := hid ((hb1.block _ (cells_of hA.out).1).trans hA.out); have hk := hk.below hb1; obtain ⟨lx, cx⟩ := cells_of hk.x; obtain ⟨ly, cy⟩ := cells_of hk.y) | (go_at_call 28; with_reducible refine (c28x.out _).mono ?_; rintro e ww ⟨rfl, hb1⟩; have hA := hid ((hb1.block _ (cells_of hA.out).1).trans hA.out); have hB := hid ((hb1.block _ (cells_of hB.out).1).trans hB.out); have hk := hk.below hb1; obtain ⟨lx, cx⟩ := cells_of hk.x; obtain ⟨ly, cy⟩ := cells_of hk.y; obtain ⟨la, ca⟩ := cells_of hA.out; obtain ⟨lb2, cb⟩ := cells_of hB.out))
  clear ca cb la lb2 hA hB
  obtain ⟨i0, hi3, hz0, hz1, hz2⟩ := info_parts info3
  go_wp2_with (at_builtin; refine wpList_append_own_none rfl _ _ 27 rfl ww.heap.size 3 i0 1 Try.underlying27 hi3 _ 0 [] rfl (World.ownsRow_made ww #[] 0 (Nat.le_refl _) (by decide) rfl) rfl ?_)
  have hbo : Below ww.heap.size ww (ww.alloc (.cells #[] 3)) := below_alloc (Below.refl _ _) _
  replace hk := hk.below hbo
  have hown := hid (show IntsAt (ww.alloc (.cells #[] 3)) (.slice (some ⟨ww.heap.size, 0, none⟩) 0 0) [] from ⟨_, _, rfl, fun h => (h rfl).elim⟩)
  clear hbo lx cx ly cy
  obtain ⟨lx, cx⟩ := cells_of hk.x
  obtain ⟨ly, cy⟩ := cells_of hk.y
  go_wp2
  refine wp_loop_rounds 1 ?_
  rw [rounds_succ]
  have hQ2 := hQ'.out
  have hQl : Q.length = R.hours.toNat := by rw [← hQ2, bitsL_length]
  have hQ01 : ∀ x, x ∈ Q → x = 0 ∨ x = 1 := by rw [← hQ2]; exact bitsL_mem
  have hQ01' := hid hQ01
  have hQl' := hid hQl
  have hQ16 : Q.length ≤ 16 := by omega
  clear hQ2 hQl hQ01
  go_wp2_with (first | (go_at_call 21; with_reducible refine (c21b.out _).mono ?_; rintro e w1 ⟨rfl, hb1⟩; have hk := hk.below hb1; obtain ⟨lx, cx⟩ := cells_of hk.x; obtain ⟨ly, cy⟩ := cells_of hk.y; have hown := hid (IntsAt.below hown.out hb1); have hm := nil_ints w1) | (go_at_call 25; with_reducible refine (c25.out _ _ _ hm hown.out).mono ?_; rintro e w1 ⟨rfl, hb1⟩; have hk := hk.below hb1; obtain ⟨lx, cx⟩ := cells_of hk.x; obtain ⟨ly, cy⟩ := cells_of hk.y) | (go_at_call 33; with_reducible refine (c33.out _).mono ?_; rintro e wq ⟨gb, rfl, hgb, hG0, hb1⟩; have hk := hk.below hb1; have hG := hid hG0; clear hG0; obtain ⟨lx, cx⟩ := cells_of hk.x; obtain ⟨ly, cy⟩ := cells_of hk.y))
  obtain ⟨lg, cg⟩ := cells_of hG.out
  clear lg cg
  go_loopw [40, 207] (fun v x wr => ∃ k : Nat, k ≤ Q.length ∧ x = .int .i64 k ∧ OwnRow wq.heap.size wr v ((Q.take k).map (1 - ·)) ∧ Below wq.heap.size wq wr) (fun _ x _ => Q.length - (intOf x).toNat)
  case atStart => exact ⟨0, by omega, rfl, World.ownsRow_nil _ _ _ _, Below.refl _ _⟩
  case round =>
    obtain ⟨k, hkk, rfl, hown2, hbr⟩ := hrel
    have hkr := hid (hk.below hbr)
    have hGr := hid ((hbr.block _ (cells_of hG.out).1).trans hG.out)
    by_cases hlt : k < Q.length
    · have hcell := (cells_of hGr.out).2 k
      have hxy := getD_two hQ01'.out hlt
      have htk := hid (take_one hlt)
      have hce : (intsV Q)[k]? = some (.int .i64 (Q.getD k 0)) := by simp [intsV, hlt]
      rw [hce] at hcell
      generalize Q.getD k 0 = x at hcell hxy htk hce
      have hx0 : 0 ≤ x := by omega
      have hx1 : x ≤ 1 := by omega
      have hszq := hbr.size
      have hlen : ((Q.take k).map (1 - ·)).length = k := by simp; omega
      have hlk : k + 1 ≤ 16 := by omega
      have hown3 := OwnRow.len hown2 hlen
      have hlen' := hid hlen
      have hbr' := hid hbr
      clear hce hxy hown2 hlen hbr
      go_wp2_with (at_builtin; refine wpList_append_own _ rfl _ _ 27 rfl wq.heap.size 3 i0 (.int .i64 0) 1 8 Try.underlying27 hi3 hz0 hz1 hz2 rfl (by decide) _ _ _ rfl (hown3.alloc _) ⟨wr.heap.size, 0, none⟩ 1 1 [.int .i64 (1 - x)] rfl rfl ?d1 ?d2 ?d3 ?d4 ?d5 ?_)
      case d1 =>
        intro j u hj
        match j, hj with
        | 0, hj => simp at hj; subst hj; simp [Addr.add]
      case d2 => intro u hu; simp at hu; subst hu; rfl
      case d3 => unfold maxLen; omega
      case d4 => omega
      case d5 => simp; omega
      intro v' w3 hown4 hgrow _
      have hown5 : OwnRow wq.heap.size w3 v' ((Q.take (k + 1)).map (1 - ·)) := by
        have e1 : ((Q.take (k + 1)).map (1 - ·)).length = k + 1 := by simp; omega
        have e2 : ((Q.take (k + 1)).map (1 - ·)).map (Value.int .i64) = ((Q.take k).map (1 - ·)).map (Value.int .i64) ++ [.int .i64 (1 - x)] := by rw [htk.out]; simp
        show w3.ownsRow wq.heap.size 3 1 v' _ _
        rw [e1, e2]
        simpa using hown4
      have hb5 := hbr'.out.trans (grown_row hown3 hgrow hszq)
      have hown5 := hid hown5
      clear hown4 hgrow hown3
      go_wp2
      go_roundw
      case rel => exact ⟨k + 1, by omega, by go_num, hown5.out, hb5⟩
      case measure => simp [intOf]; omega
    · obtain rfl : k = Q.length := by omega
      have hoth0 := OwnRow.ints hown2
      rw [List.take_length] at hoth0
      have hoth := hid hoth0
      clear hoth0
      have hk := hkr.out
      have hpl := hid (show IntsAt wr (.slice (some ⟨gb, 0, none⟩) Q.length Q.length) Q by
        have := block_ints hGr.out (Nat.le_refl _) Q.length
        rwa [List.take_length] at this)
      obtain ⟨lx, cx⟩ := cells_of hk.x
      obtain ⟨ly, cy⟩ := cells_of hk.y
      have hG := hGr
      clear hown2
      have hm0 := Int.emod_nonneg t (show R.hours + 1 ≠ 0 by omega)
      have hm1 := Int.emod_lt_of_pos t (show 0 < R.hours + 1 by omega)
      have hm16 : t % (R.hours + 1) ≤ 16 := by omega
      have hmQ : t % (R.hours + 1) ≤ Q.length := by have := hQl'.out; omega
      have hmN : (t % (R.hours + 1)).toNat ≤ Q.length := by omega
      go_upto_region 38 with (first | (go_at_call 15; with_reducible refine (c15.out _ _ hpl.out).mono ?_; rintro e w1 ⟨rfl, hb1⟩; have hoth := hid (hoth.out.below hb1); have hpl := hid (hpl.out.below hb1); have hG := hid ((hb1.block _ (cells_of hG.out).1).trans hG.out); have hk := hk.below hb1; obtain ⟨lx, cx⟩ := cells_of hk.x; obtain ⟨ly, cy⟩ := cells_of hk.y) | (go_at_call 15; with_reducible refine (c15x.out _ _ hoth.out).mono ?_; rintro e wz ⟨rfl, hb1⟩; have hpl := hid (hpl.out.below hb1); have hG := hid ((hb1.block _ (cells_of hG.out).1).trans hG.out); have hk := hk.below hb1; obtain ⟨lx, cx⟩ := cells_of hk.x; obtain ⟨ly, cy⟩ := cells_of hk.y))
      go_wp2_with fail
      by_cases hk4 : k3 = 4
      · have hk5 : (k3 != 4) = false := by simpa using hk4
        have hrt := hid (hr'.out hk4)
        have hqt := hid (block_ints hG.out hmN Q.length)
        have hqn : (Q.take (t % (R.hours + 1)).toNat).length ≤ 1000 := by simp; omega
        clear hk4 hoth hpl hG
        refine wp_region_later (by kernel_rfl) (by kernel_rfl) ?_
        intro hx
        repeat (any_goals (first | go_big_quiet_step ((first | (go_at_call 41; exact Calls.later_as rfl (first_as hv'.out hm0 hm16 _)) | (go_at_call 35; exact Calls.later_as rfl (right_as hrt.out hqn _ (IntsAt.below hqt.out (Later.below _)))) | (go_at_call 14; exact Calls.later_as rfl (c14.out _))))))
        refine wpQuiet_nil ?_
        rintro _ ⟨⟨w2, hb2⟩, rfl⟩
        clear hx
        go_wp2
        go_ret
        exact ⟨rfl, below_via hb2 hk.bel⟩
      · have hk5 : (k3 != 4) = true := by simpa using hk4
        have hk6 : (k3 == 4) = false := by simpa using hk4
        clear hk4 hoth hpl hG
        refine wp_region_later (by kernel_rfl) (by kernel_rfl) ?_
        intro hx
        repeat (any_goals (first | go_big_quiet_step ((go_at_call 14; exact Calls.later_as rfl (c14.out _)))))
        refine wpQuiet_nil ?_
        rintro _ ⟨⟨w2, hb2⟩, rfl⟩
        clear hx
        go_wp2
        go_ret
        exact ⟨rfl, below_via hb2 hk.bel⟩

end Go.Proofs.Ytkgdejhooghknaa
