/- The reference's first, walked. The reference's narrowed, walked. The reference's times and Can, walked. The reference's open and with, walked. -/
import Derived.Test.YtccgakdaiaigoaaGR
import Derived.Test.YtccgakdaiaigoaaBG
import Derived.Test.YtccgakdaiaigoaaGP
import Derived.Test.YtccgakdaiaigoaaGK
import Derived.Deep.LoopGhost
import Derived.Test.YtccgakdaiaigoaaGC
namespace Go.Proofs.Ytccgakdaiaigoaa
open Go.RowKit Go.Lap Go.Shelf

structure Two (wo wx : World) (m1 m2 : Int × Int) : Prop where
  bel : Below wo.heap.size wo wx
  h7 : wx.heap[wo.heap.size]? = some (.cells #[.int .i64 m1.1, .int .i64 m1.2] 28 (0, 0))
  h8 : wx.heap[wo.heap.size + 1]? = some (.cells #[.int .i64 m2.1, .int .i64 m2.2] 28 (0, 0))
theorem Two.below {wo wx wy : World} {m1 m2 : Int × Int} (h : Two wo wx m1 m2) (hb : Below wx.heap.size wx wy) : Two wo wy m1 m2 :=
  ⟨below_via hb h.bel, (hb.block _ (cells_of h.h7).1).trans h.h7, (hb.block _ (cells_of h.h8).1).trans h.h8⟩
theorem Two.set7 {wo wx : World} {m1 m2 : Int × Int} (h : Two wo wx m1 m2) (x y : Int) : Two wo ((wx.setCell ⟨wo.heap.size, 0, none⟩ (.int .i64 x)).setCell ⟨wo.heap.size, 1, none⟩ (.int .i64 y)) (x, y) m2 := by
  obtain ⟨a, b, c⟩ := box_set (x := .int .i64 x) (y := .int .i64 y) h.bel h.h7 h.h8 (by omega) (Nat.le_refl _)
  exact ⟨a, b, c⟩
theorem Two.set8 {wo wx : World} {m1 m2 : Int × Int} (h : Two wo wx m1 m2) (x y : Int) : Two wo ((wx.setCell ⟨wo.heap.size + 1, 0, none⟩ (.int .i64 x)).setCell ⟨wo.heap.size + 1, 1, none⟩ (.int .i64 y)) m1 (x, y) := by
  obtain ⟨a, b, c⟩ := box_set (x := .int .i64 x) (y := .int .i64 y) h.bel h.h8 h.h7 (by omega) (by omega)
  exact ⟨a, c, b⟩
theorem Two.start (wo : World) : Two wo ((wo.alloc (.cells #[.int .i64 0, .int .i64 600] 28)).alloc (.cells #[.int .i64 0, .int .i64 600] 28)) (0, 600) (0, 600) :=
  ⟨below_alloc (below_alloc (Below.refl _ _) _) _, alloc_old (by simp) (alloc_at rfl), alloc_at (by simp)⟩
theorem said_cells (s : Stint) {j : Nat} (h : j < 2) : s.cells.getD (1 + j * 2) 0 = (s.said j).1 ∧ s.cells.getD (1 + j * 2 + 1) 0 = (s.said j).2 ∧ s.cells.getD (5 + j * 2) 0 = (s.said (2 + j)).1 ∧ s.cells.getD (5 + j * 2 + 1) 0 = (s.said (2 + j)).2 := by
  rcases j with _ | _ | j
  · exact ⟨rfl, rfl, rfl, rfl⟩
  · exact ⟨rfl, rfl, rfl, rfl⟩
  · omega

set_option maxRecDepth 100000 in
set_option maxHeartbeats 4000000 in
theorem rfirst_any (r : Rel) (hn : r.n ≤ 5) (set : Nat) (hset : set ≤ 1048575) (sv : Value) (w : World) (hS : StintsAt w sv r.stints) :
    Calls Try.prog 76 #[relV r sv, .int .i64 set] w fun e w' => ∃ v, e = .returned v ∧ boxK.own w.heap.size w' v (r.first set) ∧ Below w.heap.size w w' := by
  obtain ⟨sa, scap, rfl, hs0⟩ := id hS
  clear hs0
  have hS' := hid hS
  clear hS
  have hn' := hid hn
  have h5i : (r.stints.length : Int) ≤ 5 := by have : r.stints.length ≤ 5 := hn; omega
  clear hn
  obtain ⟨si, hsi⟩ : ∃ si : Int, si = (set : Int) := ⟨_, rfl⟩
  have hhas := hid (fun (n : Nat) (z : Int) (hz : z = n) (hn : n ≤ 62) (b : Bool) (hb : set.testBit n = b) (w : World) => (show Calls Try.prog 86 #[.int .i64 si, .int .i64 z] w fun e w' => e = .returned (.bool b) ∧ w' = w by rw [hsi, hz]; exact has_as hb hset hn w))
  rw [← hsi]
  clear hsi hset
  go_enter Try.func76, Try.ntmps76
  go_wp2
  have hx := alloc_at (w := w) (o := .cells #[.int .i64 r.rest, .slice sa r.stints.length scap] 24) rfl
  have hb0 := hid (below_alloc (Below.refl _ w) (.cells #[.int .i64 r.rest, .slice sa r.stints.length scap] 24))
  have hz0 := hid (show w.heap.size ≤ (w.alloc (.cells #[.int .i64 r.rest, .slice sa r.stints.length scap] 24)).heap.size by simp)
  generalize w.alloc (.cells #[.int .i64 r.rest, .slice sa r.stints.length scap] 24) = w0 at hx hb0 hz0 ⊢
  replace hx := hid hx
  have hcl := hid (fun (W : World) (hW : Below w0.heap.size w0 W) => cells_of ((hW.block _ (cells_of hx.out).1).trans hx.out))
  go_loopw [5, 6, 7, 8, 9] (fun v i _ _ _ wr => ∃ k : Nat, k ≤ r.stints.length ∧ i = .int .i64 k ∧ Hid (boxK.own w0.heap.size wr v (r.firstTo set k)) ∧ Hid (Below w0.heap.size w0 wr)) (fun _ i _ _ _ _ => r.stints.length - (intOf i).toNat)
  case atStart => exact ⟨0, by omega, rfl, hid (boxK.own_nil _ _), hid (Below.refl _ _)⟩
  case round =>
    obtain ⟨k, hk, rfl, hrow, hbr⟩ := hrel
    obtain ⟨lx, cx⟩ := hcl.out _ hbr.out
    by_cases hlt : k < r.stints.length
    · have hki : (k : Int) < (r.stints.length : Int) := by omega
      obtain ⟨wo, hwo⟩ : ∃ x, x = wr := ⟨_, rfl⟩
      subst hwo
      obtain ⟨b1, o1, rfl, lb1, hq⟩ := (hS'.out.below (below_via hbr.out hb0.out)).at hlt
      replace hq := hid hq
      replace lb1 := hid lb1
      go_wp2
      clear lx cx
      have hT0 := hid (Two.start wo)
      generalize (wo.alloc (.cells #[.int .i64 0, .int .i64 600] 28)).alloc (.cells #[.int .i64 0, .int .i64 600] 28) = wi at hT0 ⊢
      go_loopw [9] (fun jv wx => ∃ j : Nat, j ≤ 2 ∧ jv = .int .i64 j ∧ Hid (Two wo wx (r.meetUp set (4 * k) j) (r.meetUp set (4 * k + 2) j))) (fun jv _ => 2 - (intOf jv).toNat)
      case atStart => exact ⟨0, by omega, rfl, hT0⟩
      case round =>
        obtain ⟨j, hj, rfl, hT⟩ := hrel
        clear hT0
        by_cases hj2 : j < 2
        · have hj2i : (j : Int) < 2 := by omega
          have hB := hid (below_via hT.out.bel hbr.out)
          obtain ⟨lx, cx⟩ := hcl.out _ hB.out
          have hon := hid (show r.entry (4 * k + j) = (r.st k).said j by rw [Rel.entry, show (4 * k + j) / 4 = k by omega, show (4 * k + j) % 4 = j by omega])
          have hoff := hid (show r.entry (4 * k + 2 + j) = (r.st k).said (2 + j) by rw [Rel.entry, show (4 * k + 2 + j) / 4 = k by omega, show (4 * k + 2 + j) % 4 = 2 + j by omega])
          obtain ⟨s1, s2, s3, s4⟩ := said_cells (r.st k) hj2
          have hU1 := hid (show r.meetUp set (4 * k) (j + 1) = if set.testBit (4 * k + j) then meetS (r.meetUp set (4 * k) j) (r.entry (4 * k + j)) else r.meetUp set (4 * k) j from rfl)
          have hU2 := hid (show r.meetUp set (4 * k + 2) (j + 1) = if set.testBit (4 * k + 2 + j) then meetS (r.meetUp set (4 * k + 2) j) (r.entry (4 * k + 2 + j)) else r.meetUp set (4 * k + 2) j from rfl)
          have hqo1 := hq.out (1 + j * 2) (by omega)
          have hqo2 := hq.out (1 + j * 2 + 1) (by omega)
          have hqo3 := hq.out (5 + j * 2) (by omega)
          have hqo4 := hq.out (5 + j * 2 + 1) (by omega)
          have lb2 := Nat.lt_of_lt_of_le lb1.out hT.out.bel.size
          rw [show r.stints.getD k Stint.none = r.st k from rfl] at hqo1 hqo2 hqo3 hqo4
          rw [s1] at hqo1
          rw [s2] at hqo2
          rw [s3] at hqo3
          rw [s4] at hqo4
          rw [hon.out] at hU1
          rw [hoff.out] at hU2
          clear s1 s2 s3 s4 hon hoff
          generalize (r.st k).said j = x1 at hqo1 hqo2 hU1
          generalize (r.st k).said (2 + j) = x2 at hqo3 hqo4 hU2
          generalize r.meetUp set (4 * k) j = m1 at hT hU1
          generalize r.meetUp set (4 * k + 2) j = m2 at hT hU2
          obtain ⟨a1, a2⟩ := x1
          obtain ⟨a3, a4⟩ := x2
          obtain ⟨p1, p2⟩ := m1
          obtain ⟨p3, p4⟩ := m2
          simp only [← Nat.add_assoc] at hqo1 hqo2 hqo3 hqo4
          have hq1 := (hT.out.bel.cell (p := ⟨b1, _, none⟩) lb1.out).trans hqo1
          have hq2 := (hT.out.bel.cell (p := ⟨b1, _, none⟩) lb1.out).trans hqo2
          have hq3 := (hT.out.bel.cell (p := ⟨b1, _, none⟩) lb1.out).trans hqo3
          have hq4 := (hT.out.bel.cell (p := ⟨b1, _, none⟩) lb1.out).trans hqo4
          replace hqo3 := hid hqo3
          replace hqo4 := hid hqo4
          clear hqo1 hqo2
          have hki5 : (k : Int) < 5 := by omega
          cases hb1 : set.testBit (4 * k + j)
          · have hA1 := hid (hhas.out (4 * k + j) (4 * (k : Int) + j) (by omega) (by omega) _ hb1)
            rw [hb1] at hU1
            clear hb1
            cases hb2 : set.testBit (4 * k + 2 + j)
            · have hA2 := hid (hhas.out (4 * k + 2 + j) (4 * (k : Int) + 2 + j) (by omega) (by omega) _ hb2)
              rw [hb2] at hU2
              clear hb2
              go_wp2_with (go_at_call 86; with_reducible first | (refine (hA1.out _).mono ?_; rintro e w' ⟨rfl, rfl⟩) | (refine (hA2.out _).mono ?_; rintro e w' ⟨rfl, rfl⟩))
              go_roundw
              case rel => exact ⟨j + 1, by omega, by go_num, hid (by rw [hU1, hU2]; exact hT.out)⟩
              case measure => simp [intOf]; omega
            · have hA2 := hid (hhas.out (4 * k + 2 + j) (4 * (k : Int) + 2 + j) (by omega) (by omega) _ hb2)
              rw [hb2] at hU2
              clear hb2
              go_upto_region 12 with (go_at_call 86; with_reducible first | (refine (hA1.out _).mono ?_; rintro e w' ⟨rfl, rfl⟩) | (refine (hA2.out _).mono ?_; rintro e w' ⟨rfl, rfl⟩))
              have lt8 := (cells_of hT.out.h8).1
              have ct8 := (cells_of hT.out.h8).2
              have hm8 := hid (fun W => (show Calls Try.prog 87 #[.agg #[.int .i64 p3, .int .i64 p4], .agg #[.int .i64 a3, .int .i64 a4]] W fun e w' => e = .returned (spanV (meetS (p3, p4) (a3, a4))) ∧ Below W.heap.size W w' from meet_any (p3, p4) (a3, a4) W))
              generalize meetS (p3, p4) (a3, a4) = y at hm8 hU2
              obtain ⟨y3, y4⟩ := y
              refine wp_region_later_tail 10 (by kernel_rfl) (by kernel_rfl) ?_
              intro hxx
              simp only [List.take_succ_cons, List.take_zero, List.drop_succ_cons, List.drop_zero]
              repeat (any_goals (first | go_big_quiet_step ((go_at_call 87; with_reducible exact Calls.later (hm8.out _))) | quiet_step ((go_at_call 87; with_reducible exact Calls.later (hm8.out _)))))
              refine wpQuiet_nil ?_
              rintro w48 ⟨x4, hxw⟩
              have hb4 := x4.below
              rw [← hxw] at hb4
              clear hxx hxw x4
              have hTn8 := hid (hT.out.below hb4)
              have ls8 := (cells_of hTn8.out.h8).1
              have cs8 := (cells_of hTn8.out.h8).2
              have zs8 := free_of hTn8.out.h8
              clear lt8 ct8 hb4
              go_wp2_with (go_at_call 86; with_reducible first | (refine (hA1.out _).mono ?_; rintro e w' ⟨rfl, rfl⟩) | (refine (hA2.out _).mono ?_; rintro e w' ⟨rfl, rfl⟩))
              go_roundw
              case rel => exact ⟨j + 1, by omega, by go_num, hid (by rw [hU1, hU2]; exact hTn8.out.set8 y3 y4)⟩
              case measure => simp [intOf]; omega
          · have hA1 := hid (hhas.out (4 * k + j) (4 * (k : Int) + j) (by omega) (by omega) _ hb1)
            rw [hb1] at hU1
            clear hb1
            cases hb2 : set.testBit (4 * k + 2 + j)
            · have hA2 := hid (hhas.out (4 * k + 2 + j) (4 * (k : Int) + 2 + j) (by omega) (by omega) _ hb2)
              rw [hb2] at hU2
              clear hb2
              go_upto_region 10 with (go_at_call 86; with_reducible first | (refine (hA1.out _).mono ?_; rintro e w' ⟨rfl, rfl⟩) | (refine (hA2.out _).mono ?_; rintro e w' ⟨rfl, rfl⟩))
              have lt7 := (cells_of hT.out.h7).1
              have ct7 := (cells_of hT.out.h7).2
              have hm7 := hid (fun W => (show Calls Try.prog 87 #[.agg #[.int .i64 p1, .int .i64 p2], .agg #[.int .i64 a1, .int .i64 a2]] W fun e w' => e = .returned (spanV (meetS (p1, p2) (a1, a2))) ∧ Below W.heap.size W w' from meet_any (p1, p2) (a1, a2) W))
              generalize meetS (p1, p2) (a1, a2) = y at hm7 hU1
              obtain ⟨y1, y2⟩ := y
              refine wp_region_later_tail 10 (by kernel_rfl) (by kernel_rfl) ?_
              intro hxx
              simp only [List.take_succ_cons, List.take_zero, List.drop_succ_cons, List.drop_zero]
              repeat (any_goals (first | go_big_quiet_step ((go_at_call 87; with_reducible exact Calls.later (hm7.out _))) | quiet_step ((go_at_call 87; with_reducible exact Calls.later (hm7.out _)))))
              refine wpQuiet_nil ?_
              rintro w47 ⟨x4, hxw⟩
              have hb4 := x4.below
              rw [← hxw] at hb4
              clear hxx hxw x4
              have hTn7 := hid (hT.out.below hb4)
              have ls7 := (cells_of hTn7.out.h7).1
              have cs7 := (cells_of hTn7.out.h7).2
              have zs7 := free_of hTn7.out.h7
              clear lt7 ct7 hb4
              go_wp2_with (go_at_call 86; with_reducible first | (refine (hA1.out _).mono ?_; rintro e w' ⟨rfl, rfl⟩) | (refine (hA2.out _).mono ?_; rintro e w' ⟨rfl, rfl⟩))
              go_roundw
              case rel => exact ⟨j + 1, by omega, by go_num, hid (by rw [hU1, hU2]; exact hTn7.out.set7 y1 y2)⟩
              case measure => simp [intOf]; omega
            · have hA2 := hid (hhas.out (4 * k + 2 + j) (4 * (k : Int) + 2 + j) (by omega) (by omega) _ hb2)
              rw [hb2] at hU2
              clear hb2
              go_upto_region 10 with (go_at_call 86; with_reducible first | (refine (hA1.out _).mono ?_; rintro e w' ⟨rfl, rfl⟩) | (refine (hA2.out _).mono ?_; rintro e w' ⟨rfl, rfl⟩))
              have lt7 := (cells_of hT.out.h7).1
              have ct7 := (cells_of hT.out.h7).2
              have hm7 := hid (fun W => (show Calls Try.prog 87 #[.agg #[.int .i64 p1, .int .i64 p2], .agg #[.int .i64 a1, .int .i64 a2]] W fun e w' => e = .returned (spanV (meetS (p1, p2) (a1, a2))) ∧ Below W.heap.size W w' from meet_any (p1, p2) (a1, a2) W))
              generalize meetS (p1, p2) (a1, a2) = y at hm7 hU1
              obtain ⟨y1, y2⟩ := y
              refine wp_region_later_tail 10 (by kernel_rfl) (by kernel_rfl) ?_
              intro hxx
              simp only [List.take_succ_cons, List.take_zero, List.drop_succ_cons, List.drop_zero]
              repeat (any_goals (first | go_big_quiet_step ((go_at_call 87; with_reducible exact Calls.later (hm7.out _))) | quiet_step ((go_at_call 87; with_reducible exact Calls.later (hm7.out _)))))
              refine wpQuiet_nil ?_
              rintro w47 ⟨x4, hxw⟩
              have hb4 := x4.below
              rw [← hxw] at hb4
              clear hxx hxw x4
              have hTn7 := hid (hT.out.below hb4)
              have ls7 := (cells_of hTn7.out.h7).1
              have cs7 := (cells_of hTn7.out.h7).2
              have zs7 := free_of hTn7.out.h7
              clear lt7 ct7 hb4
              go_upto_region 12 with (go_at_call 86; with_reducible first | (refine (hA1.out _).mono ?_; rintro e w' ⟨rfl, rfl⟩) | (refine (hA2.out _).mono ?_; rintro e w' ⟨rfl, rfl⟩))
              clear ls7 cs7 zs7 lx cx hq1 hq2 hq3 hq4 lb2
              have hT2 := hid (hTn7.out.set7 y1 y2)
              generalize (w47.setCell ⟨wo.heap.size, 0, none⟩ (.int .i64 y1)).setCell ⟨wo.heap.size, 1, none⟩ (.int .i64 y2) = wz at hT2 ⊢
              clear hTn7
              obtain ⟨lx, cx⟩ := hcl.out _ (below_via hT2.out.bel hbr.out)
              have hq3 := (hT2.out.bel.cell (p := ⟨b1, _, none⟩) lb1.out).trans hqo3.out
              have hq4 := (hT2.out.bel.cell (p := ⟨b1, _, none⟩) lb1.out).trans hqo4.out
              have lb2 := Nat.lt_of_lt_of_le lb1.out hT2.out.bel.size
              go_upto_region 12 with (go_at_call 86; with_reducible first | (refine (hA1.out _).mono ?_; rintro e w' ⟨rfl, rfl⟩) | (refine (hA2.out _).mono ?_; rintro e w' ⟨rfl, rfl⟩))
              have lt8 := (cells_of hT2.out.h8).1
              have ct8 := (cells_of hT2.out.h8).2
              have hm8 := hid (fun W => (show Calls Try.prog 87 #[.agg #[.int .i64 p3, .int .i64 p4], .agg #[.int .i64 a3, .int .i64 a4]] W fun e w' => e = .returned (spanV (meetS (p3, p4) (a3, a4))) ∧ Below W.heap.size W w' from meet_any (p3, p4) (a3, a4) W))
              generalize meetS (p3, p4) (a3, a4) = y at hm8 hU2
              obtain ⟨y3, y4⟩ := y
              refine wp_region_later_tail 10 (by kernel_rfl) (by kernel_rfl) ?_
              intro hxx
              simp only [List.take_succ_cons, List.take_zero, List.drop_succ_cons, List.drop_zero]
              repeat (any_goals (first | go_big_quiet_step ((go_at_call 87; with_reducible exact Calls.later (hm8.out _))) | quiet_step ((go_at_call 87; with_reducible exact Calls.later (hm8.out _)))))
              refine wpQuiet_nil ?_
              rintro w48 ⟨x4, hxw⟩
              have hb4 := x4.below
              rw [← hxw] at hb4
              clear hxx hxw x4
              have hTn8 := hid (hT2.out.below hb4)
              have ls8 := (cells_of hTn8.out.h8).1
              have cs8 := (cells_of hTn8.out.h8).2
              have zs8 := free_of hTn8.out.h8
              clear lt8 ct8 hb4
              go_wp2_with (go_at_call 86; with_reducible first | (refine (hA1.out _).mono ?_; rintro e w' ⟨rfl, rfl⟩) | (refine (hA2.out _).mono ?_; rintro e w' ⟨rfl, rfl⟩))
              go_roundw
              case rel => exact ⟨j + 1, by omega, by go_num, hid (by rw [hU1, hU2]; exact hTn8.out.set8 y3 y4)⟩
              case measure => simp [intOf]; omega
        · obtain rfl : j = 2 := by omega
          have hF := hid (r.firstTo_succ set k)
          have hlen := hid (r.firstTo_len set k)
          have hB := hid (below_via hT.out.bel hbr.out)
          have hrow2 := hid (hrow.out.below hT.out.bel)
          generalize r.meetUp set (4 * k) 2 = m1 at hT hF
          generalize r.meetUp set (4 * k + 2) 2 = m2 at hT hF
          obtain ⟨p1, p2⟩ := m1
          obtain ⟨p3, p4⟩ := m2
          have l7 := (cells_of hT.out.h7).1
          have c7 := (cells_of hT.out.h7).2
          have l8 := (cells_of hT.out.h8).1
          have c8 := (cells_of hT.out.h8).2
          have ha3 := hid (show (r.firstTo set k).length + [(p1, p2), (p3, p4)].length ≤ 1000 by rw [hlen.out]; simp only [List.length_cons, List.length_nil]; omega)
          go_wp2_with (at_builtin; refine wpList_append_row boxK rfl _ _ rfl w0.heap.size u5 (r.firstTo set k) [(p1, p2), (p3, p4)] rfl (hrow2.out.below (below_alloc (Below.refl _ _) _)) wr.heap.size 0 2 2 rfl rfl (row_lit boxK wr [(p1, p2), (p3, p4)] _ _ rfl) ha3.out (by have := hB.out.size; simp; omega) ?_; intro v5 w5 hown5 hb5 _)
          go_roundw
          case rel => exact ⟨k + 1, by omega, by go_num, hid (by rw [hF.out]; exact hown5), hid (below_low hb5 (below_alloc hB.out _) (Nat.le_refl _))⟩
          case measure => simp [intOf]; omega
    · obtain rfl : k = r.stints.length := by omega
      go_wp2
      go_ret
      exact ⟨_, rfl, hrow.out.low hz0.out, below_via hbr.out hb0.out⟩
end Go.Proofs.Ytccgakdaiaigoaa

namespace Go.Proofs.Ytccgakdaiaigoaa
open Go.RowKit Go.Lap Go.Shelf

theorem Box.get {O : Box} {k : Nat} (h : k < O.length) : O[k]? = some (O.lo k, O.hi k) := by
  simp only [Box.lo, Box.hi, List.getD_eq_getElem?_getD, List.getElem?_eq_getElem h]; rfl
theorem ru_at {w : World} {a : Option Addr} {n cap : Nat} {l : List Ru} (h : ruK.at w (.slice a n cap) l) {q : Nat} {x : Ru} (hx : l[q]? = some x) :
    ∃ b off, a = some ⟨b, off, none⟩ ∧ b < w.heap.size ∧ w.cell? ⟨b, off + q * 3, none⟩ = some (.int .i64 x.a) ∧ w.cell? ⟨b, off + q * 3 + 1, none⟩ = some (.int .i64 x.b) ∧ w.cell? ⟨b, off + q * 3 + 2, none⟩ = some (.int .i64 x.least) := by
  obtain ⟨a', cap', e, hc⟩ := h
  injection e with e1 e2 e3
  subst e1
  obtain ⟨b, off, rfl, hc'⟩ := hc (fun e => by rw [e] at hx; simp at hx)
  have h0 := hc' q x hx 0 _ rfl
  exact ⟨b, off, rfl, cell_lt h0, h0, hc' q x hx 1 _ rfl, hc' q x hx 2 _ rfl⟩
theorem box_cells {B n cap : Nat} {a : Option Addr} {w : World} {O : Box} (h : boxK.own B w (.slice a n cap) O) {k : Nat} (hk : k < O.length) :
    ∃ g, a = some ⟨g, 0, none⟩ ∧ B ≤ g ∧ g < w.heap.size ∧ (∀ o, w.frozen? ⟨g, o, none⟩ = false) ∧ ∀ j, j < O.length → w.cell? ⟨g, j * 2, none⟩ = some (.int .i64 (O.lo j)) ∧ w.cell? ⟨g, j * 2 + 1, none⟩ = some (.int .i64 (O.hi j)) := by
  obtain ⟨g, e, hB, hg, hz, hc⟩ := own_cells h (fun e => by rw [e] at hk; simp at hk)
  exact ⟨g, e, hB, hg, hz, fun j hj => ⟨hc j _ (Box.get hj) 0 _ rfl, hc j _ (Box.get hj) 1 _ rfl⟩⟩

theorem Box.up_hi {O : Box} {x : Ru} (hb : x.b < O.length) (k : Nat) : (O.up x).hi k = O.hi k := by
  unfold Box.up
  split
  · rw [Box.hi_set hb]
    by_cases e : k = x.b
    · subst e; rw [if_pos rfl]
    · rw [if_neg e]
  · rfl
theorem Box.up_length {O : Box} {x : Ru} : (O.up x).length = O.length := by
  unfold Box.up; split <;> simp
/-- What lies in memory while a rule is looked at. -/
structure RS (w : World) (v : Value) (bx : Nat) (x : Ru) (O : Box) (W : World) : Prop where
  own : boxK.own w.heap.size W v O
  bel : Below w.heap.size w W
  rule : W.heap[bx]? = some (.cells #[.int .i64 x.a, .int .i64 x.b, .int .i64 x.least] 111 (0, 0))
theorem RS.below {w W W' : World} {v : Value} {bx : Nat} {x : Ru} {O : Box} (h : RS w v bx x O W) (hb : Below W.heap.size W W') : RS w v bx x O W' :=
  ⟨h.own.below hb, below_via hb h.bel, (hb.block _ (cells_of h.rule).1).trans h.rule⟩
theorem RS.put {w W : World} {g n cap bx : Nat} {x : Ru} {O : Box} (h : RS w (.slice (some ⟨g, 0, none⟩) n cap) bx x O W) {k f : Nat} (hk : k < O.length) (hf : f < 2) {s : Int × Int} {u : Value} (he : boxK.enc s = (boxK.enc (O.lo k, O.hi k)).set f u) :
    RS w (.slice (some ⟨g, 0, none⟩) n cap) bx x (O.set k s) (W.setCell ⟨g, k * 2 + f, none⟩ u) := by
  obtain ⟨g', e, hB, hg, hz, hc⟩ := own_cells h.own (fun e => by rw [e] at hk; simp at hk)
  cases e
  have hne : bx ≠ g := by
    intro e
    subst e
    obtain ⟨g2, cap', cur, e, _, hg2, _⟩ := h.own.block (fun e => by rw [e] at hk; simp at hk)
    cases e
    rw [h.rule] at hg2
    cases hg2
  refine ⟨h.own.put (Box.get hk) hf he, below_set h.bel _ hB, ?_⟩
  simp only [World.setCell, Array.getElem?_modify]
  rw [if_neg (fun e => hne e.symm)]; exact h.rule
theorem RS.setlo {w W : World} {g n cap bx : Nat} {x : Ru} {O : Box} (h : RS w (.slice (some ⟨g, 0, none⟩) n cap) bx x O W) {k : Nat} (hk : k < O.length) (z : Int) :
    RS w (.slice (some ⟨g, 0, none⟩) n cap) bx x (O.set k (z, O.hi k)) (W.setCell ⟨g, k * 2, none⟩ (.int .i64 z)) := h.put (f := 0) hk (by decide) rfl
theorem RS.sethi {w W : World} {g n cap bx : Nat} {x : Ru} {O : Box} (h : RS w (.slice (some ⟨g, 0, none⟩) n cap) bx x O W) {k : Nat} (hk : k < O.length) (z : Int) :
    RS w (.slice (some ⟨g, 0, none⟩) n cap) bx x (O.set k (O.lo k, z)) (W.setCell ⟨g, k * 2 + 1, none⟩ (.int .i64 z)) := h.put (f := 1) hk (by decide) rfl
/-- How 'narrowed' ends. -/
def NarPost (L : Box) (R : List Ru) (w : World) (e : Ending) (w' : World) : Prop := ∃ (o : Option Box) (v : Value), Narrow L R o ∧ e = .returned (.tuple #[v, .bool o.isSome]) ∧ (∀ O, o = some O → boxK.own w.heap.size w' v O) ∧ Below w.heap.size w w'
theorem narPost_some {L O : Box} {R : List Ru} {w w' : World} {v : Value} (h : Narrow L R (some O)) (hv : boxK.own w.heap.size w' v O) (hb : Below w.heap.size w w') : NarPost L R w (.returned (.tuple #[v, .bool true])) w' :=
  ⟨some O, v, h, rfl, fun O' e => by cases e; exact hv, hb⟩
theorem narPost_none {L : Box} {R : List Ru} {w w' : World} {v : Value} (h : Narrow L R none) (hb : Below w.heap.size w w') : NarPost L R w (.returned (.tuple #[v, .bool false])) w' :=
  ⟨none, v, h, rfl, (fun O' e => by cases e), hb⟩

set_option maxRecDepth 100000 in
set_option maxHeartbeats 4000000 in
theorem narrowed_any (L : Box) (R : List Ru) (hn : L.length ≤ 10) (hRn : R.length ≤ 20) (hb : ∀ k, k < L.length → -1000 ≤ L.lo k ∧ L.lo k ≤ 1000 ∧ -1000 ≤ L.hi k ∧ L.hi k ≤ 1000)
    (hR : ∀ x ∈ R, x.a < L.length ∧ x.b < L.length ∧ -1000 ≤ x.least ∧ x.least ≤ 1000) (lv bv : Value) (w : World) (hl : boxK.at w lv L) (hlN : NilOk lv) (hr : ruK.at w bv R) :
    Calls Try.prog 75 #[lv, bv] w (NarPost L R w) := by
  obtain ⟨ba, bcap, rfl, _⟩ := id hr
  obtain ⟨la, lcap, rfl, _⟩ := id hl
  have hl' := hid hl
  have hlN' := hid hlN
  have hr' := hid hr
  have hn' := hid hn
  have hRn' := hid hRn
  have hR' := hid hR
  have hb' := hid (show L.bnd 30000 from fun k hk => by have := hb k hk; omega)
  have hni : (L.length : Int) ≤ 10 := by omega
  have hRi : (R.length : Int) ≤ 20 := by omega
  have hlen0 := hid (show ([] : Box).length + L.length ≤ 1000 by simp; omega)
  clear hl hlN hr hn hRn hR hb
  go_enter Try.func75, Try.ntmps75
  go_wp2_with (at_builtin; go_loud (refine wpList_append_row_arg boxK rfl _ _ rfl w.heap.size (.slice (some ⟨w.heap.size, 0, none⟩) 0 0) [] L rfl (boxK.own_made (Nat.le_refl _)) (.slice la L.length lcap) rfl (hl'.out.below (below_alloc (Below.refl _ _) _)) hlN'.out hlen0.out (by simp) ?_); intro v1 w1 hown1 hb1)
  have hB1 := hid (below_low hb1 (below_alloc (Below.refl _ _) _) (Nat.le_refl _))
  obtain ⟨a1, cap1, rfl, _⟩ := id hown1.at
  have hown1' : Hid (boxK.own w.heap.size w1 (.slice a1 L.length cap1) L) := hid hown1
  simp only [List.nil_append]
  clear hown1 hb1
  go_loopg [7, 8, 9, 10] ((L.wid + 1000000).toNat) (fun g c _ _ _ wr => ∃ (O : Box) (cb : Bool), c = .bool cb ∧ Hid (boxK.own w.heap.size wr (.slice a1 L.length cap1) O) ∧ Hid (Below w.heap.size w wr) ∧ Hid ((cb = true → Nar L R O ∧ O.bnd 30000 ∧ (O.wid + 1000000).toNat ≤ g) ∧ (cb = false → Narrow L R (some O))))
  case atStart => exact ⟨L, true, rfl, hown1', hB1, hid ⟨fun _ => ⟨Nar.start L R, hb'.out, Nat.le_refl _⟩, fun h => by cases h⟩⟩
  case round =>
    obtain ⟨O, cb, rfl, hown, hbr, hO⟩ := hrel
    cases cb with
    | false =>
      have hN := hid (hO.out.2 rfl)
      go_wp2
      go_ret2
      exact narPost_some hN.out hown.out hbr.out
    | true =>
      have hN := hid (hO.out.1 rfl)
      clear hO
      go_wp2
      go_loopw [8] (fun i wx => ∃ k : Nat, k ≤ L.length ∧ i = .int .i64 k ∧ Hid (∀ j, j < k → O.lo j ≤ O.hi j) ∧ Hid (boxK.own w.heap.size wx (.slice a1 L.length cap1) O) ∧ Hid (Below w.heap.size w wx)) (fun i _ => L.length - (intOf i).toNat)
      case atStart => exact ⟨0, by omega, rfl, hid (by omega), hown, hbr⟩
      case round =>
        obtain ⟨k, hk, rfl, hv, hown2, hbr2⟩ := hrel
        clear hown hbr
        by_cases hlt : k < L.length
        · have hki : (k : Int) < (L.length : Int) := by omega
          have hOl : Hid (O.length = L.length) := hid hN.out.1.len
          obtain ⟨g1, rfl, hgB, lg, _, hc⟩ := box_cells hown2.out (k := k) (by rw [hOl.out]; exact hlt)
          obtain ⟨q1, q2⟩ := hc k (by rw [hOl.out]; exact hlt)
          clear hc
          obtain ⟨x, hx⟩ : ∃ x, O.lo k = x := ⟨_, rfl⟩
          obtain ⟨y, hy⟩ : ∃ y, O.hi k = y := ⟨_, rfl⟩
          have hx' := hid hx
          have hy' := hid hy
          rw [hx] at q1
          rw [hy] at q2
          clear hx hy
          by_cases hxy : y < x
          · have hF : Hid (Narrow L R none) := hid (hN.out.1.none hlt (by rw [hx'.out, hy'.out]; exact hxy))
            go_wp2
            go_quiet (fail)
            go_wp2
            go_ret2
            exact narPost_none hF.out (below_drewN hbr2.out _)
          · have hv2 : Hid (∀ j, j < k + 1 → O.lo j ≤ O.hi j) := hid (fun j hj => by
              by_cases e : j < k
              · exact hv.out j e
              · obtain rfl : j = k := by omega
                rw [hx'.out, hy'.out]; omega)
            go_wp2
            go_quiet (fail)
            go_wp2
            go_roundw
            case rel => exact ⟨k + 1, by omega, by go_num, hv2, hid (hown2.out.below (below_drewN (Below.refl _ _) _)), hid (below_drewN hbr2.out _)⟩
            case measure => simp [intOf]; omega
        · obtain rfl : k = L.length := by omega
          have hP0 := hid (Pass.start (R := R) hN.out.1 (Box.bnd_valid hN.out.2.1 (by rw [hN.out.1.len]; exact hv.out)))
          go_wp2
          go_loopw [7, 9, 10] (fun c i _ wx => ∃ (q : Nat) (O' : Box) (ch : Bool), q ≤ R.length ∧ i = .int .i64 q ∧ c = .bool ch ∧ Hid (Pass L R O q O' ch) ∧ Hid (boxK.own w.heap.size wx (.slice a1 L.length cap1) O') ∧ Hid (Below w.heap.size w wx)) (fun _ i _ _ => R.length - (intOf i).toNat)
          case atStart => exact ⟨0, O, false, by omega, rfl, rfl, hP0, hown2, hbr2⟩
          case round =>
            obtain ⟨q, O', ch, hq, rfl, rfl, hP, hown3, hbr3⟩ := hrel
            clear hP0 hown2 hbr2
            by_cases hltq : q < R.length
            · have hqi : (q : Int) < (R.length : Int) := by omega
              obtain ⟨x, hx⟩ : ∃ x, R[q]? = some x := ⟨_, List.getElem?_eq_getElem hltq⟩
              have hstep := hid (hP.out.step hx hR'.out)
              obtain ⟨hxa, hxb, hxl, hxl2⟩ := hR'.out x (List.mem_of_getElem? hx)
              have hOl : Hid (O'.length = L.length) := hid hP.out.nar.len
              obtain ⟨bb, bo, rfl, lbb, r1, r2, r3⟩ := ru_at (hr'.out.below hbr3.out) hx
              obtain ⟨g1, rfl, _, _, _, _⟩ := box_cells hown3.out (k := x.a) (by rw [hOl.out]; exact hxa)
              have hba := hP.out.bnd x.a (by rw [hOl.out]; exact hxa)
              have hbb := hP.out.bnd x.b (by rw [hOl.out]; exact hxb)
              have hRq := hRn'.out
              have hbo : Hid (-1000 ≤ O'.lo x.a ∧ O'.lo x.a ≤ 30000 ∧ -30000 ≤ O'.hi x.b ∧ O'.hi x.b ≤ 1000) := hid (by omega)
              clear hba hbb hRq hx
              have hla := hid (show x.a < O'.length by rw [hOl.out]; exact hxa)
              have hlb := hid (show x.b < O'.length by rw [hOl.out]; exact hxb)
              have hla2 := hid (show x.a < (O'.up x).length by rw [Box.up_length]; exact hla.out)
              have hlb2 := hid (show x.b < (O'.up x).length by rw [Box.up_length]; exact hlb.out)
              have hxai : (x.a : Int) < (L.length : Int) := by omega
              have hxbi : (x.b : Int) < (L.length : Int) := by omega
              clear hxa hxb
              have hRS := hid (RS.mk (w := w) (v := .slice (some ⟨g1, 0, none⟩) L.length cap1) (bx := wr.heap.size) (x := x) (O := O') (W := wr.alloc (.cells #[.int .i64 x.a, .int .i64 x.b, .int .i64 x.least] 111)) (hown3.out.below (below_alloc (Below.refl _ _) _)) (below_alloc hbr3.out _) (alloc_at rfl))
              go_upto_region 14 with fail
              clear r1 r2 r3 lbb
              generalize wr.alloc (.cells #[.int .i64 x.a, .int .i64 x.b, .int .i64 x.least] 111) = W1 at hRS ⊢
              generalize wr.heap.size = bx at hRS ⊢
              obtain ⟨pa, hpa⟩ : ∃ z, O'.lo x.a = z := ⟨_, rfl⟩
              obtain ⟨pb, hpb⟩ : ∃ z, O'.lo x.b = z := ⟨_, rfl⟩
              obtain ⟨ua, hua⟩ : ∃ z, O'.hi x.a = z := ⟨_, rfl⟩
              obtain ⟨ub, hub⟩ : ∃ z, O'.hi x.b = z := ⟨_, rfl⟩
              have hbo2 := hbo.out
              rw [hpa, hub] at hbo2
              obtain ⟨xl, hxlE⟩ : ∃ z, x.least = z := ⟨_, rfl⟩
              rw [hxlE] at hxl hxl2
              have e1 : IntKind.i64.wrap (pa + xl) = pa + xl := Go.IntWalk.i64_in _ (by omega)
              have e2 : IntKind.i64.wrap (ub - xl) = ub - xl := Go.IntWalk.i64_in _ (by omega)
              clear hbo hbo2 hxl hxl2
              have hxl := hid hxlE
              replace hpa := hid hpa
              replace hpb := hid hpb
              replace hua := hid hua
              replace hub := hid hub
              clear hxlE
              by_cases hu : pb < pa + xl
              · have hP2 := hid (show Pass L R O (q + 1) ((O'.up x).down x) (if True then true else if ub - xl < ua then true else ch) by
                    have h := hstep.out
                    rw [Box.up_hi hlb.out, Box.up_hi hlb.out, hpa.out, hpb.out, hua.out, hub.out, hxl.out] at h
                    simpa only [hu] using h)
                have hup := hid (show O'.set x.b (pa + xl, O'.hi x.b) = O'.up x by rw [Box.up, hpa.out, hpb.out, hxl.out, if_pos hu])
                have lt := (cells_of hRS.out.rule).1
                have ct := (cells_of hRS.out.rule).2
                rw [hxl.out] at ct
                obtain ⟨_, e, _, lg, zg, hc⟩ := box_cells hRS.out.own (k := x.a) hla.out
                injection e with e
                injection e with e
                subst e
                obtain ⟨ca1, ca2⟩ := hc x.a hla.out
                obtain ⟨cb1, cb2⟩ := hc x.b hlb.out
                clear hc
                rw [hpa.out] at ca1
                rw [hpb.out] at cb1
                clear ca2 cb2
                go_quiet (fail)
                replace hRS := hid (hRS.out.below (below_drewN (Below.refl _ _) nq))
                clear lt ct lg zg ca1 cb1
                generalize World.drewN _ nq = W2 at hRS ⊢
                have lt := (cells_of hRS.out.rule).1
                have ct := (cells_of hRS.out.rule).2
                rw [hxl.out] at ct
                obtain ⟨_, e, _, lg, zg, hc⟩ := box_cells hRS.out.own (k := x.a) hla.out
                injection e with e
                injection e with e
                subst e
                obtain ⟨ca1, ca2⟩ := hc x.a hla.out
                obtain ⟨cb1, cb2⟩ := hc x.b hlb.out
                clear hc
                rw [hpa.out] at ca1
                rw [hpb.out] at cb1
                clear ca2 cb2
                go_upto_region 15 with fail
                refine wp_region_later_tail 14 (by kernel_rfl) (by kernel_rfl) ?_
                intro hxx
                simp only [List.take_succ_cons, List.take_zero, List.drop_succ_cons, List.drop_zero]
                repeat (any_goals (first | go_big_quiet_step (fail) | quiet_step (fail)))
                refine wpQuiet_nil ?_
                rintro w4 ⟨x4, hxw⟩
                have hb4 := x4.below
                rw [← hxw] at hb4
                clear hxx hxw x4
                replace hRS := hid (hRS.out.below hb4)
                clear lt ct lg zg hb4 ca1 cb1
                obtain ⟨_, e, _, lg, zg, hc⟩ := box_cells hRS.out.own (k := x.a) hla.out
                injection e with e
                injection e with e
                subst e
                have cw := (hc x.b hlb.out).1
                clear hc
                go_upto_region 16 with fail
                clear lg zg cw
                have hRS2 := hid (show RS w (.slice (some ⟨g1, 0, none⟩) L.length cap1) bx x (O'.up x) (w4.setCell ⟨g1, x.b * 2, none⟩ (.int .i64 (pa + xl))) by rw [← hup.out]; exact hRS.out.setlo hlb.out (pa + xl))
                generalize w4.setCell ⟨g1, x.b * 2, none⟩ (.int .i64 (pa + xl)) = W5 at hRS2 ⊢
                clear hRS
                by_cases hd : ub - xl < ua
                · have hP3 := hid (show Pass L R O (q + 1) ((O'.up x).down x) true by
                      have h := hP2.out
                      simpa [hd] using h)
                  have hdn := hid (show (O'.up x).set x.a ((O'.up x).lo x.a, ub - xl) = (O'.up x).down x by rw [Box.down, Box.up_hi hlb.out, Box.up_hi hlb.out, hua.out, hub.out, hxl.out, if_pos hd])
                  have lt := (cells_of hRS2.out.rule).1
                  have ct := (cells_of hRS2.out.rule).2
                  rw [hxl.out] at ct
                  obtain ⟨_, e, _, lg, zg, hc⟩ := box_cells hRS2.out.own (k := x.a) hla2.out
                  injection e with e
                  injection e with e
                  subst e
                  obtain ⟨ca1, ca2⟩ := hc x.a hla2.out
                  obtain ⟨cb1, cb2⟩ := hc x.b hlb2.out
                  clear hc
                  rw [Box.up_hi hlb.out, hua.out] at ca2
                  rw [Box.up_hi hlb.out, hub.out] at cb2
                  clear ca1 cb1
                  go_quiet (fail)
                  replace hRS2 := hid (hRS2.out.below (below_drewN (Below.refl _ _) nq))
                  clear lt ct lg zg ca2 cb2
                  generalize World.drewN _ nq = W2 at hRS2 ⊢
                  have lt := (cells_of hRS2.out.rule).1
                  have ct := (cells_of hRS2.out.rule).2
                  rw [hxl.out] at ct
                  obtain ⟨_, e, _, lg, zg, hc⟩ := box_cells hRS2.out.own (k := x.a) hla2.out
                  injection e with e
                  injection e with e
                  subst e
                  obtain ⟨ca1, ca2⟩ := hc x.a hla2.out
                  obtain ⟨cb1, cb2⟩ := hc x.b hlb2.out
                  clear hc
                  rw [Box.up_hi hlb.out, hua.out] at ca2
                  rw [Box.up_hi hlb.out, hub.out] at cb2
                  clear ca1 cb1
                  go_upto_region 17 with fail
                  refine wp_region_later_tail 14 (by kernel_rfl) (by kernel_rfl) ?_
                  intro hxx
                  simp only [List.take_succ_cons, List.take_zero, List.drop_succ_cons, List.drop_zero]
                  repeat (any_goals (first | go_big_quiet_step (fail) | quiet_step (fail)))
                  refine wpQuiet_nil ?_
                  rintro w4 ⟨x4, hxw⟩
                  have hb4 := x4.below
                  rw [← hxw] at hb4
                  clear hxx hxw x4
                  replace hRS2 := hid (hRS2.out.below hb4)
                  clear lt ct lg zg hb4 ca2 cb2
                  obtain ⟨_, e, _, lg, zg, hc⟩ := box_cells hRS2.out.own (k := x.a) hla2.out
                  injection e with e
                  injection e with e
                  subst e
                  have cw := (hc x.a hla2.out).2
                  clear hc
                  go_wp2
                  go_roundw
                  case rel => exact ⟨q + 1, (O'.up x).down x, true, by omega, by go_num, rfl, hP3, hid (by rw [← hdn.out]; exact (hRS2.out.sethi hla2.out (ub - xl)).own), hid (hRS2.out.sethi hla2.out (ub - xl)).bel⟩
                  case measure => simp [intOf]; omega
                · have hP3 := hid (show Pass L R O (q + 1) ((O'.up x).down x) true by
                      have h := hP2.out
                      simpa [hd] using h)
                  have hdn := hid (show O'.up x = (O'.up x).down x by rw [Box.down, Box.up_hi hlb.out, Box.up_hi hlb.out, hua.out, hub.out, hxl.out, if_neg hd])
                  have lt := (cells_of hRS2.out.rule).1
                  have ct := (cells_of hRS2.out.rule).2
                  rw [hxl.out] at ct
                  obtain ⟨_, e, _, lg, zg, hc⟩ := box_cells hRS2.out.own (k := x.a) hla2.out
                  injection e with e
                  injection e with e
                  subst e
                  obtain ⟨ca1, ca2⟩ := hc x.a hla2.out
                  obtain ⟨cb1, cb2⟩ := hc x.b hlb2.out
                  clear hc
                  rw [Box.up_hi hlb.out, hua.out] at ca2
                  rw [Box.up_hi hlb.out, hub.out] at cb2
                  clear ca1 cb1
                  go_quiet (fail)
                  replace hRS2 := hid (hRS2.out.below (below_drewN (Below.refl _ _) nq))
                  clear lt ct lg zg ca2 cb2
                  generalize World.drewN _ nq = W2 at hRS2 ⊢
                  go_wp2
                  go_roundw
                  case rel => exact ⟨q + 1, (O'.up x).down x, true, by omega, by go_num, rfl, hP3, hid (by rw [← hdn.out]; exact hRS2.out.own), hid hRS2.out.bel⟩
                  case measure => simp [intOf]; omega
              · have hP2 := hid (show Pass L R O (q + 1) ((O'.up x).down x) (if False then true else if ub - xl < ua then true else ch) by
                    have h := hstep.out
                    rw [Box.up_hi hlb.out, Box.up_hi hlb.out, hpa.out, hpb.out, hua.out, hub.out, hxl.out] at h
                    simpa only [hu] using h)
                have hup := hid (show O' = O'.up x by rw [Box.up, hpa.out, hpb.out, hxl.out, if_neg hu])
                have lt := (cells_of hRS.out.rule).1
                have ct := (cells_of hRS.out.rule).2
                rw [hxl.out] at ct
                obtain ⟨_, e, _, lg, zg, hc⟩ := box_cells hRS.out.own (k := x.a) hla.out
                injection e with e
                injection e with e
                subst e
                obtain ⟨ca1, ca2⟩ := hc x.a hla.out
                obtain ⟨cb1, cb2⟩ := hc x.b hlb.out
                clear hc
                rw [hpa.out] at ca1
                rw [hpb.out] at cb1
                clear ca2 cb2
                go_quiet (fail)
                replace hRS := hid (hRS.out.below (below_drewN (Below.refl _ _) nq))
                clear lt ct lg zg ca1 cb1
                generalize World.drewN _ nq = W2 at hRS ⊢
                go_upto_region 16 with fail
                have hRS2 := hid (show RS w (.slice (some ⟨g1, 0, none⟩) L.length cap1) bx x (O'.up x) W2 by rw [← hup.out]; exact hRS.out)
                clear hRS
                by_cases hd : ub - xl < ua
                · have hP3 := hid (show Pass L R O (q + 1) ((O'.up x).down x) true by
                      have h := hP2.out
                      simpa [hd] using h)
                  have hdn := hid (show (O'.up x).set x.a ((O'.up x).lo x.a, ub - xl) = (O'.up x).down x by rw [Box.down, Box.up_hi hlb.out, Box.up_hi hlb.out, hua.out, hub.out, hxl.out, if_pos hd])
                  have lt := (cells_of hRS2.out.rule).1
                  have ct := (cells_of hRS2.out.rule).2
                  rw [hxl.out] at ct
                  obtain ⟨_, e, _, lg, zg, hc⟩ := box_cells hRS2.out.own (k := x.a) hla2.out
                  injection e with e
                  injection e with e
                  subst e
                  obtain ⟨ca1, ca2⟩ := hc x.a hla2.out
                  obtain ⟨cb1, cb2⟩ := hc x.b hlb2.out
                  clear hc
                  rw [Box.up_hi hlb.out, hua.out] at ca2
                  rw [Box.up_hi hlb.out, hub.out] at cb2
                  clear ca1 cb1
                  go_quiet (fail)
                  replace hRS2 := hid (hRS2.out.below (below_drewN (Below.refl _ _) nq))
                  clear lt ct lg zg ca2 cb2
                  generalize World.drewN _ nq = W2 at hRS2 ⊢
                  have lt := (cells_of hRS2.out.rule).1
                  have ct := (cells_of hRS2.out.rule).2
                  rw [hxl.out] at ct
                  obtain ⟨_, e, _, lg, zg, hc⟩ := box_cells hRS2.out.own (k := x.a) hla2.out
                  injection e with e
                  injection e with e
                  subst e
                  obtain ⟨ca1, ca2⟩ := hc x.a hla2.out
                  obtain ⟨cb1, cb2⟩ := hc x.b hlb2.out
                  clear hc
                  rw [Box.up_hi hlb.out, hua.out] at ca2
                  rw [Box.up_hi hlb.out, hub.out] at cb2
                  clear ca1 cb1
                  go_upto_region 17 with fail
                  refine wp_region_later_tail 14 (by kernel_rfl) (by kernel_rfl) ?_
                  intro hxx
                  simp only [List.take_succ_cons, List.take_zero, List.drop_succ_cons, List.drop_zero]
                  repeat (any_goals (first | go_big_quiet_step (fail) | quiet_step (fail)))
                  refine wpQuiet_nil ?_
                  rintro w4 ⟨x4, hxw⟩
                  have hb4 := x4.below
                  rw [← hxw] at hb4
                  clear hxx hxw x4
                  replace hRS2 := hid (hRS2.out.below hb4)
                  clear lt ct lg zg hb4 ca2 cb2
                  obtain ⟨_, e, _, lg, zg, hc⟩ := box_cells hRS2.out.own (k := x.a) hla2.out
                  injection e with e
                  injection e with e
                  subst e
                  have cw := (hc x.a hla2.out).2
                  clear hc
                  go_wp2
                  go_roundw
                  case rel => exact ⟨q + 1, (O'.up x).down x, true, by omega, by go_num, rfl, hP3, hid (by rw [← hdn.out]; exact (hRS2.out.sethi hla2.out (ub - xl)).own), hid (hRS2.out.sethi hla2.out (ub - xl)).bel⟩
                  case measure => simp [intOf]; omega
                · have hP3 := hid (show Pass L R O (q + 1) ((O'.up x).down x) ch by
                      have h := hP2.out
                      simpa [hd] using h)
                  have hdn := hid (show O'.up x = (O'.up x).down x by rw [Box.down, Box.up_hi hlb.out, Box.up_hi hlb.out, hua.out, hub.out, hxl.out, if_neg hd])
                  have lt := (cells_of hRS2.out.rule).1
                  have ct := (cells_of hRS2.out.rule).2
                  rw [hxl.out] at ct
                  obtain ⟨_, e, _, lg, zg, hc⟩ := box_cells hRS2.out.own (k := x.a) hla2.out
                  injection e with e
                  injection e with e
                  subst e
                  obtain ⟨ca1, ca2⟩ := hc x.a hla2.out
                  obtain ⟨cb1, cb2⟩ := hc x.b hlb2.out
                  clear hc
                  rw [Box.up_hi hlb.out, hua.out] at ca2
                  rw [Box.up_hi hlb.out, hub.out] at cb2
                  clear ca1 cb1
                  go_quiet (fail)
                  replace hRS2 := hid (hRS2.out.below (below_drewN (Below.refl _ _) nq))
                  clear lt ct lg zg ca2 cb2
                  generalize World.drewN _ nq = W2 at hRS2 ⊢
                  go_wp2
                  go_roundw
                  case rel => exact ⟨q + 1, (O'.up x).down x, ch, by omega, by go_num, rfl, hP3, hid (by rw [← hdn.out]; exact hRS2.out.own), hid hRS2.out.bel⟩
                  case measure => simp [intOf]; omega
            · obtain rfl : q = R.length := by omega
              go_wp2
              cases ch with
              | true =>
                have hm := hP.out.change rfl
                have hwb := Box.wid_bnd hP.out.bnd (by have := hRn'.out; omega) (by rw [hP.out.nar.len]; exact hn'.out)
                have hgk := hN.out.2.2
                have hm2 := hid (show (Box.wid O' + 1000000).toNat < gk by omega)
                clear hm hwb hgk
                go_roundg ((Box.wid O' + 1000000).toNat)
                case measure => exact hm2.out
                case rel => exact ⟨O', true, rfl, hown3, hbr3, hid ⟨fun _ => ⟨hP.out.nar, hP.out.bnd.mono (by have := hRn'.out; omega), Nat.le_refl _⟩, fun h => by cases h⟩⟩
              | false =>
                have hE := hid (hP.out.end hR'.out hv.out)
                have hm2 : Hid (0 < gk) := hid (by
                  have hgk := hN.out.2.2
                  have hwb := Box.wid_bnd hN.out.2.1 (by omega) (by rw [hN.out.1.len]; exact hn'.out)
                  omega)
                go_roundg 0
                case measure => exact hm2.out
                case rel => exact ⟨O', false, rfl, hown3, hbr3, hid ⟨(fun h => by cases h), fun _ => hE.out⟩⟩
end Go.Proofs.Ytccgakdaiaigoaa

namespace Go.Proofs.Ytccgakdaiaigoaa
open Go.RowKit Go.Lap Go.Shelf

theorem meetS_bnd {a b : Int × Int} (ha : 0 ≤ a.1 ∧ a.1 ≤ 600 ∧ 0 ≤ a.2 ∧ a.2 ≤ 600) (hb : 0 ≤ b.1 ∧ b.1 ≤ 600 ∧ 0 ≤ b.2 ∧ b.2 ≤ 600) : 0 ≤ (meetS a b).1 ∧ (meetS a b).1 ≤ 600 ∧ 0 ≤ (meetS a b).2 ∧ (meetS a b).2 ≤ 600 := by
  simp only [meetS]; omega
theorem Rel.entry_bnd {r : Rel} (hv : r.valid = true) {n : Nat} (hn : n < 4 * r.n) : 0 ≤ (r.entry n).1 ∧ (r.entry n).1 ≤ 600 ∧ 0 ≤ (r.entry n).2 ∧ (r.entry n).2 ≤ 600 := by
  have := Rel.entry_ok hv hn
  omega
theorem Rel.firstAt_bnd {r : Rel} (hv : r.valid = true) (set : Nat) {k : Nat} (hk : k < 2 * r.n) : 0 ≤ (r.firstAt set k).1 ∧ (r.firstAt set k).1 ≤ 600 ∧ 0 ≤ (r.firstAt set k).2 ∧ (r.firstAt set k).2 ≤ 600 := by
  have h1 := Rel.entry_bnd hv (n := k / 2 * 4 + k % 2 * 2) (by omega)
  have h2 := Rel.entry_bnd hv (n := k / 2 * 4 + k % 2 * 2 + 1) (by omega)
  have h0 : 0 ≤ ((0, 600) : Int × Int).1 ∧ ((0, 600) : Int × Int).1 ≤ 600 ∧ 0 ≤ ((0, 600) : Int × Int).2 ∧ ((0, 600) : Int × Int).2 ≤ 600 := by simp
  simp only [Rel.firstAt]
  split
  · refine meetS_bnd ?_ h2
    split
    · exact meetS_bnd h0 h1
    · exact h0
  · split
    · exact meetS_bnd h0 h1
    · exact h0
theorem Rel.first_bnd {r : Rel} (hv : r.valid = true) (set : Nat) : ∀ k, k < (r.first set).length → -1000 ≤ (r.first set).lo k ∧ (r.first set).lo k ≤ 1000 ∧ -1000 ≤ (r.first set).hi k ∧ (r.first set).hi k ≤ 1000 := by
  intro k hk
  rw [r.first_length] at hk
  have := Rel.firstAt_bnd hv set hk
  simp only [Box.lo, Box.hi, r.first_at set hk]
  omega
theorem Rel.rulesR_ok {r : Rel} (hv : r.valid = true) (set : Nat) : ∀ x ∈ r.rulesR, x.a < (r.first set).length ∧ x.b < (r.first set).length ∧ -1000 ≤ x.least ∧ x.least ≤ 1000 := by
  intro x hx
  have h1 := Rel.rulesR_lt hx
  have h2 := r.ok_of hv
  rw [r.first_length]
  refine ⟨h1.1, h1.2, ?_⟩
  obtain ⟨i, hi, rfl | ⟨h0, rfl⟩ | ⟨k, hk, rfl⟩⟩ := Rel.mem_rulesR.1 hx <;> simp only <;> omega
theorem Rel.rulesR_len {r : Rel} (hn : r.n ≤ 5) : r.rulesR.length ≤ 15 := by
  have := r.rulesTo_len r.n
  have e : r.rulesTo r.n = r.rulesR := rfl
  rw [e] at this; omega
/-- Narrowing of some of the reference's spans, by its rules. -/
theorem narrowed_first {r : Rel} (hv : r.valid = true) (set : Nat) (lv bv : Value) (w : World) (hl : boxK.own 0 w lv (r.first set)) (hr : ruK.own 0 w bv r.rulesR) : Calls Try.prog 75 #[lv, bv] w (NarPost (r.first set) r.rulesR w) :=
  narrowed_any (r.first set) r.rulesR (by rw [r.first_length]; have := (r.ok_of hv).2.2.1; omega) (by have := Rel.rulesR_len (r.ok_of hv).2.2.1; omega) (Rel.first_bnd hv set) (Rel.rulesR_ok hv set) lv bv w hl.at (own_nilOk hl) hr.at

theorem NarPost.out {L : Box} {R : List Ru} {w w' : World} {e : Ending} (h : NarPost L R w e w') : ∃ (o : Option Box) (v : Value), Narrow L R o ∧ e = .returned (.tuple #[v, .bool o.isSome]) ∧ (∀ O, o = some O → boxK.own w.heap.size w' v O) ∧ Below w.heap.size w w' := h
theorem NarPost.below {L : Box} {R : List Ru} {w W W' : World} {e : Ending} (h : NarPost L R W e W') (hb : Below w.heap.size w W) : ∃ (o : Option Box) (v : Value), Narrow L R o ∧ e = .returned (.tuple #[v, .bool o.isSome]) ∧ (∀ O, o = some O → boxK.own w.heap.size W' v O) ∧ Below w.heap.size w W' := by
  obtain ⟨o, v, h1, h2, h3, h4⟩ := h
  exact ⟨o, v, h1, h2, fun O hO => (h3 O hO).low hb.size, below_via h4 hb⟩

set_option maxRecDepth 100000 in
set_option maxHeartbeats 4000000 in
theorem times_any (r : Rel) (hv : r.valid = true) (set : Nat) (hset : set ≤ 1048575) (sv : Value) (w : World) (hS : StintsAt w sv r.stints) : Calls Try.prog 74 #[relV r sv, .int .i64 set] w (NarPost (r.first set) r.rulesR w) := by
  obtain ⟨sa, scap, rfl, hs0⟩ := id hS
  clear hs0
  have hS' := hid hS
  have hv' := hid hv
  have hset' := hid hset
  clear hS hv hset
  have hx := alloc_at (w := w) (o := .cells #[.int .i64 r.rest, .slice sa r.stints.length scap] 24) rfl
  have hb0 := hid (below_alloc (Below.refl _ w) (.cells #[.int .i64 r.rest, .slice sa r.stints.length scap] 24))
  go_enter Try.func74, Try.ntmps74
  go_upto_region 1 with fail
  generalize w.alloc (.cells #[.int .i64 r.rest, .slice sa r.stints.length scap] 24) = w0 at hx hb0 ⊢
  generalize w.heap.size = bx at hx ⊢
  refine wp_region_held_at (S := fun W => W.heap[bx]? = some (.cells #[.int .i64 r.rest, .slice sa r.stints.length scap] 24 (0, 0))) (by kernel_rfl) ?_
  intro w1 hw1 _
  have hz : w1.heap[bx]? = some (.cells #[.int .i64 r.rest, .slice sa r.stints.length scap] 24 (0, 0)) := (hw1.block _ (cells_of hx).1).trans hx
  have hB1 := hid (below_via hw1 hb0.out)
  clear hx hw1 hb0
  try simp only [Array.replicate]
  refine wpAnyH_quiet (i := 0) (v := relV r (.slice sa r.stints.length scap)) rfl (by kernel_rfl) (by kernel_rfl) (by kernel_rfl) (fun _ _ _ h => h) rfl (fun W hW => by obtain ⟨lq, cq⟩ := cells_of hW; go_simp) hz ?_
  refine wpAnyH_quiet (i := 1) (v := .int .i64 set) rfl (by kernel_rfl) (by kernel_rfl) (by kernel_rfl) (fun _ _ _ h => h) rfl (fun W hW => by go_simp) hz ?_
  refine wpAnyH_quiet (i := 3) (v := relV r (.slice sa r.stints.length scap)) rfl (by kernel_rfl) (by kernel_rfl) (by kernel_rfl) (fun _ _ _ h => h) rfl (fun W hW => by obtain ⟨lq, cq⟩ := cells_of hW; go_simp) hz ?_
  try simp only [Act.put, List.setIfInBounds_toArray]
  have hf := hid (rfirst_any r (r.ok_of hv'.out).2.2.1 set hset'.out (.slice sa r.stints.length scap) w1 (hS'.out.below hB1.out))
  refine wpAnyH_step (i := 2) (by kernel_rfl) rfl ?_
  go_wp2_with (go_at_call 76; with_reducible refine hf.out.mono ?_; rintro e w2 ⟨v1, rfl, hv1, hb2⟩; replace hz := (hb2.block _ (cells_of hz).1).trans hz; replace hB1 := hid (below_via hb2 hB1.out); replace hv1 := hid hv1; clear hf hb2)
  refine ⟨hz, ?_⟩
  have hf := hid (rules_any r (r.ok_of hv'.out).2.2.1 (.slice sa r.stints.length scap) w2 (hS'.out.below hB1.out))
  refine wpAnyH_step (i := 4) (by kernel_rfl) rfl ?_
  go_wp2_with (go_at_call 77; with_reducible refine hf.out.mono ?_; rintro e w3 ⟨v2, rfl, hv2, hb3⟩; replace hz := (hb3.block _ (cells_of hz).1).trans hz; replace hB1 := hid (below_via hb3 hB1.out); replace hv2 := hid hv2; replace hv1 := hid (hv1.out.below hb3); clear hf hb3)
  refine ⟨hz, ?_⟩
  have hf := hid (narrowed_first hv'.out set v1 v2 w3 (hv1.out.low (Nat.zero_le _)) (hv2.out.low (Nat.zero_le _)))
  refine wpAnyH_step (i := 5) (by kernel_rfl) rfl ?_
  go_wp2_with (go_at_call 75; with_reducible refine hf.out.mono ?_; rintro e w4 hP; obtain ⟨o, v, hN, rfl, hO, hb4⟩ := hP.out; clear hP; replace hz := (hb4.block _ (cells_of hz).1).trans hz; have hB4 := hid (below_via hb4 hB1.out); replace hN := hid hN; have hO' := hid (fun O (e : o = some O) => (hO O e).low hB1.out.size); clear hf hb4 hO hv1 hv2 hB1)
  refine ⟨hz, ?_⟩
  refine wpAnyH_quiet (i := 6) (v := v) rfl (by kernel_rfl) (by kernel_rfl) (by kernel_rfl) (fun _ _ _ h => h) rfl (fun W hW => by go_simp) hz ?_
  refine wpAnyH_quiet (i := 7) (v := .bool o.isSome) rfl (by kernel_rfl) (by kernel_rfl) (by kernel_rfl) (fun _ _ _ h => h) rfl (fun W hW => by go_simp) hz ?_
  refine wpAnyH_step (i := 8) (by kernel_rfl) rfl ?_
  go_wp2
  refine ⟨hz, ?_⟩
  refine wpAnyH_step (i := 9) (by kernel_rfl) rfl ?_
  go_wp2
  refine ⟨hz, ?_⟩
  refine wpAnyH_done (by kernel_rfl) ?_ _
  try simp only [Act.put, List.setIfInBounds_toArray]
  go_wp2
  go_ret2
  exact ⟨o, v, hN.out, rfl, hO'.out, hB4.out⟩

set_option maxRecDepth 100000 in
set_option maxHeartbeats 4000000 in
theorem refCan_any (r : Rel) (hv : r.valid = true) (set : Nat) (hset : set ≤ 1048575) (sv : Value) (w : World) (hS : StintsAt w sv r.stints) : Calls Try.prog 62 #[relV r sv, .int .i64 set] w fun e w' => ∃ b : Bool, e = .returned (.bool b) ∧ (b = true ↔ ∃ s, Truth r set s) ∧ Below w.heap.size w w' := by
  obtain ⟨sa, scap, rfl, hs0⟩ := id hS
  clear hs0
  have hb0 := below_alloc (Below.refl _ w) (.cells #[.int .i64 r.rest, .slice sa r.stints.length scap] 24)
  have hx := alloc_at (w := w) (o := .cells #[.int .i64 r.rest, .slice sa r.stints.length scap] 24) rfl
  have hf := hid (times_any r hv set hset (.slice sa r.stints.length scap) _ (hS.below hb0))
  replace hb0 := hid hb0
  clear hS hv hset
  go_enter Try.func62, Try.ntmps62
  go_wp2_with (go_at_call 74; with_reducible refine hf.out.mono ?_; rintro e w4 hP; obtain ⟨o, v, hN, rfl, hO, hb4⟩ := hP.out; clear hP; replace hN := hid hN; clear hO hf; replace hb4 := hid hb4)
  go_ret
  exact ⟨o.isSome, rfl, Rel.narrow_can hN.out, below_via hb4.out hb0.out⟩
end Go.Proofs.Ytccgakdaiaigoaa

namespace Go.Proofs.Ytccgakdaiaigoaa
open Go.RowKit Go.Lap Go.Shelf

/-- How 'open' ends. -/
def OpenR (r : Rel) (b : Bool) (w : World) (e : Ending) (w' : World) : Prop := Below w.heap.size w w' ∧ ∃ (v : Value) (c : Int), e = .returned (.tuple #[v, .int .i64 c]) ∧ ((r.valid = false ∧ c = 1) ∨ (r.valid = true ∧ b = false ∧ c = 2) ∨ (r.valid = true ∧ b = true ∧ Narrow (r.first r.every) r.rulesR none ∧ c = 10) ∨ (r.valid = true ∧ b = true ∧ ∃ O, Narrow (r.first r.every) r.rulesR (some O) ∧ c = 0 ∧ boxK.own w.heap.size w' v O))
theorem openR_arg {r : Rel} {b : Bool} {w w' : World} {v : Value} (h : r.valid = false) (hb : Below w.heap.size w w') : OpenR r b w (.returned (.tuple #[v, .int .i64 1])) w' := ⟨hb, v, 1, rfl, .inl ⟨h, rfl⟩⟩
theorem openR_range {r : Rel} {w w' : World} {v : Value} (h : r.valid = true) (hb : Below w.heap.size w w') : OpenR r false w (.returned (.tuple #[v, .int .i64 2])) w' := ⟨hb, v, 2, rfl, .inr (.inl ⟨h, rfl, rfl⟩)⟩
theorem openR_clash {r : Rel} {w w' : World} {v : Value} (h : r.valid = true) (hN : Narrow (r.first r.every) r.rulesR none) (hb : Below w.heap.size w w') : OpenR r true w (.returned (.tuple #[v, .int .i64 10])) w' := ⟨hb, v, 10, rfl, .inr (.inr (.inl ⟨h, rfl, hN, rfl⟩))⟩
theorem openR_ok {r : Rel} {w w' : World} {v : Value} {O : Box} (h : r.valid = true) (hN : Narrow (r.first r.every) r.rulesR (some O)) (hv : boxK.own w.heap.size w' v O) (hb : Below w.heap.size w w') : OpenR r true w (.returned (.tuple #[v, .int .i64 0])) w' := ⟨hb, v, 0, rfl, .inr (.inr (.inr ⟨h, rfl, O, hN, rfl, hv⟩))⟩
theorem Rel.every_le {r : Rel} (hn : r.n ≤ 5) : r.every ≤ 1048575 := by
  have : 2 ^ (4 * r.n) ≤ 2 ^ 20 := Nat.pow_le_pow_right (by decide) (by omega)
  rw [Rel.every]; omega

set_option maxRecDepth 100000 in
set_option maxHeartbeats 4000000 in
theorem refOpen_any (r : Rel) (hn : r.n ≤ 1000000) (b : Bool) (sv : Value) (w : World) (hS : StintsAt w sv r.stints) : Calls Try.prog 48 #[relV r sv, .bool b] w (OpenR r b w) := by
  obtain ⟨sa, scap, rfl, hs0⟩ := id hS
  clear hs0
  have hb0 := below_alloc (Below.refl _ w) (.cells #[.int .i64 r.rest, .slice sa r.stints.length scap] 24)
  have hx := alloc_at (w := w) (o := .cells #[.int .i64 r.rest, .slice sa r.stints.length scap] 24) rfl
  have hf := hid (refRelays_any r hn (.slice sa r.stints.length scap) _ (hS.below hb0))
  replace hb0 := hid hb0
  replace hS := hid hS
  cases hv : r.valid
  · have hv' := hid hv
    rw [hv] at hf
    clear hv
    go_enter Try.func48, Try.ntmps48
    go_wp2_with (go_at_call 32; with_reducible refine hf.out.mono ?_; rintro e w1 ⟨rfl, hb1⟩; replace hx := hid ((hb1.block _ (cells_of hx).1).trans hx); replace hb0 := hid (below_via hb1 hb0.out); clear hf hb1)
    go_ret2
    exact openR_arg hv'.out hb0.out
  · have hv' := hid hv
    rw [hv] at hf
    clear hv
    cases b
    · go_enter Try.func48, Try.ntmps48
      go_wp2_with (go_at_call 32; with_reducible refine hf.out.mono ?_; rintro e w1 ⟨rfl, hb1⟩; replace hx := hid ((hb1.block _ (cells_of hx).1).trans hx); replace hb0 := hid (below_via hb1 hb0.out); clear hf hb1)
      go_ret2
      exact openR_range hv'.out hb0.out
    · have hn5 := hid (r.ok_of hv'.out).2.2.1
      go_enter Try.func48, Try.ntmps48
      go_upto_region 5 with (go_at_call 32; with_reducible refine hf.out.mono ?_; rintro e w1 ⟨rfl, hb1⟩; replace hx := hid ((hb1.block _ (cells_of hx).1).trans hx); replace hb0 := hid (below_via hb1 hb0.out); clear hf hb1)
      obtain ⟨bx, hbx⟩ : ∃ b, b = w.heap.size := ⟨_, rfl⟩
      rw [← hbx] at hx ⊢
      clear hbx
      refine wp_region_held_at (S := fun W => W.heap[bx]? = some (.cells #[.int .i64 r.rest, .slice sa r.stints.length scap] 24 (0, 0))) (by kernel_rfl) ?_
      intro w2 hw2 _
      have hz : w2.heap[bx]? = some (.cells #[.int .i64 r.rest, .slice sa r.stints.length scap] 24 (0, 0)) := (hw2.block _ (cells_of hx.out).1).trans hx.out
      replace hb0 := hid (below_via hw2 hb0.out)
      clear hx hw2
      try simp only [Array.replicate]
      refine wpAnyH_quiet (i := 0) (v := relV r (.slice sa r.stints.length scap)) rfl (by kernel_rfl) (by kernel_rfl) (by kernel_rfl) (fun _ _ _ h => h) rfl (fun W hW => by obtain ⟨lq, cq⟩ := cells_of hW; go_simp) hz ?_
      refine wpAnyH_quiet (i := 1) (v := relV r (.slice sa r.stints.length scap)) rfl (by kernel_rfl) (by kernel_rfl) (by kernel_rfl) (fun _ _ _ h => h) rfl (fun W hW => by obtain ⟨lq, cq⟩ := cells_of hW; go_simp) hz ?_
      try simp only [Act.put, List.setIfInBounds_toArray]
      have hf := hid (refEvery_any r hn5.out sa scap w2)
      refine wpAnyH_step (i := 2) (by kernel_rfl) rfl ?_
      go_wp2_with (go_at_call 36; with_reducible refine hf.out.mono ?_; rintro e w3 ⟨rfl, hb3⟩; replace hz := (hb3.block _ (cells_of hz).1).trans hz; replace hb0 := hid (below_via hb3 hb0.out); clear hf hb3)
      refine ⟨hz, ?_⟩
      have hf := hid (times_any r hv'.out r.every (Rel.every_le hn5.out) (.slice sa r.stints.length scap) w3 (hS.out.below hb0.out))
      refine wpAnyH_step (i := 3) (by kernel_rfl) rfl ?_
      go_wp2_with (go_at_call 74; with_reducible refine hf.out.mono ?_; rintro e w4 hP; obtain ⟨o, v, hN, rfl, hO, hb4⟩ := hP.out; clear hP; replace hz := (hb4.block _ (cells_of hz).1).trans hz; have hO' := hid (fun O (e : o = some O) => (hO O e).low hb0.out.size); replace hb0 := hid (below_via hb4 hb0.out); replace hN := hid hN; clear hf hb4 hO)
      refine ⟨hz, ?_⟩
      refine wpAnyH_quiet (i := 4) (v := .tuple #[v, .bool o.isSome]) rfl (by kernel_rfl) (by kernel_rfl) (by kernel_rfl) (fun _ _ _ h => h) rfl (fun W hW => by go_simp) hz ?_
      refine wpAnyH_quiet (i := 5) (v := v) rfl (by kernel_rfl) (by kernel_rfl) (by kernel_rfl) (fun _ _ _ h => h) rfl (fun W hW => by go_simp) hz ?_
      refine wpAnyH_quiet (i := 6) (v := .bool o.isSome) rfl (by kernel_rfl) (by kernel_rfl) (by kernel_rfl) (fun _ _ _ h => h) rfl (fun W hW => by go_simp) hz ?_
      refine wpAnyH_step (i := 7) (by kernel_rfl) rfl ?_
      go_wp2
      refine ⟨hz, ?_⟩
      refine wpAnyH_step (i := 8) (by kernel_rfl) rfl ?_
      go_wp2
      refine ⟨hz, ?_⟩
      refine wpAnyH_done (by kernel_rfl) ?_ _
      try simp only [Act.put, List.setIfInBounds_toArray]
      cases o with
      | none =>
        go_wp2
        go_ret2
        exact openR_clash hv'.out hN.out hb0.out
      | some O =>
        go_wp2
        go_ret2
        exact openR_ok hv'.out hN.out (hO'.out O rfl) hb0.out
end Go.Proofs.Ytccgakdaiaigoaa
