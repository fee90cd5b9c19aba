/- The walk of the iterator that 'steps' returns. -/
import Derived.Test.YtkgdejhooghknaaB2
import Derived.RangeFuncNested
import Derived.RangeFuncBound
import Derived.RangeFuncCalls
import Derived.RangeFuncLeaves
import Derived.OwnWalkIn
import Derived.TacticsInMore
import Derived.LoopNIn
import Derived.LoopIn
import Derived.Shelf.Abstract
import Derived.Shelf.RegionOpen
namespace Go.Proofs.Ytkgdejhooghknaa
open Go.RowKit Go.Lap
attribute [local go_sem] Oper.semAt_some

/-- A step: who rides, and the state behind it. -/
abbrev Step (R : Rest) (s : St) := { x : Int × St // x ∈ stepsL R s }
abbrev encStep {R : Rest} {s : St} (x : Step R s) : Array Value := #[.int .i64 x.1.1, sval x.1.2]

set_option maxRecDepth 100000 in
set_option maxHeartbeats 1000000 in
theorem steps1_in (n : Nat) (hn : 1 ≤ n) (l sbx rbx rb : Nat) (R : Rest) (s : St) (J Jx : List (Step R s) → World → Prop) (Kp : World → World → Prop) (W : World)
    (hJ : AbidesFrom W.heap.size J) (hJx : AbidesFrom W.heap.size Jx) (hs : s.Ok) (hh : s.hour < 16) (hR0 : R.r0.Ok) (hR1 : R.r1.Ok)
    (hY : ∀ pre x W, J pre W → pre.length < 2 → YieldAt Fence.wide (n - 1) Try.prog l (encStep x) W fun e W' =>
      (e = .returned (.bool true) ∧ J (pre ++ [x]) W' ∧ Kp W W') ∨ (e = .returned (.bool false) ∧ Jx (pre ++ [x]) W'))
    (h1 : W.heap[sbx]? = some (.cells #[.int .i64 s.rider, .int .i64 s.run, .int .i64 s.before, .int .i64 s.hour, .int .i64 s.h0, .int .i64 s.h1] 71 (0, 0)))
    (h2 : W.heap[rbx]? = some (.cells #[.pointer (some ⟨rb, 0, none⟩)] 64 (0, 0))) (h3 : W.heap[rb]? = some (.cells (restCells R) 82 (0, 0)))
    (hK : ∀ A B, Kp A B → A.heap.size ≤ B.heap.size ∧ ∀ k, k = sbx ∨ k = rbx ∨ k = rb → ∀ o, A.heap[k]? = some o → B.heap[k]? = some o)
    (h0 : J [] W) :
    CallsIn Fence.wide n Try.prog 102 #[.func (.yield l) #[] #[], .pointer (some ⟨sbx, 0, none⟩), .pointer (some ⟨rbx, 0, none⟩)] W fun e W' => (∃ v, e = .returned v) ∧
      ((∃ ys, ys.map (fun x => x.1) = stepsL R s ∧ J ys W') ∨ (∃ pre, (∃ post, pre.map (fun x => x.1) ++ post = stepsL R s) ∧ Jx pre W')) := by
  refine callsIn_of_wp Try.func102 rfl trivial ?_ rfl
  simp only [Try.ntmps102, List.size_toArray, List.length_cons, List.length_nil, Nat.reduceAdd, Nat.reduceSub, Array.replicate_succ, Array.replicate_zero, List.push_toArray, List.append_toArray, List.nil_append, List.cons_append]
  refine (wpIn_wide (n := n)).2 (wp_scope_straight ((wpIn_wide (n := n)).1 ?_))
  refine wpIn_seq (wpIn_label ?_)
  have hc1 := cells_of h1
  have hc2 := cells_of h2
  simp only [Exit.then]
  gi_wp2
  gi_loopw [6] (fun i wr => ∃ (k : Nat) (pre : List (Step R s)), k ≤ 2 ∧ i = .int .i64 k ∧ Hid (pre.map (fun x => x.1) = stepsTo R s k) ∧ Hid (J pre wr) ∧ W.heap.size ≤ wr.heap.size ∧
      Hid (wr.heap[sbx]? = some (.cells #[.int .i64 s.rider, .int .i64 s.run, .int .i64 s.before, .int .i64 s.hour, .int .i64 s.h0, .int .i64 s.h1] 71 (0, 0)) ∧
      wr.heap[rbx]? = some (.cells #[.pointer (some ⟨rb, 0, none⟩)] 64 (0, 0)) ∧ wr.heap[rb]? = some (.cells (restCells R) 82 (0, 0)))) (fun i _ => 2 - (intOf i).toNat)
  case atStart => exact ⟨0, [], by omega, rfl, hid rfl, hid h0, Nat.le_refl _, hid ⟨h1, h2, h3⟩⟩
  case round =>
    obtain ⟨k, pre, hk, rfl, hpre, hj, hsz, hblk⟩ := hrel
    have hq : ∀ w1, Below wr.heap.size wr w1 → (∀ o, (w1.alloc o).heap[rb]? = some (.cells (restCells R) 82 (0, 0))) := fun w1 hb o =>
      (Below.heap_alloc _ _ _ (Nat.lt_of_lt_of_le (cells_of hblk.out.2.2).1 hb.size)).trans ((hb.block rb (cells_of hblk.out.2.2).1).trans hblk.out.2.2)
    have hq' : ∀ w1 o w2, Below wr.heap.size wr w1 → Below (w1.alloc o).heap.size (w1.alloc o) w2 → Below wr.heap.size wr w2 := fun w1 o w2 h1 h2 => below_via h2 (below_alloc h1 o)
    have hJ' : ∀ w2, Below wr.heap.size wr w2 → J pre w2 := fun w2 hb => hJ pre wr w2 none hj.out ⟨hb.os, hb.tape, hb.output, hb.size, fun k hk _ => hb.block k hk⟩ (fun r e => by cases e)
    have hB' : ∀ w2, Below wr.heap.size wr w2 → Hid (w2.heap[sbx]? = some (.cells #[.int .i64 s.rider, .int .i64 s.run, .int .i64 s.before, .int .i64 s.hour, .int .i64 s.h0, .int .i64 s.h1] 71 (0, 0)) ∧
        w2.heap[rbx]? = some (.cells #[.pointer (some ⟨rb, 0, none⟩)] 64 (0, 0)) ∧ w2.heap[rb]? = some (.cells (restCells R) 82 (0, 0))) := fun w2 hb =>
      hid ⟨(hb.block _ (cells_of hblk.out.1).1).trans hblk.out.1, (hb.block _ (cells_of hblk.out.2.1).1).trans hblk.out.2.1, (hb.block _ (cells_of hblk.out.2.2).1).trans hblk.out.2.2⟩
    have hq := hid hq
    have hq' := hid hq'
    have hJ' := hid hJ'
    have hB' := hid hB'
    obtain ⟨hl1, hd1⟩ := cells_of hblk.out.1
    obtain ⟨hl2, hd2⟩ := cells_of hblk.out.2.1
    clear hc1 hc2
    have hY' := hid hY
    have hJ := hid hJ
    have hJx := hid hJx
    have hK := hid hK
    clear hY
    obtain rfl | rfl | rfl : k = 0 ∨ k = 1 ∨ k = 2 := by omega
    · have hok := hid (St.next_ok hs (r := 0) (by omega) (by omega) hh)
      cases hB : decide (broken R (s.next 0) = 0)
      · have hB1 : ¬ broken R (s.next 0) = 0 := by simpa using hB
        have hN : (broken R (s.next 0) != 0) = true := by simpa using hB1
        have hB1 := hid hB1
        clear hB
        gi_wp2_with (first
          | (refine ⟨trivial, ?_⟩; gi_at_call 51; refine (callsIn_wide.2 (next_any s _ _ hs (by omega) (by omega) hh)).mono ?_; rintro e w1 ⟨rfl, hb⟩; obtain ⟨hc, hf⟩ := bcell hb; have hlx := Nat.lt_of_lt_of_le hl2 hb.size)
          | (refine ⟨trivial, ?_⟩; gi_at_call 52; refine (callsIn_wide.2 (broken_any rb R (s.next 0) _ hR0 hR1 hok.out (by simp [St.next]) (by have := hs.hour0; simp [St.next]; omega) (hq.out _ hb _))).mono ?_; rintro e w2 ⟨rfl, hb2⟩; obtain ⟨hc2, hf2⟩ := bcell hb2; have hb3 := hq'.out _ _ _ hb hb2; have hlw : w1.heap.size < w2.heap.size := (by have := hb2.size; simp at this; omega)))
        go_roundw
        case rel =>
          refine ⟨1, pre, by omega, by go_num, hid ?_, hid (hJ'.out _ hb3), Nat.le_trans hsz hb3.size, hB'.out _ hb3⟩
          rw [hpre.out]
          show _ = stepsTo R s 0 ++ (if broken R (s.next 0) = 0 then _ else [])
          rw [if_neg hB1.out]; simp
        case measure => simp [intOf]
      · have hB1 : broken R (s.next 0) = 0 := by simpa using hB
        have hN : (broken R (s.next 0) != 0) = false := by simp [hB1]
        have hB1 := hid hB1
        clear hB
        have hmem : ((0 : Int), s.next 0) ∈ stepsL R s := by
          have : broken R (s.next 0) = 0 := hB1.out
          simp [stepsL, stepsTo, this]
        have hlen : pre.length < 2 := by
          have := congrArg List.length hpre.out
          rw [List.length_map] at this
          have h2 := stepsTo_length R s 0
          omega
        have hlen := hid hlen
        have hmem := hid hmem
        gi_wp2_with (first
          | (refine ⟨trivial, ?_⟩; gi_at_call 51; refine (callsIn_wide.2 (next_any s _ _ hs (by omega) (by omega) hh)).mono ?_; rintro e w1 ⟨rfl, hb⟩; obtain ⟨hc, hf⟩ := bcell hb; have hlx := Nat.lt_of_lt_of_le hl2 hb.size)
          | (refine ⟨trivial, ?_⟩; gi_at_call 52; refine (callsIn_wide.2 (broken_any rb R (s.next 0) _ hR0 hR1 hok.out (by simp [St.next]) (by have := hs.hour0; simp [St.next]; omega) (hq.out _ hb _))).mono ?_; rintro e w2 ⟨rfl, hb2⟩; obtain ⟨hc2, hf2⟩ := bcell hb2; have hb3 := hq'.out _ _ _ hb hb2; have hlw : w1.heap.size < w2.heap.size := (by have := hb2.size; simp at this; omega); obtain ⟨fn, tm, asg, bdy, hy, hR⟩ := hY'.out pre ⟨((0 : Int), s.next 0), hmem.out⟩ w2 (hJ'.out _ hb3) hlen.out))
        refine hR.mono ?_
        rintro e w3 (⟨rfl, hj3, hk3⟩ | ⟨rfl, hjx3⟩)
        · have hk4 := hid (hK.out _ _ hk3)
          gi_wp2
          go_roundw
          case rel =>
            have hb4 := (hB'.out _ hb3).out
            refine ⟨1, pre ++ [⟨((0 : Int), s.next 0), hmem.out⟩], by omega, by go_num, hid ?_, hid hj3, Nat.le_trans hsz (Nat.le_trans hb3.size hk4.out.1), hid ⟨hk4.out.2 _ (.inl rfl) _ hb4.1, hk4.out.2 _ (.inr (.inl rfl)) _ hb4.2.1, hk4.out.2 _ (.inr (.inr rfl)) _ hb4.2.2⟩⟩
            rw [List.map_append, hpre.out]
            show _ = stepsTo R s 0 ++ (if broken R (s.next 0) = 0 then [(((0 : Nat) : Int), s.next ((0 : Nat) : Int))] else [])
            rw [if_pos hB1.out]; rfl
          case measure => simp [intOf]
        · gi_wp2
          unfold Exit.noGoto
          refine bodyPost_ret (results_none rfl _ _ _) rfl ?_
          refine ⟨⟨_, rfl⟩, .inr ⟨_, ⟨if broken R (s.next ((1 : Nat) : Int)) = 0 then [(((1 : Nat) : Int), s.next ((1 : Nat) : Int))] else [], ?_⟩, hjx3⟩⟩
          rw [List.map_append, hpre.out]
          show _ = (stepsTo R s 0 ++ (if broken R (s.next ((0 : Nat) : Int)) = 0 then [(((0 : Nat) : Int), s.next ((0 : Nat) : Int))] else [])) ++ _
          rw [if_pos (show broken R (s.next ((0 : Nat) : Int)) = 0 from hB1.out)]; rfl
    · have hok := hid (St.next_ok hs (r := 1) (by omega) (by omega) hh)
      cases hB : decide (broken R (s.next 1) = 0)
      · have hB1 : ¬ broken R (s.next 1) = 0 := by simpa using hB
        have hN : (broken R (s.next 1) != 0) = true := by simpa using hB1
        have hB1 := hid hB1
        clear hB
        gi_wp2_with (first
          | (refine ⟨trivial, ?_⟩; gi_at_call 51; refine (callsIn_wide.2 (next_any s _ _ hs (by omega) (by omega) hh)).mono ?_; rintro e w1 ⟨rfl, hb⟩; obtain ⟨hc, hf⟩ := bcell hb; have hlx := Nat.lt_of_lt_of_le hl2 hb.size)
          | (refine ⟨trivial, ?_⟩; gi_at_call 52; refine (callsIn_wide.2 (broken_any rb R (s.next 1) _ hR0 hR1 hok.out (by simp [St.next]) (by have := hs.hour0; simp [St.next]; omega) (hq.out _ hb _))).mono ?_; rintro e w2 ⟨rfl, hb2⟩; obtain ⟨hc2, hf2⟩ := bcell hb2; have hb3 := hq'.out _ _ _ hb hb2; have hlw : w1.heap.size < w2.heap.size := (by have := hb2.size; simp at this; omega)))
        go_roundw
        case rel =>
          refine ⟨2, pre, by omega, by go_num, hid ?_, hid (hJ'.out _ hb3), Nat.le_trans hsz hb3.size, hB'.out _ hb3⟩
          rw [hpre.out]
          show _ = stepsTo R s 1 ++ (if broken R (s.next 1) = 0 then _ else [])
          rw [if_neg hB1.out]; simp
        case measure => simp [intOf]
      · have hB1 : broken R (s.next 1) = 0 := by simpa using hB
        have hN : (broken R (s.next 1) != 0) = false := by simp [hB1]
        have hB1 := hid hB1
        clear hB
        have hmem : ((1 : Int), s.next 1) ∈ stepsL R s := by
          have : broken R (s.next 1) = 0 := hB1.out
          simp [stepsL, stepsTo, this]
        have hlen : pre.length < 2 := by
          have := congrArg List.length hpre.out
          rw [List.length_map] at this
          have h2 := stepsTo_length R s 1
          omega
        have hlen := hid hlen
        have hmem := hid hmem
        gi_wp2_with (first
          | (refine ⟨trivial, ?_⟩; gi_at_call 51; refine (callsIn_wide.2 (next_any s _ _ hs (by omega) (by omega) hh)).mono ?_; rintro e w1 ⟨rfl, hb⟩; obtain ⟨hc, hf⟩ := bcell hb; have hlx := Nat.lt_of_lt_of_le hl2 hb.size)
          | (refine ⟨trivial, ?_⟩; gi_at_call 52; refine (callsIn_wide.2 (broken_any rb R (s.next 1) _ hR0 hR1 hok.out (by simp [St.next]) (by have := hs.hour0; simp [St.next]; omega) (hq.out _ hb _))).mono ?_; rintro e w2 ⟨rfl, hb2⟩; obtain ⟨hc2, hf2⟩ := bcell hb2; have hb3 := hq'.out _ _ _ hb hb2; have hlw : w1.heap.size < w2.heap.size := (by have := hb2.size; simp at this; omega); obtain ⟨fn, tm, asg, bdy, hy, hR⟩ := hY'.out pre ⟨((1 : Int), s.next 1), hmem.out⟩ w2 (hJ'.out _ hb3) hlen.out))
        refine hR.mono ?_
        rintro e w3 (⟨rfl, hj3, hk3⟩ | ⟨rfl, hjx3⟩)
        · have hk4 := hid (hK.out _ _ hk3)
          gi_wp2
          go_roundw
          case rel =>
            have hb4 := (hB'.out _ hb3).out
            refine ⟨2, pre ++ [⟨((1 : Int), s.next 1), hmem.out⟩], by omega, by go_num, hid ?_, hid hj3, Nat.le_trans hsz (Nat.le_trans hb3.size hk4.out.1), hid ⟨hk4.out.2 _ (.inl rfl) _ hb4.1, hk4.out.2 _ (.inr (.inl rfl)) _ hb4.2.1, hk4.out.2 _ (.inr (.inr rfl)) _ hb4.2.2⟩⟩
            rw [List.map_append, hpre.out]
            show _ = stepsTo R s 1 ++ (if broken R (s.next 1) = 0 then [(((1 : Nat) : Int), s.next ((1 : Nat) : Int))] else [])
            rw [if_pos hB1.out]; rfl
          case measure => simp [intOf]
        · gi_wp2
          unfold Exit.noGoto
          refine bodyPost_ret (results_none rfl _ _ _) rfl ?_
          refine ⟨⟨_, rfl⟩, .inr ⟨_, ⟨[], ?_⟩, hjx3⟩⟩
          rw [List.map_append, hpre.out, List.append_nil]
          show _ = stepsTo R s 1 ++ (if broken R (s.next ((1 : Nat) : Int)) = 0 then [(((1 : Nat) : Int), s.next ((1 : Nat) : Int))] else [])
          rw [if_pos (show broken R (s.next ((1 : Nat) : Int)) = 0 from hB1.out)]; rfl
    · gi_wp2
      unfold Exit.noGoto
      go_end0
      exact ⟨⟨_, rfl⟩, .inl ⟨pre, hpre.out, hJ'.out _ (Below.refl _ _)⟩⟩

/-- What a round of the loop over the steps keeps. -/
def StepKp (sbx rbx rb : Nat) (A B : World) : Prop := A.heap.size ≤ B.heap.size ∧ ∀ k, k = sbx ∨ k = rbx ∨ k = rb → ∀ o, A.heap[k]? = some o → B.heap[k]? = some o

theorem stepKp_t {sbx rbx rb : Nat} {A B C : World} (h : StepKp sbx rbx rb A B) (k : StepKp sbx rbx rb B C) : StepKp sbx rbx rb A C :=
  ⟨Nat.le_trans h.1 k.1, fun j hj o ho => k.2 j hj o (h.2 j hj o ho)⟩

theorem stepKp_b {sbx rbx rb : Nat} {w : World} (h1 : sbx < w.heap.size) (h2 : rbx < w.heap.size) (h3 : rb < w.heap.size) (W : World) (l : Nat) (o o' : Obj) (hl : w.heap.size ≤ l) (_ : W.heap[l]? = some o) (_ : o.isCells = false) (_ : o.isWalk = false) :
    StepKp sbx rbx rb W (W.putObj l o') :=
  ⟨by simp, fun k hk p hp => (World.putObj_heap_other (by rcases hk with rfl | rfl | rfl <;> omega)).trans hp⟩

theorem steps_stops (n : Nat) (hn : 1 ≤ n) (sbx rbx rb : Nat) (R : Rest) (s : St) (hs : s.Ok) (hh : s.hour < 16) (hR0 : R.r0.Ok) (hR1 : R.r1.Ok) (w : World)
    (h1 : w.heap[sbx]? = some (.cells #[.int .i64 s.rider, .int .i64 s.run, .int .i64 s.before, .int .i64 s.hour, .int .i64 s.h0, .int .i64 s.h1] 71 (0, 0)))
    (h2 : w.heap[rbx]? = some (.cells #[.pointer (some ⟨rb, 0, none⟩)] 64 (0, 0))) (h3 : w.heap[rb]? = some (.cells (restCells R) 82 (0, 0))) :
    SeqStopsK Fence.wide n Try.prog 102 #[.pointer (some ⟨sbx, 0, none⟩), .pointer (some ⟨rbx, 0, none⟩)] (encStep (R := R) (s := s)) (StepKp sbx rbx rb) (fun ys => ys.map (fun x => x.1) = stepsL R s) (fun pre => ∃ post, pre.map (fun x => x.1) ++ post = stepsL R s) 2 w :=
  fun l J Jx W hW hJ hJx hY h0 => steps1_in n hn l sbx rbx rb R s J Jx (StepKp sbx rbx rb) W hJ hJx hs hh hR0 hR1 hY
    ((hW.block _ (cells_of h1).1).trans h1) ((hW.block _ (cells_of h2).1).trans h2) ((hW.block _ (cells_of h3).1).trans h3) (fun _ _ h => h) h0

set_option maxHeartbeats 400000 in
theorem steps_any (rb : Nat) (s : St) (w : World) :
    Calls Try.prog 86 #[.pointer (some ⟨rb, 0, none⟩), sval s] w fun e w' => e = .returned (.func (.func 102) #[] #[.pointer (some ⟨w.heap.size + 1, 0, none⟩), .pointer (some ⟨w.heap.size, 0, none⟩)]) ∧
      w' = (w.alloc (.cells #[.pointer (some ⟨rb, 0, none⟩)] 64)).alloc (.cells #[.int .i64 s.rider, .int .i64 s.run, .int .i64 s.before, .int .i64 s.hour, .int .i64 s.h0, .int .i64 s.h1] 71) := by
  have hmf := hmf
  go_enter Try.func86, Try.ntmps86
  go_wp2
  go_ret
  exact ⟨rfl, rfl⟩

theorem steps_at (rb : Nat) (s : St) (w : World) :
    Calls Try.prog 86 #[.pointer (some ⟨rb, 0, none⟩), sval s] w fun e w' => ∃ sbx rbx, e = .returned (.func (.func 102) #[] #[.pointer (some ⟨sbx, 0, none⟩), .pointer (some ⟨rbx, 0, none⟩)]) ∧
      Below w.heap.size w w' ∧ w.heap.size ≤ sbx ∧ w.heap.size ≤ rbx ∧
      w'.heap[sbx]? = some (.cells #[.int .i64 s.rider, .int .i64 s.run, .int .i64 s.before, .int .i64 s.hour, .int .i64 s.h0, .int .i64 s.h1] 71 (0, 0)) ∧ w'.heap[rbx]? = some (.cells #[.pointer (some ⟨rb, 0, none⟩)] 64 (0, 0)) :=
  (steps_any rb s w).mono fun e w' ⟨he, hw⟩ => by
    subst hw
    exact ⟨_, _, he, below_alloc (below_alloc (Below.refl _ _) _) _, by omega, by omega, alloc_at (by simp), alloc_old (by simp) (alloc_at rfl)⟩

end Go.Proofs.Ytkgdejhooghknaa
