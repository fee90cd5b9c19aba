/- The walk of the iterator that 'steps' of package mend returns. -/
import Derived.Test.YtcgkglonnmkfcaaN6
import Derived.RangeFuncNested
import Derived.RangeFuncBound
import Derived.RangeFuncCalls
import Derived.RangeFuncLeaves
import Derived.OwnWalkIn
import Derived.TacticsInMore
import Derived.LoopNIn
import Derived.LoopIn
import Derived.Shelf.Abstract
import Derived.Shelf.RegionOpen
import Derived.BigQuiet
namespace Go.Proofs.Ytcgkglonnmkfcaa
open Go.RowKit Go.Lap
attribute [local go_sem] Oper.semAt_some

/-- A shop whose blocks all lie below a bound. -/
def ShopUnder (B : Nat × Nat) (W : World) (sb : Nat) (M : Mend) (left : Nat) : Prop := ∀ W', (∀ k, (k < B.1 ∧ k ≠ B.2) → ∀ o, W.heap[k]? = some o → W'.heap[k]? = some o) → ShopAt W' sb M left
theorem ShopUnder.at {B : Nat × Nat} {W : World} {sb : Nat} {M : Mend} {left : Nat} (h : ShopUnder B W sb M left) : ShopAt W sb M left := h W (fun _ _ _ h => h)
theorem ShopUnder.keep {B : Nat × Nat} {W W' : World} {sb : Nat} {M : Mend} {left : Nat} (h : ShopUnder B W sb M left) (hk : ∀ k, (k < B.1 ∧ k ≠ B.2) → ∀ o, W.heap[k]? = some o → W'.heap[k]? = some o) : ShopUnder B W' sb M left :=
  fun W2 h2 => h W2 (fun k hk2 o ho => h2 k hk2 o (hk k hk2 o ho))
theorem ShopUnder.below {B : Nat × Nat} {W W' : World} {sb : Nat} {M : Mend} {left : Nat} (h : ShopUnder B W sb M left) (hb : Below W.heap.size W W') : ShopUnder B W' sb M left :=
  h.keep fun k _ _ ho => (hb.block k (Array.getElem?_eq_some_iff.1 ho).1).trans ho
theorem cell_kept {W W' : World} (h : ∀ k, k < W.heap.size → ∀ o, W.heap[k]? = some o → W'.heap[k]? = some o) {a : Addr} {v : Value} (hc : W.cell? a = some v) : W'.cell? a = some v := by
  have hlt := World.block_lt_of_cell? W a hc
  have : W'.heap[a.block]? = W.heap[a.block]? := by
    rw [Array.getElem?_eq_getElem hlt]
    exact h a.block hlt _ (Array.getElem?_eq_getElem hlt)
  exact (World.cell?_of_block this).trans hc
theorem ShopAt.under {w : World} {sb : Nat} {M : Mend} {left : Nat} (h : ShopAt w sb M left) : ShopUnder (w.heap.size, w.heap.size) w sb M left := by
  intro W' hk0
  have hk : ∀ k, k < w.heap.size → ∀ o, w.heap[k]? = some o → W'.heap[k]? = some o := fun k hk => hk0 k ⟨hk, by simp only; omega⟩
  obtain ⟨sv, jv, hsb, ⟨a, cap, rfl, hs⟩, ⟨a', cap', rfl, hj⟩⟩ := h.ex
  refine ⟨_, _, hk sb (cells_of hsb).1 _ hsb, ⟨a, cap, rfl, fun hne => ?_⟩, ⟨a', cap', rfl, fun hne => ?_⟩⟩
  · obtain ⟨b, off, e, hc⟩ := hs hne
    exact ⟨b, off, e, fun k hk2 => cell_kept hk (hc k hk2)⟩
  · obtain ⟨b, off, e, hc⟩ := hj hne
    exact ⟨b, off, e, fun k hk2 f hf => cell_kept hk (hc k hk2 f hf)⟩
/-- Even if a block between is written. -/
theorem shop_under {w0 w : World} {sv jv : Value} {X sb : Nat} {M : Mend} {left : Nat} (hS : IntsAt w0 sv M.setup) (hJ : JobsAt w0 jv M.jobs) (hb : Below w0.heap.size w0 w) (hsb : w.heap[sb]? = some (.cells #[sv, jv, .int .u64 left] 103 (0, 0))) (hX : w0.heap.size ≤ X) (hne : sb ≠ X) : ShopUnder (w.heap.size, X) w sb M left := by
  intro W' hk
  have hk2 : ∀ k, k < w0.heap.size → ∀ o, w0.heap[k]? = some o → W'.heap[k]? = some o := fun k hk3 o ho => hk k ⟨Nat.lt_of_lt_of_le hk3 hb.size, by simp only; omega⟩ o ((hb.block k hk3).trans ho)
  obtain ⟨a, cap, rfl, hs⟩ := hS
  obtain ⟨a', cap', rfl, hj⟩ := hJ
  refine ⟨_, _, hk sb ⟨(cells_of hsb).1, hne⟩ _ hsb, ⟨a, cap, rfl, fun hne => ?_⟩, ⟨a', cap', rfl, fun hne => ?_⟩⟩
  · obtain ⟨b, off, e, hc⟩ := hs hne
    exact ⟨b, off, e, fun k hk3 => cell_kept hk2 (hc k hk3)⟩
  · obtain ⟨b, off, e, hc⟩ := hj hne
    exact ⟨b, off, e, fun k hk3 f hf => cell_kept hk2 (hc k hk3 f hf)⟩

/-- What is so of a work behind which so many jobs are left to do. -/
structure WorkIn (M : Mend) (left n : Nat) (b : Bench) (soon : Int) : Prop where
  b : Bench.In M left n b
  soon0 : 0 ≤ soon
  soon1 : soon + 2000 * n ≤ 100000
theorem WorkIn.next {M : Mend} (hM : M.Ok) {left n : Nat} {b : Bench} {soon : Int} (h : WorkIn M left (n + 1) b soon) {i : Nat} (hi : i < M.jobs.length) (hf : (left ||| b.done).testBit i = false) :
    WorkIn M left n (M.next b i) (M.ends b.kind soon (M.job i) (M.job i).lo) := by
  have h1 := ends_in hM (kind := b.kind) hi h.soon0 (hM.lo i hi)
  have h2 := h.soon1
  exact ⟨next_in hM h.b hi hf, h1.1, by omega⟩
theorem In.done64 {M : Mend} (hM : M.Ok) {left n : Nat} {b : Bench} (h : Bench.In M left n b) : b.done < 64 := by
  have h1 := In.done_lt h
  have h2 : 2 ^ M.jobs.length ≤ 2 ^ 6 := Nat.pow_le_pow_right (by decide) hM.len
  omega
theorem next_work {M : Mend} (hM : M.Ok) {left sb n : Nat} {b : Bench} {soon : Int} (hx : WorkIn M left n b soon) (last : Int) {i : Nat} (hi : i < M.jobs.length) (w : World) (hs : ShopAt w sb M left) :
    Calls Try.prog 78 #[.pointer (some ⟨sb, 0, none⟩), workV b soon last, .int .i64 i] w fun e w' => e = .returned (workV (M.next b i) (M.ends b.kind soon (M.job i) (M.job i).lo) i) ∧ Below w.heap.size w w' := by
  have h1 := hx.b.late1
  have h2 := hx.soon1
  have h3 := In.done64 hM hx.b
  exact next_any M left sb b soon last i hi hM.len (by omega) w hs (hM.kind i hi).1 (hM.kind i hi).2 hM.set (hM.from_ i hi) (hM.lo i hi) (hM.hi i hi) ⟨hx.b.late0, by omega⟩ ⟨hx.soon0, by omega⟩

/-- A step: which job, and the bench behind it. -/
abbrev Step (M : Mend) (left : Nat) (b : Bench) := { x : Nat × Bench // x ∈ stepsL M left b }
abbrev encStep {M : Mend} {left : Nat} {b : Bench} (soon : Int) (x : Step M left b) : Array Value := #[.int .i64 x.1.1, workV x.1.2 (M.ends b.kind soon (M.job x.1.1) (M.job x.1.1).lo) x.1.1]
abbrev wcells (b : Bench) (soon last : Int) : Array Value := #[.int .u64 b.done, .int .i64 b.kind, .int .i64 b.late, .int .i64 soon, .int .i64 last]

theorem stepsTo_prefix (M : Mend) (left : Nat) (b : Bench) (k : Nat) : ∀ d, ∃ post, stepsTo M left b k ++ post = stepsTo M left b (k + d)
  | 0 => ⟨[], by simp⟩
  | d + 1 => by
    obtain ⟨post, h⟩ := stepsTo_prefix M left b k d
    refine ⟨post ++ stepTo M left b (k + d), ?_⟩
    rw [← List.append_assoc, h]; rfl

set_option maxRecDepth 100000 in
set_option maxHeartbeats 2000000 in
theorem steps1_in (n : Nat) (hn : 1 ≤ n) (l sbx rbx sb : Nat) (B : Nat × Nat) (M : Mend) (hM : M.Ok) (left : Nat) (hl : left < 64) (b : Bench) (soon last : Int) (r : Nat) (hin : M.jobs.length = 0 ∨ WorkIn M left (r + 1) b soon) (J Jx : List (Step M left b) → World → Prop) (Kp : World → World → Prop) (W : World)
    (hJ : AbidesFrom W.heap.size J) (hJx : AbidesFrom W.heap.size Jx)
    (hY : ∀ pre x W, J pre W → pre.length < 6 → YieldAt Fence.wide (n - 1) Try.prog l (encStep soon x) W fun e W' =>
      (e = .returned (.bool true) ∧ J (pre ++ [x]) W' ∧ Kp W W') ∨ (e = .returned (.bool false) ∧ Jx (pre ++ [x]) W'))
    (h1 : W.heap[sbx]? = some (.cells (wcells b soon last) 74 (0, 0)))
    (h2 : W.heap[rbx]? = some (.cells #[.pointer (some ⟨sb, 0, none⟩)] 66 (0, 0))) (h3 : ShopUnder B W sb M left)
    (hK : ∀ A B', Kp A B' → A.heap.size ≤ B'.heap.size ∧ ∀ k, k = sbx ∨ k = rbx ∨ (k < B.1 ∧ k ≠ B.2) → ∀ o, A.heap[k]? = some o → B'.heap[k]? = some o)
    (h0 : J [] W) :
    CallsIn Fence.wide n Try.prog 85 #[.func (.yield l) #[] #[], .pointer (some ⟨rbx, 0, none⟩), .pointer (some ⟨sbx, 0, none⟩)] W fun e W' => (∃ v, e = .returned v) ∧
      ((∃ ys, ys.map (fun x => x.1) = stepsL M left b ∧ J ys W') ∨ (∃ pre, (∃ post, pre.map (fun x => x.1) ++ post = stepsL M left b) ∧ Jx pre W')) := by
  refine callsIn_of_wp Try.func85 rfl trivial ?_ rfl
  simp only [Try.ntmps85, List.size_toArray, List.length_cons, List.length_nil, Nat.reduceAdd, Nat.reduceSub, Array.replicate_succ, Array.replicate_zero, List.push_toArray, List.append_toArray, List.nil_append, List.cons_append]
  refine (wpIn_wide (n := n)).2 (wp_scope_straight ((wpIn_wide (n := n)).1 ?_))
  have hc1 := cells_of h1
  have hc2 := cells_of h2
  obtain ⟨sv, jv, hsb, _, hjv⟩ := h3.at.ex
  obtain ⟨ja, jcap, rfl, _⟩ := hjv
  have hc3 := cells_of hsb
  have hlen := hM.len
  refine wpIn_seq (wpIn_label ?_)
  simp only [Exit.then]
  gi_wp2
  gi_loopw [4, 5, 12] (fun _ _ i wr => ∃ (k : Nat) (pre : List (Step M left b)), k ≤ M.jobs.length ∧ i = .int .i64 k ∧ Hid (pre.map (fun x => x.1) = stepsTo M left b k) ∧ Hid (J pre wr) ∧ W.heap.size ≤ wr.heap.size ∧
      Hid (wr.heap[sbx]? = some (.cells (wcells b soon last) 74 (0, 0)) ∧ wr.heap[rbx]? = some (.cells #[.pointer (some ⟨sb, 0, none⟩)] 66 (0, 0)) ∧ ShopUnder B wr sb M left)) (fun _ _ i _ => M.jobs.length - (intOf i).toNat)
  case atStart => exact ⟨0, [], by omega, rfl, hid rfl, hid h0, Nat.le_refl _, hid ⟨h1, h2, h3⟩⟩
  case round =>
    obtain ⟨k, pre, hk, rfl, hpre, hj, hsz, hblk⟩ := hrel
    have hsh := hid hblk.out.2.2
    have hJ' : ∀ w2, Below wr.heap.size wr w2 → J pre w2 := fun w2 hb => hJ pre wr w2 none hj.out ⟨hb.os, hb.tape, hb.output, hb.size, fun k hk _ => hb.block k hk⟩ (fun r e => by cases e)
    have hB' : ∀ w2, Below wr.heap.size wr w2 → Hid (w2.heap[sbx]? = some (.cells (wcells b soon last) 74 (0, 0)) ∧ w2.heap[rbx]? = some (.cells #[.pointer (some ⟨sb, 0, none⟩)] 66 (0, 0)) ∧ ShopUnder B w2 sb M left) := fun w2 hb =>
      hid ⟨(hb.block _ (cells_of hblk.out.1).1).trans hblk.out.1, (hb.block _ (cells_of hblk.out.2.1).1).trans hblk.out.2.1, hblk.out.2.2.below hb⟩
    have hJ' := hid hJ'
    have hB' := hid hB'
    obtain ⟨hl1, hd1⟩ := cells_of hblk.out.1
    obtain ⟨hl2, hd2⟩ := cells_of hblk.out.2.1
    have hY' := hid hY
    have hinx := hid hin
    have hJ := hid hJ
    have hJx := hid hJx
    have hK := hid hK
    clear hY hc1 hc2 hin
    by_cases hlt : k < M.jobs.length
    · have hin' := hid (hinx.out.resolve_left (by omega))
      have hlt' := hid hlt
      obtain ⟨sv', jv', hsb', _, hjv'⟩ := hsh.out.at.ex
      obtain ⟨hl3, hd3⟩ := cells_of hsb'
      clear hc3
      have hdn := In.done64 hM hin'.out.b
      have hor := (bits_u left b.done (by omega) (by omega)).2.1
      have hld : left ||| b.done < 64 := Nat.or_lt_two_pow (n := 6) hl hdn
      have hbit := u64_bit (left ||| b.done) k (by omega)
      obtain ⟨ld, hld2⟩ : ∃ x, left ||| b.done = x := ⟨_, rfl⟩
      rw [hld2] at hor hbit
      have hki : (k : Int) < (M.jobs.length : Int) := by omega
      have hsucc : Hid (stepsTo M left b (k + 1) = stepsTo M left b k ++ stepTo M left b k) := hid rfl
      cases hT : (left ||| b.done).testBit k
      · have hT' := hid hT
        rw [hld2] at hT
        rw [hT] at hbit
        simp only [Bool.false_eq_true, if_false] at hbit
        clear hT
        have hnd' : Hid ((M.next b k).done < 18446744073709551616) := hid (by
          have := In.done64 hM (next_in hM hin'.out.b hlt hT'.out)
          omega)
        clear hld hdn
        cases hB : decide (M.broken left (M.next b k) k = 0)
        · have hB1 : ¬ M.broken left (M.next b k) k = 0 := by simpa using hB
          have hN : (M.broken left (M.next b k) k != 0) = true := by simpa using hB1
          have hskip : Hid (stepsTo M left b (k + 1) = stepsTo M left b k) := hid (by rw [hsucc.out, stepTo, if_neg (by rw [hT'.out]; exact Bool.false_ne_true), if_neg hB1, List.append_nil])
          clear hB hB1
          gi_wp2
          refine (wpIn_wide (n := n)).2 ?_
          go_quiet (fail)
          have hbq := below_drewN (Below.refl wr.heap.size wr) nq
          generalize wr.drewN nq = wq at hbq ⊢
          have hszq := Nat.le_trans hsz hbq.size
          have hbq' := hid hbq
          have hblq := hB'.out _ hbq
          have hsq := hid hblq.out.2.2
          clear hbq hl1 hd1 hl2 hd2 hl3 hd3
          obtain ⟨hl1, hd1⟩ := cells_of hblq.out.1
          obtain ⟨hl2, hd2⟩ := cells_of hblq.out.2.1
          gi_wp2_with (first
            | (refine ⟨trivial, ?_⟩; gi_at_call 78; refine (callsIn_wide.2 (next_work hM hin'.out last hlt'.out _ hsq.out.at)).mono ?_; rintro e w1 ⟨rfl, hb⟩; have hb1 := hid (below_alloc hb (.cells (wcells (M.next b k) (M.ends b.kind soon (M.job k) (M.job k).lo) k) 74)); have hlx := Nat.lt_of_lt_of_le hl2 hb.size; have hcx := (cells_of ((hb.block _ hl2).trans hblq.out.2.1)).2)
            | (refine ⟨trivial, ?_⟩; gi_at_call 79; refine (callsIn_wide.2 (broken_any M hM left (by omega) sb (M.next b k) hnd'.out (M.ends b.kind soon (M.job k) (M.job k).lo) k hlt'.out _ (hsq.out.below hb1.out).at)).mono ?_; rintro e w2 ⟨rfl, hb2⟩; have hb3 := hid (below_via (below_via hb2 hb1.out) hbq'.out); have hlw : w1.heap.size < w2.heap.size := (by have := hb2.size; simp at this; omega); have hcw := (cells_of ((hb2.block w1.heap.size (by simp)).trans (alloc_at rfl))).2))
          go_roundw
          case rel => exact ⟨k + 1, pre, by omega, by go_num, hid (by rw [hpre.out, hskip.out]), hid (hJ'.out _ hb3.out), Nat.le_trans hsz hb3.out.size, hB'.out _ hb3.out⟩
          case measure => simp [intOf]; omega
        · have hB1 : M.broken left (M.next b k) k = 0 := by simpa using hB
          have hN : (M.broken left (M.next b k) k != 0) = false := by simp [hB1]
          have hone : Hid (stepsTo M left b (k + 1) = stepsTo M left b k ++ [(k, M.next b k)]) := hid (by rw [hsucc.out, stepTo, if_neg (by rw [hT'.out]; exact Bool.false_ne_true), if_pos hB1])
          have hmem : Hid ((k, M.next b k) ∈ stepsL M left b) := hid (mem_stepsTo.2 ⟨hlt, hT'.out, rfl, hB1⟩)
          have hlen2 : Hid (pre.length < 6) := hid (by
            have h1 := congrArg List.length hpre.out
            rw [List.length_map] at h1
            have h2 := stepsTo_length M left b k
            omega)
          clear hB hB1
          gi_wp2
          refine (wpIn_wide (n := n)).2 ?_
          go_quiet (fail)
          have hbq := below_drewN (Below.refl wr.heap.size wr) nq
          generalize wr.drewN nq = wq at hbq ⊢
          have hszq := Nat.le_trans hsz hbq.size
          have hbq' := hid hbq
          have hblq := hB'.out _ hbq
          have hsq := hid hblq.out.2.2
          clear hbq hl1 hd1 hl2 hd2 hl3 hd3
          obtain ⟨hl1, hd1⟩ := cells_of hblq.out.1
          obtain ⟨hl2, hd2⟩ := cells_of hblq.out.2.1
          gi_wp2_with (first
            | (refine ⟨trivial, ?_⟩; gi_at_call 78; refine (callsIn_wide.2 (next_work hM hin'.out last hlt'.out _ hsq.out.at)).mono ?_; rintro e w1 ⟨rfl, hb⟩; have hb1 := hid (below_alloc hb (.cells (wcells (M.next b k) (M.ends b.kind soon (M.job k) (M.job k).lo) k) 74)); have hlx := Nat.lt_of_lt_of_le hl2 hb.size; have hcx := (cells_of ((hb.block _ hl2).trans hblq.out.2.1)).2)
            | (refine ⟨trivial, ?_⟩; gi_at_call 79; refine (callsIn_wide.2 (broken_any M hM left (by omega) sb (M.next b k) hnd'.out (M.ends b.kind soon (M.job k) (M.job k).lo) k hlt'.out _ (hsq.out.below hb1.out).at)).mono ?_; rintro e w2 ⟨rfl, hb2⟩; have hb3 := hid (below_via (below_via hb2 hb1.out) hbq'.out); have hlw : w1.heap.size < w2.heap.size := (by have := hb2.size; simp at this; omega); have hcw := (cells_of ((hb2.block w1.heap.size (by simp)).trans (alloc_at rfl))).2; obtain ⟨fn, tm, asg, bdy, hy, hR⟩ := hY'.out pre ⟨(k, M.next b k), hmem.out⟩ w2 (hJ'.out _ hb3.out) hlen2.out))
          refine hR.mono ?_
          rintro e w3 (⟨rfl, hj3, hk3⟩ | ⟨rfl, hjx3⟩)
          · have hk4 := hid (hK.out _ _ hk3)
            gi_wp2
            go_roundw
            case rel =>
              have hb4 := (hB'.out _ hb3.out).out
              refine ⟨k + 1, pre ++ [⟨(k, M.next b k), hmem.out⟩], by omega, by go_num, hid ?_, hid hj3, Nat.le_trans hsz (Nat.le_trans hb3.out.size hk4.out.1), hid ⟨hk4.out.2 _ (.inl rfl) _ hb4.1, hk4.out.2 _ (.inr (.inl rfl)) _ hb4.2.1, hb4.2.2.keep fun i hi => hk4.out.2 i (.inr (.inr hi))⟩⟩
              rw [List.map_append, hpre.out, hone.out]
              rfl
            case measure => simp [intOf]; omega
          · gi_wp2
            unfold Exit.noGoto
            refine bodyPost_ret (results_none rfl _ _ _) rfl ?_
            refine ⟨⟨_, rfl⟩, .inr ⟨_, ?_, hjx3⟩⟩
            obtain ⟨post, hpost⟩ := stepsTo_prefix M left b (k + 1) (M.jobs.length - (k + 1))
            refine ⟨post, ?_⟩
            rw [show k + 1 + (M.jobs.length - (k + 1)) = M.jobs.length by omega, hone.out] at hpost
            rw [List.map_append, hpre.out]
            exact hpost
      · have hT' := hid hT
        rw [hld2] at hT
        rw [hT] at hbit
        simp only [if_true] at hbit
        clear hT
        have hskip : Hid (stepsTo M left b (k + 1) = stepsTo M left b k) := hid (by rw [hsucc.out, stepTo, if_pos hT'.out, List.append_nil])
        clear hld hdn
        gi_wp2
        refine (wpIn_wide (n := n)).2 ?_
        go_quiet (fail)
        have hbq := below_drewN (Below.refl wr.heap.size wr) nq
        generalize wr.drewN nq = wq at hbq ⊢
        have hszq := Nat.le_trans hsz hbq.size
        have hbq' := hid hbq
        have hblq := hB'.out _ hbq
        have hsq := hid hblq.out.2.2
        clear hbq hl1 hd1 hl2 hd2 hl3 hd3
        obtain ⟨hl1, hd1⟩ := cells_of hblq.out.1
        obtain ⟨hl2, hd2⟩ := cells_of hblq.out.2.1
        gi_wp2
        go_roundw
        case rel => exact ⟨k + 1, pre, by omega, by go_num, hid (by rw [hpre.out, hskip.out]), hid (hJ'.out _ hbq'.out), hszq, hblq⟩
        case measure => simp [intOf]; omega
    · obtain rfl : k = M.jobs.length := by omega
      gi_wp2
      unfold Exit.noGoto
      go_end0
      exact ⟨⟨_, rfl⟩, .inl ⟨pre, hpre.out, hJ'.out _ (Below.refl _ _)⟩⟩

end Go.Proofs.Ytcgkglonnmkfcaa
