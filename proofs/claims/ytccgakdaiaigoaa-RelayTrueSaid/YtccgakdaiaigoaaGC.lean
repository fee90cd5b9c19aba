/- The walk of the iterator of rules. The walk of spans: what was written in all entries. -/
import Derived.Test.YtccgakdaiaigoaaGB
import Derived.Test.YtccgakdaiaigoaaGK
namespace Go.Proofs.Ytccgakdaiaigoaa
open Go.RowKit Go.Lap Go.Shelf
attribute [local go_sem] Oper.semAt_some

def riderK : KeyKind Try.prog Int := intKeys 3 .i64 (by kernel_rfl)
/-- What is known of the last stint of each rider. -/
def Rel.lastF (r : Rel) (i : Nat) : Int → Option Value := fun rd => (r.prev rd i).map fun k => .int .i64 (k : Nat)
theorem Rel.lastF_zero (r : Rel) : r.lastF 0 = fun _ => none := rfl
theorem Rel.lastF_succ (r : Rel) (i : Nat) : r.lastF (i + 1) = upd (r.lastF i) (r.st i).rider (.int .i64 (i : Nat)) := by
  funext rd
  simp only [Rel.lastF, Rel.prev, upd]
  by_cases h : (r.st i).rider = rd
  · rw [if_pos h, if_pos h.symm]; rfl
  · rw [if_neg h, if_neg (fun e => h e.symm)]

/-- What lies in memory while the iterator of rules runs. -/
structure RulesAt (W0 : World) (B m rb : Nat) (r : Rel) (sv : Value) (i : Nat) (W : World) : Prop where
  size : W0.heap.size ≤ W.heap.size
  box : W.heap[rb]? = some (.cells #[.int .i64 r.rest, sv] 87 (0, 0))
  st : StU B W sv r.stints
  map : ∃ es c, W.heap[m]? = some (.map es c) ∧ Tells riderK (r.lastF i) es c
theorem RulesAt.below {W0 : World} {B m rb : Nat} {r : Rel} {sv : Value} {i : Nat} {W W' : World} (h : RulesAt W0 B m rb r sv i W) (hb : Below W.heap.size W W') : RulesAt W0 B m rb r sv i W' := by
  obtain ⟨es, c, hm, ht⟩ := h.map
  exact ⟨Nat.le_trans h.size hb.size, (hb.block _ (cells_of h.box).1).trans h.box, h.st.below hb, es, c, (hb.block m (Array.getElem?_eq_some_iff.1 hm).1).trans hm, ht⟩
theorem RulesAt.kp {W0 : World} {B m rb tb : Nat} {r : Rel} {sv : Value} {i : Nat} {W W' : World} (h : RulesAt W0 B m rb r sv i W) (hk : TabKp tb W W') (hB : B ≤ tb) (h1 : rb ≠ tb) (h2 : m ≠ tb) : RulesAt W0 B m rb r sv i W' := by
  obtain ⟨es, c, hm, ht⟩ := h.map
  exact ⟨Nat.le_trans h.size hk.1, hk.cells h.box h1, h.st.kp hk hB, es, c, hk.map hm h2, ht⟩
theorem cell_putObj {W : World} {m b o : Nat} {p : Obj} (h : b ≠ m) : (W.putObj m p).cell? ⟨b, o, none⟩ = W.cell? ⟨b, o, none⟩ := World.cell?_of_block (World.putObj_heap_other h)
theorem StU.put {B : Nat} {w : World} {v : Value} {L : List Stint} {m : Nat} (h : StU B w v L) (hm : B ≤ m) (o : Obj) : StU B (w.putObj m o) v L := by
  obtain ⟨a, cap, rfl, hx⟩ := h
  refine ⟨a, cap, rfl, fun hne => ?_⟩
  obtain ⟨b, off, hb, e, hc⟩ := hx hne
  exact ⟨b, off, hb, e, fun k hkk f hf => (cell_putObj (by omega)).trans (hc k hkk f hf)⟩
theorem RulesAt.put {W0 : World} {B m rb : Nat} {r : Rel} {sv : Value} {i : Nat} {W : World} (h : RulesAt W0 B m rb r sv i W) (hB : B ≤ m) (h1 : rb ≠ m) {es : Array MapEntry} {c : Nat} (ht : Tells riderK (upd (r.lastF i) (r.st i).rider (.int .i64 (i : Nat))) es c) : RulesAt W0 B m rb r sv (i + 1) (W.putObj m (.map es c)) := by
  obtain ⟨es0, c0, hm, _⟩ := h.map
  refine ⟨by simpa using h.size, (World.putObj_heap_other h1).trans h.box, h.st.put hB _, es, c, World.putObj_heap_same (Array.getElem?_eq_some_iff.1 hm).1, by rw [r.lastF_succ]; exact ht⟩

/-- A bound that fits. -/
abbrev BdF := { x : Bd // x.fit }
abbrev encB (x : BdF) : Array Value := #[.agg (bdV x.1)]

theorem Rel.ownB_len (r : Rel) (i : Nat) : (r.ownB i).length ≤ 5 ∧ 3 ≤ (r.ownB i).length := by
  simp only [Rel.ownB]
  split <;> split <;> simp
theorem Rel.flat_len (r : Rel) : ∀ i, ((List.range i).flatMap r.ownB).length ≤ 5 * i
  | 0 => by simp
  | i + 1 => by
    have h1 := r.flat_len i
    have h2 := (r.ownB_len i).1
    rw [List.range_succ, List.flatMap_append, List.length_append]
    simp only [List.flatMap_cons, List.flatMap_nil, List.append_nil]
    omega
theorem Rel.own_fit {r : Rel} (hv : r.valid = true) {i q : Nat} {x : Bd} (hi : i < r.n) (h : (r.ownB i)[q]? = some x) : x.fit :=
  r.fit_known (set := 0) hv (Rel.mem_known.2 (.inl ⟨i, hi, List.mem_of_getElem? h⟩))
theorem Rel.own_zero {r : Rel} {i : Nat} (hi : i = 0) : r.ownB i = [⟨2 * i, 10, 0⟩, ⟨10, 2 * i + 1, 600⟩, ⟨2 * i + 1, 2 * i, -1⟩] := by
  subst hi; simp [Rel.ownB, Rel.prev]
theorem Rel.own_one {r : Rel} {i : Nat} (hi : 0 < i) (h : r.prev (r.st i).rider i = none) : r.ownB i = [⟨2 * i, 10, 0⟩, ⟨10, 2 * i + 1, 600⟩, ⟨2 * i + 1, 2 * i, -1⟩] ++ [⟨2 * i, 2 * i - 2, -1⟩] := by
  simp [Rel.ownB, hi, h]
theorem Rel.own_two {r : Rel} {i k : Nat} (hi : 0 < i) (h : r.prev (r.st i).rider i = some k) : r.ownB i = ([⟨2 * i, 10, 0⟩, ⟨10, 2 * i + 1, 600⟩, ⟨2 * i + 1, 2 * i, -1⟩] ++ [⟨2 * i, 2 * i - 2, -1⟩]) ++ [⟨2 * i, 2 * k + 1, -r.rest⟩] := by
  simp [Rel.ownB, hi, h]

set_option maxRecDepth 100000 in
set_option maxHeartbeats 4000000 in
theorem rules1_in (n : Nat) (hn : 1 ≤ n) (l rb tb B : Nat) (r : Rel) (hv : r.valid = true) (sv : Value) (J Jx : List BdF → World → Prop) (W : World)
    (hJ : AbidesFrom W.heap.size J) (hJx : AbidesFrom W.heap.size Jx)
    (hY : ∀ pre x W', J pre W' → pre.length < 30 → YieldAt Fence.wide (n - 1) Try.prog l (encB x) W' fun e W2 =>
      (e = .returned (.bool true) ∧ J (pre ++ [x]) W2 ∧ TabKp tb W' W2) ∨ (e = .returned (.bool false) ∧ Jx (pre ++ [x]) W2))
    (h1 : W.heap[rb]? = some (.cells #[.int .i64 r.rest, sv] 87 (0, 0))) (h2 : StU B W sv r.stints) (hB : B ≤ tb) (htb : tb < W.heap.size) (hrb : rb ≠ tb) (h0 : J [] W) :
    CallsIn Fence.wide n Try.prog 108 #[.func (.yield l) #[] #[], .pointer (some ⟨rb, 0, none⟩)] W fun e W' => (∃ v, e = .returned v) ∧
      ((∃ ys, ys.map (fun x => x.1) = r.rulesB ∧ J ys W') ∨ (∃ pre, Jx pre W')) := by
  refine callsIn_of_wp Try.func108 rfl trivial ?_ rfl
  simp only [Try.ntmps108, List.size_toArray, List.length_cons, List.length_nil, Nat.reduceAdd, Nat.reduceSub, Array.replicate_succ, Array.replicate_zero, List.push_toArray, List.append_toArray, List.nil_append, List.cons_append]
  refine (wpIn_wide (n := n)).2 ?_
  obtain ⟨sa, scap, rfl, _⟩ := id h2
  have hmm := @run_makeMap Try.prog
  obtain ⟨hl1, hd1⟩ := cells_of h1
  have hN : Hid (r.n ≤ 5) := hid (r.ok_of hv).2.2.1
  have h1' := hid h1
  have h2' := hid h2
  have h0' := hid h0
  have hY' := hid hY
  have hJ := hid hJ
  have hJx := hid hJx
  clear h1 h2 h0 hY
  go_wp2
  obtain ⟨w0, hw0⟩ : ∃ x, x = W.alloc (.map #[] 0) := ⟨_, rfl⟩
  rw [← hw0]
  have hA0 : Hid (RulesAt W B W.heap.size rb r (.slice sa r.stints.length scap) 0 w0) := hid (by rw [hw0]; exact ⟨by simp, alloc_old hl1 h1'.out, h2'.out.below (below_alloc (Below.refl _ _) _), _, _, alloc_at rfl, by rw [r.lastF_zero]; exact tells_empty _⟩)
  have hJ0 : Hid (J [] w0) := hid (by rw [hw0]; exact hJ.out [] W _ none h0'.out (World.grownBy_alloc W _ none) (fun r e => by cases e))
  obtain ⟨m, hm⟩ : ∃ x, x = W.heap.size := ⟨_, rfl⟩
  rw [← hm]
  rw [← hm] at hA0
  have hmt : Hid (tb < m ∧ rb < m ∧ W.heap.size ≤ m ∧ B ≤ m) := hid (by omega)
  clear hw0 hl1 hd1 h1' h2' h0' hm htb
  go_loopw [18] (fun ix wr => ∃ (i : Nat) (pre : List BdF), i ≤ r.stints.length ∧ ix = .int .i64 i ∧ Hid (pre.map (fun x => x.1) = (List.range i).flatMap r.ownB) ∧ Hid (J pre wr) ∧ Hid (RulesAt W B m rb r (.slice sa r.stints.length scap) i wr)) (fun ix _ => r.stints.length - (intOf ix).toNat)
  case atStart => exact ⟨0, [], by omega, rfl, hid rfl, hJ0, hA0⟩
  case round =>
    obtain ⟨i, pre, hi, rfl, hpre, hjp, hA⟩ := hrel
    obtain ⟨lb, cb⟩ := cells_of hA.out.box
    by_cases hlt : i < r.stints.length
    · have hki : (i : Int) < (r.stints.length : Int) := by omega
      have hi5 : (i : Int) < 5 := by have := hN.out; have : r.stints.length ≤ 5 := this; omega
      obtain ⟨b1, o1, rfl, l1, hq⟩ := hA.out.st.at.at hlt
      obtain ⟨s, hsd⟩ : ∃ s, r.stints.getD i Stint.none = s := ⟨_, rfl⟩
      have hsd' : Hid (r.st i = s) := hid hsd
      rw [hsd] at hq
      clear hsd
      have q0 := hq 0 (by decide)
      have q1 := hq 1 (by decide)
      have q2 := hq 2 (by decide)
      have q3 := hq 3 (by decide)
      have q4 := hq 4 (by decide)
      have q5 := hq 5 (by decide)
      have q6 := hq 6 (by decide)
      have q7 := hq 7 (by decide)
      have q8 := hq 8 (by decide)
      simp only [Stint.cells, List.getD_cons_zero, List.getD_cons_succ, Nat.add_zero] at q0 q1 q2 q3 q4 q5 q6 q7 q8
      clear hq
      obtain ⟨es, c, hmap, hes⟩ := hA.out.map
      have hlk := hid (fun (w : World) (h : w.heap[m]? = some (.map es c)) => (lookup_tells riderK (T := 144) (E := 3) (by kernel_rfl) (z := .int .i64 0) (fun w => by kernel_rfl) h hes s.rider).1)
      have hup := hid (fun (w : World) (h : w.heap[m]? = some (.map es c)) => update_tells riderK (T := 144) (E := 3) (by kernel_rfl) h hes s.rider (.int .i64 (i : Nat)))
      have hmap' := hid hmap
      clear hmap hes
      have ho0 : Hid (([⟨2 * i, 10, 0⟩, ⟨10, 2 * i + 1, 600⟩, ⟨2 * i + 1, 2 * i, -1⟩] : List Bd) = [⟨2 * i, 10, 0⟩, ⟨10, 2 * i + 1, 600⟩, ⟨2 * i + 1, 2 * i, -1⟩]) := hid rfl
      by_cases hi0 : i = 0
      · have hle : ¬ (0 : Int) < (i : Int) := by omega
        have hown0 := hid (Rel.own_zero (r := r) hi0)
        have hpn : Hid (r.lastF i s.rider = none) := hid (by rw [hi0]; rfl)
        clear hi0
        go_upto_region 6 with fail
        have hs2 := alloc_old (w := wr.alloc (.cells (stintC s) 46)) (o := .cells #[.int .i64 (2 * i), .int .i64 10, .int .i64 0, .int .i64 10, .int .i64 (2 * i + 1), .int .i64 600, .int .i64 (2 * i + 1), .int .i64 (2 * i), .int .i64 (-1)] 77) (by simp) (alloc_at (w := wr) (o := .cells (stintC s) 46) rfl)
        have hr2 := alloc_at (w := wr.alloc (.cells (stintC s) 46)) (o := .cells #[.int .i64 (2 * i), .int .i64 10, .int .i64 0, .int .i64 10, .int .i64 (2 * i + 1), .int .i64 600, .int .i64 (2 * i + 1), .int .i64 (2 * i), .int .i64 (-1)] 77) (n := wr.heap.size + 1) (by simp)
        have hb2 := below_alloc (below_alloc (Below.refl _ wr) (.cells (stintC s) 46)) (.cells #[.int .i64 (2 * i), .int .i64 10, .int .i64 0, .int .i64 10, .int .i64 (2 * i + 1), .int .i64 600, .int .i64 (2 * i + 1), .int .i64 (2 * i), .int .i64 (-1)] 77)
        generalize (wr.alloc (.cells (stintC s) 46)).alloc (.cells #[.int .i64 (2 * i), .int .i64 10, .int .i64 0, .int .i64 10, .int .i64 (2 * i + 1), .int .i64 600, .int .i64 (2 * i + 1), .int .i64 (2 * i), .int .i64 (-1)] 77) = w2 at hs2 hr2 hb2 ⊢
        have hown2 := own_lit bdK (B := wr.heap.size + 1) (n := 3) (xs := [⟨2 * i, 10, 0⟩, ⟨10, 2 * i + 1, 600⟩, ⟨2 * i + 1, 2 * i, -1⟩]) hr2 (by simp [bdK]) rfl (by decide) (by omega)
        generalize Value.slice (some ⟨wr.heap.size + 1, 0, none⟩) 3 3 = v8 at hown2 ⊢
        obtain ⟨ls2, cs2⟩ := cells_of hs2
        have hm2 := hid ((hb2.block m (Array.getElem?_eq_some_iff.1 hmap'.out).1).trans hmap'.out)
        have hsz2 := hid (cells_of hr2).1
        clear hr2 q0 q1 q2 q3 q4 q5 q6 q7 q8 l1
        replace hs2 := hid hs2
        replace hb2 := hid hb2
        replace hown2 := hid hown2
        have hl2 := hlk.out w2 hm2.out
        rw [hpn.out] at hl2
        simp only [Option.getD_none, Option.isSome_none] at hl2
        rw [show riderK.enc s.rider = .int .i64 s.rider from rfl] at hl2
        obtain ⟨es2, c2, hrun2, hes2⟩ := hup.out w2 hm2.out
        rw [show riderK.enc s.rider = .int .i64 s.rider from rfl] at hrun2
        replace hes2 := hid hes2
        obtain ⟨N, g, cap, cur, hNl, hv9, hgB, hg, hcur⟩ := own_open hown2.out (by simp)
        subst hv9
        rw [← hown0.out] at hNl hcur
        replace hcur := hid hcur
        replace hNl := hid hNl
        have hg3 : Hid ((w2.putObj m (.map es2 c2)).heap[g]? = some (.cells cur 77 (0, 0))) := hid ((World.putObj_heap_other (by have := hmap'.out; have := (Array.getElem?_eq_some_iff.1 this).1; omega)).trans hg)
        have hA3 : Hid (RulesAt W B m rb r (.slice (some ⟨b1, o1, none⟩) r.stints.length scap) (i + 1) (w2.putObj m (.map es2 c2))) := hid ((hA.out.below hb2.out).put hmt.out.2.2.2 (by have := hmt.out; omega) (by rw [hsd'.out]; exact hes2.out))
        have hJ3 : Hid (J pre (w2.putObj m (.map es2 c2))) := hid (hJ.out pre wr _ (some m) hjp.out (grown_of_both (grown_of_below hb2.out _) (grownBy_putObj' _ _ _)) (fun r e => by cases e; exact ⟨hmt.out.2.2.1, _, hmap'.out, rfl⟩))
        have hgt : Hid (g ≠ tb ∧ g ≠ m) := hid (by have h1 := hmt.out; have h2 := (Array.getElem?_eq_some_iff.1 hmap'.out).1; omega)
        clear hg hup hlk hown2 hm2 hb2
        go_wp2_with fail
        generalize w2.putObj m (.map es2 c2) = w3 at hg3 hA3 hJ3 ⊢
        go_loopw [71] (fun ix wr2 => ∃ (q : Nat) (pre2 : List BdF), q ≤ N ∧ ix = .int .i64 q ∧ Hid (pre2.map (fun x => x.1) = (List.range i).flatMap r.ownB ++ (r.ownB i).take q) ∧ Hid (J pre2 wr2) ∧ Hid (RulesAt W B m rb r (.slice (some ⟨b1, o1, none⟩) r.stints.length scap) (i + 1) wr2) ∧ Hid (wr2.heap[g]? = some (.cells cur 77 (0, 0)))) (fun ix _ => N - (intOf ix).toNat)
        case atStart => exact ⟨0, pre, by omega, rfl, hid (by rw [hpre.out]; simp), hJ3, hA3, hg3⟩
        case round =>
          clear hA hpre hjp hA3 hJ3 hg3 hrun2
          skip
          obtain ⟨q, pre2, hq, rfl, hpre2, hj2, hA2, hg2⟩ := hrel
          have hN5 : N ≤ 5 := by have h1 := (r.ownB_len i).1; have h2 := hNl.out; omega
          by_cases hqn : q < N
          · have hqi : (q : Int) < (N : Int) := by omega
            obtain ⟨x, hx⟩ : ∃ x, (r.ownB i)[q]? = some x := ⟨_, List.getElem?_eq_getElem (by have := hNl.out; omega)⟩
            have hfit := hid (Rel.own_fit hv (show i < r.n from hlt) hx)
            have hcx := hcur.out q x hx
            obtain ⟨lg, cg⟩ := cells_of hg2.out
            have d0 := (cg (q * 3)).trans (hcx 0 _ rfl)
            have d1 := (cg (q * 3 + 1)).trans (hcx 1 _ rfl)
            have d2 := (cg (q * 3 + 2)).trans (hcx 2 _ rfl)
            have hx' := hid hx
            clear hcx cg hx
            go_upto_region 15 with fail
            have hbx := below_alloc (Below.refl _ wr) (.cells (bdV x) 77)
            have hax := alloc_at (w := wr) (o := .cells (bdV x) 77) rfl
            have hJx2 := hid (hJ.out pre2 wr _ none hj2.out (World.grownBy_alloc wr (.cells (bdV x) 77) none) (fun r e => by cases e))
            have hA4 := hid (hA2.out.below hbx)
            have hg4 := hid (alloc_old (o := .cells (bdV x) 77) lg hg2.out)
            generalize wr.alloc (.cells (bdV x) 77) = w4 at hax hJx2 hA4 hg4 ⊢
            obtain ⟨lx, cx⟩ := cells_of hax
            clear d0 d1 d2 lg hax hbx hA2 hg2 hj2
            have hlen2 : pre2.length < 30 := by have h1 := congrArg List.length hpre2.out; rw [List.length_map, List.length_append, List.length_take] at h1; have h2 := r.flat_len i; have h3 := hN.out; have h4 : i < r.n := hlt; omega
            obtain ⟨fn, tm, asg, bdy, hy, hR⟩ := hY'.out pre2 ⟨x, hfit.out⟩ w4 hJx2.out hlen2
            have hR := hid hR
            refine (wpIn_wide (n := n)).1 ?_
            gi_wp2_with fail
            refine hR.out.mono ?_
            clear hR hy
            rintro e w5 (⟨rfl, hj5, hk5⟩ | ⟨rfl, hjx5⟩)
            · have hA5 := hid (hA4.out.kp hk5 hB hrb (by have := hmt.out; omega))
              have hg5 := hid (hk5.cells hg4.out hgt.out.1)
              replace hj5 := hid hj5
              clear hk5 cx lx hA4 hg4
              gi_wp2
              go_wp2
              go_roundw
              case rel => exact ⟨q + 1, pre2 ++ [⟨x, hfit.out⟩], by omega, by go_num, hid (by rw [List.map_append, hpre2.out, List.append_assoc, List.take_add_one, hx'.out]; rfl), hj5, hA5, hg5⟩
              case measure => simp [intOf]; omega
            · gi_wp2
              go_wp2
              refine bodyPost_ret (results_none rfl _ _ _) rfl ?_
              exact ⟨⟨_, rfl⟩, .inr ⟨_, hjx5⟩⟩
          · obtain rfl : q = N := by omega
            go_wp2
            go_roundw
            case rel => exact ⟨i + 1, pre2, by omega, by go_num, hid (by rw [hpre2.out, List.take_of_length_le (by have := hNl.out; omega), List.range_succ, List.flatMap_append]; simp), hj2, hA2⟩
            case measure => simp [intOf]; omega
      · have hle : (0 : Int) < (i : Int) := by omega
        have hpos : Hid (0 < i) := hid (by omega)
        clear hi0
        go_upto_region 6 with fail
        have hs2 := alloc_old (w := wr.alloc (.cells (stintC s) 46)) (o := .cells #[.int .i64 (2 * i), .int .i64 10, .int .i64 0, .int .i64 10, .int .i64 (2 * i + 1), .int .i64 600, .int .i64 (2 * i + 1), .int .i64 (2 * i), .int .i64 (-1)] 77) (by simp) (alloc_at (w := wr) (o := .cells (stintC s) 46) rfl)
        have hr2 := alloc_at (w := wr.alloc (.cells (stintC s) 46)) (o := .cells #[.int .i64 (2 * i), .int .i64 10, .int .i64 0, .int .i64 10, .int .i64 (2 * i + 1), .int .i64 600, .int .i64 (2 * i + 1), .int .i64 (2 * i), .int .i64 (-1)] 77) (n := wr.heap.size + 1) (by simp)
        have hb2 := below_alloc (below_alloc (Below.refl _ wr) (.cells (stintC s) 46)) (.cells #[.int .i64 (2 * i), .int .i64 10, .int .i64 0, .int .i64 10, .int .i64 (2 * i + 1), .int .i64 600, .int .i64 (2 * i + 1), .int .i64 (2 * i), .int .i64 (-1)] 77)
        generalize (wr.alloc (.cells (stintC s) 46)).alloc (.cells #[.int .i64 (2 * i), .int .i64 10, .int .i64 0, .int .i64 10, .int .i64 (2 * i + 1), .int .i64 600, .int .i64 (2 * i + 1), .int .i64 (2 * i), .int .i64 (-1)] 77) = w2 at hs2 hr2 hb2 ⊢
        have hown2 := own_lit bdK (B := wr.heap.size + 1) (n := 3) (xs := [⟨2 * i, 10, 0⟩, ⟨10, 2 * i + 1, 600⟩, ⟨2 * i + 1, 2 * i, -1⟩]) hr2 (by simp [bdK]) rfl (by decide) (by omega)
        generalize Value.slice (some ⟨wr.heap.size + 1, 0, none⟩) 3 3 = v8 at hown2 ⊢
        obtain ⟨ls2, cs2⟩ := cells_of hs2
        have hm2 := hid ((hb2.block m (Array.getElem?_eq_some_iff.1 hmap'.out).1).trans hmap'.out)
        have hsz2 := hid (cells_of hr2).1
        clear hr2 q0 q1 q2 q3 q4 q5 q6 q7 q8 l1
        replace hs2 := hid hs2
        replace hb2 := hid hb2
        replace hown2 := hid hown2
        go_upto_region 8 with (at_builtin; refine wpList_append_row bdK rfl _ _ rfl (wr.heap.size + 1) _ ([⟨2 * i, 10, 0⟩, ⟨10, 2 * i + 1, 600⟩, ⟨2 * i + 1, 2 * i, -1⟩]) [⟨2 * i, 2 * i - 2, -1⟩] rfl (hown2.out.below (below_alloc (Below.refl _ _) _)) w2.heap.size 0 1 1 rfl rfl (row_one bdK w2 ⟨2 * i, 2 * i - 2, -1⟩ _ _ (by have := hpos.out; simp [bdK]; omega)) (by simp) (by have := ls2; simp; omega) ?_; intro v9 w4 hown4 hbx _; have hs4 := hid ((hbx.block wr.heap.size (by omega)).trans (alloc_old ls2 hs2.out)); have hb4 : Hid (Below wr.heap.size wr w4) := hid ((below_alloc hb2.out _).trans (hbx.mono (by omega))); replace hown4 := hid hown4; clear hbx)
        obtain ⟨ls4, cs4⟩ := cells_of hs4.out
        have hm4 := hid ((hb4.out.block m (Array.getElem?_eq_some_iff.1 hmap'.out).1).trans hmap'.out)
        obtain ⟨lr4, cr4⟩ := cells_of ((hb4.out.block rb lb).trans hA.out.box)
        clear hown2 hb2 hs2 ls2 cs2 hm2
        cases hP : r.prev s.rider i with
        | none =>
          have hown0 : Hid (r.ownB i = [⟨2 * i, 10, 0⟩, ⟨10, 2 * i + 1, 600⟩, ⟨2 * i + 1, 2 * i, -1⟩] ++ [⟨2 * i, 2 * i - 2, -1⟩]) := hid (Rel.own_one hpos.out (by rw [hsd'.out]; exact hP))
          have hl2 := hlk.out w4 hm4.out
          rw [show r.lastF i s.rider = none by rw [Rel.lastF, hP]; rfl] at hl2
          simp only [Option.getD_none, Option.isSome_none] at hl2
          rw [show riderK.enc s.rider = .int .i64 s.rider from rfl] at hl2
          clear hP
          obtain ⟨es2, c2, hrun2, hes2⟩ := hup.out w4 hm4.out
          rw [show riderK.enc s.rider = .int .i64 s.rider from rfl] at hrun2
          replace hes2 := hid hes2
          obtain ⟨N, g, cap, cur, hNl, hv9, hgB, hg, hcur⟩ := own_open hown4.out (by simp)
          subst hv9
          rw [← hown0.out] at hNl hcur
          replace hcur := hid hcur
          replace hNl := hid hNl
          have hg3 : Hid ((w4.putObj m (.map es2 c2)).heap[g]? = some (.cells cur 77 (0, 0))) := hid ((World.putObj_heap_other (by have := hmap'.out; have := (Array.getElem?_eq_some_iff.1 this).1; omega)).trans hg)
          have hA3 : Hid (RulesAt W B m rb r (.slice (some ⟨b1, o1, none⟩) r.stints.length scap) (i + 1) (w4.putObj m (.map es2 c2))) := hid ((hA.out.below hb4.out).put hmt.out.2.2.2 (by have := hmt.out; omega) (by rw [hsd'.out]; exact hes2.out))
          have hJ3 : Hid (J pre (w4.putObj m (.map es2 c2))) := hid (hJ.out pre wr _ (some m) hjp.out (grown_of_both (grown_of_below hb4.out _) (grownBy_putObj' _ _ _)) (fun r e => by cases e; exact ⟨hmt.out.2.2.1, _, hmap'.out, rfl⟩))
          have hgt : Hid (g ≠ tb ∧ g ≠ m) := hid (by have h1 := hmt.out; have h2 := (Array.getElem?_eq_some_iff.1 hmap'.out).1; omega)
          clear hg hup hlk hown4 hm4 hb4
          go_wp2_with fail
          generalize w4.putObj m (.map es2 c2) = w3 at hg3 hA3 hJ3 ⊢
          go_loopw [71] (fun ix wr2 => ∃ (q : Nat) (pre2 : List BdF), q ≤ N ∧ ix = .int .i64 q ∧ Hid (pre2.map (fun x => x.1) = (List.range i).flatMap r.ownB ++ (r.ownB i).take q) ∧ Hid (J pre2 wr2) ∧ Hid (RulesAt W B m rb r (.slice (some ⟨b1, o1, none⟩) r.stints.length scap) (i + 1) wr2) ∧ Hid (wr2.heap[g]? = some (.cells cur 77 (0, 0)))) (fun ix _ => N - (intOf ix).toNat)
          case atStart => exact ⟨0, pre, by omega, rfl, hid (by rw [hpre.out]; simp), hJ3, hA3, hg3⟩
          case round =>
            clear hA hpre hjp hA3 hJ3 hg3 hrun2
            skip
            obtain ⟨q, pre2, hq, rfl, hpre2, hj2, hA2, hg2⟩ := hrel
            have hN5 : N ≤ 5 := by have h1 := (r.ownB_len i).1; have h2 := hNl.out; omega
            by_cases hqn : q < N
            · have hqi : (q : Int) < (N : Int) := by omega
              obtain ⟨x, hx⟩ : ∃ x, (r.ownB i)[q]? = some x := ⟨_, List.getElem?_eq_getElem (by have := hNl.out; omega)⟩
              have hfit := hid (Rel.own_fit hv (show i < r.n from hlt) hx)
              have hcx := hcur.out q x hx
              obtain ⟨lg, cg⟩ := cells_of hg2.out
              have d0 := (cg (q * 3)).trans (hcx 0 _ rfl)
              have d1 := (cg (q * 3 + 1)).trans (hcx 1 _ rfl)
              have d2 := (cg (q * 3 + 2)).trans (hcx 2 _ rfl)
              have hx' := hid hx
              clear hcx cg hx
              go_upto_region 15 with fail
              have hbx := below_alloc (Below.refl _ wr) (.cells (bdV x) 77)
              have hax := alloc_at (w := wr) (o := .cells (bdV x) 77) rfl
              have hJx2 := hid (hJ.out pre2 wr _ none hj2.out (World.grownBy_alloc wr (.cells (bdV x) 77) none) (fun r e => by cases e))
              have hA4 := hid (hA2.out.below hbx)
              have hg4 := hid (alloc_old (o := .cells (bdV x) 77) lg hg2.out)
              generalize wr.alloc (.cells (bdV x) 77) = w4 at hax hJx2 hA4 hg4 ⊢
              obtain ⟨lx, cx⟩ := cells_of hax
              clear d0 d1 d2 lg hax hbx hA2 hg2 hj2
              have hlen2 : pre2.length < 30 := by have h1 := congrArg List.length hpre2.out; rw [List.length_map, List.length_append, List.length_take] at h1; have h2 := r.flat_len i; have h3 := hN.out; have h4 : i < r.n := hlt; omega
              obtain ⟨fn, tm, asg, bdy, hy, hR⟩ := hY'.out pre2 ⟨x, hfit.out⟩ w4 hJx2.out hlen2
              have hR := hid hR
              refine (wpIn_wide (n := n)).1 ?_
              gi_wp2_with fail
              refine hR.out.mono ?_
              clear hR hy
              rintro e w5 (⟨rfl, hj5, hk5⟩ | ⟨rfl, hjx5⟩)
              · have hA5 := hid (hA4.out.kp hk5 hB hrb (by have := hmt.out; omega))
                have hg5 := hid (hk5.cells hg4.out hgt.out.1)
                replace hj5 := hid hj5
                clear hk5 cx lx hA4 hg4
                gi_wp2
                go_wp2
                go_roundw
                case rel => exact ⟨q + 1, pre2 ++ [⟨x, hfit.out⟩], by omega, by go_num, hid (by rw [List.map_append, hpre2.out, List.append_assoc, List.take_add_one, hx'.out]; rfl), hj5, hA5, hg5⟩
                case measure => simp [intOf]; omega
              · gi_wp2
                go_wp2
                refine bodyPost_ret (results_none rfl _ _ _) rfl ?_
                exact ⟨⟨_, rfl⟩, .inr ⟨_, hjx5⟩⟩
            · obtain rfl : q = N := by omega
              go_wp2
              go_roundw
              case rel => exact ⟨i + 1, pre2, by omega, by go_num, hid (by rw [hpre2.out, List.take_of_length_le (by have := hNl.out; omega), List.range_succ, List.flatMap_append]; simp), hj2, hA2⟩
              case measure => simp [intOf]; omega
        | some kk =>
          have hkk : (kk : Int) < (i : Int) := by have := (Rel.prev_some hP).1; omega
          have hrest : 0 ≤ r.rest ∧ r.rest ≤ 60 := ⟨(r.ok_of hv).1, (r.ok_of hv).2.1⟩
          have hneg : IntKind.i64.wrap (-r.rest) = -r.rest := Go.IntWalk.i64_in _ (by omega)
          have hown0 : Hid (r.ownB i = ([⟨2 * i, 10, 0⟩, ⟨10, 2 * i + 1, 600⟩, ⟨2 * i + 1, 2 * i, -1⟩] ++ [⟨2 * i, 2 * i - 2, -1⟩]) ++ [⟨2 * i, 2 * kk + 1, -r.rest⟩]) := hid (Rel.own_two hpos.out (by rw [hsd'.out]; exact hP))
          have hl2 := hlk.out w4 hm4.out
          rw [show r.lastF i s.rider = some (.int .i64 (kk : Nat)) by rw [Rel.lastF, hP]; rfl] at hl2
          simp only [Option.getD_some, Option.isSome_some] at hl2
          rw [show riderK.enc s.rider = .int .i64 s.rider from rfl] at hl2
          clear hP
          go_upto_region 11 with (at_builtin; refine wpList_append_row bdK rfl _ _ rfl (wr.heap.size + 1) _ ([⟨2 * i, 10, 0⟩, ⟨10, 2 * i + 1, 600⟩, ⟨2 * i + 1, 2 * i, -1⟩] ++ [⟨2 * i, 2 * i - 2, -1⟩]) [⟨2 * i, 2 * kk + 1, -r.rest⟩] rfl (hown4.out.below (below_alloc (Below.refl _ _) _)) w4.heap.size 0 1 1 rfl rfl (row_one bdK w4 ⟨2 * i, 2 * kk + 1, -r.rest⟩ _ _ (by simp [bdK])) (by simp) (by have := ls4; simp; omega) ?_; intro v9 w5 hown5 hbx _; have hs5 := hid ((hbx.block wr.heap.size (by omega)).trans (alloc_old ls4 hs4.out)); have hb5 : Hid (Below wr.heap.size wr w5) := hid ((below_alloc hb4.out _).trans (hbx.mono (by omega))); replace hown5 := hid hown5; clear hbx)
          obtain ⟨ls5, cs5⟩ := cells_of hs5.out
          have hm5 := hid ((hb5.out.block m (Array.getElem?_eq_some_iff.1 hmap'.out).1).trans hmap'.out)
          obtain ⟨lr5, cr5⟩ := cells_of ((hb5.out.block rb lb).trans hA.out.box)
          clear hown4 hb4 hs4 ls4 cs4 hm4
          obtain ⟨es2, c2, hrun2, hes2⟩ := hup.out w5 hm5.out
          rw [show riderK.enc s.rider = .int .i64 s.rider from rfl] at hrun2
          replace hes2 := hid hes2
          obtain ⟨N, g, cap, cur, hNl, hv9, hgB, hg, hcur⟩ := own_open hown5.out (by simp)
          subst hv9
          rw [← hown0.out] at hNl hcur
          replace hcur := hid hcur
          replace hNl := hid hNl
          have hg3 : Hid ((w5.putObj m (.map es2 c2)).heap[g]? = some (.cells cur 77 (0, 0))) := hid ((World.putObj_heap_other (by have := hmap'.out; have := (Array.getElem?_eq_some_iff.1 this).1; omega)).trans hg)
          have hA3 : Hid (RulesAt W B m rb r (.slice (some ⟨b1, o1, none⟩) r.stints.length scap) (i + 1) (w5.putObj m (.map es2 c2))) := hid ((hA.out.below hb5.out).put hmt.out.2.2.2 (by have := hmt.out; omega) (by rw [hsd'.out]; exact hes2.out))
          have hJ3 : Hid (J pre (w5.putObj m (.map es2 c2))) := hid (hJ.out pre wr _ (some m) hjp.out (grown_of_both (grown_of_below hb5.out _) (grownBy_putObj' _ _ _)) (fun r e => by cases e; exact ⟨hmt.out.2.2.1, _, hmap'.out, rfl⟩))
          have hgt : Hid (g ≠ tb ∧ g ≠ m) := hid (by have h1 := hmt.out; have h2 := (Array.getElem?_eq_some_iff.1 hmap'.out).1; omega)
          clear hg hup hlk hown5 hm5 hb5
          go_wp2_with fail
          generalize w5.putObj m (.map es2 c2) = w3 at hg3 hA3 hJ3 ⊢
          go_loopw [71] (fun ix wr2 => ∃ (q : Nat) (pre2 : List BdF), q ≤ N ∧ ix = .int .i64 q ∧ Hid (pre2.map (fun x => x.1) = (List.range i).flatMap r.ownB ++ (r.ownB i).take q) ∧ Hid (J pre2 wr2) ∧ Hid (RulesAt W B m rb r (.slice (some ⟨b1, o1, none⟩) r.stints.length scap) (i + 1) wr2) ∧ Hid (wr2.heap[g]? = some (.cells cur 77 (0, 0)))) (fun ix _ => N - (intOf ix).toNat)
          case atStart => exact ⟨0, pre, by omega, rfl, hid (by rw [hpre.out]; simp), hJ3, hA3, hg3⟩
          case round =>
            clear hA hpre hjp hA3 hJ3 hg3 hrun2
            skip
            obtain ⟨q, pre2, hq, rfl, hpre2, hj2, hA2, hg2⟩ := hrel
            have hN5 : N ≤ 5 := by have h1 := (r.ownB_len i).1; have h2 := hNl.out; omega
            by_cases hqn : q < N
            · have hqi : (q : Int) < (N : Int) := by omega
              obtain ⟨x, hx⟩ : ∃ x, (r.ownB i)[q]? = some x := ⟨_, List.getElem?_eq_getElem (by have := hNl.out; omega)⟩
              have hfit := hid (Rel.own_fit hv (show i < r.n from hlt) hx)
              have hcx := hcur.out q x hx
              obtain ⟨lg, cg⟩ := cells_of hg2.out
              have d0 := (cg (q * 3)).trans (hcx 0 _ rfl)
              have d1 := (cg (q * 3 + 1)).trans (hcx 1 _ rfl)
              have d2 := (cg (q * 3 + 2)).trans (hcx 2 _ rfl)
              have hx' := hid hx
              clear hcx cg hx
              go_upto_region 15 with fail
              have hbx := below_alloc (Below.refl _ wr) (.cells (bdV x) 77)
              have hax := alloc_at (w := wr) (o := .cells (bdV x) 77) rfl
              have hJx2 := hid (hJ.out pre2 wr _ none hj2.out (World.grownBy_alloc wr (.cells (bdV x) 77) none) (fun r e => by cases e))
              have hA4 := hid (hA2.out.below hbx)
              have hg4 := hid (alloc_old (o := .cells (bdV x) 77) lg hg2.out)
              generalize wr.alloc (.cells (bdV x) 77) = w4 at hax hJx2 hA4 hg4 ⊢
              obtain ⟨lx, cx⟩ := cells_of hax
              clear d0 d1 d2 lg hax hbx hA2 hg2 hj2
              have hlen2 : pre2.length < 30 := by have h1 := congrArg List.length hpre2.out; rw [List.length_map, List.length_append, List.length_take] at h1; have h2 := r.flat_len i; have h3 := hN.out; have h4 : i < r.n := hlt; omega
              obtain ⟨fn, tm, asg, bdy, hy, hR⟩ := hY'.out pre2 ⟨x, hfit.out⟩ w4 hJx2.out hlen2
              have hR := hid hR
              refine (wpIn_wide (n := n)).1 ?_
              gi_wp2_with fail
              refine hR.out.mono ?_
              clear hR hy
              rintro e w5 (⟨rfl, hj5, hk5⟩ | ⟨rfl, hjx5⟩)
              · have hA5 := hid (hA4.out.kp hk5 hB hrb (by have := hmt.out; omega))
                have hg5 := hid (hk5.cells hg4.out hgt.out.1)
                replace hj5 := hid hj5
                clear hk5 cx lx hA4 hg4
                gi_wp2
                go_wp2
                go_roundw
                case rel => exact ⟨q + 1, pre2 ++ [⟨x, hfit.out⟩], by omega, by go_num, hid (by rw [List.map_append, hpre2.out, List.append_assoc, List.take_add_one, hx'.out]; rfl), hj5, hA5, hg5⟩
                case measure => simp [intOf]; omega
              · gi_wp2
                go_wp2
                refine bodyPost_ret (results_none rfl _ _ _) rfl ?_
                exact ⟨⟨_, rfl⟩, .inr ⟨_, hjx5⟩⟩
            · obtain rfl : q = N := by omega
              go_wp2
              go_roundw
              case rel => exact ⟨i + 1, pre2, by omega, by go_num, hid (by rw [hpre2.out, List.take_of_length_le (by have := hNl.out; omega), List.range_succ, List.flatMap_append]; simp), hj2, hA2⟩
              case measure => simp [intOf]; omega
    · obtain rfl : i = r.stints.length := by omega
      go_wp2
      go_end0
      exact ⟨⟨_, rfl⟩, .inl ⟨pre, hpre.out, hjp.out⟩⟩
end Go.Proofs.Ytccgakdaiaigoaa

namespace Go.Proofs.Ytccgakdaiaigoaa
open Go.RowKit Go.Lap Go.Shelf

abbrev entV (x : Int × Int × Int) : Value := .agg #[.int .i64 x.1, .int .i64 x.2.1, .int .i64 x.2.2]
theorem entV_inj (a b : Int × Int × Int) (h : entV a = entV b) : a = b := by
  obtain ⟨a1, a2, a3⟩ := a
  obtain ⟨b1, b2, b3⟩ := b
  simp only [entV, Value.agg.injEq, Array.mk.injEq, List.cons.injEq, Value.int.injEq, true_and, and_true] at h
  obtain ⟨rfl, rfl, rfl⟩ := h
  rfl
theorem part149 (xs : Array Value) (i : Nat) (v : Value) (h : xs[i]? = some v) (w : World) : (part 3 xs i).run Try.prog w = .ok v w := by
  unfold part
  simp [h, go_sem]
theorem eq_ent (a b : Int × Int × Int) (w : World) : (Op.equal 149 (entV a) (entV b)).run Try.prog w = .ok (decide (a = b)) w := by
  show (Op.equalIn (9996 + 4) 149 (entV a) (entV b)).run Try.prog w = _
  rw [run_equalIn_agg _ _ _ _ _ (by kernel_rfl) (by kernel_rfl)]
  go_simp
  obtain ⟨a1, a2, a3⟩ := a
  obtain ⟨b1, b2, b3⟩ := b
  simp only [Prod.mk.injEq]
  by_cases h1 : a1 = b1
  · by_cases h2 : a2 = b2
    · by_cases h3 : a3 = b3 <;> simp [h1, h2, h3]
    · simp [h2]
  · simp [h1]
theorem check_ent (e : Bool) (a b c : Int) (w : World) : (Instr.checkKey e 10000 149 (.agg #[.int .i64 a, .int .i64 b, .int .i64 c])).run Try.prog w = .ok () w := by kernel_rfl
def entK : KeyKind Try.prog (Int × Int × Int) where
  k := 149
  enc := entV
  inj := entV_inj
  hck := fun e a w => check_ent e a.1 a.2.1 a.2.2 w
  hbits := fun a => by
    show Instr.sameBits (9999 + 1) (entV a) (entV a) = true
    simp [Instr.sameBits]
  hfind := fun a w es h => find_struct (by kernel_rfl) entV_inj eq_ent a w es h

theorem wp_region_held_at {P : Program} {id : Nat} {ops : Array Oper} {Q : Exit → Act → World → Prop} {S : World → Prop} {a : Act} {w : World} (hm : P.follows .mixedOrders = true)
    (h : ∀ v : World, Below w.heap.size w v → (∀ k : Nat, v.heap[k]? = w.heap[k]?) → wpAnyH P .any ops Q S ops.size (Array.replicate ops.size false) a v) : (Code.region id ops true).wp P Q a w :=
  wp_region_held hm (h _ (Below.refl _ _).drew (fun _ => rfl))

/-- The key of an entry of a stint. -/
abbrev keyOf (k q : Nat) : Int × Int × Int := ((k : Int), ((q / 2 : Nat) : Int), ((q % 2 : Nat) : Int))
def Knows (r : Rel) (i j : Nat) (f : Int × Int × Int → Option Value) : Prop := ∀ k q, q < 4 → (k < i ∨ (k = i ∧ q % 2 < j)) → f (keyOf k q) = some (spanV ((r.st k).said q))
theorem Knows.step {r : Rel} {i j : Nat} {f : Int × Int × Int → Option Value} (h : Knows r i j f) (hj : j < 2) :
    Knows r i (j + 1) (upd (upd f ((i : Int), 0, (j : Int)) (spanV ((r.st i).said j))) ((i : Int), 1, (j : Int)) (spanV ((r.st i).said (2 + j)))) := by
  intro k q hq hk
  simp only [upd]
  by_cases h1 : keyOf k q = ((i : Int), 1, (j : Int))
  · rw [if_pos h1]
    simp only [keyOf, Prod.mk.injEq] at h1
    obtain rfl : k = i := by omega
    obtain rfl : q = 2 + j := by omega
    rfl
  · rw [if_neg h1]
    by_cases h2 : keyOf k q = ((i : Int), 0, (j : Int))
    · rw [if_pos h2]
      simp only [keyOf, Prod.mk.injEq] at h2
      obtain rfl : k = i := by omega
      obtain rfl : q = j := by omega
      rfl
    · rw [if_neg h2]
      refine h k q hq ?_
      rcases hk with hk | ⟨rfl, hk⟩
      · exact .inl hk
      · refine .inr ⟨rfl, ?_⟩
        by_cases e : q % 2 = j
        · exfalso
          have : q / 2 = 0 ∨ q / 2 = 1 := by omega
          rcases this with e2 | e2
          · exact h2 (by simp only [keyOf, e, e2]; rfl)
          · exact h1 (by simp only [keyOf, e, e2]; rfl)
        · omega
theorem Knows.next {r : Rel} {i : Nat} {f : Int × Int × Int → Option Value} (h : Knows r i 2 f) : Knows r (i + 1) 0 f := by
  intro k q hq hk
  refine h k q hq ?_
  rcases hk with hk | ⟨_, hk⟩
  · by_cases e : k = i
    · exact .inr ⟨e, by omega⟩
    · exact .inl (by omega)
  · omega
theorem Knows.zero (r : Rel) (f : Int × Int × Int → Option Value) : Knows r 0 0 f := fun k q _ hk => by omega

theorem below_put {a w : World} {m : Nat} (h : Below a.heap.size a w) (hm : a.heap.size ≤ m) (o : Obj) : Below a.heap.size a (w.putObj m o) :=
  ⟨h.os, h.tape, h.output, by simpa using h.size, fun k hk => (World.putObj_heap_other (by omega)).trans (h.block k hk)⟩
theorem put_lt {w : World} {m : Nat} {o p : Obj} (h : w.heap[m]? = some p) : (w.putObj m o).heap[m]? = some o := World.putObj_heap_same (Array.getElem?_eq_some_iff.1 h).1
/-- What lies in memory while spans runs. -/
structure SpansAt (w : World) (m : Nat) (r : Rel) (i j : Nat) (W : World) : Prop where
  below : Below w.heap.size w W
  map : ∃ es c f, W.heap[m]? = some (.map es c) ∧ Tells entK f es c ∧ Knows r i j f

/-- The four operations that write two entries. -/
structure Chain (w : World) (m : Nat) (r : Rel) (i : Nat) (j : Int) (a b : Value) (n1 n3 : Nat) (V W1 W2 W3 W4 : World) : Prop where
  r1 : ∃ u, (Instr.mapEntry 146 (.map (some m)) (.agg #[.int .i64 i, .int .i64 0, .int .i64 j])).run Try.prog V = .ok (.tuple #[u, .int .i64 n1]) W1
  r2 : (Instr.entryStore 146 (.map (some m)) (.int .i64 n1) a).run Try.prog W1 = .ok () W2
  r3 : ∃ u, (Instr.mapEntry 146 (.map (some m)) (.agg #[.int .i64 i, .int .i64 1, .int .i64 j])).run Try.prog W2 = .ok (.tuple #[u, .int .i64 n3]) W3
  r4 : (Instr.entryStore 146 (.map (some m)) (.int .i64 n3) b).run Try.prog W3 = .ok () W4
  keep : ∀ k, k ≠ m → W1.heap[k]? = V.heap[k]? ∧ W2.heap[k]? = V.heap[k]? ∧ W3.heap[k]? = V.heap[k]? ∧ W4.heap[k]? = V.heap[k]?
theorem spans_chain {w : World} {m : Nat} {r : Rel} {i j : Nat} {V : World} (hm : w.heap.size ≤ m) (hj : j < 2) (h : SpansAt w m r i j V) :
    ∃ (n1 n3 : Nat) (W1 W2 W3 W4 : World), Chain w m r i j (spanV ((r.st i).said j)) (spanV ((r.st i).said (2 + j))) n1 n3 V W1 W2 W3 W4 ∧ SpansAt w m r i (j + 1) W4 := by
  obtain ⟨es, c, f, hm0, ht0, hk0⟩ := h.map
  obtain ⟨n1, es1, c1, hr1, ht1, hst1⟩ := entry_tells entK (T := 146) (E := 28) (by kernel_rfl) (z := spanV (0, 0)) (fun w => by kernel_rfl) hm0 ht0 ((i : Int), 0, (j : Int))
  have hm1 := put_lt (o := .map es1 c1) hm0
  obtain ⟨es2, hr2, ht2⟩ := hst1 (spanV ((r.st i).said j)) _ hm1
  have hm2 := put_lt (o := .map es2 c1) hm1
  obtain ⟨n3, es3, c3, hr3, ht3, hst3⟩ := entry_tells entK (T := 146) (E := 28) (by kernel_rfl) (z := spanV (0, 0)) (fun w => by kernel_rfl) hm2 ht2 ((i : Int), 1, (j : Int))
  have hm3 := put_lt (o := .map es3 c3) hm2
  obtain ⟨es4, hr4, ht4⟩ := hst3 (spanV ((r.st i).said (2 + j))) _ hm3
  have hm4 := put_lt (o := .map es4 c3) hm3
  refine ⟨n1, n3, _, _, _, _, ⟨⟨_, hr1⟩, hr2, ⟨_, hr3⟩, hr4, fun k hk => ?_⟩, below_put (below_put (below_put (below_put h.below hm _) hm _) hm _) hm _, es4, c3, _, hm4, ht4, hk0.step hj⟩
  have e1 : ∀ (X : World) (o : Obj), (X.putObj m o).heap[k]? = X.heap[k]? := fun X o => World.putObj_heap_other hk
  simp only [e1, and_self]

set_option maxRecDepth 100000 in
set_option maxHeartbeats 4000000 in
theorem spans_any (r : Rel) (hn : r.n ≤ 5) (set : Nat) (sv : Value) (w : World) (hS : StintsAt w sv r.stints) :
    Calls Try.prog 111 #[entriesV r sv set] w fun e w' => e = .returned (.map (some (w.heap.size + 1))) ∧ SpansAt w (w.heap.size + 1) r r.n 0 w' := by
  have hn' := hid hn
  clear hn
  have hS' := hid hS
  obtain ⟨sa, scap, rfl, _⟩ := id hS
  clear hS
  have hmm := @run_makeMap Try.prog
  go_enter Try.func111, Try.ntmps111
  go_wp2
  obtain ⟨w0, hw0⟩ : ∃ x, x = (w.alloc (.cells #[.int .i64 r.rest, .slice sa r.stints.length scap, .int .u64 set] 102)).alloc (.map #[] 0) := ⟨_, rfl⟩
  rw [← hw0]
  obtain ⟨m, hm⟩ : ∃ m, w.heap.size + 1 = m := ⟨_, rfl⟩
  rw [hm]
  have hb0 : Below w.heap.size w w0 := by rw [hw0]; exact below_alloc (below_alloc (Below.refl _ _) _) _
  have hx0 : Hid (w0.heap[w.heap.size]? = some (.cells #[.int .i64 r.rest, .slice sa r.stints.length scap, .int .u64 set] 102)) := hid (by rw [hw0]; exact alloc_old (by simp) (alloc_at rfl))
  have hA0 : Hid (SpansAt w m r 0 0 w0) := hid ⟨hb0, #[], 0, _, by rw [hw0]; exact alloc_at (by simp [← hm]), tells_empty _, Knows.zero _ _⟩
  have hlm : Hid (w.heap.size < m) := hid (by omega)
  clear hw0 hb0
  have hm' := hid hm
  clear hm
  go_loopw [13] (fun ix wr => ∃ i : Nat, i ≤ r.stints.length ∧ ix = .int .i64 i ∧ Hid (SpansAt w m r i 0 wr)) (fun ix _ => r.stints.length - (intOf ix).toNat)
  case atStart => exact ⟨0, by omega, rfl, hA0⟩
  case round =>
    obtain ⟨i, hi, rfl, hA⟩ := hrel
    by_cases hlt : i < r.stints.length
    · have hki : (i : Int) < (r.stints.length : Int) := by omega
      have hi5 : (i : Int) < 5 := by have := hn'.out; have : r.stints.length ≤ 5 := this; omega
      obtain ⟨b1, o1, rfl, l1, hq⟩ := (hS'.out.below hA.out.below).at hlt
      obtain ⟨s, hsd⟩ : ∃ s, r.stints.getD i Stint.none = s := ⟨_, rfl⟩
      have hsd' : Hid (r.st i = s) := hid hsd
      rw [hsd] at hq
      clear hsd
      have q0 := hq 0 (by decide)
      have q1 := hq 1 (by decide)
      have q2 := hq 2 (by decide)
      have q3 := hq 3 (by decide)
      have q4 := hq 4 (by decide)
      have q5 := hq 5 (by decide)
      have q6 := hq 6 (by decide)
      have q7 := hq 7 (by decide)
      have q8 := hq 8 (by decide)
      simp only [Stint.cells, List.getD_cons_zero, List.getD_cons_succ, Nat.add_zero] at q0 q1 q2 q3 q4 q5 q6 q7 q8
      clear hq
      have hbx := alloc_at (w := wr) (o := .cells (stintC s) 46) rfl
      have hA2 : Hid (SpansAt w m r i 0 (wr.alloc (.cells (stintC s) 46))) := hid (by obtain ⟨es, c, f, h1, h2, h3⟩ := hA.out.map; exact ⟨below_alloc hA.out.below _, es, c, f, alloc_old (Array.getElem?_eq_some_iff.1 h1).1 h1, h2, h3⟩)
      have hbm : Hid (wr.heap.size ≠ m) := hid (by obtain ⟨es, c, f, h1, _⟩ := hA.out.map; have := (Array.getElem?_eq_some_iff.1 h1).1; omega)
      go_wp2
      clear q0 q1 q2 q3 q4 q5 q6 q7 q8 l1
      generalize wr.alloc (.cells (stintC s) 46) = w2 at hbx hA2 ⊢
      obtain ⟨bx, hbxe⟩ : ∃ b, wr.heap.size = b := ⟨_, rfl⟩
      rw [hbxe] at hbx hbm ⊢
      clear hbxe hA
      have hx2 := hid hbx
      clear hbx
      refine wp_loop_rounds 3 ?_
      rw [rounds_succ]
      go_upto_region 8 with fail
      refine wp_region_held_at (S := fun W => W.heap[bx]? = some (.cells (stintC s) 46 (0, 0))) (by kernel_rfl) ?_
      intro v0 hbv hvk
      have hz : v0.heap[bx]? = some (.cells (stintC s) 46 (0, 0)) := (hvk bx).trans hx2.out
      have hAd : Hid (SpansAt w m r i 0 v0) := hid (by obtain ⟨es, c, f, h1, h2, h3⟩ := hA2.out.map; exact ⟨below_via hbv hA2.out.below, es, c, f, (hvk m).trans h1, h2, h3⟩)
      clear hbv hvk
      refine wpAnyH_quiet (i := 0) (v := .map (some m)) rfl (by kernel_rfl) (by kernel_rfl) (by kernel_rfl) (fun _ _ _ h => h) rfl (fun W hW => by go_simp) hz ?_
      refine wpAnyH_quiet (i := 1) (v := .int .i64 i) rfl (by kernel_rfl) (by kernel_rfl) (by kernel_rfl) (fun _ _ _ h => h) rfl (fun W hW => by go_simp) hz ?_
      refine wpAnyH_quiet (i := 2) (v := .int .i64 0) rfl (by kernel_rfl) (by kernel_rfl) (by kernel_rfl) (fun _ _ _ h => h) rfl (fun W hW => by go_simp) hz ?_
      refine wpAnyH_quiet (i := 3) (v := .agg #[.int .i64 i, .int .i64 0, .int .i64 0]) rfl (by kernel_rfl) (by kernel_rfl) (by kernel_rfl) (fun _ _ _ h => h) rfl (fun W hW => by go_simp) hz ?_
      refine wpAnyH_quiet (i := 4) (v := .map (some m)) rfl (by kernel_rfl) (by kernel_rfl) (by kernel_rfl) (fun _ _ _ h => h) rfl (fun W hW => by go_simp) hz ?_
      refine wpAnyH_quiet (i := 5) (v := .int .i64 i) rfl (by kernel_rfl) (by kernel_rfl) (by kernel_rfl) (fun _ _ _ h => h) rfl (fun W hW => by go_simp) hz ?_
      refine wpAnyH_quiet (i := 6) (v := .int .i64 0) rfl (by kernel_rfl) (by kernel_rfl) (by kernel_rfl) (fun _ _ _ h => h) rfl (fun W hW => by go_simp) hz ?_
      refine wpAnyH_quiet (i := 7) (v := .agg #[.int .i64 i, .int .i64 1, .int .i64 0]) rfl (by kernel_rfl) (by kernel_rfl) (by kernel_rfl) (fun _ _ _ h => h) rfl (fun W hW => by go_simp) hz ?_
      refine wpAnyH_quiet (i := 8) (v := .int .i64 0) rfl (by kernel_rfl) (by kernel_rfl) (by kernel_rfl) (fun _ _ _ h => h) rfl (fun W hW => by go_simp) hz ?_
      refine wpAnyH_quiet (i := 9) (v := .pointer (some ⟨bx, 1, none⟩)) rfl (by kernel_rfl) (by kernel_rfl) (by kernel_rfl) (fun _ _ _ h => h) rfl (fun W hW => by go_simp) hz ?_
      refine wpAnyH_quiet (i := 10) (v := .pointer (some ⟨bx, 1, none⟩)) rfl (by kernel_rfl) (by kernel_rfl) (by kernel_rfl) (fun _ _ _ h => h) rfl (fun W hW => by go_simp) hz ?_
      refine wpAnyH_quiet (i := 11) (v := spanV s.on0) rfl (by kernel_rfl) (by kernel_rfl) (by kernel_rfl) (fun _ _ _ h => h) rfl (fun W hW => by obtain ⟨lq, cq⟩ := cells_of hW; go_simp) hz ?_
      refine wpAnyH_quiet (i := 12) (v := .int .i64 0) rfl (by kernel_rfl) (by kernel_rfl) (by kernel_rfl) (fun _ _ _ h => h) rfl (fun W hW => by go_simp) hz ?_
      refine wpAnyH_quiet (i := 13) (v := .pointer (some ⟨bx, 5, none⟩)) rfl (by kernel_rfl) (by kernel_rfl) (by kernel_rfl) (fun _ _ _ h => h) rfl (fun W hW => by go_simp) hz ?_
      refine wpAnyH_quiet (i := 14) (v := .pointer (some ⟨bx, 5, none⟩)) rfl (by kernel_rfl) (by kernel_rfl) (by kernel_rfl) (fun _ _ _ h => h) rfl (fun W hW => by go_simp) hz ?_
      refine wpAnyH_quiet (i := 15) (v := spanV s.off0) rfl (by kernel_rfl) (by kernel_rfl) (by kernel_rfl) (fun _ _ _ h => h) rfl (fun W hW => by obtain ⟨lq, cq⟩ := cells_of hW; go_simp) hz ?_
      try simp only [Act.put, List.setIfInBounds_toArray]
      refine Exists.elim (spans_chain (j := 0) (by have := hlm.out; omega) (by decide) hAd.out) ?_
      intro n1 K1
      refine Exists.elim K1 ?_
      clear K1
      intro n3 K1
      refine Exists.elim K1 ?_
      clear K1
      intro v1 K1
      refine Exists.elim K1 ?_
      clear K1
      intro v2 K1
      refine Exists.elim K1 ?_
      clear K1
      intro v3 K1
      refine Exists.elim K1 ?_
      clear K1
      intro v4 K1
      rw [hsd'.out] at K1
      have hkk := hid (K1.1.keep bx hbm.out)
      have hz1 := hid (hkk.out.1.trans hz)
      have hz2 := hid (hkk.out.2.1.trans hz)
      have hz3 := hid (hkk.out.2.2.1.trans hz)
      have hz4 := hid (hkk.out.2.2.2.trans hz)
      have hA3 := hid K1.2
      replace K1 := hid K1.1
      replace hz := hid hz
      clear hAd
      refine Exists.elim K1.out.r1 ?_
      intro u9 er
      simp only [Int.natCast_zero] at er
      refine wpAnyH_step (i := 16) (by kernel_rfl) rfl ?_
      go_wp2
      clear er
      refine ⟨hz1.out, ?_⟩
      refine wpAnyH_quiet (i := 17) (v := .int .i64 n1) rfl (by kernel_rfl) (by kernel_rfl) (by kernel_rfl) (fun _ _ _ h => h) rfl (fun W hW => by go_simp) hz1.out ?_
      have er := K1.out.r2
      try simp only [Stint.said, List.getD_cons_zero] at er
      refine wpAnyH_step (i := 18) (by kernel_rfl) rfl ?_
      go_wp2
      clear er
      refine ⟨hz2.out, ?_⟩
      refine Exists.elim K1.out.r3 ?_
      intro u9 er
      simp only [Int.natCast_zero] at er
      refine wpAnyH_step (i := 19) (by kernel_rfl) rfl ?_
      go_wp2
      clear er
      refine ⟨hz3.out, ?_⟩
      refine wpAnyH_quiet (i := 20) (v := .int .i64 n3) rfl (by kernel_rfl) (by kernel_rfl) (by kernel_rfl) (fun _ _ _ h => h) rfl (fun W hW => by go_simp) hz3.out ?_
      have er := K1.out.r4
      try simp only [Stint.said, List.getD_cons_zero, List.getD_cons_succ] at er
      refine wpAnyH_step (i := 21) (by kernel_rfl) rfl ?_
      go_wp2
      clear er
      refine ⟨hz4.out, ?_⟩
      refine wpAnyH_done (by kernel_rfl) ?_ _
      try simp only [Act.put, List.setIfInBounds_toArray]
      have hx3 := hz4
      have hx3 := hz4
      obtain ⟨w3, hwn⟩ : ∃ x, x = v4 := ⟨_, rfl⟩
      subst hwn
      clear hz hz1 hz2 hz3 hz4 hkk K1 hA2 hx2
      go_wp2
      rw [rounds_succ]
      go_upto_region 8 with fail
      refine wp_region_held_at (S := fun W => W.heap[bx]? = some (.cells (stintC s) 46 (0, 0))) (by kernel_rfl) ?_
      intro v0 hbv hvk
      have hz : v0.heap[bx]? = some (.cells (stintC s) 46 (0, 0)) := (hvk bx).trans hx3.out
      have hAd : Hid (SpansAt w m r i 1 v0) := hid (by obtain ⟨es, c, f, h1, h2, h3⟩ := hA3.out.map; exact ⟨below_via hbv hA3.out.below, es, c, f, (hvk m).trans h1, h2, h3⟩)
      clear hbv hvk
      refine wpAnyH_quiet (i := 0) (v := .map (some m)) rfl (by kernel_rfl) (by kernel_rfl) (by kernel_rfl) (fun _ _ _ h => h) rfl (fun W hW => by go_simp) hz ?_
      refine wpAnyH_quiet (i := 1) (v := .int .i64 i) rfl (by kernel_rfl) (by kernel_rfl) (by kernel_rfl) (fun _ _ _ h => h) rfl (fun W hW => by go_simp) hz ?_
      refine wpAnyH_quiet (i := 2) (v := .int .i64 1) rfl (by kernel_rfl) (by kernel_rfl) (by kernel_rfl) (fun _ _ _ h => h) rfl (fun W hW => by go_simp) hz ?_
      refine wpAnyH_quiet (i := 3) (v := .agg #[.int .i64 i, .int .i64 0, .int .i64 1]) rfl (by kernel_rfl) (by kernel_rfl) (by kernel_rfl) (fun _ _ _ h => h) rfl (fun W hW => by go_simp) hz ?_
      refine wpAnyH_quiet (i := 4) (v := .map (some m)) rfl (by kernel_rfl) (by kernel_rfl) (by kernel_rfl) (fun _ _ _ h => h) rfl (fun W hW => by go_simp) hz ?_
      refine wpAnyH_quiet (i := 5) (v := .int .i64 i) rfl (by kernel_rfl) (by kernel_rfl) (by kernel_rfl) (fun _ _ _ h => h) rfl (fun W hW => by go_simp) hz ?_
      refine wpAnyH_quiet (i := 6) (v := .int .i64 1) rfl (by kernel_rfl) (by kernel_rfl) (by kernel_rfl) (fun _ _ _ h => h) rfl (fun W hW => by go_simp) hz ?_
      refine wpAnyH_quiet (i := 7) (v := .agg #[.int .i64 i, .int .i64 1, .int .i64 1]) rfl (by kernel_rfl) (by kernel_rfl) (by kernel_rfl) (fun _ _ _ h => h) rfl (fun W hW => by go_simp) hz ?_
      refine wpAnyH_quiet (i := 8) (v := .int .i64 1) rfl (by kernel_rfl) (by kernel_rfl) (by kernel_rfl) (fun _ _ _ h => h) rfl (fun W hW => by go_simp) hz ?_
      refine wpAnyH_quiet (i := 9) (v := .pointer (some ⟨bx, 1, none⟩)) rfl (by kernel_rfl) (by kernel_rfl) (by kernel_rfl) (fun _ _ _ h => h) rfl (fun W hW => by go_simp) hz ?_
      refine wpAnyH_quiet (i := 10) (v := .pointer (some ⟨bx, 3, none⟩)) rfl (by kernel_rfl) (by kernel_rfl) (by kernel_rfl) (fun _ _ _ h => h) rfl (fun W hW => by go_simp) hz ?_
      refine wpAnyH_quiet (i := 11) (v := spanV s.on1) rfl (by kernel_rfl) (by kernel_rfl) (by kernel_rfl) (fun _ _ _ h => h) rfl (fun W hW => by obtain ⟨lq, cq⟩ := cells_of hW; go_simp) hz ?_
      refine wpAnyH_quiet (i := 12) (v := .int .i64 1) rfl (by kernel_rfl) (by kernel_rfl) (by kernel_rfl) (fun _ _ _ h => h) rfl (fun W hW => by go_simp) hz ?_
      refine wpAnyH_quiet (i := 13) (v := .pointer (some ⟨bx, 5, none⟩)) rfl (by kernel_rfl) (by kernel_rfl) (by kernel_rfl) (fun _ _ _ h => h) rfl (fun W hW => by go_simp) hz ?_
      refine wpAnyH_quiet (i := 14) (v := .pointer (some ⟨bx, 7, none⟩)) rfl (by kernel_rfl) (by kernel_rfl) (by kernel_rfl) (fun _ _ _ h => h) rfl (fun W hW => by go_simp) hz ?_
      refine wpAnyH_quiet (i := 15) (v := spanV s.off1) rfl (by kernel_rfl) (by kernel_rfl) (by kernel_rfl) (fun _ _ _ h => h) rfl (fun W hW => by obtain ⟨lq, cq⟩ := cells_of hW; go_simp) hz ?_
      try simp only [Act.put, List.setIfInBounds_toArray]
      refine Exists.elim (spans_chain (j := 1) (by have := hlm.out; omega) (by decide) hAd.out) ?_
      intro n1 K1
      refine Exists.elim K1 ?_
      clear K1
      intro n3 K1
      refine Exists.elim K1 ?_
      clear K1
      intro v1 K1
      refine Exists.elim K1 ?_
      clear K1
      intro v2 K1
      refine Exists.elim K1 ?_
      clear K1
      intro v3 K1
      refine Exists.elim K1 ?_
      clear K1
      intro v4 K1
      rw [hsd'.out] at K1
      have hkk := hid (K1.1.keep bx hbm.out)
      have hz1 := hid (hkk.out.1.trans hz)
      have hz2 := hid (hkk.out.2.1.trans hz)
      have hz3 := hid (hkk.out.2.2.1.trans hz)
      have hz4 := hid (hkk.out.2.2.2.trans hz)
      have hA4 := hid K1.2
      replace K1 := hid K1.1
      replace hz := hid hz
      clear hAd
      refine Exists.elim K1.out.r1 ?_
      intro u9 er
      simp only [Int.natCast_one] at er
      refine wpAnyH_step (i := 16) (by kernel_rfl) rfl ?_
      go_wp2
      clear er
      refine ⟨hz1.out, ?_⟩
      refine wpAnyH_quiet (i := 17) (v := .int .i64 n1) rfl (by kernel_rfl) (by kernel_rfl) (by kernel_rfl) (fun _ _ _ h => h) rfl (fun W hW => by go_simp) hz1.out ?_
      have er := K1.out.r2
      try simp only [Stint.said, List.getD_cons_zero, List.getD_cons_succ] at er
      refine wpAnyH_step (i := 18) (by kernel_rfl) rfl ?_
      go_wp2
      clear er
      refine ⟨hz2.out, ?_⟩
      refine Exists.elim K1.out.r3 ?_
      intro u9 er
      simp only [Int.natCast_one] at er
      refine wpAnyH_step (i := 19) (by kernel_rfl) rfl ?_
      go_wp2
      clear er
      refine ⟨hz3.out, ?_⟩
      refine wpAnyH_quiet (i := 20) (v := .int .i64 n3) rfl (by kernel_rfl) (by kernel_rfl) (by kernel_rfl) (fun _ _ _ h => h) rfl (fun W hW => by go_simp) hz3.out ?_
      have er := K1.out.r4
      try simp only [Stint.said, List.getD_cons_zero, List.getD_cons_succ] at er
      refine wpAnyH_step (i := 21) (by kernel_rfl) rfl ?_
      go_wp2
      clear er
      refine ⟨hz4.out, ?_⟩
      refine wpAnyH_done (by kernel_rfl) ?_ _
      try simp only [Act.put, List.setIfInBounds_toArray]
      have hx4 := hz4
      have hx4 := hz4
      obtain ⟨w4, hwn⟩ : ∃ x, x = v4 := ⟨_, rfl⟩
      subst hwn
      clear hz hz1 hz2 hz3 hz4 hkk K1 hA3 hx3
      go_wp2
      rw [rounds_succ]
      go_wp2
      go_roundw
      case rel => exact ⟨i + 1, by omega, by go_num, hid (by obtain ⟨es, c, f, h1, h2, h3⟩ := hA4.out.map; exact ⟨hA4.out.below, es, c, f, h1, h2, h3.next⟩)⟩
      case measure => simp [intOf]; omega
    · obtain rfl : i = r.stints.length := by omega
      go_wp2
      go_ret
      rw [hm'.out]
      exact ⟨rfl, hA.out⟩
end Go.Proofs.Ytccgakdaiaigoaa
