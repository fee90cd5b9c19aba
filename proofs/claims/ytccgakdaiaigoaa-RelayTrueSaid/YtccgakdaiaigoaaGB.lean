/- Relays in memory; the walks of every, isStint, and of what valid asks of a span. The walk of valid. What iterators of bounds keep; the makers of both iterators. -/
import Derived.Test.YtccgakdaiaigoaaGA
import Derived.Test.YtccgakdaiaigoaaGK
import Derived.RangeFuncNested
import Derived.RangeFuncBound
import Derived.RangeFuncCalls
import Derived.RangeFuncLeaves
import Derived.OwnWalkIn
import Derived.TacticsInMore
import Derived.LoopNIn
import Derived.LoopIn
import Derived.Shelf.Abstract
import Derived.BigQuiet
namespace Go.Proofs.Ytccgakdaiaigoaa
open Go.RowKit Go.Lap Go.Shelf

def Stint.cells (s : Stint) : List Int := [s.rider, s.on0.1, s.on0.2, s.on1.1, s.on1.2, s.off0.1, s.off0.2, s.off1.1, s.off1.2]
abbrev spanV (s : Int × Int) : Value := .agg #[.int .i64 s.1, .int .i64 s.2]
abbrev stintC (s : Stint) : Array Value := #[.int .i64 s.rider, .int .i64 s.on0.1, .int .i64 s.on0.2, .int .i64 s.on1.1, .int .i64 s.on1.2, .int .i64 s.off0.1, .int .i64 s.off0.2, .int .i64 s.off1.1, .int .i64 s.off1.2]
/-- A slice of stints lies so. -/
def StintsAt (w : World) (v : Value) (L : List Stint) : Prop :=
  ∃ a cap, v = .slice a L.length cap ∧ (L ≠ [] → ∃ b off, a = some ⟨b, off, none⟩ ∧ ∀ k, k < L.length → ∀ f, f < 9 → w.cell? ⟨b, off + k * 9 + f, none⟩ = some (.int .i64 ((L.getD k Stint.none).cells.getD f 0)))
theorem StintsAt.below {w w' : World} {v : Value} {L : List Stint} (h : StintsAt w v L) (hb : Below w.heap.size w w') : StintsAt w' v L := by
  obtain ⟨a, cap, rfl, hx⟩ := h
  refine ⟨a, cap, rfl, fun hne => ?_⟩
  obtain ⟨b, off, rfl, hc⟩ := hx hne
  refine ⟨b, off, rfl, fun k hk f hf => ?_⟩
  have h1 := hc k hk f hf
  exact (hb.cell (p := ⟨b, off + k * 9 + f, none⟩) (cell_lt h1)).trans h1
/-- Of a block kept all but one: what lies elsewhere. -/
theorem StintsAt.grown {w0 w w' : World} {v : Value} {L : List Stint} {r : Nat} (h : StintsAt w0 v L) (hb : Below w0.heap.size w0 w) (hg : w.grownBy w' (some r)) (hr : w0.heap.size ≤ r) : StintsAt w' v L := by
  refine h.below ⟨hg.os.trans hb.os, hg.tape.trans hb.tape, hg.output.trans hb.output, Nat.le_trans hb.size hg.size, fun k hk => ?_⟩
  exact (hg.block k (Nat.lt_of_lt_of_le hk hb.size) (fun e => by cases e; omega)).trans (hb.block k hk)
/-- One stint's cells. -/
theorem StintsAt.at {w : World} {a : Option Addr} {n cap : Nat} {L : List Stint} (h : StintsAt w (.slice a n cap) L) {k : Nat} (hk : k < L.length) :
    ∃ b off, a = some ⟨b, off, none⟩ ∧ b < w.heap.size ∧ ∀ f, f < 9 → w.cell? ⟨b, off + k * 9 + f, none⟩ = some (.int .i64 ((L.getD k Stint.none).cells.getD f 0)) := by
  obtain ⟨a', cap', e, hx⟩ := h
  injection e with e1 e2 e3
  subst e1
  obtain ⟨b, off, rfl, hc⟩ := hx (fun e => by rw [e] at hk; simp at hk)
  exact ⟨b, off, rfl, cell_lt (hc k hk 0 (by decide)), hc k hk⟩
abbrev relV (r : Rel) (sv : Value) : Value := .agg #[.int .i64 r.rest, sv]

set_option maxRecDepth 100000 in
set_option maxHeartbeats 4000000 in
theorem isSpan_any (s : Int × Int) (w : World) : Calls Try.prog 80 #[spanV s] w fun e w' => e = .returned (.bool (spanOk s)) ∧ Below w.heap.size w w' := by
  obtain ⟨lo, hi⟩ := s
  have hb := below_alloc (Below.refl _ w) (.cells #[.int .i64 lo, .int .i64 hi] 28)
  have hb := hid hb
  by_cases h1 : 0 ≤ lo
  · by_cases h2 : lo ≤ hi
    · by_cases h3 : hi ≤ 600
      · have e : Hid (spanOk (lo, hi) = true) := hid (by simp [spanOk, h1, h2, h3])
        go_enter Try.func80, Try.ntmps80
        go_wp2
        go_ret
        exact ⟨by rw [e.out]; rfl, hb.out⟩
      · have e : Hid (spanOk (lo, hi) = false) := hid (by simp [spanOk, h1, h2, h3])
        go_enter Try.func80, Try.ntmps80
        go_wp2
        go_ret
        exact ⟨by rw [e.out]; rfl, hb.out⟩
    · have e : Hid (spanOk (lo, hi) = false) := hid (by simp [spanOk, h1, h2])
      go_enter Try.func80, Try.ntmps80
      go_wp2
      go_ret
      exact ⟨by rw [e.out]; rfl, hb.out⟩
  · have e : Hid (spanOk (lo, hi) = false) := hid (by simp [spanOk, h1])
    go_enter Try.func80, Try.ntmps80
    go_wp2
    go_ret
    exact ⟨by rw [e.out]; rfl, hb.out⟩

theorem every_num {n : Nat} (h : n ≤ 5) : IntKind.u64.wrap (IntKind.u64.wrap ((2 : Int) ^ (4 * n)) - 1) = ((2 ^ (4 * n) - 1 : Nat) : Int) := by
  have h0 : 0 < 2 ^ (4 * n) := Nat.pow_pos (by decide)
  have h1 := (pow_u (c := 4 * n) (by omega)).1
  have h2 : (2 : Int) ^ (4 * n) = ((2 ^ (4 * n) : Nat) : Int) := by simp
  rw [h2, wrap_u (n := ((2 ^ (4 * n) : Nat) : Int)) (by omega) (by omega), wrap_u (by omega) (by omega)]
  omega
set_option maxRecDepth 100000 in
set_option maxHeartbeats 4000000 in
theorem every_any (r : Rel) (hn : r.n ≤ 5) (a : Option Addr) (cap : Nat) (w : World) : Calls Try.prog 60 #[relV r (.slice a r.n cap)] w fun e w' => e = .returned (.int .u64 (r.every : Nat)) ∧ Below w.heap.size w w' := by
  have hb := below_alloc (Below.refl _ w) (.cells #[.int .i64 r.rest, .slice a r.n cap] 24)
  have hb := hid hb
  obtain ⟨n, hrn⟩ : ∃ n, r.n = n := ⟨_, rfl⟩
  have hev : Hid (r.every = 2 ^ (4 * n) - 1) := hid (by rw [Rel.every, hrn])
  rw [hrn] at hn hb ⊢
  have e1 := hid (every_num hn)
  have hsh : ∀ w, (Op.shift .shl .u64 1 .i64 (4 * (n : Int))).run Try.prog w = .ok (.int .u64 ((2 ^ (4 * n) : Nat) : Int)) w := fun w => by
    have := shl_one_u (P := Try.prog) (4 * n) (by omega) w
    rw [show (4 * (n : Int)) = ((4 * n : Nat) : Int) by omega]
    exact this
  go_enter Try.func60, Try.ntmps60
  go_wp2
  go_ret
  refine ⟨ret_int ?_, hb.out⟩
  rw [hev.out]
  exact e1.out

set_option maxRecDepth 100000 in
set_option maxHeartbeats 4000000 in
theorem isStint_any (r : Rel) (hn : r.n ≤ 1000000) (i : Int) (a : Option Addr) (cap : Nat) (w : World) : Calls Try.prog 46 #[relV r (.slice a r.n cap), .int .i64 i] w fun e w' => e = .returned (.bool (r.isStint i)) ∧ Below w.heap.size w w' := by
  have hb := hid (below_alloc (Below.refl _ w) (.cells #[.int .i64 r.rest, .slice a r.n cap] 24))
  obtain ⟨n, hrn⟩ : ∃ n, r.n = n := ⟨_, rfl⟩
  have hev : Hid (r.isStint i = inB i 0 ((n : Int) - 1)) := hid (by rw [Rel.isStint, hrn]; rfl)
  rw [hrn] at hn hb ⊢
  have e1 : IntKind.i64.wrap ((n : Int) - 1) = (n : Int) - 1 := Go.IntWalk.i64_in _ (by omega)
  go_enter Try.func46, Try.ntmps46
  go_wp2_with (go_at_call 73; refine (within_any _ _ _ _).mono ?_; rintro e w' ⟨rfl, rfl⟩)
  go_ret
  refine ⟨?_, hb.out⟩
  rw [hev.out]
  rfl
end Go.Proofs.Ytccgakdaiaigoaa

namespace Go.Proofs.Ytccgakdaiaigoaa
open Go.RowKit Go.Lap Go.Shelf

/-- How 'valid' ends. -/
def ValidPost (r : Rel) (b : Bool) (w : World) (e : Ending) (w' : World) : Prop :=
  Below w.heap.size w w' ∧ e = if r.valid then (if b then .returned (.tuple #[]) else .panicked [{ v := failV 2, recovered := false }]) else .panicked [{ v := failV 1, recovered := false }]
theorem validPost_bad {r : Rel} {b : Bool} {w w' : World} (h : r.valid = false) (hb : Below w.heap.size w w') : ValidPost r b w (.panicked [{ v := failV 1, recovered := false }]) w' := ⟨hb, by rw [h]; simp⟩
theorem Rel.valid_all {r : Rel} : r.valid = (inB r.rest 0 60 && decide (r.n ≤ 5) && r.stints.all Stint.ok) := rfl
theorem Rel.bad_at {r : Rel} {k : Nat} (hk : k < r.n) (h : (r.st k).ok = false) : r.valid = false := by
  have : (r.stints.all Stint.ok) = false := by
    rw [List.all_eq_false]
    refine ⟨r.st k, ?_, by rw [h]; simp⟩
    rw [Rel.st, List.getD_eq_getElem?_getD, List.getElem?_eq_getElem hk]
    exact List.getElem_mem _
  rw [Rel.valid_all, this, Bool.and_false]
theorem Rel.all_ok {r : Rel} (h : ∀ k, k < r.n → (r.st k).ok = true) : r.stints.all Stint.ok = true := by
  refine List.all_eq_true.2 fun x hx => ?_
  obtain ⟨k, hk, rfl⟩ := List.getElem_of_mem hx
  have := h k hk
  rwa [Rel.st, List.getD_eq_getElem?_getD, List.getElem?_eq_getElem hk] at this

set_option maxRecDepth 100000 in
set_option maxHeartbeats 4000000 in
theorem valid_any (r : Rel) (_hn : r.n ≤ 1000000) (b : Bool) (sv : Value) (w : World) (hS : StintsAt w sv r.stints) : Calls Try.prog 58 #[relV r sv, .bool b] w (ValidPost r b w) := by
  obtain ⟨sa, scap, rfl, hs0⟩ := id hS
  clear hs0
  have hS' := hid hS
  clear hS
  by_cases h1 : inB r.rest 0 60 = true
  · have h1' := hid h1
    clear h1
    by_cases h5 : r.n ≤ 5
    · have h5' := hid h5
      have h5i : (r.stints.length : Int) ≤ 5 := by have : r.stints.length ≤ 5 := h5; omega
      go_enter Try.func58, Try.ntmps58
      go_wp2_with (first | (go_at_call 73; refine (within_any _ _ _ _).mono ?_; rw [h1'.out]; rintro e w' ⟨rfl, rfl⟩) | (go_at_call 61; with_reducible refine (must_yes _ _).mono ?_; rintro e w' ⟨rfl, rfl⟩))
      have hx := alloc_at (w := w) (o := .cells #[.int .i64 r.rest, .slice sa r.stints.length scap] 24) rfl
      have hb0 := below_alloc (Below.refl _ w) (.cells #[.int .i64 r.rest, .slice sa r.stints.length scap] 24)
      generalize w.alloc (.cells #[.int .i64 r.rest, .slice sa r.stints.length scap] 24) = w0 at hx hb0 ⊢
      obtain ⟨lx, cx⟩ := cells_of hx
      clear hx
      go_loopw [6, 7, 21, 29] (fun _ _ i _ wr => ∃ k : Nat, k ≤ r.stints.length ∧ i = .int .i64 k ∧ Hid (∀ j, j < k → (r.st j).ok = true) ∧ Hid (Below w0.heap.size w0 wr)) (fun _ _ i _ _ => r.stints.length - (intOf i).toNat)
      case atStart => exact ⟨0, by omega, rfl, hid (by omega), hid (Below.refl _ _)⟩
      case round =>
        obtain ⟨k, hk, rfl, hok, hbr⟩ := hrel
        have hbw := hid (below_via hbr.out hb0)
        by_cases hlt : k < r.stints.length
        · have hki : (k : Int) < (r.stints.length : Int) := by omega
          obtain ⟨b1, o1, rfl, l1, hq⟩ := (hS'.out.below hbw.out).at hlt
          obtain ⟨s, hsd⟩ : ∃ s, r.stints.getD k Stint.none = s := ⟨_, rfl⟩
          have hsd' : Hid (r.st k = s) := hid hsd
          rw [hsd] at hq
          clear hsd
          have q0 := hq 0 (by decide)
          have q1 := hq 1 (by decide)
          have q2 := hq 2 (by decide)
          have q3 := hq 3 (by decide)
          have q4 := hq 4 (by decide)
          have q5 := hq 5 (by decide)
          have q6 := hq 6 (by decide)
          have q7 := hq 7 (by decide)
          have q8 := hq 8 (by decide)
          simp only [Stint.cells, List.getD_cons_zero, List.getD_cons_succ, Nat.add_zero] at q0 q1 q2 q3 q4 q5 q6 q7 q8
          clear hq
          have hbad : Hid (s.ok = false → ∀ w', Below w0.heap.size w0 w' → ValidPost r b w (.panicked [{ v := failV 1, recovered := false }]) w') := hid fun h w' hw' => validPost_bad (Rel.bad_at hlt (by rw [hsd'.out]; exact h)) (below_via hw' hb0)
          have hbx := alloc_at (w := wr) (o := .cells (stintC s) 46) rfl
          have hb2 := hid (below_via (below_alloc (Below.refl _ wr) (.cells (stintC s) 46)) hbr.out)
          cases hA : inB s.rider 0 1
          · have hA' := hid hA
            clear hA
            go_wp2_with (first | (go_at_call 73; refine (within_any _ _ _ _).mono ?_; rw [hA'.out]; rintro e w' ⟨rfl, rfl⟩) | (go_at_call 61; with_reducible refine (must_no _ _).mono ?_; rintro e w' ⟨rfl, rfl⟩))
            exact ⟨rfl, hbad.out (by simp only [Stint.ok]; rw [show (decide (0 ≤ s.rider) && decide (s.rider ≤ 1)) = false from hA'.out]; rfl) _ hb2.out⟩
          · have hA' := hid hA
            clear hA
            go_wp2_with (first | (go_at_call 73; refine (within_any _ _ _ _).mono ?_; rw [hA'.out]; rintro e w' ⟨rfl, rfl⟩) | (go_at_call 61; with_reducible refine (must_yes _ _).mono ?_; rintro e w' ⟨rfl, rfl⟩))
            clear q0 q1 q2 q3 q4 q5 q6 q7 q8 l1
            have hxw2 := hbx
            have Bw2 := hb2
            generalize wr.alloc (.cells (stintC s) 46) = w2 at hxw2 Bw2 ⊢
            obtain ⟨lw2, cw2⟩ := cells_of hxw2
            replace hxw2 := hid hxw2
            clear hbx hb2 hbr hbw
            refine wp_loop_rounds 3 ?_
            rw [rounds_succ]
            cases hN0 : spanOk s.on0
            · have hN0' := hid hN0
              clear hN0
              go_wp2_with (first | (go_at_call 80; with_reducible refine (isSpan_any s.on0 _).mono ?_; rw [hN0'.out]; rintro e wa0 ⟨rfl, hbwa0⟩; have hxwa0 := (hbwa0.block _ (cells_of hxw2.out).1).trans hxw2.out; obtain ⟨lwa0, cwa0⟩ := cells_of hxwa0; have Bwa0 := hid (below_via hbwa0 Bw2.out); replace hxwa0 := hid hxwa0; clear hbwa0) | (go_at_call 61; with_reducible refine (must_no _ _).mono ?_; rintro e w' ⟨rfl, rfl⟩))
              exact ⟨rfl, hbad.out (by simp only [Stint.ok]; rw [hN0'.out]; simp) _ Bwa0.out⟩
            · have hN0' := hid hN0
              clear hN0
              cases hF0 : spanOk s.off0
              · have hF0' := hid hF0
                clear hF0
                go_wp2_with (first | (go_at_call 80; with_reducible refine (isSpan_any s.on0 _).mono ?_; rw [hN0'.out]; rintro e wa0 ⟨rfl, hbwa0⟩; have hxwa0 := (hbwa0.block _ (cells_of hxw2.out).1).trans hxw2.out; obtain ⟨lwa0, cwa0⟩ := cells_of hxwa0; have Bwa0 := hid (below_via hbwa0 Bw2.out); replace hxwa0 := hid hxwa0; clear hbwa0) | (go_at_call 80; with_reducible refine (isSpan_any s.off0 _).mono ?_; rw [hF0'.out]; rintro e wb0 ⟨rfl, hbwb0⟩; have hxwb0 := (hbwb0.block _ (cells_of hxwa0.out).1).trans hxwa0.out; obtain ⟨lwb0, cwb0⟩ := cells_of hxwb0; have Bwb0 := hid (below_via hbwb0 Bwa0.out); replace hxwb0 := hid hxwb0; clear hbwb0) | (go_at_call 61; with_reducible refine (must_no _ _).mono ?_; rintro e w' ⟨rfl, rfl⟩))
                exact ⟨rfl, hbad.out (by simp only [Stint.ok]; rw [hF0'.out]; simp) _ Bwb0.out⟩
              · have hF0' := hid hF0
                clear hF0
                go_wp2_with (first | (go_at_call 80; with_reducible refine (isSpan_any s.on0 _).mono ?_; rw [hN0'.out]; rintro e wa0 ⟨rfl, hbwa0⟩; have hxwa0 := (hbwa0.block _ (cells_of hxw2.out).1).trans hxw2.out; obtain ⟨lwa0, cwa0⟩ := cells_of hxwa0; have Bwa0 := hid (below_via hbwa0 Bw2.out); replace hxwa0 := hid hxwa0; clear hbwa0) | (go_at_call 80; with_reducible refine (isSpan_any s.off0 _).mono ?_; rw [hF0'.out]; rintro e wb0 ⟨rfl, hbwb0⟩; have hxwb0 := (hbwb0.block _ (cells_of hxwa0.out).1).trans hxwa0.out; obtain ⟨lwb0, cwb0⟩ := cells_of hxwb0; have Bwb0 := hid (below_via hbwb0 Bwa0.out); replace hxwb0 := hid hxwb0; clear hbwb0) | (go_at_call 61; with_reducible refine (must_yes _ _).mono ?_; rintro e w' ⟨rfl, rfl⟩))
                rw [rounds_succ]
                cases hN1 : spanOk s.on1
                · have hN1' := hid hN1
                  clear hN1
                  go_wp2_with (first | (go_at_call 80; with_reducible refine (isSpan_any s.on1 _).mono ?_; rw [hN1'.out]; rintro e wa1 ⟨rfl, hbwa1⟩; have hxwa1 := (hbwa1.block _ (cells_of hxwb0.out).1).trans hxwb0.out; obtain ⟨lwa1, cwa1⟩ := cells_of hxwa1; have Bwa1 := hid (below_via hbwa1 Bwb0.out); replace hxwa1 := hid hxwa1; clear hbwa1) | (go_at_call 61; with_reducible refine (must_no _ _).mono ?_; rintro e w' ⟨rfl, rfl⟩))
                  exact ⟨rfl, hbad.out (by simp only [Stint.ok]; rw [hN1'.out]; simp) _ Bwa1.out⟩
                · have hN1' := hid hN1
                  clear hN1
                  cases hF1 : spanOk s.off1
                  · have hF1' := hid hF1
                    clear hF1
                    go_wp2_with (first | (go_at_call 80; with_reducible refine (isSpan_any s.on1 _).mono ?_; rw [hN1'.out]; rintro e wa1 ⟨rfl, hbwa1⟩; have hxwa1 := (hbwa1.block _ (cells_of hxwb0.out).1).trans hxwb0.out; obtain ⟨lwa1, cwa1⟩ := cells_of hxwa1; have Bwa1 := hid (below_via hbwa1 Bwb0.out); replace hxwa1 := hid hxwa1; clear hbwa1) | (go_at_call 80; with_reducible refine (isSpan_any s.off1 _).mono ?_; rw [hF1'.out]; rintro e wb1 ⟨rfl, hbwb1⟩; have hxwb1 := (hbwb1.block _ (cells_of hxwa1.out).1).trans hxwa1.out; obtain ⟨lwb1, cwb1⟩ := cells_of hxwb1; have Bwb1 := hid (below_via hbwb1 Bwa1.out); replace hxwb1 := hid hxwb1; clear hbwb1) | (go_at_call 61; with_reducible refine (must_no _ _).mono ?_; rintro e w' ⟨rfl, rfl⟩))
                    exact ⟨rfl, hbad.out (by simp only [Stint.ok]; rw [hF1'.out]; simp) _ Bwb1.out⟩
                  · have hF1' := hid hF1
                    clear hF1
                    go_wp2_with (first | (go_at_call 80; with_reducible refine (isSpan_any s.on1 _).mono ?_; rw [hN1'.out]; rintro e wa1 ⟨rfl, hbwa1⟩; have hxwa1 := (hbwa1.block _ (cells_of hxwb0.out).1).trans hxwb0.out; obtain ⟨lwa1, cwa1⟩ := cells_of hxwa1; have Bwa1 := hid (below_via hbwa1 Bwb0.out); replace hxwa1 := hid hxwa1; clear hbwa1) | (go_at_call 80; with_reducible refine (isSpan_any s.off1 _).mono ?_; rw [hF1'.out]; rintro e wb1 ⟨rfl, hbwb1⟩; have hxwb1 := (hbwb1.block _ (cells_of hxwa1.out).1).trans hxwa1.out; obtain ⟨lwb1, cwb1⟩ := cells_of hxwb1; have Bwb1 := hid (below_via hbwb1 Bwa1.out); replace hxwb1 := hid hxwb1; clear hbwb1) | (go_at_call 61; with_reducible refine (must_yes _ _).mono ?_; rintro e w' ⟨rfl, rfl⟩))
                    rw [rounds_succ]
                    go_wp2
                    go_roundw
                    case rel =>
                      refine ⟨k + 1, by omega, by go_num, hid ?_, Bwb1⟩
                      intro j hj
                      by_cases hjk : j < k
                      · exact hok.out j hjk
                      · obtain rfl : j = k := by omega
                        rw [hsd'.out]; simp only [Stint.ok]; rw [show (decide (0 ≤ s.rider) && decide (s.rider ≤ 1)) = true from hA'.out, hN0'.out, hN1'.out, hF0'.out, hF1'.out]; rfl
                    case measure => simp [intOf]; omega
        · obtain rfl : k = r.stints.length := by omega
          have hall : Hid (r.valid = true) := hid (by rw [Rel.valid_all, h1'.out, Rel.all_ok hok.out]; simp [h5'.out])
          cases b
          · go_wp2_with (go_at_call 61; with_reducible refine (must_no _ _).mono ?_; rintro e w' ⟨rfl, rfl⟩)
            exact ⟨rfl, hbw.out, by rw [hall.out]; rfl⟩
          · go_wp2_with (go_at_call 61; with_reducible refine (must_yes _ _).mono ?_; rintro e w' ⟨rfl, rfl⟩)
            go_end0
            exact ⟨hbw.out, by rw [hall.out]; rfl⟩
    · have hno : Hid (r.valid = false) := hid (by rw [Rel.valid_all]; simp [h5])
      have h5i : ¬ (r.stints.length : Int) ≤ 5 := by have : ¬ r.stints.length ≤ 5 := h5; omega
      have hd : decide ((r.stints.length : Int) ≤ 5) = false := by simpa using h5i
      clear h5
      have hb0 := hid (below_alloc (Below.refl _ w) (.cells #[.int .i64 r.rest, .slice sa r.stints.length scap] 24))
      go_enter Try.func58, Try.ntmps58
      go_wp2_with (first | (go_at_call 73; refine (within_any _ _ _ _).mono ?_; rw [h1'.out]; rintro e w' ⟨rfl, rfl⟩) | (go_at_call 61; with_reducible refine (must_no _ _).mono ?_; rintro e w' ⟨rfl, rfl⟩))
      exact ⟨rfl, validPost_bad hno.out hb0.out⟩
  · have h1' : Hid (inB r.rest 0 60 = false) := hid (by simpa using h1)
    clear h1
    have hno : Hid (r.valid = false) := hid (by rw [Rel.valid_all, h1'.out]; rfl)
    have hb0 := hid (below_alloc (Below.refl _ w) (.cells #[.int .i64 r.rest, .slice sa r.stints.length scap] 24))
    go_enter Try.func58, Try.ntmps58
    go_wp2_with (first | (go_at_call 73; refine (within_any _ _ _ _).mono ?_; rw [h1'.out]; rintro e w' ⟨rfl, rfl⟩) | (go_at_call 61; with_reducible refine (must_no _ _).mono ?_; rintro e w' ⟨rfl, rfl⟩))
    exact ⟨rfl, validPost_bad hno.out hb0.out⟩
end Go.Proofs.Ytccgakdaiaigoaa

namespace Go.Proofs.Ytccgakdaiaigoaa
open Go.RowKit Go.Lap Go.Shelf

/-- Rows of bounds. -/
def bdK : RowKind Try.prog Bd where
  t := 82
  e := 77
  size := 3
  bytes := 24
  z := .agg #[.int .i64 0, .int .i64 0, .int .i64 0]
  enc := fun x => [.int .i64 x.a, .int .i64 x.b, .int .i64 x.m]
  ht := Try.underlying82
  hi := by kernel_rfl
  hzs := rfl
  hsz := by decide
  hb := by decide
  henc := fun _ => rfl
  hone := fun x u hu => by
    simp only [List.mem_cons, List.not_mem_nil, or_false] at hu
    rcases hu with rfl | rfl | rfl <;> rfl

/-- All blocks of cells, and all maps, lie as they lay, but for a table's. -/
def TabKp (tb : Nat) (A C : World) : Prop := A.heap.size ≤ C.heap.size ∧ ∀ k o, k ≠ tb → A.heap[k]? = some o → (o.isCells = true ∨ o.isWalk = true) → C.heap[k]? = some o
theorem TabKp.refl (tb : Nat) (A : World) : TabKp tb A A := ⟨Nat.le_refl _, fun _ _ _ h _ => h⟩
theorem TabKp.trans {tb : Nat} {A C D : World} (h : TabKp tb A C) (k : TabKp tb C D) : TabKp tb A D := ⟨Nat.le_trans h.1 k.1, fun j o hj ho hc => k.2 j o hj (h.2 j o hj ho hc) hc⟩
theorem tabKp_b {tb : Nat} {w : World} (W : World) (l : Nat) (o o' : Obj) (_ : w.heap.size ≤ l) (h : W.heap[l]? = some o) (h1 : o.isCells = false) (h2 : o.isWalk = false) : TabKp tb W (W.putObj l o') := by
  refine ⟨by simp, fun k p _ hp hc => ?_⟩
  by_cases e : k = l
  · subst e
    rw [h] at hp; cases hp
    rcases hc with hc | hc
    · rw [h1] at hc; cases hc
    · rw [h2] at hc; cases hc
  · exact (World.putObj_heap_other e).trans hp
theorem TabKp.below {tb : Nat} {A C : World} (h : Below A.heap.size A C) : TabKp tb A C := ⟨h.size, fun k _ _ hk _ => (h.block k (Array.getElem?_eq_some_iff.1 hk).1).trans hk⟩
theorem TabKp.grown {tb : Nat} {A C : World} (h : A.grownBy C (some tb)) : TabKp tb A C := ⟨h.size, fun _ _ hne hk _ => blk_grown h hk hne⟩
theorem TabKp.cells {tb : Nat} {A C : World} (h : TabKp tb A C) {b : Nat} {c : Array Value} {t : TypeId} {fr : Nat × Nat} (hb : A.heap[b]? = some (.cells c t fr)) (hne : b ≠ tb) : C.heap[b]? = some (.cells c t fr) := h.2 b _ hne hb (.inl rfl)
theorem TabKp.map {tb : Nat} {A C : World} (h : TabKp tb A C) {b : Nat} {es : Array MapEntry} {c : Nat} (hb : A.heap[b]? = some (.map es c)) (hne : b ≠ tb) : C.heap[b]? = some (.map es c) := h.2 b _ hne hb (.inr rfl)

/-- Stints that lie below a bound. -/
def StU (B : Nat) (w : World) (v : Value) (L : List Stint) : Prop :=
  ∃ a cap, v = .slice a L.length cap ∧ (L ≠ [] → ∃ b off, b < B ∧ a = some ⟨b, off, none⟩ ∧ ∀ k, k < L.length → ∀ f, f < 9 → w.cell? ⟨b, off + k * 9 + f, none⟩ = some (.int .i64 ((L.getD k Stint.none).cells.getD f 0)))
theorem StU.at {B : Nat} {w : World} {v : Value} {L : List Stint} (h : StU B w v L) : StintsAt w v L := by
  obtain ⟨a, cap, rfl, hx⟩ := h
  exact ⟨a, cap, rfl, fun hne => by obtain ⟨b, off, _, e, hc⟩ := hx hne; exact ⟨b, off, e, hc⟩⟩
theorem StintsAt.under {w : World} {v : Value} {L : List Stint} (h : StintsAt w v L) : StU w.heap.size w v L := by
  obtain ⟨a, cap, rfl, hx⟩ := h
  refine ⟨a, cap, rfl, fun hne => ?_⟩
  obtain ⟨b, off, e, hc⟩ := hx hne
  exact ⟨b, off, cell_lt (hc 0 (List.length_pos_iff.2 hne) 0 (by decide)), e, hc⟩
theorem StU.kp {B tb : Nat} {w w' : World} {v : Value} {L : List Stint} (h : StU B w v L) (hk : TabKp tb w w') (hB : B ≤ tb) : StU B w' v L := by
  obtain ⟨a, cap, rfl, hx⟩ := h
  refine ⟨a, cap, rfl, fun hne => ?_⟩
  obtain ⟨b, off, hb, e, hc⟩ := hx hne
  refine ⟨b, off, hb, e, fun k hkk f hf => ?_⟩
  have h1 := hc k hkk f hf
  obtain ⟨o, ho, hoc⟩ := cells_of_cell h1
  have h2 := hk.2 b o (by omega) ho (.inl hoc)
  rw [← h1]
  exact World.cell?_of_block (h2.trans ho.symm)
theorem StU.below {B : Nat} {w w' : World} {v : Value} {L : List Stint} (h : StU B w v L) (hb : Below w.heap.size w w') : StU B w' v L := by
  obtain ⟨a, cap, rfl, hx⟩ := h
  refine ⟨a, cap, rfl, fun hne => ?_⟩
  obtain ⟨b, off, hlt, e, hc⟩ := hx hne
  exact ⟨b, off, hlt, e, fun k hkk f hf => (hb.cell (p := ⟨b, off + k * 9 + f, none⟩) (cell_lt (hc k hkk f hf))).trans (hc k hkk f hf)⟩

/-- A row that is laid whole. -/
theorem own_lit {P : Program} {α : Type} (K : RowKind P α) {B g n : Nat} {W : World} {c : Array Value} {xs : List α} (h : W.heap[g]? = some (.cells c K.e (0, 0))) (hc : c.toList = xs.flatMap K.enc) (hn : n = xs.length) (hl : n ≤ 1000) (hB : B ≤ g) : K.own B W (.slice (some ⟨g, 0, none⟩) n n) xs := by
  subst hn
  have hs := flat_length K xs
  refine ⟨hs, .inr ⟨g, xs.length, c, rfl, hB, h, Nat.le_refl _, ?_, ?_, ?_⟩⟩
  · exact Nat.le_trans hl (by decide)
  · rw [← Array.length_toList, hc, hs]
  · rw [hc]; exact List.take_of_length_le (by omega)
/-- What a row of the call's own looks like, its length a number by itself. -/
theorem own_open {P : Program} {α : Type} {K : RowKind P α} {B : Nat} {W : World} {v : Value} {xs : List α} (h : K.own B W v xs) (hne : xs ≠ []) : ∃ (N g cap : Nat) (cur : Array Value), N = xs.length ∧ v = .slice (some ⟨g, 0, none⟩) N cap ∧ B ≤ g ∧ W.heap[g]? = some (.cells cur K.e (0, 0)) ∧ ∀ k x, xs[k]? = some x → ∀ f u, (K.enc x)[f]? = some u → cur[k * K.size + f]? = some u := by
  obtain ⟨g, cap, cur, rfl, hB, hg, hc⟩ := h.block hne
  refine ⟨xs.length, g, cap, cur, rfl, rfl, hB, hg, fun k x hk f u hf => ?_⟩
  have := hc k x hk f u hf
  rwa [(cells_of hg).2] at this
abbrev entriesV (r : Rel) (sv : Value) (set : Nat) : Value := .agg #[.int .i64 r.rest, sv, .int .u64 set]

set_option maxHeartbeats 400000 in
theorem rules_bounds_any (r : Rel) (sv : Value) (hsv : ∃ a n c, sv = .slice a n c) (w : World) : Calls Try.prog 107 #[relV r sv] w fun e w' => e = .returned (.func (.func 108) #[] #[.pointer (some ⟨w.heap.size, 0, none⟩)]) ∧ w' = w.alloc (.cells #[.int .i64 r.rest, sv] 87) := by
  obtain ⟨a, n, c, rfl⟩ := hsv
  have hmf := hmf
  go_enter Try.func107, Try.ntmps107
  go_wp2
  go_ret
  exact ⟨rfl, rfl⟩
set_option maxHeartbeats 400000 in
theorem entries_bounds_any (r : Rel) (sv : Value) (hsv : ∃ a n c, sv = .slice a n c) (set : Nat) (w : World) : Calls Try.prog 109 #[entriesV r sv set] w fun e w' => e = .returned (.func (.func 110) #[] #[.pointer (some ⟨w.heap.size, 0, none⟩)]) ∧ w' = w.alloc (.cells #[.int .i64 r.rest, sv, .int .u64 set] 102) := by
  obtain ⟨a, n, c, rfl⟩ := hsv
  have hmf := hmf
  go_enter Try.func109, Try.ntmps109
  go_wp2
  go_ret
  exact ⟨rfl, rfl⟩
end Go.Proofs.Ytccgakdaiaigoaa
