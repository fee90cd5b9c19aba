/- The walks of what Nobody and Gap ask of a minute. The walk of what Gap asks of a minute. The walk of first. What is asked of a minute, in words of truths: plain mathematics. -/
import Derived.Test.YtccgakdaiaigoaaGD
import Derived.Laws.Rows
import Derived.Test.YtccgakdaiaigoaaBG
import Derived.Test.YtccgakdaiaigoaaGP
namespace Go.Proofs.Ytccgakdaiaigoaa
open Go.RowKit Go.Lap Go.Shelf

theorem tabV_size (t : List Int) : (tabV t).size = t.length := by simp
theorem load_tab {W : World} {tb : Nat} {t : List Int} (h : TabAt W tb t) (ht : t.length = 121) : (Instr.loadAt 113 (.pointer (some ⟨tb, 0, none⟩))).run Try.prog W = .ok (.agg (tabV t)) W := by
  have := run_loadVar_row (P := Try.prog) W tb 113 113 (tabV t) (0, 0) (.array 11 103) h (by kernel_rfl) rfl (by rw [tabV_size, ht]; kernel_rfl)
  simp only [Instr.loadAt, Instr.sureAddr, Sem.run_bind, Sem.run_pure, Result.andThen_ok, this]

/-- A stint is on the track in a minute. -/
def nobB (m : Int) (i : Nat) : List Bd := [⟨10, 2 * i, m⟩, ⟨2 * i + 1, 10, -m - 1⟩]
def nobQ (r : Rel) (T : Tab) (m : Int) : Bool := (List.range r.n).all fun i => !(know (some T) (nobB m i)).isSome
theorem nobQ_no {r : Rel} {T : Tab} {m : Int} {i : Nat} (hi : i < r.n) (h : (know (some T) (nobB m i)).isSome = true) : nobQ r T m = false := by
  rw [nobQ, List.all_eq_false]
  exact ⟨i, List.mem_range.2 hi, by rw [h]; simp⟩
theorem nobQ_yes {r : Rel} {T : Tab} {m : Int} (h : ∀ i, i < r.n → (know (some T) (nobB m i)).isSome = false) : nobQ r T m = true := by
  rw [nobQ, List.all_eq_true]
  intro i hi
  rw [h i (List.mem_range.1 hi)]; rfl
theorem nobB_fit {m : Int} {i : Nat} (hm : 0 ≤ m) (hm2 : m ≤ 600) (hi : i < 5) : ∀ x, x ∈ nobB m i → x.fit := by
  intro x hx
  simp only [nobB, List.mem_cons, List.not_mem_nil, or_false] at hx
  rcases hx with rfl | rfl
  · exact ⟨show 10 < 11 by omega, show 2 * i < 11 by omega, by simp only; omega, by simp only; omega⟩
  · exact ⟨show 2 * i + 1 < 11 by omega, show 10 < 11 by omega, by simp only; omega, by simp only; omega⟩

set_option maxRecDepth 100000 in
set_option maxHeartbeats 4000000 in
theorem nobody_any (r : Rel) (hn : r.n ≤ 5) (T : Tab) (t : List Int) (hh : Holds t (some T)) (m : Int) (hm : 0 ≤ m) (hm2 : m ≤ 600) (tb rb : Nat) (sv : Value) (hsv : ∃ a c, sv = .slice a r.stints.length c) (w : World) (ht : TabAt w tb t) (hr : w.heap[rb]? = some (.cells #[.int .i64 r.rest, sv] 24 (0, 0))) :
    Calls Try.prog 52 #[.pointer (some ⟨tb, 0, none⟩), .int .i64 m, .pointer (some ⟨rb, 0, none⟩)] w fun e w' => e = .returned (.bool (nobQ r T m)) ∧ Below w.heap.size w w' := by
  obtain ⟨a, c, rfl⟩ := hsv
  obtain ⟨lr, cr⟩ := cells_of hr
  have hh' := hid hh
  have ht' := hid ht
  have hr' := hid hr
  clear hh ht hr
  have hn' : r.stints.length ≤ 5 := hn
  have hw1 : IntKind.i64.wrap (-m) = -m := Go.IntWalk.i64_in _ (by omega)
  have hw2 : IntKind.i64.wrap (-m - 1) = -m - 1 := Go.IntWalk.i64_in _ (by omega)
  obtain ⟨tv, htv⟩ : ∃ v, tabV t = v := ⟨_, rfl⟩
  have htv' := hid htv
  clear htv
  go_enter Try.func52, Try.ntmps52
  go_wp2
  go_loopw [10] (fun ix wr => ∃ i : Nat, i ≤ r.stints.length ∧ ix = .int .i64 i ∧ Hid (Below w.heap.size w wr) ∧ Hid (∀ j, j < i → (know (some T) (nobB m j)).isSome = false)) (fun ix _ => r.stints.length - (intOf ix).toNat)
  case atStart => exact ⟨0, by omega, rfl, hid (Below.refl _ _), hid (fun j hj => by omega)⟩
  case round =>
    obtain ⟨i, hi, rfl, hb, hno⟩ := hrel
    obtain ⟨lr2, cr2⟩ := cells_of ((hb.out.block _ lr).trans hr'.out)
    have htw : TabAt wr tb t := (hb.out.block _ (cells_of ht'.out).1).trans ht'.out
    by_cases hlt : i < r.stints.length
    · have hki : (i : Int) < (r.stints.length : Int) := by omega
      have hi5 : (i : Int) < 5 := by omega
      have hl := htw
      rw [TabAt, htv'.out] at hl
      replace hl := hid hl
      have hsz : Hid ((Try.prog.info? 113).map (·.size) = some tv.size) := hid (by rw [← htv'.out, tabV_size, hh'.out.length]; kernel_rfl)
      have hu : Hid (Try.prog.underlying 113 = some (.array 11 103)) := hid (by kernel_rfl)
      have ltb := (cells_of htw).1
      have hb2 := below_alloc (Below.refl _ wr) (.cells #[.int .i64 10, .int .i64 (2 * (i : Int)), .int .i64 m, .int .i64 (2 * (i : Int) + 1), .int .i64 10, .int .i64 (-m - 1)] 77)
      have hr2 := alloc_at (w := wr) (o := .cells #[.int .i64 10, .int .i64 (2 * (i : Int)), .int .i64 m, .int .i64 (2 * (i : Int) + 1), .int .i64 10, .int .i64 (-m - 1)] 77) rfl
      have hat := hid (own_lit bdK (B := 0) (n := 2) (xs := nobB m i) hr2 (by simp [bdK, nobB]) rfl (by decide) (Nat.zero_le _)).at
      have hal := hid (fun W => also_any t (some T) hh'.out (nobB m i) (nobB_fit hm hm2 (by omega)) (by simp [nobB]) (.slice (some ⟨wr.heap.size, 0, none⟩) 2 2) W)
      rw [htv'.out] at hal
      have hb2 := hid hb2
      clear htw hr2
      cases hq : (know (some T) (nobB m i)).isSome
      · have hq' := hid hq
        clear hq
        go_wp2_with (first | (with_reducible refine wpList_load_row rfl 113 (.tmp 14) rfl tb rfl 113 tv (0, 0) (.array 11 103) hl.out hu.out rfl hsz.out ?_) | (go_at_call 53; refine (hal.out _ hat.out).mono ?_; rw [hq'.out]; rintro e w3 ⟨rfl, hb3⟩; replace hb3 := hid hb3))
        go_roundw
        case rel => exact ⟨i + 1, by omega, by go_num, hid (below_via (below_via hb3.out hb2.out) hb.out), hid (fun j hj => by
          by_cases e : j = i
          · rw [e]; exact hq'.out
          · exact hno.out j (by omega))⟩
        case measure => simp [intOf]; omega
      · have hq' := hid hq
        clear hq
        go_wp2_with (first | (with_reducible refine wpList_load_row rfl 113 (.tmp 14) rfl tb rfl 113 tv (0, 0) (.array 11 103) hl.out hu.out rfl hsz.out ?_) | (go_at_call 53; refine (hal.out _ hat.out).mono ?_; rw [hq'.out]; rintro e w3 ⟨rfl, hb3⟩; replace hb3 := hid hb3))
        go_ret
        exact ⟨by rw [nobQ_no (show i < r.n from hlt) hq'.out]; rfl, below_via (below_via hb3.out hb2.out) hb.out⟩
    · obtain rfl : i = r.stints.length := by omega
      go_wp2
      go_ret
      exact ⟨by rw [nobQ_yes (r := r) hno.out]; rfl, hb.out⟩
end Go.Proofs.Ytccgakdaiaigoaa

namespace Go.Proofs.Ytccgakdaiaigoaa
open Go.RowKit Go.Lap Go.Shelf

/-- The stints before one have ended, all others have not begun. -/
def gapB (m : Int) (st i : Nat) : Bd := if i < st then ⟨10, 2 * i + 1, m⟩ else ⟨2 * i, 10, -m - 1⟩
def gapL (n : Nat) (m : Int) (st : Nat) : List Bd := (List.range n).map (gapB m st)
def gapQ (r : Rel) (T : Tab) (m : Int) : Bool := (List.range (r.n + 1)).any fun st => (know (some T) (gapL r.n m st)).isSome
theorem gapQ_yes {r : Rel} {T : Tab} {m : Int} {i : Nat} (hi : i < r.n + 1) (h : (know (some T) (gapL r.n m i)).isSome = true) : gapQ r T m = true := by
  rw [gapQ, List.any_eq_true]
  exact ⟨i, List.mem_range.2 hi, h⟩
theorem gapQ_no {r : Rel} {T : Tab} {m : Int} (h : ∀ i, i < r.n + 1 → (know (some T) (gapL r.n m i)).isSome = false) : gapQ r T m = false := by
  rw [gapQ, List.any_eq_false]
  intro i hi
  rw [h i (List.mem_range.1 hi)]; simp
theorem gapL_fit {m : Int} {n st : Nat} (hm : 0 ≤ m) (hm2 : m ≤ 600) (hn : n ≤ 5) : ∀ x, x ∈ gapL n m st → x.fit := by
  intro x hx
  obtain ⟨i, hi, rfl⟩ := List.mem_map.1 hx
  have := List.mem_range.1 hi
  simp only [gapB]
  split
  · exact ⟨show 10 < 11 by omega, show 2 * i + 1 < 11 by omega, by simp only; omega, by simp only; omega⟩
  · exact ⟨show 2 * i < 11 by omega, show 10 < 11 by omega, by simp only; omega, by simp only; omega⟩
theorem gapL_snoc (n : Nat) (m : Int) (st : Nat) : gapL (n + 1) m st = gapL n m st ++ [gapB m st n] := by simp [gapL, List.range_succ]
theorem gapL_length (n : Nat) (m : Int) (st : Nat) : (gapL n m st).length = n := by simp [gapL]

set_option maxRecDepth 100000 in
set_option maxHeartbeats 4000000 in
theorem gap_any (r : Rel) (hn : r.n ≤ 5) (T : Tab) (t : List Int) (hh : Holds t (some T)) (m : Int) (hm : 0 ≤ m) (hm2 : m ≤ 600) (tb rb : Nat) (sv : Value) (hsv : ∃ a c, sv = .slice a r.stints.length c) (w : World) (ht : TabAt w tb t) (hr : w.heap[rb]? = some (.cells #[.int .i64 r.rest, sv] 24 (0, 0))) :
    Calls Try.prog 56 #[.pointer (some ⟨tb, 0, none⟩), .int .i64 m, .pointer (some ⟨rb, 0, none⟩)] w fun e w' => e = .returned (.bool (gapQ r T m)) ∧ Below w.heap.size w w' := by
  obtain ⟨a, c, rfl⟩ := hsv
  obtain ⟨lr, cr⟩ := cells_of hr
  have hh' := hid hh
  have ht' := hid ht
  have hr' := hid hr
  clear hh ht hr
  have hn' : r.stints.length ≤ 5 := hn
  have hw1 : IntKind.i64.wrap (-m) = -m := Go.IntWalk.i64_in _ (by omega)
  have hw2 : IntKind.i64.wrap (-m - 1) = -m - 1 := Go.IntWalk.i64_in _ (by omega)
  obtain ⟨tv, htv⟩ : ∃ v, tabV t = v := ⟨_, rfl⟩
  have htv' := hid htv
  clear htv
  go_enter Try.func56, Try.ntmps56
  go_wp2
  go_loopw [13] (fun ix wr => ∃ st : Nat, st ≤ r.stints.length + 1 ∧ ix = .int .i64 st ∧ Hid (Below w.heap.size w wr) ∧ Hid (∀ j, j < st → (know (some T) (gapL r.stints.length m j)).isSome = false)) (fun ix _ => r.stints.length + 1 - (intOf ix).toNat)
  case atStart => exact ⟨0, by omega, rfl, hid (Below.refl _ _), hid (fun j hj => by omega)⟩
  case round =>
    obtain ⟨st, hst, rfl, hb, hno⟩ := hrel
    by_cases hlt : st < r.stints.length + 1
    · have hki : (st : Int) < (r.stints.length : Int) + 1 := by omega
      obtain ⟨lr2, cr2⟩ := cells_of ((hb.out.block _ lr).trans hr'.out)
      have hsz0 := hid hb.out.size
      go_wp2
      go_loopw [7, 19] (fun lv ix wq => ∃ i : Nat, i ≤ r.stints.length ∧ ix = .int .i64 i ∧ Hid (Below w.heap.size w wq) ∧ Hid (bdK.own w.heap.size wq lv (gapL i m st))) (fun _ ix _ => r.stints.length - (intOf ix).toNat)
      case atStart => exact ⟨0, by omega, rfl, hb, hid (bdK.own_nil _ _)⟩
      case round =>
        clear hb lr2 cr2 hsz0
        obtain ⟨i, hi, rfl, hb, hown⟩ := hrel
        by_cases hlk : i < r.stints.length
        · have hkk : (i : Int) < (r.stints.length : Int) := by omega
          have hi5 : (i : Int) < 5 := by omega
          have hsz := hid hb.out.size
          by_cases hc : i < st
          · have hci : (i : Int) < (st : Int) := by omega
            have hgb : Hid (gapL (i + 1) m st = gapL i m st ++ [⟨10, 2 * i + 1, m⟩]) := hid (by rw [gapL_snoc, gapB, if_pos hc])
            clear hc
            go_wp2_with (at_builtin; refine wpList_append_row bdK rfl _ _ rfl w.heap.size u7 (gapL i m st) [⟨10, 2 * i + 1, m⟩] rfl (hown.out.below (below_alloc (Below.refl _ _) _)) wr.heap.size 0 1 1 rfl rfl (row_one bdK wr ⟨10, 2 * i + 1, m⟩ _ _ (by simp [bdK])) (by rw [gapL_length]; simp; omega) (by have := hsz.out; simp; omega) ?_; intro v' w6 hown6 hb6 _; have hb7 := hid ((below_alloc hb.out _).trans hb6); replace hown6 := hid hown6; clear hb6)
            go_roundw
            case rel => exact ⟨i + 1, by omega, by go_num, hb7, hid (by rw [hgb.out]; exact hown6.out)⟩
            case measure => simp [intOf]; omega
          · have hci : ¬ (i : Int) < (st : Int) := by omega
            have hgb : Hid (gapL (i + 1) m st = gapL i m st ++ [⟨2 * i, 10, -m - 1⟩]) := hid (by rw [gapL_snoc, gapB, if_neg hc])
            clear hc
            go_wp2_with (at_builtin; refine wpList_append_row bdK rfl _ _ rfl w.heap.size u7 (gapL i m st) [⟨2 * i, 10, -m - 1⟩] rfl (hown.out.below (below_alloc (Below.refl _ _) _)) wr.heap.size 0 1 1 rfl rfl (row_one bdK wr ⟨2 * i, 10, -m - 1⟩ _ _ (by simp [bdK])) (by rw [gapL_length]; simp; omega) (by have := hsz.out; simp; omega) ?_; intro v' w6 hown6 hb6 _; have hb7 := hid ((below_alloc hb.out _).trans hb6); replace hown6 := hid hown6; clear hb6)
            go_roundw
            case rel => exact ⟨i + 1, by omega, by go_num, hb7, hid (by rw [hgb.out]; exact hown6.out)⟩
            case measure => simp [intOf]; omega
        · obtain rfl : i = r.stints.length := by omega
          have htw : TabAt wr tb t := (hb.out.block _ (cells_of ht'.out).1).trans ht'.out
          have ltb := (cells_of htw).1
          rw [TabAt, htv'.out] at htw
          replace htw := hid htw
          have hsz : Hid ((Try.prog.info? 113).map (·.size) = some tv.size) := hid (by rw [← htv'.out, tabV_size, hh'.out.length]; kernel_rfl)
          have hu : Hid (Try.prog.underlying 113 = some (.array 11 103)) := hid (by kernel_rfl)
          have hal := hid (fun W => also_any t (some T) hh'.out (gapL r.stints.length m st) (gapL_fit hm hm2 hn') (by rw [gapL_length]; omega) u7 W)
          rw [htv'.out] at hal
          cases hq : (know (some T) (gapL r.stints.length m st)).isSome
          · have hq' := hid hq
            clear hq
            go_wp2_with (first | (with_reducible refine wpList_load_row rfl 113 (.tmp 44) rfl tb rfl 113 tv (0, 0) (.array 11 103) htw.out hu.out rfl hsz.out ?_) | (go_at_call 53; refine (hal.out _ hown.out.at).mono ?_; rw [hq'.out]; rintro e w3 ⟨rfl, hb3⟩; replace hb3 := hid hb3))
            go_roundw
            case rel => exact ⟨st + 1, by omega, by go_num, hid (below_via hb3.out hb.out), hid (fun j hj => by
              by_cases e : j = st
              · rw [e]; exact hq'.out
              · exact hno.out j (by omega))⟩
            case measure => simp [intOf]; omega
          · have hq' := hid hq
            clear hq
            go_wp2_with (first | (with_reducible refine wpList_load_row rfl 113 (.tmp 44) rfl tb rfl 113 tv (0, 0) (.array 11 103) htw.out hu.out rfl hsz.out ?_) | (go_at_call 53; refine (hal.out _ hown.out.at).mono ?_; rw [hq'.out]; rintro e w3 ⟨rfl, hb3⟩; replace hb3 := hid hb3))
            go_ret
            exact ⟨by rw [gapQ_yes (r := r) hlt hq'.out]; rfl, below_via hb3.out hb.out⟩
    · obtain rfl : st = r.stints.length + 1 := by omega
      go_wp2
      go_ret
      exact ⟨by rw [gapQ_no (r := r) hno.out]; rfl, hb.out⟩
end Go.Proofs.Ytccgakdaiaigoaa

namespace Go.Proofs.Ytccgakdaiaigoaa
open Go.RowKit Go.Lap Go.Shelf

theorem within_as {n lo hi : Int} {b : Bool} (h : inB n lo hi = b) (w : World) : Calls Try.prog 73 #[.int .i64 n, .int .i64 lo, .int .i64 hi] w fun e w' => e = .returned (.bool b) ∧ w = w' := by
  subst h; exact within_any n lo hi w
def rangeB (a b : Int) : Bool := inB a 0 600 && inB b a 600
/-- The first of so many minutes, from one on, of which something is so. -/
def firstOf (q : Int → Bool) (m : Int) : Nat → Option Int
  | 0 => none
  | n + 1 => if q m then some m else firstOf q (m + 1) n
def firstE : Option Int → Ending
  | some m => .returned (.int .i64 m)
  | none => panicV 4
/-- What is asked of a minute, as a function value. -/
structure Asks (r : Rel) (f : Nat) (cap : Array Value) (E : World → Prop) (q : Tab → Int → Bool) : Prop where
  he : ∀ args w, (callFunc f args).run Try.prog w = .ok (.enter f args) w
  keep : ∀ W W', E W → Below W.heap.size W W' → E W'
  is : r.valid = true → ∀ (T : Tab) (t : List Int) (tb : Nat) (m : Int) (W : World), Holds t (some T) → 0 ≤ m → m ≤ 600 → TabAt W tb t → E W → Calls Try.prog f (#[.pointer (some ⟨tb, 0, none⟩), .int .i64 m] ++ cap) W fun e w' => e = .returned (.bool (q T m)) ∧ Below W.heap.size W w'


set_option maxRecDepth 100000 in
set_option maxHeartbeats 4000000 in
theorem first_p0 (r : Rel) (hn : r.n ≤ 1000000) (a b c : Int) (f : Nat) (cap : Array Value) (h1 : inB a 0 600 = false) (hc : PanicsR r false c) (sv : Value) (w : World) (hS : StintsAt w sv r.stints) : Calls Try.prog 51 #[relV r sv, .int .i64 a, .int .i64 b, .agg #[.func (.func f) #[] cap]] w fun e w' => e = panicV c ∧ Below w.heap.size w w' := by
  obtain ⟨sa, scap, rfl, _⟩ := id hS
  have hS' := hid hS
  clear hS
  have h1' := hid h1
  have hc' := hid hc
  clear h1 hc
  have hm1 : Hid (((w.alloc (.cells #[.int .i64 r.rest, .slice sa r.stints.length scap] 24)).alloc (.cells #[.func (.func f) #[] cap] 80)).heap[w.heap.size]? = some (.cells #[.int .i64 r.rest, .slice sa r.stints.length scap] 24 (0, 0))) := hid (alloc_old (by simp) (alloc_at rfl))
  have hf1 : Hid (((w.alloc (.cells #[.int .i64 r.rest, .slice sa r.stints.length scap] 24)).alloc (.cells #[.func (.func f) #[] cap] 80)).heap[w.heap.size + 1]? = some (.cells #[.func (.func f) #[] cap] 80 (0, 0))) := hid (alloc_at (by simp))
  have hb1 : Hid (Below w.heap.size w ((w.alloc (.cells #[.int .i64 r.rest, .slice sa r.stints.length scap] 24)).alloc (.cells #[.func (.func f) #[] cap] 80))) := hid (below_alloc (below_alloc (Below.refl _ _) _) _)
  go_enter Try.func51, Try.ntmps51
  go_upto_region 1 with fail
  generalize (w.alloc (.cells #[.int .i64 r.rest, .slice sa r.stints.length scap] 24)).alloc (.cells #[.func (.func f) #[] cap] 80) = w1 at hm1 hf1 hb1 ⊢
  obtain ⟨lx, cx⟩ := cells_of hm1.out
  refine wp_region_later_tail 8 (by kernel_rfl) (by kernel_rfl) ?_
  intro hx
  simp only [List.take_succ_cons, List.take_zero, List.drop_succ_cons, List.drop_zero]
  repeat (any_goals (first | go_big_quiet_step (((go_at_call 73; with_reducible exact Calls.later_same (within_as h1'.out _)))) | quiet_step (((go_at_call 73; with_reducible exact Calls.later_same (within_as h1'.out _))))))
  refine wpQuiet_nil ?_
  rintro w4 ⟨x4, hxw⟩
  have hb4 := x4.below
  rw [← hxw] at hb4
  clear hx hxw x4
  have hf4 := hid ((hb4.block _ (cells_of hf1.out).1).trans hf1.out)
  have hb5 := hid (below_via hb4 hb1.out)
  clear hb4 lx cx
  go_wp2_with (go_at_call 45; refine (open_any r hn _ _ _ (hS'.out.below hb5.out)).mono ?_; intro e w6 hp; obtain ⟨rfl, hb6⟩ := open_panics hc'.out hp; clear hp)
  exact ⟨rfl, rfl, below_via hb6 hb5.out⟩

set_option maxRecDepth 100000 in
set_option maxHeartbeats 4000000 in
theorem first_p1 (r : Rel) (hn : r.n ≤ 1000000) (a b c : Int) (f : Nat) (cap : Array Value) (h1 : inB a 0 600 = true) (hc : PanicsR r (inB b a 600) c) (sv : Value) (w : World) (hS : StintsAt w sv r.stints) : Calls Try.prog 51 #[relV r sv, .int .i64 a, .int .i64 b, .agg #[.func (.func f) #[] cap]] w fun e w' => e = panicV c ∧ Below w.heap.size w w' := by
  obtain ⟨sa, scap, rfl, _⟩ := id hS
  have hS' := hid hS
  clear hS
  have h1' := hid h1
  have hc' := hid hc
  clear h1 hc
  have hm1 : Hid (((w.alloc (.cells #[.int .i64 r.rest, .slice sa r.stints.length scap] 24)).alloc (.cells #[.func (.func f) #[] cap] 80)).heap[w.heap.size]? = some (.cells #[.int .i64 r.rest, .slice sa r.stints.length scap] 24 (0, 0))) := hid (alloc_old (by simp) (alloc_at rfl))
  have hf1 : Hid (((w.alloc (.cells #[.int .i64 r.rest, .slice sa r.stints.length scap] 24)).alloc (.cells #[.func (.func f) #[] cap] 80)).heap[w.heap.size + 1]? = some (.cells #[.func (.func f) #[] cap] 80 (0, 0))) := hid (alloc_at (by simp))
  have hb1 : Hid (Below w.heap.size w ((w.alloc (.cells #[.int .i64 r.rest, .slice sa r.stints.length scap] 24)).alloc (.cells #[.func (.func f) #[] cap] 80))) := hid (below_alloc (below_alloc (Below.refl _ _) _) _)
  go_enter Try.func51, Try.ntmps51
  go_upto_region 1 with fail
  generalize (w.alloc (.cells #[.int .i64 r.rest, .slice sa r.stints.length scap] 24)).alloc (.cells #[.func (.func f) #[] cap] 80) = w1 at hm1 hf1 hb1 ⊢
  obtain ⟨lx, cx⟩ := cells_of hm1.out
  refine wp_region_later_tail 8 (by kernel_rfl) (by kernel_rfl) ?_
  intro hx
  simp only [List.take_succ_cons, List.take_zero, List.drop_succ_cons, List.drop_zero]
  repeat (any_goals (first | go_big_quiet_step ((first | (go_at_call 73; with_reducible exact Calls.later_same (within_as h1'.out _)) | (go_at_call 73; with_reducible exact Calls.later_same (within_any _ _ _ _)))) | quiet_step ((first | (go_at_call 73; with_reducible exact Calls.later_same (within_as h1'.out _)) | (go_at_call 73; with_reducible exact Calls.later_same (within_any _ _ _ _))))))
  refine wpQuiet_nil ?_
  rintro w4 ⟨x4, hxw⟩
  have hb4 := x4.below
  rw [← hxw] at hb4
  clear hx hxw x4
  have hf4 := hid ((hb4.block _ (cells_of hf1.out).1).trans hf1.out)
  have hb5 := hid (below_via hb4 hb1.out)
  clear hb4 lx cx
  go_wp2_with (go_at_call 45; refine (open_any r hn _ _ _ (hS'.out.below hb5.out)).mono ?_; intro e w6 hp; obtain ⟨rfl, hb6⟩ := open_panics hc'.out hp; clear hp)
  exact ⟨rfl, rfl, below_via hb6 hb5.out⟩

set_option maxRecDepth 100000 in
set_option maxHeartbeats 4000000 in
theorem first_ok (r : Rel) (hv : r.valid = true) (a b : Int) (h1 : inB a 0 600 = true) (h2 : inB b a 600 = true) (T : Tab) (hT : r.tab r.every = some T) (f : Nat) (cap : Array Value) (E : World → Prop) (q : Tab → Int → Bool) (hA : Asks r f cap E q) (sv : Value) (w : World) (hE : E w) (hS : StintsAt w sv r.stints) : Calls Try.prog 51 #[relV r sv, .int .i64 a, .int .i64 b, .agg #[.func (.func f) #[] cap]] w fun e w' => e = firstE (firstOf (q T) a (b + 1 - a).toNat) ∧ Below w.heap.size w w' := by
  obtain ⟨sa, scap, rfl, _⟩ := id hS
  have hS' := hid hS
  clear hS
  have hn : r.n ≤ 1000000 := by have h2 := (r.ok_of hv).2.2.1; omega
  have hab := inB_iff.1 h1
  have hbb := inB_iff.1 h2
  have h1' := hid h1
  have h2' := hid h2
  have hT' := hid hT
  have hv' := hid hv
  have he := hA.he
  have hA' := hid hA
  have hE' := hid hE
  clear h1 h2 hT hv hA hE
  have hm1 : Hid (((w.alloc (.cells #[.int .i64 r.rest, .slice sa r.stints.length scap] 24)).alloc (.cells #[.func (.func f) #[] cap] 80)).heap[w.heap.size]? = some (.cells #[.int .i64 r.rest, .slice sa r.stints.length scap] 24 (0, 0))) := hid (alloc_old (by simp) (alloc_at rfl))
  have hf1 : Hid (((w.alloc (.cells #[.int .i64 r.rest, .slice sa r.stints.length scap] 24)).alloc (.cells #[.func (.func f) #[] cap] 80)).heap[w.heap.size + 1]? = some (.cells #[.func (.func f) #[] cap] 80 (0, 0))) := hid (alloc_at (by simp))
  have hb1 : Hid (Below w.heap.size w ((w.alloc (.cells #[.int .i64 r.rest, .slice sa r.stints.length scap] 24)).alloc (.cells #[.func (.func f) #[] cap] 80))) := hid (below_alloc (below_alloc (Below.refl _ _) _) _)
  go_enter Try.func51, Try.ntmps51
  go_upto_region 1 with fail
  generalize (w.alloc (.cells #[.int .i64 r.rest, .slice sa r.stints.length scap] 24)).alloc (.cells #[.func (.func f) #[] cap] 80) = w1 at hm1 hf1 hb1 ⊢
  obtain ⟨lx, cx⟩ := cells_of hm1.out
  refine wp_region_later_tail 8 (by kernel_rfl) (by kernel_rfl) ?_
  intro hx
  simp only [List.take_succ_cons, List.take_zero, List.drop_succ_cons, List.drop_zero]
  repeat (any_goals (first | go_big_quiet_step ((first | (go_at_call 73; with_reducible exact Calls.later_same (within_as h1'.out _)) | (go_at_call 73; with_reducible exact Calls.later_same (within_as h2'.out _)))) | quiet_step ((first | (go_at_call 73; with_reducible exact Calls.later_same (within_as h1'.out _)) | (go_at_call 73; with_reducible exact Calls.later_same (within_as h2'.out _))))))
  refine wpQuiet_nil ?_
  rintro w4 ⟨x4, hxw⟩
  have hb4 := x4.below
  rw [← hxw] at hb4
  clear hx hxw x4
  have hf4 := hid ((hb4.block _ (cells_of hf1.out).1).trans hf1.out)
  have hb5 := hid (below_via hb4 hb1.out)
  clear hb4 lx cx
  go_wp2_with (go_at_call 45; refine (open_any r hn true _ _ (hS'.out.below hb5.out)).mono ?_; intro e w6 hp; obtain ⟨tb, t, rfl, _, ht, hC, hF, hb6⟩ := open_ok hv'.out hT'.out hp; clear hp; replace hC := hid hC; replace hF := hid hF; replace ht := hid ht; replace hb6 := hid hb6)
  have hf6 := hid ((hb6.out.block _ (cells_of hf4.out).1).trans hf4.out)
  have hb7 := hid (below_via hb6.out hb5.out)
  have hH : Hid (Holds t (some T)) := hid ⟨hC.out, hF.out⟩
  go_loopw [10] (fun ix wr => ∃ m : Int, a ≤ m ∧ m ≤ b + 1 ∧ ix = .int .i64 m ∧ Hid (Below w.heap.size w wr ∧ TabAt wr tb t ∧ wr.heap[w.heap.size + 1]? = some (.cells #[.func (.func f) #[] cap] 80 (0, 0))) ∧ Hid (firstOf (q T) a (b + 1 - a).toNat = firstOf (q T) m (b + 1 - m).toNat)) (fun ix _ => (b + 1 - intOf ix).toNat)
  case atStart => exact ⟨a, by omega, by omega, rfl, hid ⟨hb7.out, ht.out, hf6.out⟩, hid rfl⟩
  case round =>
    clear hb7 ht hf6 hb6 hf4 hb5 hf1 hb1 hm1
    obtain ⟨m, hm1, hm2, rfl, hK, hfo⟩ := hrel
    have hKb := hid hK.out.1
    obtain ⟨lf, cf⟩ := cells_of hK.out.2.2
    by_cases hlt : m ≤ b
    · have HC := hid (hA'.out.is hv'.out T t tb m wr hH.out (by omega) (by omega) hK.out.2.1 (hA'.out.keep _ _ hE'.out hK.out.1))
      have hstep : firstOf (q T) m (b + 1 - m).toNat = if q T m then some m else firstOf (q T) (m + 1) (b + 1 - (m + 1)).toNat := by
        rw [show (b + 1 - m).toNat = (b + 1 - (m + 1)).toNat + 1 by omega]; rfl
      cases hq : q T m
      · rw [hq] at hstep
        have hs' := hid hstep
        have hq' := hid hq
        clear hq hstep
        go_wp2_with fail
        refine HC.out.mono ?_
        rw [hq'.out]
        rintro e w8 ⟨rfl, hb8⟩
        have hK8 : Hid (Below w.heap.size w w8 ∧ TabAt w8 tb t ∧ w8.heap[w.heap.size + 1]? = some (.cells #[.func (.func f) #[] cap] 80 (0, 0))) := hid ⟨below_via hb8 hK.out.1, (hb8.block _ (cells_of hK.out.2.1).1).trans hK.out.2.1, (hb8.block _ (cells_of hK.out.2.2).1).trans hK.out.2.2⟩
        clear hb8 lf cf
        go_wp2
        go_roundw
        case rel => exact ⟨m + 1, by omega, by omega, by go_num, hK8, hid (by rw [hfo.out, hs'.out]; rfl)⟩
        case measure => simp [intOf]; omega
      · rw [hq] at hstep
        have hs' := hid hstep
        have hq' := hid hq
        clear hq hstep
        go_wp2_with fail
        refine HC.out.mono ?_
        rw [hq'.out]
        rintro e w8 ⟨rfl, hb8⟩
        have hK8 : Hid (Below w.heap.size w w8 ∧ TabAt w8 tb t ∧ w8.heap[w.heap.size + 1]? = some (.cells #[.func (.func f) #[] cap] 80 (0, 0))) := hid ⟨below_via hb8 hK.out.1, (hb8.block _ (cells_of hK.out.2.1).1).trans hK.out.2.1, (hb8.block _ (cells_of hK.out.2.2).1).trans hK.out.2.2⟩
        clear hb8 lf cf
        go_wp2
        go_ret
        exact ⟨by rw [hfo.out, hs'.out]; rfl, hK8.out.1⟩
    · have hz : Hid (firstOf (q T) m (b + 1 - m).toNat = none) := hid (by rw [show (b + 1 - m).toNat = 0 by omega]; rfl)
      go_wp2
      exact ⟨rfl, by rw [hfo.out, hz.out]; rfl, hK.out.1⟩

/-- How 'first' ends. -/
theorem first_any (r : Rel) (hn : r.n ≤ 1000000) (a b : Int) (f : Nat) (cap : Array Value) (E : World → Prop) (q : Tab → Int → Bool) (hA : Asks r f cap E q) (sv : Value) (w : World) (hE : E w) (hS : StintsAt w sv r.stints) : Calls Try.prog 51 #[relV r sv, .int .i64 a, .int .i64 b, .agg #[.func (.func f) #[] cap]] w fun e w' => Below w.heap.size w w' ∧ ((∃ c, PanicsR r (rangeB a b) c ∧ e = panicV c) ∨ (∃ T, r.valid = true ∧ rangeB a b = true ∧ r.tab r.every = some T ∧ e = firstE (firstOf (q T) a (b + 1 - a).toNat))) := by
  cases h1 : inB a 0 600
  · have hr : rangeB a b = false := by simp [rangeB, h1]
    rw [hr]
    rcases told_cases r false with ⟨c, hc⟩ | ⟨_, h, _⟩
    · exact (first_p0 r hn a b c f cap h1 hc sv w hS).mono fun e w' ⟨h, hb⟩ => ⟨hb, .inl ⟨c, hc, h⟩⟩
    · cases h
  · have hr : rangeB a b = inB b a 600 := by simp [rangeB, h1]
    rw [hr]
    rcases told_cases r (inB b a 600) with ⟨c, hc⟩ | ⟨hv, h2, T, hT⟩
    · exact (first_p1 r hn a b c f cap h1 hc sv w hS).mono fun e w' ⟨h, hb⟩ => ⟨hb, .inl ⟨c, hc, h⟩⟩
    · exact (first_ok r hv a b h1 h2 T hT f cap E q hA sv w hE hS).mono fun e w' ⟨h, hb⟩ => ⟨hb, .inr ⟨T, hv, h2, hT, h⟩⟩
end Go.Proofs.Ytccgakdaiaigoaa

namespace Go.Proofs.Ytccgakdaiaigoaa

/-- In some truth the stints before one have ended in a minute, and no other has begun. -/
def AtT (r : Rel) (m : Int) (st : Nat) : Prop := ∃ s, Truth r r.every s ∧ ∀ i, i < r.n → if i < st then s (2 * i + 1) ≤ m else m + 1 ≤ s (2 * i)
/-- In some truth a stint has begun in a minute, and not ended. -/
def OnT (r : Rel) (m : Int) (i : Nat) : Prop := ∃ s, Truth r r.every s ∧ s (2 * i) ≤ m ∧ m + 1 ≤ s (2 * i + 1)
theorem nobB_iff {r : Rel} (hv : r.valid = true) {T : Tab} (hT : r.tab r.every = some T) {m : Int} {i : Nat} (hi : i < r.n) : (know (some T) (nobB m i)).isSome = true ↔ OnT r m i := by
  rw [← hT, r.also hv r.every (l := nobB m i) (fun x hx => by
    simp only [nobB, List.mem_cons, List.not_mem_nil, or_false] at hx
    rcases hx with rfl | rfl
    · exact ⟨.inr rfl, .inl (show 2 * i < 2 * r.n by omega)⟩
    · exact ⟨.inl (show 2 * i + 1 < 2 * r.n by omega), .inr rfl⟩)]
  refine exists_congr fun s => and_congr_right fun hs => ?_
  simp only [nobB, List.forall_mem_cons, List.not_mem_nil, false_implies, implies_true, and_true, Bd.ok, ext_zero hv, ext_stint (r := r) (s := s) (show 2 * i < 2 * r.n by omega), ext_stint (r := r) (s := s) (show 2 * i + 1 < 2 * r.n by omega)]
  omega
theorem nobQ_iff {r : Rel} (hv : r.valid = true) {T : Tab} (hT : r.tab r.every = some T) {m : Int} : nobQ r T m = true ↔ ∀ i, i < r.n → ¬ OnT r m i := by
  simp only [nobQ, List.all_eq_true, List.mem_range, Bool.not_eq_true']
  refine forall_congr' fun i => forall_congr' fun hi => ?_
  rw [← nobB_iff hv hT hi, Bool.not_eq_true]
theorem gapL_iff {r : Rel} (hv : r.valid = true) {T : Tab} (hT : r.tab r.every = some T) {m : Int} {st : Nat} : (know (some T) (gapL r.n m st)).isSome = true ↔ AtT r m st := by
  rw [← hT, r.also hv r.every (l := gapL r.n m st) (fun x hx => by
    simp only [gapL, List.mem_map, List.mem_range] at hx
    obtain ⟨i, hi, rfl⟩ := hx
    unfold gapB
    split
    · exact ⟨.inr rfl, .inl (show 2 * i + 1 < 2 * r.n by omega)⟩
    · exact ⟨.inl (show 2 * i < 2 * r.n by omega), .inr rfl⟩)]
  refine exists_congr fun s => and_congr_right fun hs => ?_
  simp only [gapL, List.forall_mem_map, List.mem_range]
  refine forall_congr' fun i => forall_congr' fun hi => ?_
  unfold gapB
  split
  · simp only [Bd.ok, ext_zero hv, ext_stint (r := r) (s := s) (show 2 * i + 1 < 2 * r.n by omega)]
    omega
  · simp only [Bd.ok, ext_zero hv, ext_stint (r := r) (s := s) (show 2 * i < 2 * r.n by omega)]
    omega
theorem gapQ_iff {r : Rel} (hv : r.valid = true) {T : Tab} (hT : r.tab r.every = some T) {m : Int} : gapQ r T m = true ↔ ∃ st, st ≤ r.n ∧ AtT r m st := by
  simp only [gapQ, List.any_eq_true, List.mem_range]
  refine exists_congr fun st => ?_
  rw [gapL_iff hv hT]
  constructor
  · rintro ⟨a, b⟩; exact ⟨by omega, b⟩
  · rintro ⟨a, b⟩; exact ⟨by omega, b⟩
theorem firstOf_no {q : Int → Bool} : ∀ (n : Nat) (a : Int), (∀ m, a ≤ m → m < a + n → q m = false) → firstOf q a n = none
  | 0, _, _ => rfl
  | n + 1, a, h => by
    simp only [firstOf]
    rw [h a (by omega) (by omega)]
    simp only [Bool.false_eq_true, if_false]
    exact firstOf_no n (a + 1) fun m h1 h2 => h m (by omega) (by omega)
theorem firstOf_yes {q : Int → Bool} : ∀ (n : Nat) (a v : Int), (∀ m, a ≤ m → m < v → q m = false) → q v = true → a ≤ v → v < a + n → firstOf q a n = some v
  | 0, a, v, _, _, h1, h2 => by omega
  | n + 1, a, v, hno, hq, h1, h2 => by
    simp only [firstOf]
    by_cases e : a = v
    · subst e; rw [hq]; rfl
    · rw [hno a (by omega) (by omega)]
      simp only [Bool.false_eq_true, if_false]
      exact firstOf_yes n (a + 1) v (fun m hm1 hm2 => hno m (by omega) hm2) hq (by omega) (by omega)
theorem firstOf_spec {q : Int → Bool} : ∀ (n : Nat) (a : Int), match firstOf q a n with | some v => a ≤ v ∧ v < a + n ∧ q v = true ∧ ∀ m, a ≤ m → m < v → q m = false | none => ∀ m, a ≤ m → m < a + n → q m = false
  | 0, a => by simp only [firstOf]; intro m h1 h2; omega
  | n + 1, a => by
    simp only [firstOf]
    cases hq : q a with
    | true => exact ⟨by omega, by omega, hq, fun m h1 h2 => by omega⟩
    | false =>
      simp only [Bool.false_eq_true, if_false]
      have ih := firstOf_spec (q := q) n (a + 1)
      cases hf : firstOf q (a + 1) n with
      | some v =>
        rw [hf] at ih
        refine ⟨by have := ih.1; omega, by have := ih.2.1; omega, ih.2.2.1, fun m h1 h2 => ?_⟩
        by_cases e : m = a
        · rw [e]; exact hq
        · exact ih.2.2.2 m (by omega) h2
      | none =>
        rw [hf] at ih
        intro m h1 h2
        by_cases e : m = a
        · rw [e]; exact hq
        · exact ih m (by omega) (by omega)
end Go.Proofs.Ytccgakdaiaigoaa
