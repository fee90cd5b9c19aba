/- The reference's Count and right, walked. The reference's First, walked. -/
import Derived.Test.YtcgkglonnmkfcaaGR
import Derived.Test.YtcgkglonnmkfcaaGW
import Derived.Test.YtcgkglonnmkfcaaGL
namespace Go.Proofs.Ytcgkglonnmkfcaa
open Go.RowKit Go.Lap Go.Shelf

set_option maxRecDepth 100000 in
set_option maxHeartbeats 4000000 in
theorem refCount_any (M : Mend) (sv jv : Value) (w : World) (hS : IntsAt w sv M.setup) (hJ : JobsAt w jv M.jobs) :
    Calls Try.prog 21 #[.agg #[sv, jv]] w fun e w' => e = .returned (.tuple #[.int .i64 (countOf M).1, .int .i64 (countOf M).2]) ∧ Below w.heap.size w w' := by
  have HM := hid (fun W (h : Below w.heap.size w W) => refMend_any M sv jv W (hS.below h) (hJ.below h))
  have HO := hid (fun (hM : M.Ok) W (h : Below w.heap.size w W) => (show Calls Try.prog 59 #[.agg #[sv, jv], .int .i64 0] W fun e w' => ∃ ov, e = .returned ov ∧ intN.own W.heap.size w' ov ((ordersL M 0).map ints) ∧ Below W.heap.size W w' from refOrders_any M hM sv jv 0 (Nat.two_pow_pos _) W (hS.below h) (hJ.below h)))
  obtain ⟨sa, scap, rfl, _⟩ := hS
  obtain ⟨ja, jcap, rfl, _⟩ := hJ
  have hx := KeepB.start w (.slice sa M.setup.length scap) (.slice ja M.jobs.length jcap)
  unfold countOf
  cases hv : M.valid
  · go_enter Try.func21, Try.ntmps21
    go_upto_region 1 with fail
    generalize w.alloc (.cells #[.slice sa M.setup.length scap, .slice ja M.jobs.length jcap] 25) = w1 at hx ⊢
    have lm := (cells_of hx.m).1
    have cm := (cells_of hx.m).2
    have H1 := HM.out w1 hx.bel
    rw [hv] at H1
    have H1 := hid H1
    go_wp2_with (go_at_call 25; with_reducible refine H1.out.mono ?_; rintro e w2 ⟨rfl, hb2⟩)
    go_ret2
    exact ⟨rfl, (hx.below hb2).bel⟩
  · have HO1 := hid (HO.out (Mend.valid_ok hv))
    have hn : (ordersL M 0).length ≤ 46656 := Nat.le_trans (length_rightL M 0 (Mend.valid_ok hv).len _ _) (Nat.pow_le_pow_right (by decide) (restN_le (Mend.valid_ok hv) 0))
    obtain ⟨A, hA⟩ : ∃ A, (ordersL M 0).map ints = A := ⟨_, rfl⟩
    have hAl : ((ordersL M 0).length : Int) = (A.length : Int) := by rw [← hA, List.length_map]
    rw [hA] at HO1
    rw [if_pos rfl, hAl]
    clear hA hAl
    go_enter Try.func21, Try.ntmps21
    go_upto_region 1 with fail
    generalize w.alloc (.cells #[.slice sa M.setup.length scap, .slice ja M.jobs.length jcap] 25) = w1 at hx ⊢
    have lm := (cells_of hx.m).1
    have cm := (cells_of hx.m).2
    have H1 := HM.out w1 hx.bel
    rw [hv] at H1
    have H1 := hid H1
    go_wp2_with (first | (go_at_call 25; with_reducible refine H1.out.mono ?_; rintro e w2 ⟨rfl, hb2⟩; have hx := hx.below hb2; have lm := (cells_of hx.m).1; have cm := (cells_of hx.m).2; have HO2 := hid (HO1.out _ hx.bel)) | (go_at_call 59; with_reducible refine HO2.out.mono ?_; rintro e w3 ⟨ov, rfl, hl, hb3⟩; have hx := hx.below hb3; obtain ⟨la, lcap, rfl, _⟩ := hl.form))
    go_ret2
    exact ⟨rfl, hx.bel⟩

/-- What 'right' of the reference tells. -/
def rightCode (M : Mend) : Int := if M.valid then if ordersL M 0 = [] then 4 else 0 else 1
def rightRows (M : Mend) : List (List Nat) := if M.valid then ordersL M 0 else []
theorem orders_len {M : Mend} (hM : M.Ok) : (ordersL M 0).length ≤ 46656 := Nat.le_trans (length_rightL M 0 hM.len _ _) (Nat.pow_le_pow_right (by decide) (restN_le hM 0))

set_option maxRecDepth 100000 in
set_option maxHeartbeats 4000000 in
theorem refright_any (M : Mend) (sv jv : Value) (w : World) (hS : IntsAt w sv M.setup) (hJ : JobsAt w jv M.jobs) :
    Calls Try.prog 70 #[.agg #[sv, jv]] w fun e w' => ∃ ov, e = .returned (.tuple #[ov, .int .i64 (rightCode M)]) ∧ intN.own w.heap.size w' ov ((rightRows M).map ints) ∧ Below w.heap.size w w' := by
  have HM := hid (fun W (h : Below w.heap.size w W) => refMend_any M sv jv W (hS.below h) (hJ.below h))
  have HO := hid (fun (hM : M.Ok) W (h : Below w.heap.size w W) => (show Calls Try.prog 59 #[.agg #[sv, jv], .int .i64 0] W fun e w' => ∃ ov, e = .returned ov ∧ intN.own W.heap.size w' ov ((ordersL M 0).map ints) ∧ Below W.heap.size W w' from refOrders_any M hM sv jv 0 (Nat.two_pow_pos _) W (hS.below h) (hJ.below h)))
  obtain ⟨sa, scap, rfl, _⟩ := hS
  obtain ⟨ja, jcap, rfl, _⟩ := hJ
  have hx := KeepB.start w (.slice sa M.setup.length scap) (.slice ja M.jobs.length jcap)
  unfold rightCode rightRows
  cases hv : M.valid
  · go_enter Try.func70, Try.ntmps70
    go_upto_region 1 with fail
    generalize w.alloc (.cells #[.slice sa M.setup.length scap, .slice ja M.jobs.length jcap] 25) = w1 at hx ⊢
    have lm := (cells_of hx.m).1
    have cm := (cells_of hx.m).2
    have H1 := HM.out w1 hx.bel
    rw [hv] at H1
    have H1 := hid H1
    go_wp2_with (go_at_call 25; with_reducible refine H1.out.mono ?_; rintro e w2 ⟨rfl, hb2⟩)
    go_ret2
    exact ⟨_, rfl, intN.own_nil _ _, (hx.below hb2).bel⟩
  · have HO1 := hid (HO.out (Mend.valid_ok hv))
    have hn := orders_len (Mend.valid_ok hv)
    have hAe : ((ordersL M 0).map ints = []) ↔ ordersL M 0 = [] := List.map_eq_nil_iff
    rw [if_pos rfl, if_pos rfl]
    obtain ⟨A, hA⟩ : ∃ A, ordersL M 0 = A := ⟨_, rfl⟩
    rw [hA] at HO1 hn hAe ⊢
    have hAl : (A.map ints).length = A.length := by simp
    clear hA
    obtain ⟨c, hc⟩ : ∃ c, (if A = [] then (4 : Int) else 0) = c := ⟨_, rfl⟩
    rw [hc]
    have hc' := hid hc
    clear hc
    go_enter Try.func70, Try.ntmps70
    go_upto_region 1 with fail
    generalize w.alloc (.cells #[.slice sa M.setup.length scap, .slice ja M.jobs.length jcap] 25) = w1 at hx ⊢
    have lm := (cells_of hx.m).1
    have cm := (cells_of hx.m).2
    have H1 := HM.out w1 hx.bel
    rw [hv] at H1
    have H1 := hid H1
    by_cases hA0 : A = []
    · subst hA0
      obtain rfl : c = 4 := by rw [← hc'.out, if_pos rfl]
      go_wp2_with (first | (go_at_call 25; with_reducible refine H1.out.mono ?_; rintro e w2 ⟨rfl, hb2⟩; have hx := hx.below hb2; have lm := (cells_of hx.m).1; have cm := (cells_of hx.m).2; have HO2 := hid (HO1.out _ hx.bel)) | (go_at_call 59; with_reducible refine HO2.out.mono ?_; rintro e w3 ⟨ov, rfl, hl, hb3⟩; have hx := hx.below hb3; obtain ⟨la, lcap, rfl, _⟩ := hl.form))
      go_ret2
      exact ⟨_, rfl, intN.own_nil _ _, hx.bel⟩
    · have hlt : ((A.length : Int) == 0) = false := by
        rw [beq_eq_false_iff_ne]
        intro h
        exact hA0 (List.eq_nil_of_length_eq_zero (by omega))
      obtain rfl : c = 0 := by rw [← hc'.out, if_neg hA0]
      clear hA0 hAe
      go_wp2_with (first | (go_at_call 25; with_reducible refine H1.out.mono ?_; rintro e w2 ⟨rfl, hb2⟩; have hx := hx.below hb2; have lm := (cells_of hx.m).1; have cm := (cells_of hx.m).2; have HO2 := hid (HO1.out _ hx.bel)) | (go_at_call 59; with_reducible refine HO2.out.mono ?_; rintro e w3 ⟨ov, rfl, hl, hb3⟩; have hx := hx.below hb3; have hl' := hid hl; obtain ⟨la, lcap, rfl, _⟩ := hl.form; rw [hAl] at hl' ⊢; clear hl))
      go_ret2
      exact ⟨_, rfl, hl'.out.low (by have := hx.bel.size; omega), hx.bel⟩
end Go.Proofs.Ytcgkglonnmkfcaa

namespace Go.Proofs.Ytcgkglonnmkfcaa
open Go.RowKit Go.Lap Go.Shelf

theorem add_bit {s i : Nat} (hs : s < 64) (hi : i < 6) (h : s.testBit i = false) : s + 2 ^ i = s ||| 2 ^ i ∧ s + 2 ^ i < 64 := by
  have key : ∀ s : Fin 64, ∀ i : Fin 6, s.1.testBit i.1 = false → s.1 + 2 ^ i.1 = s.1 ||| 2 ^ i.1 ∧ s.1 + 2 ^ i.1 < 64 := by decide +kernel
  exact key ⟨s, hs⟩ ⟨i, hi⟩ h
/-- How a row of orders reads. -/
theorem row_of {B : Nat} {W W' : World} {a : Option Addr} {n cap : Nat} {A : List (List Nat)} (h : intN.own B W (.slice a n cap) (A.map ints)) (hb : Below W.heap.size W W') {k : Nat} (hk : k < A.length) :
    ∃ g ua ucap p, a = some ⟨g, 0, none⟩ ∧ A[k]? = some p ∧ A.getD k [] = p ∧ p ∈ A ∧ g < W'.heap.size ∧ W'.cell? ⟨g, k, none⟩ = some (.slice ua p.length ucap) ∧ IntsAt W' (.slice ua p.length ucap) (ints p) := by
  obtain ⟨a', cap', e, hc⟩ := h.form
  cases e
  obtain ⟨g, rfl, lg, hgc⟩ := hc (fun e => by have := congrArg List.length e; simp only [List.length_map, List.length_nil] at this; omega)
  have hp := List.getElem?_eq_getElem hk
  obtain ⟨u, hu, hown⟩ := hgc k (ints A[k]) (by rw [List.getElem?_map, hp]; rfl)
  have hown := hown.below hb
  have hu := (hb.cell (p := ⟨g, k, none⟩) lg).trans hu
  have hat := ints_at.2 hown.at
  have hat2 := hat
  obtain ⟨ua, ucap, rfl, _⟩ := hat2
  have hpL : (ints A[k]).length = A[k].length := by simp
  rw [hpL] at hu hat
  exact ⟨g, ua, ucap, A[k], rfl, hp, by rw [List.getD_eq_getElem?_getD, hp]; rfl, List.getElem_mem _, Nat.lt_of_lt_of_le lg hb.size, hu, hat⟩

set_option maxRecDepth 100000 in
set_option maxHeartbeats 4000000 in
theorem refFirst_any (M : Mend) (sv jv : Value) (w : World) (hS : IntsAt w sv M.setup) (hJ : JobsAt w jv M.jobs) :
    Calls Try.prog 23 #[.agg #[sv, jv]] w fun e w' => e = .returned (.tuple #[.int .i64 (firstOf M).1, .int .i64 (firstOf M).2]) ∧ Below w.heap.size w w' := by
  have HM := hid (fun W (h : Below w.heap.size w W) => refMend_any M sv jv W (hS.below h) (hJ.below h))
  have HO := hid (fun (hM : M.Ok) W (h : Below w.heap.size w W) => (show Calls Try.prog 59 #[.agg #[sv, jv], .int .i64 0] W fun e w' => ∃ ov, e = .returned ov ∧ intN.own W.heap.size w' ov ((ordersL M 0).map ints) ∧ Below W.heap.size W w' from refOrders_any M hM sv jv 0 (Nat.two_pow_pos _) W (hS.below h) (hJ.below h)))
  obtain ⟨sa, scap, rfl, _⟩ := hS
  obtain ⟨ja, jcap, rfl, _⟩ := hJ
  have hx := KeepB.start w (.slice sa M.setup.length scap) (.slice ja M.jobs.length jcap)
  unfold firstOf
  cases hv : M.valid
  · go_enter Try.func23, Try.ntmps23
    go_upto_region 1 with fail
    generalize w.alloc (.cells #[.slice sa M.setup.length scap, .slice ja M.jobs.length jcap] 25) = w1 at hx ⊢
    have lm := (cells_of hx.m).1
    have cm := (cells_of hx.m).2
    have H1 := HM.out w1 hx.bel
    rw [hv] at H1
    have H1 := hid H1
    go_wp2_with (go_at_call 25; with_reducible refine H1.out.mono ?_; rintro e w2 ⟨rfl, hb2⟩)
    go_ret2
    exact ⟨rfl, (hx.below hb2).bel⟩
  · have hM := Mend.valid_ok hv
    have HO1 := hid (HO.out hM)
    have hn := orders_len hM
    have hin : ∀ p, p ∈ ordersL M 0 → ∀ i, i ∈ p → i < 6 := fun p hp i hi => by
      have := (rightL_in hp).1 i hi
      have := hM.len
      omega
    rw [if_pos rfl, ← first_fold hM]
    obtain ⟨A, hA⟩ : ∃ A, ordersL M 0 = A := ⟨_, rfl⟩
    rw [hA] at HO1 hn hin ⊢
    have hAl : (A.map ints).length = A.length := by simp
    obtain ⟨F, hF⟩ : ∃ F, firstFold A = F := ⟨_, rfl⟩
    rw [hF]
    have hF' := hid hF
    have hin' := hid hin
    clear hA hF hin hM
    go_enter Try.func23, Try.ntmps23
    go_upto_region 1 with fail
    generalize w.alloc (.cells #[.slice sa M.setup.length scap, .slice ja M.jobs.length jcap] 25) = w1 at hx ⊢
    have lm := (cells_of hx.m).1
    have cm := (cells_of hx.m).2
    have H1 := HM.out w1 hx.bel
    rw [hv] at H1
    have H1 := hid H1
    go_wp2_with (first | (go_at_call 25; with_reducible refine H1.out.mono ?_; rintro e w2 ⟨rfl, hb2⟩; have hx := hx.below hb2; have lm := (cells_of hx.m).1; have cm := (cells_of hx.m).2; have HO2 := hid (HO1.out _ hx.bel)) | (go_at_call 59; with_reducible refine HO2.out.mono ?_; rintro e w3 ⟨ov, rfl, hl, hb3⟩; have hx := hx.below hb3; have hl' := hid hl; obtain ⟨la, lcap, rfl, _⟩ := hl.form; rw [hAl] at hl' ⊢; clear hl))
    clear lm cm
    have hxb := hid hx.bel
    clear hx hb2 hb3 H1 HO1 HO2 HM HO
    have hdr := fun k (hk : k < A.length) => List.drop_eq_getElem_cons (l := A) hk
    have hdr := hid hdr
    go_loopw [5, 6] (fun outv ix wr => ∃ k s : Nat, k ≤ A.length ∧ ix = .int .i64 k ∧ outv = .int .i64 (s : Int) ∧ s < 64 ∧ Hid ((A.drop k).foldl addFirst s = F) ∧ w3 = wr) (fun _ ix _ => A.length - (intOf ix).toNat)
    case atStart => exact ⟨0, 0, by omega, rfl, rfl, by omega, hid hF'.out, rfl⟩
    case round =>
      obtain ⟨k, s, hkk, rfl, rfl, hs64, hfold, rfl⟩ := hrel
      by_cases hlt : k < A.length
      · have hki : (k : Int) < (A.length : Int) := by omega
        obtain ⟨g, ua, ucap, p, rfl, hpk, hpd, hpA, lg, hu, hat⟩ := row_of hl'.out (Below.refl _ _) hlt
        have hf2 := hid (show (A.drop (k + 1)).foldl addFirst (addFirst s p) = F from by
          have h := hfold.out
          rw [hdr.out k hlt, List.foldl_cons] at h
          have e : A[k] = p := by
            have := List.getElem?_eq_getElem hlt
            rw [this] at hpk
            exact Option.some.inj hpk
          rwa [e] at h)
        have hin1 := hin'.out p hpA
        clear hpk hpd hpA hfold
        cases hp : p with
        | nil =>
          subst hp
          go_wp2
          go_roundw
          case rel => exact ⟨k + 1, s, by omega, by go_num, by go_num, hs64, hf2, by simp⟩
          case measure => simp [intOf]; omega
        | cons i l =>
          have hi6 := hin1 i (by rw [hp]; simp)
          have hpos : (0 : Int) < (p.length : Int) := by rw [hp]; simp
          obtain ⟨b, off, cap', e1, lb, hc⟩ := hat.some (by rw [hp]; simp)
          injection e1 with e1 e2 e3
          subst e1
          subst e3
          clear e2
          have hc0 := hc 0 (by rw [hp]; simp)
          rw [hp] at hc0
          simp only [List.map_cons, List.getD_cons_zero, Nat.add_zero] at hc0
          obtain ⟨t, ht⟩ : ∃ t, s.testBit i = t := ⟨_, rfl⟩
          have c61 := hid (has_as (s := (s : Int)) (n := i) (b := t) (by simpa using ht) (by omega) (by omega) (by omega))
          have c62 := hid (power_any i (by omega))
          have hf3 := hid (show (A.drop (k + 1)).foldl addFirst (if t then s else s ||| 2 ^ i) = F from by
            have h := hf2.out
            rw [hp] at h
            unfold addFirst at h
            simp only [ht] at h
            exact h)
          have hab := hid (fun h => add_bit hs64 hi6 h)
          have ht' := hid ht
          have hp' := hid hp
          clear hc hat hf2 hp ht hin1
          cases t
          · have hab := hab.out ht'.out
            obtain ⟨s2, hs2⟩ : ∃ s2, s + 2 ^ i = s2 := ⟨_, rfl⟩
            rw [hs2] at hab
            have hsum : (s : Int) + 2 ^ i = (s2 : Int) := by rw [← hs2]; simp
            have hab' := hid hab.1
            have hs264 := hab.2
            clear hab hs2
            obtain ⟨pw, hpw⟩ : ∃ pw : Int, (2 : Int) ^ i = pw := ⟨_, rfl⟩
            rw [hpw] at c62 hsum
            have hpw0 : 0 ≤ pw := by rw [← hpw]; exact Int.le_of_lt (Int.pow_pos (by decide))
            clear hpw
            go_wp2_with (first | (go_at_call 61; with_reducible refine (c61.out _).mono ?_; rintro e w2 ⟨rfl, rfl⟩) | (go_at_call 62; with_reducible refine (c62.out _).mono ?_; rintro e w2 ⟨rfl, rfl⟩))
            go_roundw
            case rel => exact ⟨k + 1, s2, by omega, by go_num, by go_num, hs264, hid (by rw [hab'.out]; exact hf3.out), by simp⟩
            case measure => simp [intOf]; omega
          · go_wp2_with (go_at_call 61; with_reducible refine (c61.out _).mono ?_; rintro e w2 ⟨rfl, rfl⟩)
            go_roundw
            case rel => exact ⟨k + 1, s, by omega, by go_num, by go_num, hs64, hf3, by simp⟩
            case measure => simp [intOf]; omega
      · obtain rfl : k = A.length := by omega
        obtain rfl : s = F := by have := hfold.out; rw [List.drop_length] at this; exact this
        go_wp2
        go_ret2
        exact ⟨rfl, hxb.out⟩
end Go.Proofs.Ytcgkglonnmkfcaa
