/- The reference's Slack, walked. The reference's Times, walked. -/
import Derived.Test.YtcgkglonnmkfcaaGW
import Derived.Test.YtcgkglonnmkfcaaPS
import Derived.Test.YtcgkglonnmkfcaaGD
import Derived.Test.YtcgkglonnmkfcaaN8
namespace Go.Proofs.Ytcgkglonnmkfcaa
open Go.RowKit Go.Lap Go.Shelf

theorem long_good (M : Mend) (p : List Nat) (k : Nat) : longB M p k = goodB (M.longer k) 0 Bench.begin p := by
  unfold longB
  rw [Bool.eq_iff_iff, decide_eq_true_eq, badOf_zero, firstBad_none]
theorem slack_code (M : Mend) (l : List Int) : (codeOf M l ≠ 0 ∧ slackOf M l = (0, codeOf M l)) ∨ (codeOf M l = 0 ∧ M.valid = true ∧ ∃ p, l = ints p ∧ (∀ i, i ∈ p → i < M.jobs.length) ∧ p.length = M.jobs.length ∧
    slackOf M l = if goodB M 0 Bench.begin p then (((slackFrom (longB M p) 30 0 : Nat) : Int), 0) else (0, 4)) := by
  unfold codeOf slackOf
  cases hv : M.valid
  · left; simp
  · cases ho : ordB M.jobs.length l
    · left; simp
    · right
      obtain ⟨p, rfl, hp, h1, h2, _⟩ := ord_nat ho
      refine ⟨by simp, rfl, p, rfl, h1, h2, ?_⟩
      rw [if_pos rfl, if_pos rfl, hp, long_good, show ((0 : Nat) : Int) = 0 from rfl, longer_zero]

set_option maxRecDepth 100000 in
set_option maxHeartbeats 4000000 in
theorem refSlack_any (M : Mend) (sv jv lv : Value) (l : List Int) (hl : l.length ≤ 1000) (hN : NilOk jv) (w : World) (hS : IntsAt w sv M.setup) (hJ : JobsAt w jv M.jobs) (hlv : IntsAt w lv l) :
    Calls Try.prog 19 #[.agg #[sv, jv], lv] w fun e w' => e = .returned (.tuple #[.int .i64 (slackOf M l).1, .int .i64 (slackOf M l).2]) ∧ Below w.heap.size w w' := by
  have HC := hid (fun W (h : Below w.heap.size w W) => refcheck_any M sv jv lv l hl W (hS.below h) (hJ.below h) (hlv.below h))
  rcases slack_code M l with ⟨hc, hu⟩ | ⟨hc, hv, p, rfl, hp, hpn, hu⟩
  · obtain ⟨sa, scap, rfl, _⟩ := hS
    obtain ⟨ja, jcap, rfl, _⟩ := hJ
    obtain ⟨la, lcap, rfl, _⟩ := hlv
    have hx := KeepB.start w (.slice sa M.setup.length scap) (.slice ja M.jobs.length jcap)
    rw [hu]
    obtain ⟨c, hcc⟩ : ∃ c, codeOf M l = c := ⟨_, rfl⟩
    rw [hcc] at HC hc ⊢
    have hct : (c != 0) = true := by rw [bne_iff_ne]; exact hc
    clear hcc hc hu
    go_enter Try.func19, Try.ntmps19
    go_upto_region 1 with fail
    generalize w.alloc (.cells #[.slice sa M.setup.length scap, .slice ja M.jobs.length jcap] 25) = w1 at hx ⊢
    have lm := (cells_of hx.m).1
    have cm := (cells_of hx.m).2
    have H1 := hid (HC.out w1 hx.bel)
    go_wp2_with (go_at_call 50; with_reducible refine H1.out.mono ?_; rintro e w2 ⟨rfl, hb2⟩)
    go_ret2
    exact ⟨rfl, (hx.below hb2).bel⟩
  · have hM := Mend.valid_ok hv
    have hM6 := hM.len
    have hpl : p.length ≤ 6 := by omega
    have HR := hid (show ∀ W, Below w.heap.size w W → Calls Try.prog 55 #[.agg #[sv, jv], lv, .int .i64 0] W fun e w' => e = .returned (.bool (goodB M 0 Bench.begin p)) ∧ Below W.heap.size W w' from fun W h => refRight_any M hM sv jv lv p hp hpl 0 (by omega) W (hS.below h) (hJ.below h) (hlv.below h))
    have HL := hid (fun (k : Nat) (hk : k ≤ 30) W (h : Below w.heap.size w W) => refLonger_any M hv (k : Int) (by omega) (by omega) sv jv W (hS.below h) (hJ.below h) hN)
    have HRk := hid (fun (k : Nat) (hk : k ≤ 30) (jv2 : Value) W (h : Below w.heap.size w W) (hj : JobsAt W jv2 (M.longer k).jobs) => (show Calls Try.prog 55 #[.agg #[sv, jv2], lv, .int .i64 0] W fun e w' => e = .returned (.bool (longB M p k)) ∧ Below W.heap.size W w' by rw [long_good]; exact refRight_any (M.longer k) (longer_ok hv (by omega) (by omega)) sv jv2 lv p (by rw [longer_len]; exact hp) hpl 0 (by omega) W (hS.below h) hj (hlv.below h)))
    obtain ⟨sa, scap, rfl, _⟩ := hS
    obtain ⟨ja, jcap, rfl, _⟩ := hJ
    obtain ⟨la, lcap, rfl, _⟩ := hlv
    have hpL : (ints p).length = p.length := by simp
    rw [hpL, hpn] at HC HR HRk ⊢
    have hx := KeepB.start w (.slice sa M.setup.length scap) (.slice ja M.jobs.length jcap)
    rw [hu]
    rw [hc] at HC
    obtain ⟨gd, hgd⟩ : ∃ gd, goodB M 0 Bench.begin p = gd := ⟨_, rfl⟩
    rw [hgd] at HR ⊢
    obtain ⟨F, hF⟩ : ∃ F, slackFrom (longB M p) 30 0 = F := ⟨_, rfl⟩
    rw [hF]
    have hF' := hid hF
    clear hgd hu hc hM hpL hpl hF hN
    cases gd
    · rw [if_neg (by simp)]
      go_enter Try.func19, Try.ntmps19
      go_upto_region 1 with fail
      generalize w.alloc (.cells #[.slice sa M.setup.length scap, .slice ja M.jobs.length jcap] 25) = w1 at hx ⊢
      have lm := (cells_of hx.m).1
      have cm := (cells_of hx.m).2
      have H1 := hid (HC.out w1 hx.bel)
      go_wp2_with (first | (go_at_call 50; with_reducible refine H1.out.mono ?_; rintro e w2 ⟨rfl, hb2⟩; have hx := hx.below hb2; have lm := (cells_of hx.m).1; have cm := (cells_of hx.m).2; have H2 := hid (HR.out _ hx.bel)) | (go_at_call 55; with_reducible refine H2.out.mono ?_; rintro e w3 ⟨rfl, hb3⟩))
      go_ret2
      exact ⟨rfl, (hx.below hb3).bel⟩
    · rw [if_pos rfl]
      go_enter Try.func19, Try.ntmps19
      go_upto_region 1 with fail
      generalize w.alloc (.cells #[.slice sa M.setup.length scap, .slice ja M.jobs.length jcap] 25) = w1 at hx ⊢
      have lm := (cells_of hx.m).1
      have cm := (cells_of hx.m).2
      have H1 := hid (HC.out w1 hx.bel)
      go_wp2_with (first | (go_at_call 50; with_reducible refine H1.out.mono ?_; rintro e w2 ⟨rfl, hb2⟩; have hx := hx.below hb2; have lm := (cells_of hx.m).1; have cm := (cells_of hx.m).2; have H2 := hid (HR.out _ hx.bel)) | (go_at_call 55; with_reducible refine H2.out.mono ?_; rintro e w3 ⟨rfl, hb3⟩; have hx := hx.below hb3))
      clear lm cm
      have hxz := hid hx
      clear hx H1 H2 hb2 hb3
      go_loopw [7] (fun nv wr => ∃ k : Nat, k ≤ 30 ∧ nv = .int .i64 k ∧ Hid (slackFrom (longB M p) (30 - k) k = F) ∧ Hid (KeepB w (.slice sa M.setup.length scap) (.slice ja M.jobs.length jcap) wr)) (fun nv _ => 30 - (intOf nv).toNat)
      case atStart => exact ⟨0, by omega, rfl, hF', hxz⟩
      case round =>
        obtain ⟨k, hkk, rfl, hsl, hxr⟩ := hrel
        have lm := (cells_of hxr.out.m).1
        have cm := (cells_of hxr.out.m).2
        by_cases hlt : k < 30
        · have hki : (k : Int) < 30 := by omega
          have hw1 : IntKind.i64.wrap ((k : Int) + 1) = ((k + 1 : Nat) : Int) := by rw [IntWalk.i64_in _ (by omega)]; omega
          have hs2 := hid (show (if longB M p (k + 1) then slackFrom (longB M p) (30 - (k + 1)) (k + 1) else k) = F from by
            have h := hsl.out
            rw [show 30 - k = (30 - (k + 1)) + 1 by omega] at h
            exact h)
          obtain ⟨q, hq⟩ : ∃ q, k + 1 = q := ⟨_, rfl⟩
          rw [hq] at hw1 hs2
          have HLq := hid (HL.out q (by omega) wr hxr.out.bel)
          have HRq := HRk.out q (by omega)
          obtain ⟨t, ht⟩ : ∃ t, longB M p q = t := ⟨_, rfl⟩
          rw [ht] at HRq hs2
          have HRq := hid HRq
          have hq' := hid hq
          clear ht hq
          cases t
          · have hkF := hid (show k = F from by simpa using hs2.out)
            go_wp2_with (first | (go_at_call 41; with_reducible refine HLq.out.mono ?_; rintro e w2 ⟨a2, c2, rfl, hj2, hb2⟩; have hx2 := hid (hxr.out.below hb2); have HR2 := hid (HRq.out _ w2 hx2.out.bel (jobs_at.2 hj2.at))) | (go_at_call 55; with_reducible refine HR2.out.mono ?_; rintro e w3 ⟨rfl, hb3⟩))
            go_ret2
            exact ⟨by rw [← hkF.out]; rfl, (hx2.out.below hb3).bel⟩
          · go_wp2_with (first | (go_at_call 41; with_reducible refine HLq.out.mono ?_; rintro e w2 ⟨a2, c2, rfl, hj2, hb2⟩; have hx2 := hid (hxr.out.below hb2); have HR2 := hid (HRq.out _ w2 hx2.out.bel (jobs_at.2 hj2.at))) | (go_at_call 55; with_reducible refine HR2.out.mono ?_; rintro e w3 ⟨rfl, hb3⟩))
            go_roundw
            case rel => exact ⟨q, by have := hq'.out; omega, rfl, hid (by simpa using hs2.out), hid (hx2.out.below hb3)⟩
            case measure => have := hq'.out; simp [intOf]; omega
        · obtain rfl : k = 30 := by omega
          obtain rfl : F = 30 := hsl.out.symm
          go_wp2
          go_ret2
          exact ⟨rfl, hxr.out.bel⟩
end Go.Proofs.Ytcgkglonnmkfcaa

namespace Go.Proofs.Ytcgkglonnmkfcaa
open Go.RowKit Go.Lap Go.Shelf

theorem own_eqS {B : Nat} {W : World} {v : Value} {L L' : List (Int × Int)} (h : spanK.own B W v L) (e : L' = L) : spanK.own B W v L' := e ▸ h
theorem times_code (M : Mend) (l : List Int) : (codeOf M l ≠ 0 ∧ timesOf M l = ([], codeOf M l)) ∨ (codeOf M l = 0 ∧ M.valid = true ∧ ∃ p, l = ints p ∧ (∀ i, i ∈ p → i < M.jobs.length) ∧ p.length = M.jobs.length ∧ timesOf M l = (spansOf M p, 0)) := by
  unfold codeOf timesOf
  cases hv : M.valid
  · left; simp
  · cases ho : ordB M.jobs.length l
    · left; simp
    · right
      obtain ⟨p, rfl, hp, h1, h2, _⟩ := ord_nat ho
      exact ⟨by simp, rfl, p, rfl, h1, h2, by rw [if_pos rfl, if_pos rfl, hp]⟩

set_option maxRecDepth 100000 in
set_option maxHeartbeats 4000000 in
theorem refTimes_any (M : Mend) (sv jv lv : Value) (l : List Int) (hl : l.length ≤ 1000) (w : World) (hS : IntsAt w sv M.setup) (hJ : JobsAt w jv M.jobs) (hlv : IntsAt w lv l) :
    Calls Try.prog 15 #[.agg #[sv, jv], lv] w fun e w' => ∃ v, e = .returned (.tuple #[v, .int .i64 (timesOf M l).2]) ∧ spanK.own w.heap.size w' v (timesOf M l).1 ∧ Below w.heap.size w w' := by
  have HC := hid (fun W (h : Below w.heap.size w W) => refcheck_any M sv jv lv l hl W (hS.below h) (hJ.below h) (hlv.below h))
  rcases times_code M l with ⟨hc, hu⟩ | ⟨hc, hv, p, rfl, hp, hpn, hu⟩
  · obtain ⟨sa, scap, rfl, _⟩ := hS
    obtain ⟨ja, jcap, rfl, _⟩ := hJ
    obtain ⟨la, lcap, rfl, _⟩ := hlv
    have hx := KeepB.start w (.slice sa M.setup.length scap) (.slice ja M.jobs.length jcap)
    rw [hu]
    obtain ⟨c, hcc⟩ : ∃ c, codeOf M l = c := ⟨_, rfl⟩
    rw [hcc] at HC hc ⊢
    have hct : (c != 0) = true := by rw [bne_iff_ne]; exact hc
    clear hcc hc hu
    dsimp only
    go_enter Try.func15, Try.ntmps15
    go_upto_region 1 with fail
    generalize w.alloc (.cells #[.slice sa M.setup.length scap, .slice ja M.jobs.length jcap] 25) = w1 at hx ⊢
    have lm := (cells_of hx.m).1
    have cm := (cells_of hx.m).2
    have H1 := hid (HC.out w1 hx.bel)
    go_wp2_with (go_at_call 50; with_reducible refine H1.out.mono ?_; rintro e w2 ⟨rfl, hb2⟩)
    go_ret2
    exact ⟨_, rfl, spanK.own_nil _ _, (hx.below hb2).bel⟩
  · have hM := Mend.valid_ok hv
    have hM6 := hM.len
    have hpl : p.length ≤ 6 := by omega
    have HDF := hid (fun W (h : Below w.heap.size w W) => refDone_false M hM sv jv lv p hp hpl W (hS.below h) (hJ.below h) (hlv.below h))
    have HDT := hid (fun W (h : Below w.heap.size w W) => refDone_true M hM sv jv lv p hp hpl W (hS.below h) (hJ.below h) (hlv.below h))
    have hgf := hid (fun k (hk : k < p.length) => doneL_get M false hk)
    have hgt := hid (fun k (hk : k < p.length) => doneL_get M true hk)
    have hsp := hid (fun k (hk : k < p.length) => spans_get M p k hk)
    have hspl := spans_length M p
    obtain ⟨sa, scap, rfl, _⟩ := hS
    obtain ⟨ja, jcap, rfl, _⟩ := hJ
    obtain ⟨la, lcap, rfl, _⟩ := hlv
    have hpL : (ints p).length = p.length := by simp
    rw [hpL, hpn] at HC HDF HDT ⊢
    rw [hpn] at hspl
    have hx := KeepB.start w (.slice sa M.setup.length scap) (.slice ja M.jobs.length jcap)
    rw [hu]
    rw [hc] at HC
    clear hu hc hM hpL hpl
    dsimp only
    go_enter Try.func15, Try.ntmps15
    go_upto_region 1 with fail
    generalize w.alloc (.cells #[.slice sa M.setup.length scap, .slice ja M.jobs.length jcap] 25) = w1 at hx ⊢
    have lm := (cells_of hx.m).1
    have cm := (cells_of hx.m).2
    have H1 := hid (HC.out w1 hx.bel)
    go_upto_region 4 with (go_at_call 50; with_reducible refine H1.out.mono ?_; rintro e w2 ⟨rfl, hb2⟩; have hx := hx.below hb2; have lm := (cells_of hx.m).1; have cm := (cells_of hx.m).2)
    have hxS := hid hx
    have HDF1 := hid (HDF.out w2.drew hx.drew.bel)
    refine wp_region_held (S := fun W => Below w2.heap.size w2 W) (by kernel_rfl) ?_
    have hz0 : Below w2.heap.size w2 w2.drew := (Below.refl _ _).drew
    refine wpAnyH_quiet (i := 0) (v := .agg #[.slice sa M.setup.length scap, .slice ja M.jobs.length jcap]) rfl (by kernel_rfl) (by kernel_rfl) (by kernel_rfl) (fun _ _ _ h => h) rfl (fun W h => by have hm3 := (h.block _ lm).trans hxS.out.m; have lm3 := (cells_of hm3).1; have cm3 := (cells_of hm3).2; go_simp) hz0 ?_
    refine wpAnyH_quiet (i := 1) (v := .slice la M.jobs.length lcap) rfl (by kernel_rfl) (by kernel_rfl) (by kernel_rfl) (fun _ _ _ h => h) rfl (fun W h => by go_simp) hz0 ?_
    refine wpAnyH_quiet (i := 3) (v := .agg #[.slice sa M.setup.length scap, .slice ja M.jobs.length jcap]) rfl (by kernel_rfl) (by kernel_rfl) (by kernel_rfl) (fun _ _ _ h => h) rfl (fun W h => by have hm3 := (h.block _ lm).trans hxS.out.m; have lm3 := (cells_of hm3).1; have cm3 := (cells_of hm3).2; go_simp) hz0 ?_
    refine wpAnyH_quiet (i := 4) (v := .slice la M.jobs.length lcap) rfl (by kernel_rfl) (by kernel_rfl) (by kernel_rfl) (fun _ _ _ h => h) rfl (fun W h => by go_simp) hz0 ?_
    refine wpAnyH_step (i := 2) (by kernel_rfl) rfl ?_
    go_wp2_with (go_at_call 51; refine HDF1.out.mono ?_; rintro e w3 ⟨va, rfl, hva, hb3⟩)
    have hz3 := below_via hb3 hz0
    have HDT1 := hid (HDT.out w3 (below_via hz3 hxS.out.bel))
    have hva := hid hva
    refine ⟨hz3, ?_⟩
    refine wpAnyH_step (i := 5) (by kernel_rfl) rfl ?_
    go_wp2_with (go_at_call 51; refine HDT1.out.mono ?_; rintro e w4 ⟨vb, rfl, hvb, hb4⟩)
    have hz4 := below_via hb4 hz3
    have hva4 := hid (hva.out.below hb4)
    have hvb4 := hid hvb
    clear hva hvb
    obtain ⟨a2, acap, rfl, _⟩ := ints_at.2 hva4.out.at
    obtain ⟨b2, bcap, rfl, _⟩ := ints_at.2 hvb4.out.at
    rw [doneL_length, hpn] at hva4
    rw [doneL_length, hpn] at hvb4
    rw [doneL_length, doneL_length, hpn]
    refine ⟨hz4, ?_⟩
    refine wpAnyH_step (i := 6) (by kernel_rfl) rfl ?_
    go_wp2
    refine ⟨hz4, ?_⟩
    refine wpAnyH_step (i := 7) (by kernel_rfl) rfl ?_
    go_wp2
    refine ⟨hz4, ?_⟩
    refine wpAnyH_done (by kernel_rfl) ?_ _
    have hx4 := hid (hxS.out.below hz4)
    clear lm cm hxS hz0 hz3 hz4 hb3 hb4 HDT1 HDF1 hx
    go_wp2
    go_loopw [9, 10] (fun rv ix wr => ∃ k : Nat, k ≤ M.jobs.length ∧ ix = .int .i64 k ∧ Hid (spanK.own w4.heap.size wr rv ((spansOf M p).take k)) ∧ Hid (Below w4.heap.size w4 wr)) (fun _ ix _ => M.jobs.length - (intOf ix).toNat)
    case atStart => exact ⟨0, by omega, rfl, hid (spanK.own_nil _ _), hid (Below.refl _ _)⟩
    case round =>
      obtain ⟨k, hkk, rfl, hrow, hbr⟩ := hrel
      by_cases hlt : k < M.jobs.length
      · have hki : (k : Int) < (M.jobs.length : Int) := by omega
        have hne : ∀ {L : List Int}, L.length = M.jobs.length → L ≠ [] := fun hL e => by rw [e] at hL; simp at hL; omega
        obtain ⟨ab, ao, acap', e1, lab, hac⟩ := (ints_at.2 hva4.out.at).some (hne (by rw [doneL_length, hpn]))
        injection e1 with e1 e2 e3
        subst e1
        subst e3
        clear e2
        obtain ⟨bb, bo, bcap', e1, lbb, hbc⟩ := (ints_at.2 hvb4.out.at).some (hne (by rw [doneL_length, hpn]))
        injection e1 with e1 e2 e3
        subst e1
        subst e3
        clear e2 hne
        have hac := hac k (by rw [doneL_length, hpn]; exact hlt)
        have hbc := hbc k (by rw [doneL_length, hpn]; exact hlt)
        rw [hgf.out k (by omega)] at hac
        rw [hgt.out k (by omega)] at hbc
        have hs1 := hsp.out k (by omega)
        obtain ⟨x1, hx1⟩ : ∃ x1, nowAt M false p (k + 1) = x1 := ⟨_, rfl⟩
        obtain ⟨x2, hx2⟩ : ∃ x2, nowAt M true p (k + 1) = x2 := ⟨_, rfl⟩
        have hs := hid (show (spansOf M p).take (k + 1) = (spansOf M p).take k ++ [(x1, x2)] from by
          have hk' : k < (spansOf M p).length := by omega
          rw [List.take_succ_eq_append_getElem hk']
          rw [List.getD_eq_getElem?_getD, List.getElem?_eq_getElem hk'] at hs1
          simp only [Option.getD_some] at hs1
          rw [hs1, ← hx1, ← hx2]
          rfl)
        rw [hx1] at hac
        rw [hx2] at hbc
        have hsl : ((spansOf M p).take k).length + [(x1, x2)].length ≤ 1000 := by rw [List.length_take, hspl]; simp; omega
        clear hs1 hx1 hx2
        go_upto_region 9 with fail
        refine wp_region_held (S := fun W => Below w4.heap.size w4 W) (by kernel_rfl) ?_
        have hz0 : Below w4.heap.size w4 wr.drew := hbr.out.drew
        refine wpAnyH_quiet (i := 0) (v := u9) rfl (by kernel_rfl) (by kernel_rfl) (by kernel_rfl) (fun _ _ _ h => h) rfl (fun W h => by go_simp) hz0 ?_
        refine wpAnyH_quiet (i := 1) (v := .slice (some ⟨ab, ao, none⟩) M.jobs.length acap) rfl (by kernel_rfl) (by kernel_rfl) (by kernel_rfl) (fun _ _ _ h => h) rfl (fun W h => by go_simp) hz0 ?_
        refine wpAnyH_quiet (i := 2) (v := .int .i64 (k : Int)) rfl (by kernel_rfl) (by kernel_rfl) (by kernel_rfl) (fun _ _ _ h => h) rfl (fun W h => by go_simp) hz0 ?_
        refine wpAnyH_quiet (i := 3) (v := .pointer (some ⟨ab, ao + k, none⟩)) rfl (by kernel_rfl) (by kernel_rfl) (by kernel_rfl) (fun _ _ _ h => h) rfl (fun W h => by go_simp) hz0 ?_
        refine wpAnyH_quiet (i := 4) (v := .int .i64 x1) rfl (by kernel_rfl) (by kernel_rfl) (by kernel_rfl) (fun _ _ _ h => h) rfl (fun W h => by have hm1 := (h.cell (p := ⟨ab, ao + k, none⟩) lab).trans hac; go_simp) hz0 ?_
        refine wpAnyH_quiet (i := 5) (v := .slice (some ⟨bb, bo, none⟩) M.jobs.length bcap) rfl (by kernel_rfl) (by kernel_rfl) (by kernel_rfl) (fun _ _ _ h => h) rfl (fun W h => by go_simp) hz0 ?_
        refine wpAnyH_quiet (i := 6) (v := .int .i64 (k : Int)) rfl (by kernel_rfl) (by kernel_rfl) (by kernel_rfl) (fun _ _ _ h => h) rfl (fun W h => by go_simp) hz0 ?_
        refine wpAnyH_quiet (i := 7) (v := .pointer (some ⟨bb, bo + k, none⟩)) rfl (by kernel_rfl) (by kernel_rfl) (by kernel_rfl) (fun _ _ _ h => h) rfl (fun W h => by go_simp) hz0 ?_
        refine wpAnyH_quiet (i := 8) (v := .int .i64 x2) rfl (by kernel_rfl) (by kernel_rfl) (by kernel_rfl) (fun _ _ _ h => h) rfl (fun W h => by have hm1 := (h.cell (p := ⟨bb, bo + k, none⟩) lbb).trans hbc; go_simp) hz0 ?_
        refine wpAnyH_quiet (i := 9) (v := .agg #[.int .i64 x1, .int .i64 x2]) rfl (by kernel_rfl) (by kernel_rfl) (by kernel_rfl) (fun _ _ _ h => h) rfl (fun W h => by go_simp) hz0 ?_
        have hbx := below_alloc (Below.refl _ wr) (.cells #[.int .i64 x1, .int .i64 x2] 46)
        have hz5 := hid (below_via hbx hbr.out)
        have hrx := hid (show spanK.own w4.heap.size (wr.alloc (.cells #[.int .i64 x1, .int .i64 x2] 46)).drew u9 ((spansOf M p).take k) from hrow.out.below hbx.drew)
        have hsrc := hid (show ∀ k y', [(x1, x2)][k]? = some y' → ∀ f u, (spanK.enc y')[f]? = some u → (wr.alloc (.cells #[.int .i64 x1, .int .i64 x2] 46)).drew.cell? ⟨wr.heap.size, 0 + k * spanK.size + f, none⟩ = some u from row_one spanK wr (x1, x2) _ _ rfl)
        refine wpAnyH_step (i := 10) (by kernel_rfl) rfl ?_
        go_wp2
        refine ⟨hz5.out.drew, ?_⟩
        refine wpAnyH_step (i := 11) (by kernel_rfl) rfl ?_
        refine wpList_append_row spanK rfl _ _ rfl w4.heap.size u9 ((spansOf M p).take k) [(x1, x2)] rfl hrx.out wr.heap.size 0 1 1 rfl rfl hsrc.out hsl hz5.out.size ?_
        intro v' w6 hown6 hb6 _
        have hown6 := hid (own_eqS hown6 hs.out)
        go_wp2
        refine ⟨hz5.out.drew.trans hb6, ?_⟩
        refine wpAnyH_step (i := 12) (by kernel_rfl) rfl ?_
        have hz6 := hid (hz5.out.drew.trans hb6)
        go_wp2
        first
          | (refine ⟨hz6.out, ?_⟩
             refine wpAnyH_done (by kernel_rfl) ?_ _)
          | refine ⟨by kernel_rfl, ?_⟩
        go_wp2
        go_roundw
        case rel => exact ⟨k + 1, by omega, by go_num, hown6, hz6⟩
        case measure => simp [intOf]; omega
      · obtain rfl : k = M.jobs.length := by omega
        rw [show (spansOf M p).take M.jobs.length = spansOf M p from List.take_of_length_le (by omega)] at hrow
        go_wp2
        go_ret2
        exact ⟨_, rfl, hrow.out.low hx4.out.bel.size, below_via hbr.out hx4.out.bel⟩
end Go.Proofs.Ytcgkglonnmkfcaa
