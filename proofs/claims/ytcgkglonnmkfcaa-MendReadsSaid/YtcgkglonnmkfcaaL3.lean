/- The walk of the law MendReads. -/
import Derived.Test.YtcgkglonnmkfcaaGV
import Derived.Test.YtcgkglonnmkfcaaGT
import Derived.Test.YtcgkglonnmkfcaaGS
import Derived.Test.YtcgkglonnmkfcaaR3
namespace Go.Proofs.Ytcgkglonnmkfcaa
open Go.RowKit Go.Lap Go.Shelf

theorem times_len (M : Mend) (l : List Int) : (timesOf M l).1.length ≤ 1000 := by
  rcases times_code M l with ⟨_, h⟩ | ⟨_, hv, p, _, _, hp, h⟩
  · rw [h]; exact Nat.zero_le _
  · rw [h]
    have := (Mend.valid_ok hv).len
    simp only [spans_length]; omega

set_option maxRecDepth 100000 in
set_option maxHeartbeats 4000000 in
theorem mendReads_any (M : Mend) (sv jv lv : Value) (l : List Int) (w : World) (hS : IntsAt w sv M.setup) (hJ : JobsAt w jv M.jobs) (hN : NilOk jv) (hL : IntsAt w lv l) :
    Calls Try.prog 3 #[.agg #[sv, jv], lv] w fun e w' => e = .returned (.bool true) ∧ Below w.heap.size w w' := by
  have H12 := hid (fun W (h : Below w.heap.size w W) => far_any M l sv jv lv W (hS.below h) (hJ.below h) (hL.below h))
  cases hfar : farB M l
  · have hl : l.length ≤ 1000 := by unfold farB at hfar; simp at hfar; omega
    have H14 := fun W (h : Below w.heap.size w W) => Times_any M sv jv lv l hl W (hS.below h) (hJ.below h) (hL.below h)
    have H15 := fun W (h : Below w.heap.size w W) => refTimes_any M sv jv lv l hl W (hS.below h) (hJ.below h) (hL.below h)
    have H16 := fun W (h : Below w.heap.size w W) => Check_any M sv jv lv l hl W (hS.below h) (hJ.below h) (hL.below h)
    have H17 := fun W (h : Below w.heap.size w W) => refCheck_any M sv jv lv l hl W (hS.below h) (hJ.below h) (hL.below h)
    have H18 := fun W (h : Below w.heap.size w W) => Slack_any M sv jv lv l hl W (hS.below h) (hJ.below h) (hL.below h)
    have H19 := fun W (h : Below w.heap.size w W) => refSlack_any M sv jv lv l hl hN W (hS.below h) (hJ.below h) (hL.below h)
    have H20 := fun W (h : Below w.heap.size w W) => Count_any M sv jv W (hS.below h) (hJ.below h)
    have H21 := fun W (h : Below w.heap.size w W) => refCount_any M sv jv W (hS.below h) (hJ.below h)
    have H22 := fun W (h : Below w.heap.size w W) => First_any M sv jv W (hS.below h) (hJ.below h)
    have H23 := fun W (h : Below w.heap.size w W) => refFirst_any M sv jv W (hS.below h) (hJ.below h)
    have htl := times_len M l
    rw [hfar] at H12
    obtain ⟨⟨ts, te⟩, hts⟩ : ∃ z, timesOf M l = z := ⟨_, rfl⟩
    obtain ⟨⟨c1, c2, c3⟩, hck⟩ : ∃ z, checkOf M l = z := ⟨_, rfl⟩
    obtain ⟨⟨s1, s2⟩, hsl⟩ : ∃ z, slackOf M l = z := ⟨_, rfl⟩
    obtain ⟨⟨n1, n2⟩, hcn⟩ : ∃ z, countOf M = z := ⟨_, rfl⟩
    obtain ⟨⟨f1, f2⟩, hfi⟩ : ∃ z, firstOf M = z := ⟨_, rfl⟩
    rw [hts] at H14 H15 htl
    rw [hck] at H16 H17
    rw [hsl] at H18 H19
    rw [hcn] at H20 H21
    rw [hfi] at H22 H23
    dsimp only at H14 H15 H16 H17 H18 H19 H20 H21 H22 H23 htl
    have H14 := hid H14
    have H15 := hid H15
    have H16 := hid H16
    have H17 := hid H17
    have H18 := hid H18
    have H19 := hid H19
    have H20 := hid H20
    have H21 := hid H21
    have H22 := hid H22
    have H23 := hid H23
    have H24 := hid (fun W v1 v2 (h1 : spanK.at W v1 ts) (h2 : spanK.at W v2 ts) => (show Calls Try.prog 24 #[v1, v2] W fun e w' => e = .returned (.bool true) ∧ Below W.heap.size W w' from by
      have := spans_any v1 v2 ts ts htl W h1 h2
      rwa [beq_self_eq_true] at this))
    obtain ⟨sa, scap, rfl, _⟩ := hS
    obtain ⟨ja, jcap, rfl, _⟩ := hJ
    obtain ⟨la, lcap, rfl, _⟩ := hL
    have hx := KeepB.start w (.slice sa M.setup.length scap) (.slice ja M.jobs.length jcap)
    clear hts hck hsl hcn hfi hfar htl hl hN
    go_enter Try.func3, Try.ntmps3
    go_upto_region 1 with fail
    generalize w.alloc (.cells #[.slice sa M.setup.length scap, .slice ja M.jobs.length jcap] 25) = w1 at hx ⊢
    have lm := (cells_of hx.m).1
    have cm := (cells_of hx.m).2
    go_upto_region 13 with (first
      | (go_at_call 12; with_reducible refine (H12.out _ hx.bel).mono ?_; rintro e w2 ⟨rfl, hb⟩; have hx := hx.below hb; have lm := (cells_of hx.m).1; have cm := (cells_of hx.m).2)
      | (go_at_call 14; with_reducible refine (H14.out _ hx.bel).mono ?_; rintro e w14 ⟨va, rfl, hA, hb⟩; have hA := hid hA.at; have hx := hx.below hb; have lm := (cells_of hx.m).1; have cm := (cells_of hx.m).2)
      | (go_at_call 15; with_reducible refine (H15.out _ hx.bel).mono ?_; rintro e w15 ⟨vb, rfl, hBv, hb⟩; have hA := hid (hA.out.below hb); have hBv := hid hBv.at; have hx := hx.below hb; have lm := (cells_of hx.m).1; have cm := (cells_of hx.m).2)
      | (go_at_call 16; with_reducible refine (H16.out _ hx.bel).mono ?_; rintro e w15 ⟨rfl, hb⟩; have hA := hid (hA.out.below hb); have hBv := hid (hBv.out.below hb); have hx := hx.below hb; have lm := (cells_of hx.m).1; have cm := (cells_of hx.m).2)
      | (go_at_call 17; with_reducible refine (H17.out _ hx.bel).mono ?_; rintro e w15 ⟨rfl, hb⟩; have hA := hid (hA.out.below hb); have hBv := hid (hBv.out.below hb); have hx := hx.below hb; have lm := (cells_of hx.m).1; have cm := (cells_of hx.m).2)
      | (go_at_call 18; with_reducible refine (H18.out _ hx.bel).mono ?_; rintro e w15 ⟨rfl, hb⟩; have hA := hid (hA.out.below hb); have hBv := hid (hBv.out.below hb); have hx := hx.below hb; have lm := (cells_of hx.m).1; have cm := (cells_of hx.m).2)
      | (go_at_call 19; with_reducible refine (H19.out _ hx.bel).mono ?_; rintro e w15 ⟨rfl, hb⟩; have hA := hid (hA.out.below hb); have hBv := hid (hBv.out.below hb); have hx := hx.below hb; have lm := (cells_of hx.m).1; have cm := (cells_of hx.m).2)
      | (go_at_call 20; with_reducible refine (H20.out _ hx.bel).mono ?_; rintro e w15 ⟨rfl, hb⟩; have hA := hid (hA.out.below hb); have hBv := hid (hBv.out.below hb); have hx := hx.below hb; have lm := (cells_of hx.m).1; have cm := (cells_of hx.m).2)
      | (go_at_call 21; with_reducible refine (H21.out _ hx.bel).mono ?_; rintro e w15 ⟨rfl, hb⟩; have hA := hid (hA.out.below hb); have hBv := hid (hBv.out.below hb); have hx := hx.below hb; have lm := (cells_of hx.m).1; have cm := (cells_of hx.m).2)
      | (go_at_call 22; with_reducible refine (H22.out _ hx.bel).mono ?_; rintro e w15 ⟨rfl, hb⟩; have hA := hid (hA.out.below hb); have hBv := hid (hBv.out.below hb); have hx := hx.below hb; have lm := (cells_of hx.m).1; have cm := (cells_of hx.m).2)
      | (go_at_call 23; with_reducible refine (H23.out _ hx.bel).mono ?_; rintro e w15 ⟨rfl, hb⟩; have hA := hid (hA.out.below hb); have hBv := hid (hBv.out.below hb); have hx := hx.below hb; have lm := (cells_of hx.m).1; have cm := (cells_of hx.m).2))
    have e1 : (te == te) = true := beq_self_eq_true _
    have e2 : (c1 == c1) = true := beq_self_eq_true _
    have hr1 := hid (H24.out w15 va vb (hA.out) (hBv.out))
    go_wp2_with (first
      | (go_at_call 24; with_reducible refine hr1.out.mono ?_; rintro e w20 ⟨rfl, hb20⟩; have hx := hx.below hb20)
      | (go_at_call 13; with_reducible refine (awake_any _).mono ?_; rintro e w21 ⟨rfl, hb21⟩; have hx := hx.below hb21))
    go_ret
    exact ⟨rfl, hx.bel⟩
  · rw [hfar] at H12
    clear hfar
    obtain ⟨sa, scap, rfl, _⟩ := hS
    obtain ⟨ja, jcap, rfl, _⟩ := hJ
    obtain ⟨la, lcap, rfl, _⟩ := hL
    have hx := KeepB.start w (.slice sa M.setup.length scap) (.slice ja M.jobs.length jcap)
    go_enter Try.func3, Try.ntmps3
    go_upto_region 1 with fail
    generalize w.alloc (.cells #[.slice sa M.setup.length scap, .slice ja M.jobs.length jcap] 25) = w1 at hx ⊢
    have lm := (cells_of hx.m).1
    have cm := (cells_of hx.m).2
    go_wp2_with (first
      | (go_at_call 12; with_reducible refine (H12.out _ hx.bel).mono ?_; rintro e w2 ⟨rfl, hb2⟩; have hx := hx.below hb2)
      | (go_at_call 13; with_reducible refine (awake_any _).mono ?_; rintro e w3 ⟨rfl, hb3⟩; have hx := hx.below hb3))
    go_ret
    exact ⟨rfl, hx.bel⟩
end Go.Proofs.Ytcgkglonnmkfcaa
