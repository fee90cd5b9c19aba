/- The walk of the law MendLooks. -/
import Derived.Test.YtcgkglonnmkfcaaL3
import Derived.Test.YtcgkglonnmkfcaaPX
namespace Go.Proofs.Ytcgkglonnmkfcaa
open Go.RowKit Go.Lap Go.Shelf

theorem best_lenI (M : Mend) : (ints (bestOf M).2.1).length ≤ 1000 := by
  cases hv : M.valid
  · simp [bestOf, hv]
  · have := best_len hv
    simp; omega

set_option maxRecDepth 100000 in
set_option maxHeartbeats 4000000 in
theorem mendLooks_any (M : Mend) (sv jv : Value) (w : World) (hS : IntsAt w sv M.setup) (hJ : JobsAt w jv M.jobs) :
    Calls Try.prog 4 #[.agg #[sv, jv]] w fun e w' => e = .returned (.bool true) ∧ Below w.heap.size w w' := by
  have H12 := hid (fun W (h : Below w.heap.size w W) => far_any M [] sv jv (.slice none 0 0) W (hS.below h) (hJ.below h) (IntsAt.none _))
  have H25 := hid (fun W (h : Below w.heap.size w W) => refMend_any M sv jv W (hS.below h) (hJ.below h))
  have H26 := fun W (h : Below w.heap.size w W) => Best_any M sv jv W (hS.below h) (hJ.below h)
  have H27 := fun W (h : Below w.heap.size w W) => refBest_any M sv jv W (hS.below h) (hJ.below h)
  have H28 := fun W (h : Below w.heap.size w W) => Until_any M sv jv W (hS.below h) (hJ.below h)
  have H29 := fun W (h : Below w.heap.size w W) => refUntil_any M sv jv W (hS.below h) (hJ.below h)
  have H30 := fun W (h : Below w.heap.size w W) => Drop_any M sv jv W (hS.below h) (hJ.below h)
  have H31 := fun W (h : Below w.heap.size w W) => refDrop_any M sv jv W (hS.below h) (hJ.below h)
  have hbl := best_lenI M
  obtain ⟨⟨b1, b2, b3⟩, hbe⟩ : ∃ z, bestOf M = z := ⟨_, rfl⟩
  obtain ⟨⟨n1, n2⟩, hcn⟩ : ∃ z, untilOf M = z := ⟨_, rfl⟩
  obtain ⟨⟨f1, f2⟩, hfi⟩ : ∃ z, dropOf M = z := ⟨_, rfl⟩
  rw [hbe] at H26 H27 hbl
  rw [hcn] at H28 H29
  rw [hfi] at H30 H31
  dsimp only at H26 H27 H28 H29 H30 H31 hbl
  have H26 := hid H26
  have H27 := hid H27
  have H28 := hid H28
  have H29 := hid H29
  have H30 := hid H30
  have H31 := hid H31
  have H32 := hid (fun W v1 v2 (h1 : IntsAt W v1 (ints b2)) (h2 : IntsAt W v2 (ints b2)) => (show Calls Try.prog 32 #[v1, v2] W fun e w' => e = .returned (.bool true) ∧ Below W.heap.size W w' from by
    have := ints_any v1 v2 (ints b2) (ints b2) hbl W h1 h2
    rwa [beq_self_eq_true] at this))
  obtain ⟨fr, hfr⟩ : ∃ z, farB M [] = z := ⟨_, rfl⟩
  obtain ⟨vd, hvd⟩ : ∃ z, M.valid = z := ⟨_, rfl⟩
  rw [hfr] at H12
  rw [hvd] at H25
  obtain ⟨sa, scap, rfl, _⟩ := hS
  obtain ⟨ja, jcap, rfl, _⟩ := hJ
  have hx := KeepB.start w (.slice sa M.setup.length scap) (.slice ja M.jobs.length jcap)
  clear hbe hcn hfi hfr hbl hvd
  cases fr
  · by_cases h5 : 5 < M.jobs.length
    · have h5i : (5 : Int) < (M.jobs.length : Int) := by omega
      clear h5
      cases vd
      · go_enter Try.func4, Try.ntmps4
        go_upto_region 1 with fail
        generalize w.alloc (.cells #[.slice sa M.setup.length scap, .slice ja M.jobs.length jcap] 25) = w1 at hx ⊢
        have lm := (cells_of hx.m).1
        have cm := (cells_of hx.m).2
        go_upto_region 9 with (first
          | (go_at_call 12; with_reducible refine (H12.out _ hx.bel).mono ?_; rintro e w2 ⟨rfl, hb⟩; have hx := hx.below hb; have lm := (cells_of hx.m).1; have cm := (cells_of hx.m).2)
          | (go_at_call 25; with_reducible refine (H25.out _ hx.bel).mono ?_; rintro e w2 ⟨rfl, hb⟩; have hx := hx.below hb; have lm := (cells_of hx.m).1; have cm := (cells_of hx.m).2)
          | (go_at_call 26; with_reducible refine (H26.out _ hx.bel).mono ?_; rintro e w14 ⟨va, rfl, hA, hb⟩; have hA := hid hA.at; have hx := hx.below hb; have lm := (cells_of hx.m).1; have cm := (cells_of hx.m).2)
          | (go_at_call 27; with_reducible refine (H27.out _ hx.bel).mono ?_; rintro e w15 ⟨vb, rfl, hBv, hb⟩; have hA := hid (hA.out.below hb); have hBv := hid hBv; have hx := hx.below hb; have lm := (cells_of hx.m).1; have cm := (cells_of hx.m).2)
          | (go_at_call 28; with_reducible refine (H28.out _ hx.bel).mono ?_; rintro e w15 ⟨rfl, hb⟩; have hA := hid (hA.out.below hb); have hBv := hid (hBv.out.below hb); have hx := hx.below hb; have lm := (cells_of hx.m).1; have cm := (cells_of hx.m).2)
          | (go_at_call 29; with_reducible refine (H29.out _ hx.bel).mono ?_; rintro e w15 ⟨rfl, hb⟩; have hA := hid (hA.out.below hb); have hBv := hid (hBv.out.below hb); have hx := hx.below hb; have lm := (cells_of hx.m).1; have cm := (cells_of hx.m).2)
          | (go_at_call 30; with_reducible refine (H30.out _ hx.bel).mono ?_; rintro e w15 ⟨rfl, hb⟩; have hA := hid (hA.out.below hb); have hBv := hid (hBv.out.below hb); have hx := hx.below hb; have lm := (cells_of hx.m).1; have cm := (cells_of hx.m).2)
          | (go_at_call 31; with_reducible refine (H31.out _ hx.bel).mono ?_; rintro e w15 ⟨rfl, hb⟩; have hA := hid (hA.out.below hb); have hBv := hid (hBv.out.below hb); have hx := hx.below hb; have lm := (cells_of hx.m).1; have cm := (cells_of hx.m).2))
        have e1 : (b1 == b1) = true := beq_self_eq_true _
        have hr1 := hid (H32.out w15 va vb (hA.out) (hBv.out))
        go_wp2_with (first
          | (go_at_call 32; with_reducible refine hr1.out.mono ?_; rintro e w20 ⟨rfl, hb20⟩; have hx := hx.below hb20)
          | (go_at_call 13; with_reducible refine (awake_any _).mono ?_; rintro e w21 ⟨rfl, hb21⟩; have hx := hx.below hb21))
        go_ret
        exact ⟨rfl, hx.bel⟩
      · go_enter Try.func4, Try.ntmps4
        go_upto_region 1 with fail
        generalize w.alloc (.cells #[.slice sa M.setup.length scap, .slice ja M.jobs.length jcap] 25) = w1 at hx ⊢
        have lm := (cells_of hx.m).1
        have cm := (cells_of hx.m).2
        go_wp2_with (first
          | (go_at_call 12; with_reducible refine (H12.out _ hx.bel).mono ?_; rintro e w2 ⟨rfl, hb⟩; have hx := hx.below hb; have lm := (cells_of hx.m).1; have cm := (cells_of hx.m).2)
          | (go_at_call 25; with_reducible refine (H25.out _ hx.bel).mono ?_; rintro e w3 ⟨rfl, hb3⟩; have hx := hx.below hb3)
          | (go_at_call 13; with_reducible refine (awake_any _).mono ?_; rintro e w4 ⟨rfl, hb4⟩; have hx := hx.below hb4))
        go_ret
        exact ⟨rfl, hx.bel⟩
    · have h5i : ¬ (5 : Int) < (M.jobs.length : Int) := by omega
      clear h5
      go_enter Try.func4, Try.ntmps4
      go_upto_region 1 with fail
      generalize w.alloc (.cells #[.slice sa M.setup.length scap, .slice ja M.jobs.length jcap] 25) = w1 at hx ⊢
      have lm := (cells_of hx.m).1
      have cm := (cells_of hx.m).2
      go_upto_region 9 with (first
        | (go_at_call 12; with_reducible refine (H12.out _ hx.bel).mono ?_; rintro e w2 ⟨rfl, hb⟩; have hx := hx.below hb; have lm := (cells_of hx.m).1; have cm := (cells_of hx.m).2)
        | (go_at_call 25; with_reducible refine (H25.out _ hx.bel).mono ?_; rintro e w2 ⟨rfl, hb⟩; have hx := hx.below hb; have lm := (cells_of hx.m).1; have cm := (cells_of hx.m).2)
        | (go_at_call 26; with_reducible refine (H26.out _ hx.bel).mono ?_; rintro e w14 ⟨va, rfl, hA, hb⟩; have hA := hid hA.at; have hx := hx.below hb; have lm := (cells_of hx.m).1; have cm := (cells_of hx.m).2)
        | (go_at_call 27; with_reducible refine (H27.out _ hx.bel).mono ?_; rintro e w15 ⟨vb, rfl, hBv, hb⟩; have hA := hid (hA.out.below hb); have hBv := hid hBv; have hx := hx.below hb; have lm := (cells_of hx.m).1; have cm := (cells_of hx.m).2)
        | (go_at_call 28; with_reducible refine (H28.out _ hx.bel).mono ?_; rintro e w15 ⟨rfl, hb⟩; have hA := hid (hA.out.below hb); have hBv := hid (hBv.out.below hb); have hx := hx.below hb; have lm := (cells_of hx.m).1; have cm := (cells_of hx.m).2)
        | (go_at_call 29; with_reducible refine (H29.out _ hx.bel).mono ?_; rintro e w15 ⟨rfl, hb⟩; have hA := hid (hA.out.below hb); have hBv := hid (hBv.out.below hb); have hx := hx.below hb; have lm := (cells_of hx.m).1; have cm := (cells_of hx.m).2)
        | (go_at_call 30; with_reducible refine (H30.out _ hx.bel).mono ?_; rintro e w15 ⟨rfl, hb⟩; have hA := hid (hA.out.below hb); have hBv := hid (hBv.out.below hb); have hx := hx.below hb; have lm := (cells_of hx.m).1; have cm := (cells_of hx.m).2)
        | (go_at_call 31; with_reducible refine (H31.out _ hx.bel).mono ?_; rintro e w15 ⟨rfl, hb⟩; have hA := hid (hA.out.below hb); have hBv := hid (hBv.out.below hb); have hx := hx.below hb; have lm := (cells_of hx.m).1; have cm := (cells_of hx.m).2))
      have e1 : (b1 == b1) = true := beq_self_eq_true _
      have hr1 := hid (H32.out w15 va vb (hA.out) (hBv.out))
      go_wp2_with (first
        | (go_at_call 32; with_reducible refine hr1.out.mono ?_; rintro e w20 ⟨rfl, hb20⟩; have hx := hx.below hb20)
        | (go_at_call 13; with_reducible refine (awake_any _).mono ?_; rintro e w21 ⟨rfl, hb21⟩; have hx := hx.below hb21))
      go_ret
      exact ⟨rfl, hx.bel⟩
  · go_enter Try.func4, Try.ntmps4
    go_upto_region 1 with fail
    generalize w.alloc (.cells #[.slice sa M.setup.length scap, .slice ja M.jobs.length jcap] 25) = w1 at hx ⊢
    have lm := (cells_of hx.m).1
    have cm := (cells_of hx.m).2
    go_wp2_with (first
      | (go_at_call 12; with_reducible refine (H12.out _ hx.bel).mono ?_; rintro e w2 ⟨rfl, hb2⟩; have hx := hx.below hb2)
      | (go_at_call 13; with_reducible refine (awake_any _).mono ?_; rintro e w3 ⟨rfl, hb3⟩; have hx := hx.below hb3))
    go_ret
    exact ⟨rfl, hx.bel⟩
end Go.Proofs.Ytcgkglonnmkfcaa
