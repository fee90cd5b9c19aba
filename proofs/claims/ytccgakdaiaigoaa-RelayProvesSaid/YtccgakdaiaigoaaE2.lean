/- The laws RelayReads, RelayLooks and RelayProves, walked. -/
import Derived.Test.YtccgakdaiaigoaaGG
import Derived.Test.YtccgakdaiaigoaaGU
import Derived.Test.YtccgakdaiaigoaaGR
namespace Go.Proofs.Ytccgakdaiaigoaa
open Go.RowKit Go.Lap Go.Shelf

/-- What lies in memory while a law runs. -/
structure KeepL (w : World) (r : Rel) (sv : Value) (W : World) : Prop where
  bel : Below w.heap.size w W
  m : W.heap[w.heap.size]? = some (.cells #[.int .i64 r.rest, sv] 24 (0, 0))
  s : StintsAt W sv r.stints
theorem KeepL.below {w W W' : World} {r : Rel} {sv : Value} (h : KeepL w r sv W) (hb : Below W.heap.size W W') : KeepL w r sv W' :=
  ⟨below_via hb h.bel, (hb.block _ (cells_of h.m).1).trans h.m, h.s.below hb⟩
theorem KeepL.start {w : World} {r : Rel} {sv : Value} (h : StintsAt w sv r.stints) : KeepL w r sv (w.alloc (.cells #[.int .i64 r.rest, sv] 24)) :=
  ⟨below_alloc (Below.refl _ w) _, alloc_at rfl, h.below (below_alloc (Below.refl _ w) _)⟩

set_option maxRecDepth 100000 in
set_option maxHeartbeats 4000000 in
theorem relayReads_any (r : Rel) (hn : r.n ≤ maxLen) (i : Int) (sv : Value) (w : World) (hS : StintsAt w sv r.stints) : Calls Try.prog 3 #[relV r sv, .int .i64 i] w fun e w' => e = .returned (.bool true) ∧ Below w.heap.size w w' := by
  obtain ⟨sa, scap, rfl, hs0⟩ := id hS
  clear hs0
  have hx := hid (KeepL.start hS)
  cases hfar : farB r 5
  · have hn6 := far_n hfar
    have H12 := hid (fun W h => far_as (M := 5) hfar rfl hn (by decide) (.slice sa r.stints.length scap) W h)
    have H14 := fun W h => On_any r hn6 i (.slice sa r.stints.length scap) W h
    have H15 := fun W h => refOn_any r hn6 i (.slice sa r.stints.length scap) W h
    have H16 := fun W h => Off_any r hn6 i (.slice sa r.stints.length scap) W h
    have H17 := fun W h => refOff_any r hn6 i (.slice sa r.stints.length scap) W h
    have H18 := fun W h => Length_any r hn6 i (.slice sa r.stints.length scap) W h
    have H19 := fun W h => refLength_any r hn6 i (.slice sa r.stints.length scap) W h
    have H20 := fun W h => Handed_any r hn6 i (.slice sa r.stints.length scap) W h
    have H21 := fun W h => refHanded_any r hn6 i (.slice sa r.stints.length scap) W h
    obtain ⟨⟨⟨a0, b0⟩, c0⟩, hz0⟩ : ∃ z, onOf r i = z := ⟨_, rfl⟩
    rw [hz0] at H14 H15
    obtain ⟨⟨⟨a1, b1⟩, c1⟩, hz1⟩ : ∃ z, offOf r i = z := ⟨_, rfl⟩
    rw [hz1] at H16 H17
    obtain ⟨⟨⟨a2, b2⟩, c2⟩, hz2⟩ : ∃ z, lengthOf r i = z := ⟨_, rfl⟩
    rw [hz2] at H18 H19
    obtain ⟨⟨a3, c3⟩, hz3⟩ : ∃ z, handedOf r i = z := ⟨_, rfl⟩
    rw [hz3] at H20 H21
    dsimp only [spanV] at H14 H15 H16 H17 H18 H19 H20 H21
    replace H14 := hid H14
    replace H15 := hid H15
    replace H16 := hid H16
    replace H17 := hid H17
    replace H18 := hid H18
    replace H19 := hid H19
    replace H20 := hid H20
    replace H21 := hid H21
    clear hz0 hz1 hz2 hz3 hn6 hn hfar hS
    go_enter Try.func3, Try.ntmps3
    go_upto_region 1 with fail
    generalize w.alloc (.cells #[.int .i64 r.rest, .slice sa r.stints.length scap] 24) = w0 at hx ⊢
    have lx := (cells_of hx.out.m).1
    have cx := (cells_of hx.out.m).2
    go_upto_region 3 with (go_at_call 12; with_reducible refine (H12.out _ hx.out.s).mono ?_; rintro e w1 ⟨rfl, hb⟩)
    replace hx := hid (hx.out.below hb)
    clear hb lx cx H12
    have lx := (cells_of hx.out.m).1
    have cx := (cells_of hx.out.m).2
    go_upto_region 4 with (go_at_call 14; with_reducible refine (H14.out _ hx.out.s).mono ?_; rintro e x0 ⟨rfl, hb⟩)
    replace hx := hid (hx.out.below hb)
    clear hb lx cx H14
    replace hx := hid (hx.out.below (below_alloc (Below.refl _ _) (sp28 a0 b0)))
    have hB0 := alloc_at (w := x0) (o := (sp28 a0 b0)) rfl
    generalize x0.alloc (sp28 a0 b0) = y0 at hx hB0  ⊢
    generalize x0.heap.size = b0b at hB0 ⊢
    replace hB0 := hid hB0
    have lx := (cells_of hx.out.m).1
    have cx := (cells_of hx.out.m).2
    go_upto_region 5 with (go_at_call 15; with_reducible refine (H15.out _ hx.out.s).mono ?_; rintro e x1 ⟨rfl, hb⟩)
    replace hx := hid (hx.out.below hb)
    replace hB0 := hid ((hb.block _ (cells_of hB0.out).1).trans hB0.out)
    clear hb lx cx H15
    replace hx := hid (hx.out.below (below_alloc (Below.refl _ _) (sp28 a0 b0)))
    replace hB0 := hid (alloc_old (o := (sp28 a0 b0)) (cells_of hB0.out).1 hB0.out)
    have hB1 := alloc_at (w := x1) (o := (sp28 a0 b0)) rfl
    generalize x1.alloc (sp28 a0 b0) = y1 at hx hB1 hB0 ⊢
    generalize x1.heap.size = b1b at hB1 ⊢
    replace hB1 := hid hB1
    have lx := (cells_of hx.out.m).1
    have cx := (cells_of hx.out.m).2
    go_upto_region 6 with (go_at_call 16; with_reducible refine (H16.out _ hx.out.s).mono ?_; rintro e x2 ⟨rfl, hb⟩)
    replace hx := hid (hx.out.below hb)
    replace hB0 := hid ((hb.block _ (cells_of hB0.out).1).trans hB0.out)
    replace hB1 := hid ((hb.block _ (cells_of hB1.out).1).trans hB1.out)
    clear hb lx cx H16
    replace hx := hid (hx.out.below (below_alloc (Below.refl _ _) (sp28 a1 b1)))
    replace hB0 := hid (alloc_old (o := (sp28 a1 b1)) (cells_of hB0.out).1 hB0.out)
    replace hB1 := hid (alloc_old (o := (sp28 a1 b1)) (cells_of hB1.out).1 hB1.out)
    have hB2 := alloc_at (w := x2) (o := (sp28 a1 b1)) rfl
    generalize x2.alloc (sp28 a1 b1) = y2 at hx hB2 hB0 hB1 ⊢
    generalize x2.heap.size = b2b at hB2 ⊢
    replace hB2 := hid hB2
    have lx := (cells_of hx.out.m).1
    have cx := (cells_of hx.out.m).2
    go_upto_region 7 with (go_at_call 17; with_reducible refine (H17.out _ hx.out.s).mono ?_; rintro e x3 ⟨rfl, hb⟩)
    replace hx := hid (hx.out.below hb)
    replace hB0 := hid ((hb.block _ (cells_of hB0.out).1).trans hB0.out)
    replace hB1 := hid ((hb.block _ (cells_of hB1.out).1).trans hB1.out)
    replace hB2 := hid ((hb.block _ (cells_of hB2.out).1).trans hB2.out)
    clear hb lx cx H17
    replace hx := hid (hx.out.below (below_alloc (Below.refl _ _) (sp28 a1 b1)))
    replace hB0 := hid (alloc_old (o := (sp28 a1 b1)) (cells_of hB0.out).1 hB0.out)
    replace hB1 := hid (alloc_old (o := (sp28 a1 b1)) (cells_of hB1.out).1 hB1.out)
    replace hB2 := hid (alloc_old (o := (sp28 a1 b1)) (cells_of hB2.out).1 hB2.out)
    have hB3 := alloc_at (w := x3) (o := (sp28 a1 b1)) rfl
    generalize x3.alloc (sp28 a1 b1) = y3 at hx hB3 hB0 hB1 hB2 ⊢
    generalize x3.heap.size = b3b at hB3 ⊢
    replace hB3 := hid hB3
    have lx := (cells_of hx.out.m).1
    have cx := (cells_of hx.out.m).2
    go_upto_region 8 with (go_at_call 18; with_reducible refine (H18.out _ hx.out.s).mono ?_; rintro e x4 ⟨rfl, hb⟩)
    replace hx := hid (hx.out.below hb)
    replace hB0 := hid ((hb.block _ (cells_of hB0.out).1).trans hB0.out)
    replace hB1 := hid ((hb.block _ (cells_of hB1.out).1).trans hB1.out)
    replace hB2 := hid ((hb.block _ (cells_of hB2.out).1).trans hB2.out)
    replace hB3 := hid ((hb.block _ (cells_of hB3.out).1).trans hB3.out)
    clear hb lx cx H18
    replace hx := hid (hx.out.below (below_alloc (Below.refl _ _) (sp28 a2 b2)))
    replace hB0 := hid (alloc_old (o := (sp28 a2 b2)) (cells_of hB0.out).1 hB0.out)
    replace hB1 := hid (alloc_old (o := (sp28 a2 b2)) (cells_of hB1.out).1 hB1.out)
    replace hB2 := hid (alloc_old (o := (sp28 a2 b2)) (cells_of hB2.out).1 hB2.out)
    replace hB3 := hid (alloc_old (o := (sp28 a2 b2)) (cells_of hB3.out).1 hB3.out)
    have hB4 := alloc_at (w := x4) (o := (sp28 a2 b2)) rfl
    generalize x4.alloc (sp28 a2 b2) = y4 at hx hB4 hB0 hB1 hB2 hB3 ⊢
    generalize x4.heap.size = b4b at hB4 ⊢
    replace hB4 := hid hB4
    have lx := (cells_of hx.out.m).1
    have cx := (cells_of hx.out.m).2
    go_upto_region 9 with (go_at_call 19; with_reducible refine (H19.out _ hx.out.s).mono ?_; rintro e x5 ⟨rfl, hb⟩)
    replace hx := hid (hx.out.below hb)
    replace hB0 := hid ((hb.block _ (cells_of hB0.out).1).trans hB0.out)
    replace hB1 := hid ((hb.block _ (cells_of hB1.out).1).trans hB1.out)
    replace hB2 := hid ((hb.block _ (cells_of hB2.out).1).trans hB2.out)
    replace hB3 := hid ((hb.block _ (cells_of hB3.out).1).trans hB3.out)
    replace hB4 := hid ((hb.block _ (cells_of hB4.out).1).trans hB4.out)
    clear hb lx cx H19
    replace hx := hid (hx.out.below (below_alloc (Below.refl _ _) (sp28 a2 b2)))
    replace hB0 := hid (alloc_old (o := (sp28 a2 b2)) (cells_of hB0.out).1 hB0.out)
    replace hB1 := hid (alloc_old (o := (sp28 a2 b2)) (cells_of hB1.out).1 hB1.out)
    replace hB2 := hid (alloc_old (o := (sp28 a2 b2)) (cells_of hB2.out).1 hB2.out)
    replace hB3 := hid (alloc_old (o := (sp28 a2 b2)) (cells_of hB3.out).1 hB3.out)
    replace hB4 := hid (alloc_old (o := (sp28 a2 b2)) (cells_of hB4.out).1 hB4.out)
    have hB5 := alloc_at (w := x5) (o := (sp28 a2 b2)) rfl
    generalize x5.alloc (sp28 a2 b2) = y5 at hx hB5 hB0 hB1 hB2 hB3 hB4 ⊢
    generalize x5.heap.size = b5b at hB5 ⊢
    replace hB5 := hid hB5
    have lx := (cells_of hx.out.m).1
    have cx := (cells_of hx.out.m).2
    go_upto_region 10 with (go_at_call 20; with_reducible refine (H20.out _ hx.out.s).mono ?_; rintro e x6 ⟨rfl, hb⟩)
    replace hx := hid (hx.out.below hb)
    replace hB0 := hid ((hb.block _ (cells_of hB0.out).1).trans hB0.out)
    replace hB1 := hid ((hb.block _ (cells_of hB1.out).1).trans hB1.out)
    replace hB2 := hid ((hb.block _ (cells_of hB2.out).1).trans hB2.out)
    replace hB3 := hid ((hb.block _ (cells_of hB3.out).1).trans hB3.out)
    replace hB4 := hid ((hb.block _ (cells_of hB4.out).1).trans hB4.out)
    replace hB5 := hid ((hb.block _ (cells_of hB5.out).1).trans hB5.out)
    clear hb lx cx H20
    have lx := (cells_of hx.out.m).1
    have cx := (cells_of hx.out.m).2
    go_upto_region 11 with (go_at_call 21; with_reducible refine (H21.out _ hx.out.s).mono ?_; rintro e x7 ⟨rfl, hb⟩)
    replace hx := hid (hx.out.below hb)
    replace hB0 := hid ((hb.block _ (cells_of hB0.out).1).trans hB0.out)
    replace hB1 := hid ((hb.block _ (cells_of hB1.out).1).trans hB1.out)
    replace hB2 := hid ((hb.block _ (cells_of hB2.out).1).trans hB2.out)
    replace hB3 := hid ((hb.block _ (cells_of hB3.out).1).trans hB3.out)
    replace hB4 := hid ((hb.block _ (cells_of hB4.out).1).trans hB4.out)
    replace hB5 := hid ((hb.block _ (cells_of hB5.out).1).trans hB5.out)
    clear hb lx cx H21
    have q0 : ∀ w, (Op.equal 28 (.agg #[.int .i64 a0, .int .i64 b0]) (.agg #[.int .i64 a0, .int .i64 b0])).run Try.prog w = .ok true w := fun w => by rw [eq_span28]; simp
    have q1 : ∀ w, (Op.equal 28 (.agg #[.int .i64 a1, .int .i64 b1]) (.agg #[.int .i64 a1, .int .i64 b1])).run Try.prog w = .ok true w := fun w => by rw [eq_span28]; simp
    have q2 : ∀ w, (Op.equal 28 (.agg #[.int .i64 a2, .int .i64 b2]) (.agg #[.int .i64 a2, .int .i64 b2])).run Try.prog w = .ok true w := fun w => by rw [eq_span28]; simp
    have l0 := (cells_of hB0.out).1
    have d0 := (cells_of hB0.out).2
    have l1 := (cells_of hB1.out).1
    have d1 := (cells_of hB1.out).2
    have l2 := (cells_of hB2.out).1
    have d2 := (cells_of hB2.out).2
    have l3 := (cells_of hB3.out).1
    have d3 := (cells_of hB3.out).2
    have l4 := (cells_of hB4.out).1
    have d4 := (cells_of hB4.out).2
    have l5 := (cells_of hB5.out).1
    have d5 := (cells_of hB5.out).2
    go_wp2_with (go_at_call 13; with_reducible refine (awake_any _).mono ?_; rintro e z9 ⟨rfl, hb⟩; replace hx := hid (hx.out.below hb); clear hb)
    go_ret
    exact ⟨rfl, hx.out.bel⟩
  · have H12 := hid (fun W h => far_as (M := 5) hfar rfl hn (by decide) (.slice sa r.stints.length scap) W h)
    clear hn hfar hS
    go_enter Try.func3, Try.ntmps3
    go_upto_region 1 with fail
    generalize w.alloc (.cells #[.int .i64 r.rest, .slice sa r.stints.length scap] 24) = w0 at hx ⊢
    have lx := (cells_of hx.out.m).1
    have cx := (cells_of hx.out.m).2
    go_wp2_with (first | (go_at_call 12; with_reducible refine (H12.out _ hx.out.s).mono ?_; rintro e w1 ⟨rfl, hb⟩; replace hx := hid (hx.out.below hb); clear hb) | (go_at_call 13; with_reducible refine (awake_any _).mono ?_; rintro e w2 ⟨rfl, hb⟩; replace hx := hid (hx.out.below hb); clear hb))
    go_ret
    exact ⟨rfl, hx.out.bel⟩

set_option maxRecDepth 100000 in
set_option maxHeartbeats 4000000 in
theorem relayLooks_any (r : Rel) (hn : r.n ≤ maxLen) (a b : Int) (sv : Value) (w : World) (hS : StintsAt w sv r.stints) : Calls Try.prog 4 #[relV r sv, .int .i64 a, .int .i64 b] w fun e w' => e = .returned (.bool true) ∧ Below w.heap.size w w' := by
  obtain ⟨sa, scap, rfl, hs0⟩ := id hS
  clear hs0
  have hx := hid (KeepL.start hS)
  cases hfar : farB r 5
  · have hn6 := far_n hfar
    have H12 := hid (fun W h => far_as (M := 5) hfar rfl hn (by decide) (.slice sa r.stints.length scap) W h)
    have H22 := fun W h => Nobody_any r hn6 a b (.slice sa r.stints.length scap) W h
    have H23 := fun W h => refNobody_any r hn6 a b (.slice sa r.stints.length scap) W h
    have H24 := fun W h => Gap_any r hn6 a b (.slice sa r.stints.length scap) W h
    have H25 := fun W h => refGap_any r hn6 a b (.slice sa r.stints.length scap) W h
    obtain ⟨⟨a0, c0⟩, hz0⟩ : ∃ z, nobodyOf r a b = z := ⟨_, rfl⟩
    rw [hz0] at H22 H23
    obtain ⟨⟨a1, c1⟩, hz1⟩ : ∃ z, minuteGapOf r a b = z := ⟨_, rfl⟩
    rw [hz1] at H24 H25
    dsimp only [spanV] at H22 H23 H24 H25
    replace H22 := hid H22
    replace H23 := hid H23
    replace H24 := hid H24
    replace H25 := hid H25
    clear hz0 hz1 hn6 hn hfar hS
    go_enter Try.func4, Try.ntmps4
    go_upto_region 1 with fail
    generalize w.alloc (.cells #[.int .i64 r.rest, .slice sa r.stints.length scap] 24) = w0 at hx ⊢
    have lx := (cells_of hx.out.m).1
    have cx := (cells_of hx.out.m).2
    go_upto_region 3 with (go_at_call 12; with_reducible refine (H12.out _ hx.out.s).mono ?_; rintro e w1 ⟨rfl, hb⟩)
    replace hx := hid (hx.out.below hb)
    clear hb lx cx H12
    have lx := (cells_of hx.out.m).1
    have cx := (cells_of hx.out.m).2
    go_upto_region 4 with (go_at_call 22; with_reducible refine (H22.out _ hx.out.s).mono ?_; rintro e x0 ⟨rfl, hb⟩)
    replace hx := hid (hx.out.below hb)
    clear hb lx cx H22
    have lx := (cells_of hx.out.m).1
    have cx := (cells_of hx.out.m).2
    go_upto_region 5 with (go_at_call 23; with_reducible refine (H23.out _ hx.out.s).mono ?_; rintro e x1 ⟨rfl, hb⟩)
    replace hx := hid (hx.out.below hb)
    clear hb lx cx H23
    have lx := (cells_of hx.out.m).1
    have cx := (cells_of hx.out.m).2
    go_upto_region 6 with (go_at_call 24; with_reducible refine (H24.out _ hx.out.s).mono ?_; rintro e x2 ⟨rfl, hb⟩)
    replace hx := hid (hx.out.below hb)
    clear hb lx cx H24
    have lx := (cells_of hx.out.m).1
    have cx := (cells_of hx.out.m).2
    go_upto_region 7 with (go_at_call 25; with_reducible refine (H25.out _ hx.out.s).mono ?_; rintro e x3 ⟨rfl, hb⟩)
    replace hx := hid (hx.out.below hb)
    clear hb lx cx H25
    go_wp2_with (go_at_call 13; with_reducible refine (awake_any _).mono ?_; rintro e z9 ⟨rfl, hb⟩; replace hx := hid (hx.out.below hb); clear hb)
    go_ret
    exact ⟨rfl, hx.out.bel⟩
  · have H12 := hid (fun W h => far_as (M := 5) hfar rfl hn (by decide) (.slice sa r.stints.length scap) W h)
    clear hn hfar hS
    go_enter Try.func4, Try.ntmps4
    go_upto_region 1 with fail
    generalize w.alloc (.cells #[.int .i64 r.rest, .slice sa r.stints.length scap] 24) = w0 at hx ⊢
    have lx := (cells_of hx.out.m).1
    have cx := (cells_of hx.out.m).2
    go_wp2_with (first | (go_at_call 12; with_reducible refine (H12.out _ hx.out.s).mono ?_; rintro e w1 ⟨rfl, hb⟩; replace hx := hid (hx.out.below hb); clear hb) | (go_at_call 13; with_reducible refine (awake_any _).mono ?_; rintro e w2 ⟨rfl, hb⟩; replace hx := hid (hx.out.below hb); clear hb))
    go_ret
    exact ⟨rfl, hx.out.bel⟩

set_option maxRecDepth 100000 in
set_option maxHeartbeats 4000000 in
theorem relayProves_any (r : Rel) (hn : r.n ≤ maxLen) (sv : Value) (w : World) (hS : StintsAt w sv r.stints) : Calls Try.prog 5 #[relV r sv] w fun e w' => e = .returned (.bool true) ∧ Below w.heap.size w w' := by
  obtain ⟨sa, scap, rfl, hs0⟩ := id hS
  clear hs0
  have hx := hid (KeepL.start hS)
  cases hfar : farB r 2
  · have hn6 := far_n hfar
    have H12 := hid (fun W h => far_as (M := 2) hfar rfl hn (by decide) (.slice sa r.stints.length scap) W h)
    have H26 := fun W h => Clash_any r hn6 (.slice sa r.stints.length scap) W h
    have H27 := fun W h => refClash_any r hn6 (.slice sa r.stints.length scap) W h
    have H28 := fun W h => Wrong_any r hn6 (.slice sa r.stints.length scap) W h
    have H29 := fun W h => refWrong_any r hn6 (.slice sa r.stints.length scap) W h
    obtain ⟨⟨a0, c0⟩, hz0⟩ : ∃ z, clashOf r = z := ⟨_, rfl⟩
    rw [hz0] at H26 H27
    obtain ⟨⟨a1, c1⟩, hz1⟩ : ∃ z, r.wrongOf = z := ⟨_, rfl⟩
    rw [hz1] at H28 H29
    dsimp only [spanV] at H26 H27 H28 H29
    replace H26 := hid H26
    replace H27 := hid H27
    replace H28 := hid H28
    replace H29 := hid H29
    clear hz0 hz1 hn6 hn hfar hS
    go_enter Try.func5, Try.ntmps5
    go_upto_region 1 with fail
    generalize w.alloc (.cells #[.int .i64 r.rest, .slice sa r.stints.length scap] 24) = w0 at hx ⊢
    have lx := (cells_of hx.out.m).1
    have cx := (cells_of hx.out.m).2
    go_upto_region 3 with (go_at_call 12; with_reducible refine (H12.out _ hx.out.s).mono ?_; rintro e w1 ⟨rfl, hb⟩)
    replace hx := hid (hx.out.below hb)
    clear hb lx cx H12
    have lx := (cells_of hx.out.m).1
    have cx := (cells_of hx.out.m).2
    go_upto_region 4 with (go_at_call 26; with_reducible refine (H26.out _ hx.out.s).mono ?_; rintro e x0 ⟨rfl, hb⟩)
    replace hx := hid (hx.out.below hb)
    clear hb lx cx H26
    have lx := (cells_of hx.out.m).1
    have cx := (cells_of hx.out.m).2
    go_upto_region 5 with (go_at_call 27; with_reducible refine (H27.out _ hx.out.s).mono ?_; rintro e x1 ⟨rfl, hb⟩)
    replace hx := hid (hx.out.below hb)
    clear hb lx cx H27
    have lx := (cells_of hx.out.m).1
    have cx := (cells_of hx.out.m).2
    go_upto_region 6 with (go_at_call 28; with_reducible refine (H28.out _ hx.out.s).mono ?_; rintro e x2 ⟨rfl, hb⟩)
    replace hx := hid (hx.out.below hb)
    clear hb lx cx H28
    have lx := (cells_of hx.out.m).1
    have cx := (cells_of hx.out.m).2
    go_upto_region 7 with (go_at_call 29; with_reducible refine (H29.out _ hx.out.s).mono ?_; rintro e x3 ⟨rfl, hb⟩)
    replace hx := hid (hx.out.below hb)
    clear hb lx cx H29
    go_wp2_with (go_at_call 13; with_reducible refine (awake_any _).mono ?_; rintro e z9 ⟨rfl, hb⟩; replace hx := hid (hx.out.below hb); clear hb)
    go_ret
    exact ⟨rfl, hx.out.bel⟩
  · have H12 := hid (fun W h => far_as (M := 2) hfar rfl hn (by decide) (.slice sa r.stints.length scap) W h)
    clear hn hfar hS
    go_enter Try.func5, Try.ntmps5
    go_upto_region 1 with fail
    generalize w.alloc (.cells #[.int .i64 r.rest, .slice sa r.stints.length scap] 24) = w0 at hx ⊢
    have lx := (cells_of hx.out.m).1
    have cx := (cells_of hx.out.m).2
    go_wp2_with (first | (go_at_call 12; with_reducible refine (H12.out _ hx.out.s).mono ?_; rintro e w1 ⟨rfl, hb⟩; replace hx := hid (hx.out.below hb); clear hb) | (go_at_call 13; with_reducible refine (awake_any _).mono ?_; rintro e w2 ⟨rfl, hb⟩; replace hx := hid (hx.out.below hb); clear hb))
    go_ret
    exact ⟨rfl, hx.out.bel⟩

end Go.Proofs.Ytccgakdaiaigoaa
