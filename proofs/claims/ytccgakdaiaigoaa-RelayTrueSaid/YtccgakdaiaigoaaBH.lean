/- The walk of Handed. -/
import Derived.Test.YtccgakdaiaigoaaBG
namespace Go.Lap
open Go.RowKit
theorem wpAnyH_step2 {P : Program} {ops : Array Oper} {md : Region.Mode} {Q : Exit → Act → World → Prop} {S : World → Prop} {i j : Nat} {oi oj : Oper} {fuel : Nat} {listed : Array Bool} {a : Act} {w : World} (hr : Region.ready md ops listed = [i, j]) (hi : ops[i]? = some oi) (hj : ops[j]? = some oj)
    (h1 : wpList P ops (Exit.then (fun a w => S w ∧ wpAnyH P md ops Q S fuel (listed.setIfInBounds i true) a w) Q) [oi] a w)
    (h2 : wpList P ops (Exit.then (fun a w => S w ∧ wpAnyH P md ops Q S fuel (listed.setIfInBounds j true) a w) Q) [oj] a w) : wpAnyH P md ops Q S (fuel + 1) listed a w := by
  have one : ∀ (k : Nat) (o : Oper), ops[k]? = some o → wpList P ops (Exit.then (fun a w => S w ∧ wpAnyH P md ops Q S fuel (listed.setIfInBounds k true) a w) Q) [o] a w → wpOp P ops Q k (fun a' w' => S w' ∧ wpAnyH P md ops Q S fuel (listed.setIfInBounds k true) a' w') a w := by
    intro k o ho h
    unfold wpOp
    rw [ho]
    simp only [wpList] at h
    by_cases hw : Region.wanted o (yielded ops a.tmps) = true
    · rw [if_pos hw] at h
      simp only [hw, if_true]
      rcases h with h | h
      · exact .inl (upon_then h)
      · exact .inr ⟨h.1, h.2⟩
    · rw [if_neg hw] at h
      simp only [hw, if_false, Bool.false_eq_true]
      exact h
  refine wpAnyH_all hr (by simp) fun k hk => ?_
  rcases List.mem_cons.1 hk with rfl | hk
  · exact one _ _ hi h1
  · obtain rfl : k = j := by simpa using hk
    exact one _ _ hj h2
end Go.Lap
namespace Go.Proofs.Ytccgakdaiaigoaa
open Go.RowKit Go.Lap Go.Shelf

/-- What lies in memory while a function of the package runs: relays, an error. -/
structure KeepE (w : World) (r : Rel) (sv : Value) (W : World) : Prop where
  bel : Below w.heap.size w W
  m : W.heap[w.heap.size]? = some (.cells #[.int .i64 r.rest, sv] 24 (0, 0))
  e : W.heap[w.heap.size + 1]? = some (.cells #[.int .i64 0] 29 (0, 0))
theorem KeepE.below {w : World} {r : Rel} {sv : Value} {W W' : World} (h : KeepE w r sv W) (hb : Below W.heap.size W W') : KeepE w r sv W' :=
  ⟨below_via hb h.bel, (hb.block _ (cells_of h.m).1).trans h.m, (hb.block _ (cells_of h.e).1).trans h.e⟩
theorem KeepE.start (w : World) (r : Rel) (sv : Value) : KeepE w r sv ((w.alloc (.cells #[.int .i64 r.rest, sv] 24)).alloc (.cells #[.int .i64 0] 29)) :=
  ⟨below_alloc (below_alloc (Below.refl _ _) _) _, alloc_old (by simp) (alloc_at rfl), alloc_at (by simp)⟩


set_option maxRecDepth 100000 in
set_option maxHeartbeats 4000000 in
theorem Handed_p0 (r : Rel) (hn : r.n ≤ 1000000) (i c : Int) (h1 : r.isStint i = false) (hc : PanicsR r false c) (sv : Value) (w : World) (hS : StintsAt w sv r.stints) : Calls Try.prog 20 #[relV r sv, .int .i64 i] w fun e w' => e = .returned (.tuple #[.int .i64 0, .int .i64 c]) ∧ Below w.heap.size w w' := by
  obtain ⟨sa, scap, rfl, _⟩ := id hS
  have hS' := hid hS
  have hc' := hid hc
  have h1' := hid h1
  clear hS hc h1
  have hk := KeepE.start w r (.slice sa r.stints.length scap)
  go_enter_defers Try.func20, Try.ntmps20
  go_wp2
  generalize ((w.alloc (.cells #[.int .i64 r.rest, .slice sa r.stints.length scap] 24)).alloc (.cells #[.int .i64 0] 29)) = w1 at hk ⊢
  refine wp_region_held_at (S := fun W => W.heap[w.heap.size]? = some (.cells #[.int .i64 r.rest, .slice sa r.stints.length scap] 24 (0, 0))) (by kernel_rfl) ?_
  intro v0 hb0 _
  replace hk := hk.below hb0
  have hsz := (cells_of hk.e).1
  clear hb0
  have hQ : ∀ d v q (a : Act) w', (d = some 6 ∨ d = some 7 ∨ d = some 8 ∨ d = some 9 ∨ d = some 10 ∨ d = some 11 ∨ d = some 12 ∨ d = some 13 ∨ d = some 14 ∨ d = some 15 ∨ d = some 16 ∨ d = some 18 ∨ d = some 19 ∨ d = some 20 ∨ d = some 21 ∨ d = some 22 ∨ d = some 23) → Leaves Try.prog Try.f20 (a.put d v).tmps (fun e w' => e = .returned (.tuple #[.int .i64 0, .int .i64 c]) ∧ Below w.heap.size w w') (a.put d v).defers (.panicking q) w' → Leaves Try.prog Try.f20 a.tmps (fun e w' => e = .returned (.tuple #[.int .i64 0, .int .i64 c]) ∧ Below w.heap.size w w') a.defers (.panicking q) w' := by
    intro d v q a w' hd h
    rcases hd with rfl | rfl | rfl | rfl | rfl | rfl | rfl | rfl | rfl | rfl | rfl | rfl | rfl | rfl | rfl | rfl | rfl
    all_goals
      refine leaves_congr ?_ _ _ _ h
      simp [results, Try.results20, Act.put]
  refine wpAnyH_quiet (i := 0) (v := .agg #[.int .i64 r.rest, .slice sa r.stints.length scap]) rfl (by kernel_rfl) (by kernel_rfl) (by kernel_rfl) (fun c a w' h => hQ _ _ c a w' (by simp) h) rfl (fun W hW => by obtain ⟨lq, cq⟩ := cells_of hW; go_simp) hk.m ?_
  refine wpAnyH_quiet (i := 1) (v := .agg #[.int .i64 r.rest, .slice sa r.stints.length scap]) rfl (by kernel_rfl) (by kernel_rfl) (by kernel_rfl) (fun c a w' h => hQ _ _ c a w' (by simp) h) rfl (fun W hW => by obtain ⟨lq, cq⟩ := cells_of hW; go_simp) hk.m ?_
  refine wpAnyH_quiet (i := 2) (v := .int .i64 i) rfl (by kernel_rfl) (by kernel_rfl) (by kernel_rfl) (fun c a w' h => hQ _ _ c a w' (by simp) h) rfl (fun W hW => by go_simp) hk.m ?_
  refine wpAnyH_quiet (i := 11) (v := .int .i64 i) rfl (by kernel_rfl) (by kernel_rfl) (by kernel_rfl) (fun c a w' h => hQ _ _ c a w' (by simp) h) rfl (fun W hW => by go_simp) hk.m ?_
  refine wpAnyH_quiet (i := 12) (v := .int .i64 (IntKind.i64.wrap (2 * i))) rfl (by kernel_rfl) (by kernel_rfl) (by kernel_rfl) (fun c a w' h => hQ _ _ c a w' (by simp) h) rfl (fun W hW => by go_simp) hk.m ?_
  refine wpAnyH_quiet (i := 13) (v := .int .i64 (IntKind.i64.wrap (IntKind.i64.wrap (2 * i) + 2))) rfl (by kernel_rfl) (by kernel_rfl) (by kernel_rfl) (fun c a w' h => hQ _ _ c a w' (by simp) h) rfl (fun W hW => by go_simp) hk.m ?_
  refine wpAnyH_quiet (i := 14) (v := .int .i64 i) rfl (by kernel_rfl) (by kernel_rfl) (by kernel_rfl) (fun c a w' h => hQ _ _ c a w' (by simp) h) rfl (fun W hW => by go_simp) hk.m ?_
  refine wpAnyH_quiet (i := 15) (v := .int .i64 (IntKind.i64.wrap (2 * i))) rfl (by kernel_rfl) (by kernel_rfl) (by kernel_rfl) (fun c a w' h => hQ _ _ c a w' (by simp) h) rfl (fun W hW => by go_simp) hk.m ?_
  refine wpAnyH_quiet (i := 16) (v := .int .i64 (IntKind.i64.wrap (IntKind.i64.wrap (2 * i) + 1))) rfl (by kernel_rfl) (by kernel_rfl) (by kernel_rfl) (fun c a w' h => hQ _ _ c a w' (by simp) h) rfl (fun W hW => by go_simp) hk.m ?_
  refine wpAnyH_step2 (i := 3) (j := 18) (by kernel_rfl) rfl rfl ?_ ?_
  · skip
    go_wp2_with (go_at_call 46; refine (isStint_any r hn i _ _ _).mono ?_; rw [h1'.out]; rintro e v1 ⟨rfl, hbv1⟩)
    replace hk := hk.below hbv1
    replace hsz := (cells_of hk.e).1
    clear hbv1
    refine ⟨hk.m, ?_⟩
    refine wpAnyH_quiet (i := 4) (v := .bool false) rfl (by kernel_rfl) (by kernel_rfl) (by kernel_rfl) (fun c a w' h => hQ _ _ c a w' (by simp) h) rfl (fun W hW => by go_simp) hk.m ?_
    refine wpAnyH_take (i := 5) (v := undef) rfl (by kernel_rfl) (by kernel_rfl) (by kernel_rfl) (fun c a w' h => hQ _ _ c a w' (by simp) h) (Or.inr ⟨by rfl, rfl⟩) hk.m ?_
    refine wpAnyH_take (i := 6) (v := undef) rfl (by kernel_rfl) (by kernel_rfl) (by kernel_rfl) (fun c a w' h => hQ _ _ c a w' (by simp) h) (Or.inr ⟨by rfl, rfl⟩) hk.m ?_
    refine wpAnyH_take (i := 7) (v := undef) rfl (by kernel_rfl) (by kernel_rfl) (by kernel_rfl) (fun c a w' h => hQ _ _ c a w' (by simp) h) (Or.inr ⟨by rfl, rfl⟩) hk.m ?_
    refine wpAnyH_take (i := 8) (v := undef) rfl (by kernel_rfl) (by kernel_rfl) (by kernel_rfl) (fun c a w' h => hQ _ _ c a w' (by simp) h) (Or.inr ⟨by rfl, rfl⟩) hk.m ?_
    refine wpAnyH_quiet (i := 9) (v := .bool false) rfl (by kernel_rfl) (by kernel_rfl) (by kernel_rfl) (fun c a w' h => hQ _ _ c a w' (by simp) h) rfl (fun W hW => by go_simp) hk.m ?_
    refine wpAnyH_step2 (i := 10) (j := 18) (by kernel_rfl) rfl rfl ?_ ?_
    · skip
      go_wp2_with (go_at_call 45; refine (open_any r hn _ _ _ (hS'.out.below hk.bel)).mono ?_; intro e v2 hp; obtain ⟨rfl, hbv2⟩ := open_panics hc'.out hp; clear hp)
      replace hk := hk.below hbv2
      have l7 := (cells_of hk.e).1
      have c7 := (cells_of hk.e).2
      have z7 := free_of hk.e
      refine leaves_cons (f := 44) (args := #[.pointer (some ⟨w.heap.size + 1, 0, none⟩)]) (by simp) (by simp [go_sem]) ?_
      refine (told_panicking (w.heap.size + 1) c 0 _ l7 (by rw [c7]; rfl) (z7 0)).mono ?_
      rintro e u' w'' ⟨rfl, rfl, rfl⟩
      have hfin : Below w.heap.size w ((v2.setCell ⟨w.heap.size + 1, 0, none⟩ (.int .i64 c)).alloc (.cells #[.int .i64 c] 99)) := below_alloc (below_set hk.bel _ (by simp)) _
      simp [Leaves, settle, results, Try.results20, go_sem, c7, hfin, l7]
    · skip
      go_wp2
      have hk := hk.below (below_alloc (Below.refl _ _) (.cells #[.int .i64 0, .int .i64 0] 28))
      refine ⟨hk.m, ?_⟩
      have hal := alloc_at (w := v1) (o := .cells #[.int .i64 0, .int .i64 0] 28) rfl
      have hal2 : w.heap.size + 1 < v1.heap.size := hsz
      generalize v1.alloc (.cells #[.int .i64 0, .int .i64 0] 28) = v3 at hk hal ⊢
      generalize v1.heap.size = al at hal hal2 ⊢
      have hsz := (cells_of hk.e).1
      refine wpAnyH_step (i := 10) (by kernel_rfl) rfl ?_
      go_wp2_with (go_at_call 45; refine (open_any r hn _ _ _ (hS'.out.below hk.bel)).mono ?_; intro e v4 hp; obtain ⟨rfl, hbv4⟩ := open_panics hc'.out hp; clear hp)
      replace hk := hk.below hbv4
      have l7 := (cells_of hk.e).1
      have c7 := (cells_of hk.e).2
      have z7 := free_of hk.e
      refine leaves_cons (f := 44) (args := #[.pointer (some ⟨w.heap.size + 1, 0, none⟩)]) (by simp) (by simp [go_sem]) ?_
      refine (told_panicking (w.heap.size + 1) c 0 _ l7 (by rw [c7]; rfl) (z7 0)).mono ?_
      rintro e u' w'' ⟨rfl, rfl, rfl⟩
      have hfin : Below w.heap.size w ((v4.setCell ⟨w.heap.size + 1, 0, none⟩ (.int .i64 c)).alloc (.cells #[.int .i64 c] 99)) := below_alloc (below_set hk.bel _ (by simp)) _
      simp [Leaves, settle, results, Try.results20, go_sem, c7, hfin, l7]
  · skip
    go_wp2
    have hk := hk.below (below_alloc (Below.refl _ _) (.cells #[.int .i64 0, .int .i64 0] 28))
    refine ⟨hk.m, ?_⟩
    have hal := alloc_at (w := v0) (o := .cells #[.int .i64 0, .int .i64 0] 28) rfl
    have hal2 : w.heap.size + 1 < v0.heap.size := hsz
    generalize v0.alloc (.cells #[.int .i64 0, .int .i64 0] 28) = v5 at hk hal ⊢
    generalize v0.heap.size = al at hal hal2 ⊢
    have hsz := (cells_of hk.e).1
    refine wpAnyH_step (i := 3) (by kernel_rfl) rfl ?_
    go_wp2_with (go_at_call 46; refine (isStint_any r hn i _ _ _).mono ?_; rw [h1'.out]; rintro e v6 ⟨rfl, hbv6⟩)
    replace hk := hk.below hbv6
    replace hsz := (cells_of hk.e).1
    replace hal := (hbv6.block _ (cells_of hal).1).trans hal
    clear hbv6
    refine ⟨hk.m, ?_⟩
    refine wpAnyH_quiet (i := 4) (v := .bool false) rfl (by kernel_rfl) (by kernel_rfl) (by kernel_rfl) (fun c a w' h => hQ _ _ c a w' (by simp) h) rfl (fun W hW => by go_simp) hk.m ?_
    refine wpAnyH_take (i := 5) (v := undef) rfl (by kernel_rfl) (by kernel_rfl) (by kernel_rfl) (fun c a w' h => hQ _ _ c a w' (by simp) h) (Or.inr ⟨by rfl, rfl⟩) hk.m ?_
    refine wpAnyH_take (i := 6) (v := undef) rfl (by kernel_rfl) (by kernel_rfl) (by kernel_rfl) (fun c a w' h => hQ _ _ c a w' (by simp) h) (Or.inr ⟨by rfl, rfl⟩) hk.m ?_
    refine wpAnyH_take (i := 7) (v := undef) rfl (by kernel_rfl) (by kernel_rfl) (by kernel_rfl) (fun c a w' h => hQ _ _ c a w' (by simp) h) (Or.inr ⟨by rfl, rfl⟩) hk.m ?_
    refine wpAnyH_take (i := 8) (v := undef) rfl (by kernel_rfl) (by kernel_rfl) (by kernel_rfl) (fun c a w' h => hQ _ _ c a w' (by simp) h) (Or.inr ⟨by rfl, rfl⟩) hk.m ?_
    refine wpAnyH_quiet (i := 9) (v := .bool false) rfl (by kernel_rfl) (by kernel_rfl) (by kernel_rfl) (fun c a w' h => hQ _ _ c a w' (by simp) h) rfl (fun W hW => by go_simp) hk.m ?_
    refine wpAnyH_step (i := 10) (by kernel_rfl) rfl ?_
    go_wp2_with (go_at_call 45; refine (open_any r hn _ _ _ (hS'.out.below hk.bel)).mono ?_; intro e v7 hp; obtain ⟨rfl, hbv7⟩ := open_panics hc'.out hp; clear hp)
    replace hk := hk.below hbv7
    have l7 := (cells_of hk.e).1
    have c7 := (cells_of hk.e).2
    have z7 := free_of hk.e
    refine leaves_cons (f := 44) (args := #[.pointer (some ⟨w.heap.size + 1, 0, none⟩)]) (by simp) (by simp [go_sem]) ?_
    refine (told_panicking (w.heap.size + 1) c 0 _ l7 (by rw [c7]; rfl) (z7 0)).mono ?_
    rintro e u' w'' ⟨rfl, rfl, rfl⟩
    have hfin : Below w.heap.size w ((v7.setCell ⟨w.heap.size + 1, 0, none⟩ (.int .i64 c)).alloc (.cells #[.int .i64 c] 99)) := below_alloc (below_set hk.bel _ (by simp)) _
    simp [Leaves, settle, results, Try.results20, go_sem, c7, hfin, l7]

set_option maxRecDepth 100000 in
set_option maxHeartbeats 4000000 in
theorem Handed_p1 (r : Rel) (hn : r.n ≤ 1000000) (i c : Int) (h1 : r.isStint i = true) (hc : PanicsR r (r.isStint (i + 1)) c) (sv : Value) (w : World) (hS : StintsAt w sv r.stints) : Calls Try.prog 20 #[relV r sv, .int .i64 i] w fun e w' => e = .returned (.tuple #[.int .i64 0, .int .i64 c]) ∧ Below w.heap.size w w' := by
  obtain ⟨sa, scap, rfl, _⟩ := id hS
  have hS' := hid hS
  have hc' := hid hc
  have h1' := hid h1
  have hib : 0 ≤ i ∧ i < 1000000 := by simp only [Rel.isStint, Bool.and_eq_true, decide_eq_true_eq] at h1; omega
  have hw : IntKind.i64.wrap (i + 1) = i + 1 := Go.IntWalk.i64_in _ (by omega)
  clear hS hc h1
  have hw2 : IntKind.i64.wrap (2 * i) = 2 * i := Go.IntWalk.i64_in _ (by omega)
  have hw3 : IntKind.i64.wrap (2 * i + 2) = 2 * i + 2 := Go.IntWalk.i64_in _ (by omega)
  have hw4 : IntKind.i64.wrap (2 * i + 1) = 2 * i + 1 := Go.IntWalk.i64_in _ (by omega)
  have hk := KeepE.start w r (.slice sa r.stints.length scap)
  go_enter_defers Try.func20, Try.ntmps20
  go_wp2
  generalize ((w.alloc (.cells #[.int .i64 r.rest, .slice sa r.stints.length scap] 24)).alloc (.cells #[.int .i64 0] 29)) = w1 at hk ⊢
  refine wp_region_held_at (S := fun W => W.heap[w.heap.size]? = some (.cells #[.int .i64 r.rest, .slice sa r.stints.length scap] 24 (0, 0))) (by kernel_rfl) ?_
  intro v0 hb0 _
  replace hk := hk.below hb0
  have hsz := (cells_of hk.e).1
  clear hb0
  have hQ : ∀ d v q (a : Act) w', (d = some 6 ∨ d = some 7 ∨ d = some 8 ∨ d = some 9 ∨ d = some 10 ∨ d = some 11 ∨ d = some 12 ∨ d = some 13 ∨ d = some 14 ∨ d = some 15 ∨ d = some 16 ∨ d = some 18 ∨ d = some 19 ∨ d = some 20 ∨ d = some 21 ∨ d = some 22 ∨ d = some 23) → Leaves Try.prog Try.f20 (a.put d v).tmps (fun e w' => e = .returned (.tuple #[.int .i64 0, .int .i64 c]) ∧ Below w.heap.size w w') (a.put d v).defers (.panicking q) w' → Leaves Try.prog Try.f20 a.tmps (fun e w' => e = .returned (.tuple #[.int .i64 0, .int .i64 c]) ∧ Below w.heap.size w w') a.defers (.panicking q) w' := by
    intro d v q a w' hd h
    rcases hd with rfl | rfl | rfl | rfl | rfl | rfl | rfl | rfl | rfl | rfl | rfl | rfl | rfl | rfl | rfl | rfl | rfl
    all_goals
      refine leaves_congr ?_ _ _ _ h
      simp [results, Try.results20, Act.put]
  refine wpAnyH_quiet (i := 0) (v := .agg #[.int .i64 r.rest, .slice sa r.stints.length scap]) rfl (by kernel_rfl) (by kernel_rfl) (by kernel_rfl) (fun c a w' h => hQ _ _ c a w' (by simp) h) rfl (fun W hW => by obtain ⟨lq, cq⟩ := cells_of hW; go_simp) hk.m ?_
  refine wpAnyH_quiet (i := 1) (v := .agg #[.int .i64 r.rest, .slice sa r.stints.length scap]) rfl (by kernel_rfl) (by kernel_rfl) (by kernel_rfl) (fun c a w' h => hQ _ _ c a w' (by simp) h) rfl (fun W hW => by obtain ⟨lq, cq⟩ := cells_of hW; go_simp) hk.m ?_
  refine wpAnyH_quiet (i := 2) (v := .int .i64 i) rfl (by kernel_rfl) (by kernel_rfl) (by kernel_rfl) (fun c a w' h => hQ _ _ c a w' (by simp) h) rfl (fun W hW => by go_simp) hk.m ?_
  refine wpAnyH_quiet (i := 11) (v := .int .i64 i) rfl (by kernel_rfl) (by kernel_rfl) (by kernel_rfl) (fun c a w' h => hQ _ _ c a w' (by simp) h) rfl (fun W hW => by go_simp) hk.m ?_
  refine wpAnyH_quiet (i := 12) (v := .int .i64 (2 * i)) rfl (by kernel_rfl) (by kernel_rfl) (by kernel_rfl) (fun c a w' h => hQ _ _ c a w' (by simp) h) rfl (fun W hW => by go_simp) hk.m ?_
  refine wpAnyH_quiet (i := 13) (v := .int .i64 (2 * i + 2)) rfl (by kernel_rfl) (by kernel_rfl) (by kernel_rfl) (fun c a w' h => hQ _ _ c a w' (by simp) h) rfl (fun W hW => by go_simp) hk.m ?_
  refine wpAnyH_quiet (i := 14) (v := .int .i64 i) rfl (by kernel_rfl) (by kernel_rfl) (by kernel_rfl) (fun c a w' h => hQ _ _ c a w' (by simp) h) rfl (fun W hW => by go_simp) hk.m ?_
  refine wpAnyH_quiet (i := 15) (v := .int .i64 (2 * i)) rfl (by kernel_rfl) (by kernel_rfl) (by kernel_rfl) (fun c a w' h => hQ _ _ c a w' (by simp) h) rfl (fun W hW => by go_simp) hk.m ?_
  refine wpAnyH_quiet (i := 16) (v := .int .i64 (2 * i + 1)) rfl (by kernel_rfl) (by kernel_rfl) (by kernel_rfl) (fun c a w' h => hQ _ _ c a w' (by simp) h) rfl (fun W hW => by go_simp) hk.m ?_
  refine wpAnyH_step2 (i := 3) (j := 18) (by kernel_rfl) rfl rfl ?_ ?_
  · skip
    go_wp2_with (go_at_call 46; refine (isStint_any r hn i _ _ _).mono ?_; rw [h1'.out]; rintro e v1 ⟨rfl, hbv1⟩)
    replace hk := hk.below hbv1
    replace hsz := (cells_of hk.e).1
    clear hbv1
    refine ⟨hk.m, ?_⟩
    refine wpAnyH_quiet (i := 4) (v := .bool true) rfl (by kernel_rfl) (by kernel_rfl) (by kernel_rfl) (fun c a w' h => hQ _ _ c a w' (by simp) h) rfl (fun W hW => by go_simp) hk.m ?_
    refine wpAnyH_take (i := 5) (v := .agg #[.int .i64 r.rest, .slice sa r.stints.length scap]) rfl (by kernel_rfl) (by kernel_rfl) (by kernel_rfl) (fun c a w' h => hQ _ _ c a w' (by simp) h) (Or.inl ⟨by rfl, fun W hW => by obtain ⟨lq, cq⟩ := cells_of hW; go_simp⟩) hk.m ?_
    refine wpAnyH_take (i := 6) (v := .int .i64 i) rfl (by kernel_rfl) (by kernel_rfl) (by kernel_rfl) (fun c a w' h => hQ _ _ c a w' (by simp) h) (Or.inl ⟨by rfl, fun W hW => by go_simp⟩) hk.m ?_
    refine wpAnyH_take (i := 7) (v := .int .i64 (i + 1)) rfl (by kernel_rfl) (by kernel_rfl) (by kernel_rfl) (fun c a w' h => hQ _ _ c a w' (by simp) h) (Or.inl ⟨by rfl, fun W hW => by go_simp⟩) hk.m ?_
    refine wpAnyH_step2 (i := 8) (j := 18) (by kernel_rfl) rfl rfl ?_ ?_
    · skip
      go_wp2_with (go_at_call 46; refine (isStint_any r hn (i + 1) _ _ _).mono ?_; rintro e v2 ⟨rfl, hbv2⟩)
      replace hk := hk.below hbv2
      replace hsz := (cells_of hk.e).1
      clear hbv2
      refine ⟨hk.m, ?_⟩
      refine wpAnyH_quiet (i := 9) (v := .bool (r.isStint (i + 1))) rfl (by kernel_rfl) (by kernel_rfl) (by kernel_rfl) (fun c a w' h => hQ _ _ c a w' (by simp) h) rfl (fun W hW => by go_simp) hk.m ?_
      refine wpAnyH_step2 (i := 10) (j := 18) (by kernel_rfl) rfl rfl ?_ ?_
      · skip
        go_wp2_with (go_at_call 45; refine (open_any r hn _ _ _ (hS'.out.below hk.bel)).mono ?_; intro e v3 hp; obtain ⟨rfl, hbv3⟩ := open_panics hc'.out hp; clear hp)
        replace hk := hk.below hbv3
        have l7 := (cells_of hk.e).1
        have c7 := (cells_of hk.e).2
        have z7 := free_of hk.e
        refine leaves_cons (f := 44) (args := #[.pointer (some ⟨w.heap.size + 1, 0, none⟩)]) (by simp) (by simp [go_sem]) ?_
        refine (told_panicking (w.heap.size + 1) c 0 _ l7 (by rw [c7]; rfl) (z7 0)).mono ?_
        rintro e u' w'' ⟨rfl, rfl, rfl⟩
        have hfin : Below w.heap.size w ((v3.setCell ⟨w.heap.size + 1, 0, none⟩ (.int .i64 c)).alloc (.cells #[.int .i64 c] 99)) := below_alloc (below_set hk.bel _ (by simp)) _
        simp [Leaves, settle, results, Try.results20, go_sem, c7, hfin, l7]
      · skip
        go_wp2
        have hk := hk.below (below_alloc (Below.refl _ _) (.cells #[.int .i64 0, .int .i64 0] 28))
        refine ⟨hk.m, ?_⟩
        have hal := alloc_at (w := v2) (o := .cells #[.int .i64 0, .int .i64 0] 28) rfl
        have hal2 : w.heap.size + 1 < v2.heap.size := hsz
        generalize v2.alloc (.cells #[.int .i64 0, .int .i64 0] 28) = v4 at hk hal ⊢
        generalize v2.heap.size = al at hal hal2 ⊢
        have hsz := (cells_of hk.e).1
        refine wpAnyH_step (i := 10) (by kernel_rfl) rfl ?_
        go_wp2_with (go_at_call 45; refine (open_any r hn _ _ _ (hS'.out.below hk.bel)).mono ?_; intro e v5 hp; obtain ⟨rfl, hbv5⟩ := open_panics hc'.out hp; clear hp)
        replace hk := hk.below hbv5
        have l7 := (cells_of hk.e).1
        have c7 := (cells_of hk.e).2
        have z7 := free_of hk.e
        refine leaves_cons (f := 44) (args := #[.pointer (some ⟨w.heap.size + 1, 0, none⟩)]) (by simp) (by simp [go_sem]) ?_
        refine (told_panicking (w.heap.size + 1) c 0 _ l7 (by rw [c7]; rfl) (z7 0)).mono ?_
        rintro e u' w'' ⟨rfl, rfl, rfl⟩
        have hfin : Below w.heap.size w ((v5.setCell ⟨w.heap.size + 1, 0, none⟩ (.int .i64 c)).alloc (.cells #[.int .i64 c] 99)) := below_alloc (below_set hk.bel _ (by simp)) _
        simp [Leaves, settle, results, Try.results20, go_sem, c7, hfin, l7]
    · skip
      go_wp2
      have hk := hk.below (below_alloc (Below.refl _ _) (.cells #[.int .i64 0, .int .i64 0] 28))
      refine ⟨hk.m, ?_⟩
      have hal := alloc_at (w := v1) (o := .cells #[.int .i64 0, .int .i64 0] 28) rfl
      have hal2 : w.heap.size + 1 < v1.heap.size := hsz
      generalize v1.alloc (.cells #[.int .i64 0, .int .i64 0] 28) = v6 at hk hal ⊢
      generalize v1.heap.size = al at hal hal2 ⊢
      have hsz := (cells_of hk.e).1
      refine wpAnyH_step (i := 8) (by kernel_rfl) rfl ?_
      go_wp2_with (go_at_call 46; refine (isStint_any r hn (i + 1) _ _ _).mono ?_; rintro e v7 ⟨rfl, hbv7⟩)
      replace hk := hk.below hbv7
      replace hsz := (cells_of hk.e).1
      replace hal := (hbv7.block _ (cells_of hal).1).trans hal
      clear hbv7
      refine ⟨hk.m, ?_⟩
      refine wpAnyH_quiet (i := 9) (v := .bool (r.isStint (i + 1))) rfl (by kernel_rfl) (by kernel_rfl) (by kernel_rfl) (fun c a w' h => hQ _ _ c a w' (by simp) h) rfl (fun W hW => by go_simp) hk.m ?_
      refine wpAnyH_step (i := 10) (by kernel_rfl) rfl ?_
      go_wp2_with (go_at_call 45; refine (open_any r hn _ _ _ (hS'.out.below hk.bel)).mono ?_; intro e v8 hp; obtain ⟨rfl, hbv8⟩ := open_panics hc'.out hp; clear hp)
      replace hk := hk.below hbv8
      have l7 := (cells_of hk.e).1
      have c7 := (cells_of hk.e).2
      have z7 := free_of hk.e
      refine leaves_cons (f := 44) (args := #[.pointer (some ⟨w.heap.size + 1, 0, none⟩)]) (by simp) (by simp [go_sem]) ?_
      refine (told_panicking (w.heap.size + 1) c 0 _ l7 (by rw [c7]; rfl) (z7 0)).mono ?_
      rintro e u' w'' ⟨rfl, rfl, rfl⟩
      have hfin : Below w.heap.size w ((v8.setCell ⟨w.heap.size + 1, 0, none⟩ (.int .i64 c)).alloc (.cells #[.int .i64 c] 99)) := below_alloc (below_set hk.bel _ (by simp)) _
      simp [Leaves, settle, results, Try.results20, go_sem, c7, hfin, l7]
  · skip
    go_wp2
    have hk := hk.below (below_alloc (Below.refl _ _) (.cells #[.int .i64 0, .int .i64 0] 28))
    refine ⟨hk.m, ?_⟩
    have hal := alloc_at (w := v0) (o := .cells #[.int .i64 0, .int .i64 0] 28) rfl
    have hal2 : w.heap.size + 1 < v0.heap.size := hsz
    generalize v0.alloc (.cells #[.int .i64 0, .int .i64 0] 28) = v9 at hk hal ⊢
    generalize v0.heap.size = al at hal hal2 ⊢
    have hsz := (cells_of hk.e).1
    refine wpAnyH_step (i := 3) (by kernel_rfl) rfl ?_
    go_wp2_with (go_at_call 46; refine (isStint_any r hn i _ _ _).mono ?_; rw [h1'.out]; rintro e v10 ⟨rfl, hbv10⟩)
    replace hk := hk.below hbv10
    replace hsz := (cells_of hk.e).1
    replace hal := (hbv10.block _ (cells_of hal).1).trans hal
    clear hbv10
    refine ⟨hk.m, ?_⟩
    refine wpAnyH_quiet (i := 4) (v := .bool true) rfl (by kernel_rfl) (by kernel_rfl) (by kernel_rfl) (fun c a w' h => hQ _ _ c a w' (by simp) h) rfl (fun W hW => by go_simp) hk.m ?_
    refine wpAnyH_take (i := 5) (v := .agg #[.int .i64 r.rest, .slice sa r.stints.length scap]) rfl (by kernel_rfl) (by kernel_rfl) (by kernel_rfl) (fun c a w' h => hQ _ _ c a w' (by simp) h) (Or.inl ⟨by rfl, fun W hW => by obtain ⟨lq, cq⟩ := cells_of hW; go_simp⟩) hk.m ?_
    refine wpAnyH_take (i := 6) (v := .int .i64 i) rfl (by kernel_rfl) (by kernel_rfl) (by kernel_rfl) (fun c a w' h => hQ _ _ c a w' (by simp) h) (Or.inl ⟨by rfl, fun W hW => by go_simp⟩) hk.m ?_
    refine wpAnyH_take (i := 7) (v := .int .i64 (i + 1)) rfl (by kernel_rfl) (by kernel_rfl) (by kernel_rfl) (fun c a w' h => hQ _ _ c a w' (by simp) h) (Or.inl ⟨by rfl, fun W hW => by go_simp⟩) hk.m ?_
    refine wpAnyH_step (i := 8) (by kernel_rfl) rfl ?_
    go_wp2_with (go_at_call 46; refine (isStint_any r hn (i + 1) _ _ _).mono ?_; rintro e v11 ⟨rfl, hbv11⟩)
    replace hk := hk.below hbv11
    replace hsz := (cells_of hk.e).1
    replace hal := (hbv11.block _ (cells_of hal).1).trans hal
    clear hbv11
    refine ⟨hk.m, ?_⟩
    refine wpAnyH_quiet (i := 9) (v := .bool (r.isStint (i + 1))) rfl (by kernel_rfl) (by kernel_rfl) (by kernel_rfl) (fun c a w' h => hQ _ _ c a w' (by simp) h) rfl (fun W hW => by go_simp) hk.m ?_
    refine wpAnyH_step (i := 10) (by kernel_rfl) rfl ?_
    go_wp2_with (go_at_call 45; refine (open_any r hn _ _ _ (hS'.out.below hk.bel)).mono ?_; intro e v12 hp; obtain ⟨rfl, hbv12⟩ := open_panics hc'.out hp; clear hp)
    replace hk := hk.below hbv12
    have l7 := (cells_of hk.e).1
    have c7 := (cells_of hk.e).2
    have z7 := free_of hk.e
    refine leaves_cons (f := 44) (args := #[.pointer (some ⟨w.heap.size + 1, 0, none⟩)]) (by simp) (by simp [go_sem]) ?_
    refine (told_panicking (w.heap.size + 1) c 0 _ l7 (by rw [c7]; rfl) (z7 0)).mono ?_
    rintro e u' w'' ⟨rfl, rfl, rfl⟩
    have hfin : Below w.heap.size w ((v12.setCell ⟨w.heap.size + 1, 0, none⟩ (.int .i64 c)).alloc (.cells #[.int .i64 c] 99)) := below_alloc (below_set hk.bel _ (by simp)) _
    simp [Leaves, settle, results, Try.results20, go_sem, c7, hfin, l7]

set_option maxRecDepth 100000 in
set_option maxHeartbeats 4000000 in
theorem Handed_ok (r : Rel) (hv : r.valid = true) (k : Nat) (hi : r.isStint k = true) (hi2 : r.isStint ((k : Int) + 1) = true) (T : Tab) (hT : r.tab r.every = some T) (sv : Value) (w : World) (hS : StintsAt w sv r.stints) : Calls Try.prog 20 #[relV r sv, .int .i64 k] w fun e w' => e = .returned (.tuple #[.int .i64 (handedAt T k), .int .i64 0]) ∧ Below w.heap.size w w' := by
  obtain ⟨sa, scap, rfl, _⟩ := id hS
  have hS' := hid hS
  have hi' := hid hi
  have hi2' := hid hi2
  have hT' := hid hT
  have hk5 : (k : Int) < 4 := by have h1 := isStint_lt (r := r) (k := k + 1) (by rw [← hi2]; congr 1); have h2 := (r.ok_of hv).2.2.1; omega
  have hn : r.n ≤ 1000000 := by have h2 := (r.ok_of hv).2.2.1; omega
  have hw1 : IntKind.i64.wrap (2 * (k : Int)) = 2 * (k : Int) := Go.IntWalk.i64_in _ (by omega)
  have hw2 : IntKind.i64.wrap (2 * (k : Int) + 1) = 2 * (k : Int) + 1 := Go.IntWalk.i64_in _ (by omega)
  have hw3 : IntKind.i64.wrap (2 * (k : Int) + 2) = 2 * (k : Int) + 2 := Go.IntWalk.i64_in _ (by omega)
  have hw4 : IntKind.i64.wrap ((k : Int) + 1) = (k : Int) + 1 := Go.IntWalk.i64_in _ (by omega)
  have hv' := hid hv
  clear hS hi hi2 hT hv
  have hfin0 : ∀ lo hh, T.span (2 * k + 2) (2 * k + 1) = (lo, hh) → handedAt T k = if 0 ≤ lo then 2 else if hh < 0 then 0 else 1 := fun lo hh e => by simp only [handedAt, e]
  obtain ⟨sp, hsp⟩ : ∃ z, T.span (2 * k + 2) (2 * k + 1) = z := ⟨_, rfl⟩
  have hsp' := hid hsp
  obtain ⟨lo, hh⟩ := sp
  have hfin := hfin0 lo hh hsp
  clear hsp hfin0
  obtain ⟨z, hz⟩ : ∃ z, handedAt T k = z := ⟨_, rfl⟩
  rw [hz] at hfin ⊢
  have hzz := hid hfin
  clear hz hfin
  have hk := KeepE.start w r (.slice sa r.stints.length scap)
  go_enter_defers Try.func20, Try.ntmps20
  go_wp2
  generalize ((w.alloc (.cells #[.int .i64 r.rest, .slice sa r.stints.length scap] 24)).alloc (.cells #[.int .i64 0] 29)) = w1 at hk ⊢
  refine wp_region_noPanic (wp_region_held_at (S := fun W => W.heap[w.heap.size]? = some (.cells #[.int .i64 r.rest, .slice sa r.stints.length scap] 24 (0, 0))) (by kernel_rfl) ?_)
  intro v0 hb0 _
  replace hk := hk.below hb0
  have hsz := (cells_of hk.e).1
  clear hb0
  refine wpAnyH_quiet (i := 0) (v := .agg #[.int .i64 r.rest, .slice sa r.stints.length scap]) rfl (by kernel_rfl) (by kernel_rfl) (by kernel_rfl) (fun _ _ _ h => h) rfl (fun W hW => by obtain ⟨lq, cq⟩ := cells_of hW; go_simp) hk.m ?_
  refine wpAnyH_quiet (i := 1) (v := .agg #[.int .i64 r.rest, .slice sa r.stints.length scap]) rfl (by kernel_rfl) (by kernel_rfl) (by kernel_rfl) (fun _ _ _ h => h) rfl (fun W hW => by obtain ⟨lq, cq⟩ := cells_of hW; go_simp) hk.m ?_
  refine wpAnyH_quiet (i := 2) (v := .int .i64 k) rfl (by kernel_rfl) (by kernel_rfl) (by kernel_rfl) (fun _ _ _ h => h) rfl (fun W hW => by go_simp) hk.m ?_
  refine wpAnyH_quiet (i := 11) (v := .int .i64 k) rfl (by kernel_rfl) (by kernel_rfl) (by kernel_rfl) (fun _ _ _ h => h) rfl (fun W hW => by go_simp) hk.m ?_
  refine wpAnyH_quiet (i := 12) (v := .int .i64 (2 * (k : Int))) rfl (by kernel_rfl) (by kernel_rfl) (by kernel_rfl) (fun _ _ _ h => h) rfl (fun W hW => by go_simp) hk.m ?_
  refine wpAnyH_quiet (i := 13) (v := .int .i64 (2 * (k : Int) + 2)) rfl (by kernel_rfl) (by kernel_rfl) (by kernel_rfl) (fun _ _ _ h => h) rfl (fun W hW => by go_simp) hk.m ?_
  refine wpAnyH_quiet (i := 14) (v := .int .i64 k) rfl (by kernel_rfl) (by kernel_rfl) (by kernel_rfl) (fun _ _ _ h => h) rfl (fun W hW => by go_simp) hk.m ?_
  refine wpAnyH_quiet (i := 15) (v := .int .i64 (2 * (k : Int))) rfl (by kernel_rfl) (by kernel_rfl) (by kernel_rfl) (fun _ _ _ h => h) rfl (fun W hW => by go_simp) hk.m ?_
  refine wpAnyH_quiet (i := 16) (v := .int .i64 (2 * (k : Int) + 1)) rfl (by kernel_rfl) (by kernel_rfl) (by kernel_rfl) (fun _ _ _ h => h) rfl (fun W hW => by go_simp) hk.m ?_
  refine wpAnyH_step2 (i := 3) (j := 18) (by kernel_rfl) rfl rfl ?_ ?_
  · skip
    go_wp2_with (go_at_call 46; refine (isStint_any r hn k _ _ _).mono ?_; rw [hi'.out]; rintro e v1 ⟨rfl, hbv1⟩)
    replace hk := hk.below hbv1
    replace hsz := (cells_of hk.e).1
    clear hbv1
    refine ⟨hk.m, ?_⟩
    refine wpAnyH_quiet (i := 4) (v := .bool true) rfl (by kernel_rfl) (by kernel_rfl) (by kernel_rfl) (fun _ _ _ h => h) rfl (fun W hW => by go_simp) hk.m ?_
    refine wpAnyH_take (i := 5) (v := .agg #[.int .i64 r.rest, .slice sa r.stints.length scap]) rfl (by kernel_rfl) (by kernel_rfl) (by kernel_rfl) (fun _ _ _ h => h) (Or.inl ⟨by rfl, fun W hW => by obtain ⟨lq, cq⟩ := cells_of hW; go_simp⟩) hk.m ?_
    refine wpAnyH_take (i := 6) (v := .int .i64 k) rfl (by kernel_rfl) (by kernel_rfl) (by kernel_rfl) (fun _ _ _ h => h) (Or.inl ⟨by rfl, fun W hW => by go_simp⟩) hk.m ?_
    refine wpAnyH_take (i := 7) (v := .int .i64 ((k : Int) + 1)) rfl (by kernel_rfl) (by kernel_rfl) (by kernel_rfl) (fun _ _ _ h => h) (Or.inl ⟨by rfl, fun W hW => by go_simp⟩) hk.m ?_
    refine wpAnyH_step2 (i := 8) (j := 18) (by kernel_rfl) rfl rfl ?_ ?_
    · skip
      go_wp2_with (go_at_call 46; refine (isStint_any r hn ((k : Int) + 1) _ _ _).mono ?_; rw [hi2'.out]; rintro e v2 ⟨rfl, hbv2⟩)
      replace hk := hk.below hbv2
      replace hsz := (cells_of hk.e).1
      clear hbv2
      refine ⟨hk.m, ?_⟩
      refine wpAnyH_quiet (i := 9) (v := .bool true) rfl (by kernel_rfl) (by kernel_rfl) (by kernel_rfl) (fun _ _ _ h => h) rfl (fun W hW => by go_simp) hk.m ?_
      refine wpAnyH_step2 (i := 10) (j := 18) (by kernel_rfl) rfl rfl ?_ ?_
      · skip
        go_wp2_with (go_at_call 45; refine (open_any r hn true _ _ (hS'.out.below hk.bel)).mono ?_; intro e v3 hp; obtain ⟨tb, t, rfl, _, ht, hC, hF, hbv3⟩ := open_ok hv'.out hT'.out hp; clear hp; replace hC := hid hC; replace hF := hid hF; replace ht := hid ht; have hv3o : Hid (v3 = v3) := hid rfl)
        replace hk := hk.below hbv3
        replace hsz := (cells_of hk.e).1
        clear hbv3
        refine ⟨hk.m, ?_⟩
        refine wpAnyH_step2 (i := 17) (j := 18) (by kernel_rfl) rfl rfl ?_ ?_
        · skip
          go_wp2_with (go_at_call 47; refine (span_at tb t T hC.out hF.out _ ht.out (2 * (k : Int) + 2) (2 * (k : Int) + 1) (2 * k + 2) (2 * k + 1) (by simp) (by simp) (by omega) (by omega)).mono ?_; rw [hsp'.out]; rintro e v4 ⟨rfl, hbv4⟩)
          replace hk := hk.below hbv4
          replace hsz := (cells_of hk.e).1
          clear hbv4
          refine ⟨hk.m, ?_⟩
          refine wpAnyH_step (i := 18) (by kernel_rfl) rfl ?_
          go_wp2
          have hk := hk.below (below_alloc (Below.refl _ _) (.cells #[.int .i64 0, .int .i64 0] 28))
          refine ⟨hk.m, ?_⟩
          have hal := alloc_at (w := v4) (o := .cells #[.int .i64 0, .int .i64 0] 28) rfl
          have hal2 : w.heap.size + 1 < v4.heap.size := hsz
          generalize v4.alloc (.cells #[.int .i64 0, .int .i64 0] 28) = v5 at hk hal ⊢
          generalize v4.heap.size = al at hal hal2 ⊢
          have hsz := (cells_of hk.e).1
          have la := (cells_of hal).1
          have ca := (cells_of hal).2
          have za := free_of hal
          have hs2 := heap_set_same (o := 1) (v := .int .i64 hh) (heap_set_same (o := 0) (v := .int .i64 lo) hal)
          have hk2 : KeepE w r (.slice sa r.stints.length scap) ((v5.setCell ⟨al, 0, none⟩ (.int .i64 lo)).setCell ⟨al, 1, none⟩ (.int .i64 hh)) := ⟨below_set (below_set hk.bel _ (by simp; omega)) _ (by simp; omega), (Below.heap_setCell _ _ _ _ (by simp; omega)).trans ((Below.heap_setCell _ _ _ _ (by simp; omega)).trans hk.m), (Below.heap_setCell _ _ _ _ (by simp; omega)).trans ((Below.heap_setCell _ _ _ _ (by simp; omega)).trans hk.e)⟩
          refine wpAnyH_step (i := 19) (by kernel_rfl) rfl ?_
          go_wp2
          refine ⟨hk2.m, ?_⟩
          refine wpAnyH_done (by kernel_rfl) ?_ _
          refine NoPanic.normal ?_
          try simp only [Act.put, List.setIfInBounds_toArray]
          clear la ca za hal hk
          generalize ((v5.setCell ⟨al, 0, none⟩ (.int .i64 lo)).setCell ⟨al, 1, none⟩ (.int .i64 hh)) = v6 at hs2 hk2 ⊢
          rw [show ((#[Value.int .i64 0, .int .i64 0] : Array Value).setIfInBounds 0 (.int .i64 lo)).setIfInBounds 1 (.int .i64 hh) = #[.int .i64 lo, .int .i64 hh] by simp] at hs2
          have la := (cells_of hs2).1
          have ca := (cells_of hs2).2
          have l7 := (cells_of hk2.e).1
          have c7 := (cells_of hk2.e).2
          have z7 := free_of hk2.e
          have hfin : Below w.heap.size w (v6.setCell ⟨w.heap.size + 1, 0, none⟩ (.int .i64 0)) := below_set hk2.bel _ (by simp)
          have hfin' := hid hfin
          clear hfin hs2 hk2 hsz hal2
          by_cases hlo : 0 ≤ lo
          · obtain rfl : z = 2 := by rw [hzz.out, if_pos hlo]
            go_wp2
            refine leaves_cons (f := 44) (args := #[.pointer (some ⟨w.heap.size + 1, 0, none⟩)]) (by simp) (by simp [go_sem]) ?_
            refine (told_idle ⟨w.heap.size + 1, 0, none⟩ _).mono ?_
            rintro e u' w'' ⟨rfl, rfl, rfl⟩
            have hfin := hfin'.out
            simp [Leaves, settle, results, Try.results20, go_sem, c7, hfin]
          · by_cases hhh : hh < 0
            · obtain rfl : z = 0 := by rw [hzz.out, if_neg hlo, if_pos hhh]
              go_wp2
              refine leaves_cons (f := 44) (args := #[.pointer (some ⟨w.heap.size + 1, 0, none⟩)]) (by simp) (by simp [go_sem]) ?_
              refine (told_idle ⟨w.heap.size + 1, 0, none⟩ _).mono ?_
              rintro e u' w'' ⟨rfl, rfl, rfl⟩
              have hfin := hfin'.out
              simp [Leaves, settle, results, Try.results20, go_sem, c7, hfin]
            · obtain rfl : z = 1 := by rw [hzz.out, if_neg hlo, if_neg hhh]
              go_wp2
              refine leaves_cons (f := 44) (args := #[.pointer (some ⟨w.heap.size + 1, 0, none⟩)]) (by simp) (by simp [go_sem]) ?_
              refine (told_idle ⟨w.heap.size + 1, 0, none⟩ _).mono ?_
              rintro e u' w'' ⟨rfl, rfl, rfl⟩
              have hfin := hfin'.out
              simp [Leaves, settle, results, Try.results20, go_sem, c7, hfin]
        · skip
          go_wp2
          replace ht := hid (alloc_old (o := .cells #[.int .i64 0, .int .i64 0] 28) (cells_of ht.out).1 ht.out)
          have hk := hk.below (below_alloc (Below.refl _ _) (.cells #[.int .i64 0, .int .i64 0] 28))
          refine ⟨hk.m, ?_⟩
          have hal := alloc_at (w := v3) (o := .cells #[.int .i64 0, .int .i64 0] 28) rfl
          have hal2 : w.heap.size + 1 < v3.heap.size := hsz
          generalize v3.alloc (.cells #[.int .i64 0, .int .i64 0] 28) = v7 at hk hal ht ⊢
          generalize v3.heap.size = al at hal hal2 ⊢
          have hsz := (cells_of hk.e).1
          refine wpAnyH_step (i := 17) (by kernel_rfl) rfl ?_
          go_wp2_with (go_at_call 47; refine (span_at tb t T hC.out hF.out _ ht.out (2 * (k : Int) + 2) (2 * (k : Int) + 1) (2 * k + 2) (2 * k + 1) (by simp) (by simp) (by omega) (by omega)).mono ?_; rw [hsp'.out]; rintro e v8 ⟨rfl, hbv8⟩)
          replace hk := hk.below hbv8
          replace hsz := (cells_of hk.e).1
          replace hal := (hbv8.block _ (cells_of hal).1).trans hal
          clear hbv8
          refine ⟨hk.m, ?_⟩
          have la := (cells_of hal).1
          have ca := (cells_of hal).2
          have za := free_of hal
          have hs2 := heap_set_same (o := 1) (v := .int .i64 hh) (heap_set_same (o := 0) (v := .int .i64 lo) hal)
          have hk2 : KeepE w r (.slice sa r.stints.length scap) ((v8.setCell ⟨al, 0, none⟩ (.int .i64 lo)).setCell ⟨al, 1, none⟩ (.int .i64 hh)) := ⟨below_set (below_set hk.bel _ (by simp; omega)) _ (by simp; omega), (Below.heap_setCell _ _ _ _ (by simp; omega)).trans ((Below.heap_setCell _ _ _ _ (by simp; omega)).trans hk.m), (Below.heap_setCell _ _ _ _ (by simp; omega)).trans ((Below.heap_setCell _ _ _ _ (by simp; omega)).trans hk.e)⟩
          refine wpAnyH_step (i := 19) (by kernel_rfl) rfl ?_
          go_wp2
          refine ⟨hk2.m, ?_⟩
          refine wpAnyH_done (by kernel_rfl) ?_ _
          refine NoPanic.normal ?_
          try simp only [Act.put, List.setIfInBounds_toArray]
          clear la ca za hal hk
          generalize ((v8.setCell ⟨al, 0, none⟩ (.int .i64 lo)).setCell ⟨al, 1, none⟩ (.int .i64 hh)) = v9 at hs2 hk2 ⊢
          rw [show ((#[Value.int .i64 0, .int .i64 0] : Array Value).setIfInBounds 0 (.int .i64 lo)).setIfInBounds 1 (.int .i64 hh) = #[.int .i64 lo, .int .i64 hh] by simp] at hs2
          have la := (cells_of hs2).1
          have ca := (cells_of hs2).2
          have l7 := (cells_of hk2.e).1
          have c7 := (cells_of hk2.e).2
          have z7 := free_of hk2.e
          have hfin : Below w.heap.size w (v9.setCell ⟨w.heap.size + 1, 0, none⟩ (.int .i64 0)) := below_set hk2.bel _ (by simp)
          have hfin' := hid hfin
          clear hfin hs2 hk2 hsz hal2
          by_cases hlo : 0 ≤ lo
          · obtain rfl : z = 2 := by rw [hzz.out, if_pos hlo]
            go_wp2
            refine leaves_cons (f := 44) (args := #[.pointer (some ⟨w.heap.size + 1, 0, none⟩)]) (by simp) (by simp [go_sem]) ?_
            refine (told_idle ⟨w.heap.size + 1, 0, none⟩ _).mono ?_
            rintro e u' w'' ⟨rfl, rfl, rfl⟩
            have hfin := hfin'.out
            simp [Leaves, settle, results, Try.results20, go_sem, c7, hfin]
          · by_cases hhh : hh < 0
            · obtain rfl : z = 0 := by rw [hzz.out, if_neg hlo, if_pos hhh]
              go_wp2
              refine leaves_cons (f := 44) (args := #[.pointer (some ⟨w.heap.size + 1, 0, none⟩)]) (by simp) (by simp [go_sem]) ?_
              refine (told_idle ⟨w.heap.size + 1, 0, none⟩ _).mono ?_
              rintro e u' w'' ⟨rfl, rfl, rfl⟩
              have hfin := hfin'.out
              simp [Leaves, settle, results, Try.results20, go_sem, c7, hfin]
            · obtain rfl : z = 1 := by rw [hzz.out, if_neg hlo, if_neg hhh]
              go_wp2
              refine leaves_cons (f := 44) (args := #[.pointer (some ⟨w.heap.size + 1, 0, none⟩)]) (by simp) (by simp [go_sem]) ?_
              refine (told_idle ⟨w.heap.size + 1, 0, none⟩ _).mono ?_
              rintro e u' w'' ⟨rfl, rfl, rfl⟩
              have hfin := hfin'.out
              simp [Leaves, settle, results, Try.results20, go_sem, c7, hfin]
      · skip
        go_wp2
        have hk := hk.below (below_alloc (Below.refl _ _) (.cells #[.int .i64 0, .int .i64 0] 28))
        refine ⟨hk.m, ?_⟩
        have hal := alloc_at (w := v2) (o := .cells #[.int .i64 0, .int .i64 0] 28) rfl
        have hal2 : w.heap.size + 1 < v2.heap.size := hsz
        generalize v2.alloc (.cells #[.int .i64 0, .int .i64 0] 28) = v10 at hk hal ⊢
        generalize v2.heap.size = al at hal hal2 ⊢
        have hsz := (cells_of hk.e).1
        refine wpAnyH_step (i := 10) (by kernel_rfl) rfl ?_
        go_wp2_with (go_at_call 45; refine (open_any r hn true _ _ (hS'.out.below hk.bel)).mono ?_; intro e v11 hp; obtain ⟨tb, t, rfl, _, ht, hC, hF, hbv11⟩ := open_ok hv'.out hT'.out hp; clear hp; replace hC := hid hC; replace hF := hid hF; replace ht := hid ht; have hv11o : Hid (v11 = v11) := hid rfl)
        replace hk := hk.below hbv11
        replace hsz := (cells_of hk.e).1
        replace hal := (hbv11.block _ (cells_of hal).1).trans hal
        clear hbv11
        refine ⟨hk.m, ?_⟩
        refine wpAnyH_step (i := 17) (by kernel_rfl) rfl ?_
        go_wp2_with (go_at_call 47; refine (span_at tb t T hC.out hF.out _ ht.out (2 * (k : Int) + 2) (2 * (k : Int) + 1) (2 * k + 2) (2 * k + 1) (by simp) (by simp) (by omega) (by omega)).mono ?_; rw [hsp'.out]; rintro e v12 ⟨rfl, hbv12⟩)
        replace hk := hk.below hbv12
        replace hsz := (cells_of hk.e).1
        replace hal := (hbv12.block _ (cells_of hal).1).trans hal
        clear hbv12
        refine ⟨hk.m, ?_⟩
        have la := (cells_of hal).1
        have ca := (cells_of hal).2
        have za := free_of hal
        have hs2 := heap_set_same (o := 1) (v := .int .i64 hh) (heap_set_same (o := 0) (v := .int .i64 lo) hal)
        have hk2 : KeepE w r (.slice sa r.stints.length scap) ((v12.setCell ⟨al, 0, none⟩ (.int .i64 lo)).setCell ⟨al, 1, none⟩ (.int .i64 hh)) := ⟨below_set (below_set hk.bel _ (by simp; omega)) _ (by simp; omega), (Below.heap_setCell _ _ _ _ (by simp; omega)).trans ((Below.heap_setCell _ _ _ _ (by simp; omega)).trans hk.m), (Below.heap_setCell _ _ _ _ (by simp; omega)).trans ((Below.heap_setCell _ _ _ _ (by simp; omega)).trans hk.e)⟩
        refine wpAnyH_step (i := 19) (by kernel_rfl) rfl ?_
        go_wp2
        refine ⟨hk2.m, ?_⟩
        refine wpAnyH_done (by kernel_rfl) ?_ _
        refine NoPanic.normal ?_
        try simp only [Act.put, List.setIfInBounds_toArray]
        clear la ca za hal hk
        generalize ((v12.setCell ⟨al, 0, none⟩ (.int .i64 lo)).setCell ⟨al, 1, none⟩ (.int .i64 hh)) = v13 at hs2 hk2 ⊢
        rw [show ((#[Value.int .i64 0, .int .i64 0] : Array Value).setIfInBounds 0 (.int .i64 lo)).setIfInBounds 1 (.int .i64 hh) = #[.int .i64 lo, .int .i64 hh] by simp] at hs2
        have la := (cells_of hs2).1
        have ca := (cells_of hs2).2
        have l7 := (cells_of hk2.e).1
        have c7 := (cells_of hk2.e).2
        have z7 := free_of hk2.e
        have hfin : Below w.heap.size w (v13.setCell ⟨w.heap.size + 1, 0, none⟩ (.int .i64 0)) := below_set hk2.bel _ (by simp)
        have hfin' := hid hfin
        clear hfin hs2 hk2 hsz hal2
        by_cases hlo : 0 ≤ lo
        · obtain rfl : z = 2 := by rw [hzz.out, if_pos hlo]
          go_wp2
          refine leaves_cons (f := 44) (args := #[.pointer (some ⟨w.heap.size + 1, 0, none⟩)]) (by simp) (by simp [go_sem]) ?_
          refine (told_idle ⟨w.heap.size + 1, 0, none⟩ _).mono ?_
          rintro e u' w'' ⟨rfl, rfl, rfl⟩
          have hfin := hfin'.out
          simp [Leaves, settle, results, Try.results20, go_sem, c7, hfin]
        · by_cases hhh : hh < 0
          · obtain rfl : z = 0 := by rw [hzz.out, if_neg hlo, if_pos hhh]
            go_wp2
            refine leaves_cons (f := 44) (args := #[.pointer (some ⟨w.heap.size + 1, 0, none⟩)]) (by simp) (by simp [go_sem]) ?_
            refine (told_idle ⟨w.heap.size + 1, 0, none⟩ _).mono ?_
            rintro e u' w'' ⟨rfl, rfl, rfl⟩
            have hfin := hfin'.out
            simp [Leaves, settle, results, Try.results20, go_sem, c7, hfin]
          · obtain rfl : z = 1 := by rw [hzz.out, if_neg hlo, if_neg hhh]
            go_wp2
            refine leaves_cons (f := 44) (args := #[.pointer (some ⟨w.heap.size + 1, 0, none⟩)]) (by simp) (by simp [go_sem]) ?_
            refine (told_idle ⟨w.heap.size + 1, 0, none⟩ _).mono ?_
            rintro e u' w'' ⟨rfl, rfl, rfl⟩
            have hfin := hfin'.out
            simp [Leaves, settle, results, Try.results20, go_sem, c7, hfin]
    · skip
      go_wp2
      have hk := hk.below (below_alloc (Below.refl _ _) (.cells #[.int .i64 0, .int .i64 0] 28))
      refine ⟨hk.m, ?_⟩
      have hal := alloc_at (w := v1) (o := .cells #[.int .i64 0, .int .i64 0] 28) rfl
      have hal2 : w.heap.size + 1 < v1.heap.size := hsz
      generalize v1.alloc (.cells #[.int .i64 0, .int .i64 0] 28) = v14 at hk hal ⊢
      generalize v1.heap.size = al at hal hal2 ⊢
      have hsz := (cells_of hk.e).1
      refine wpAnyH_step (i := 8) (by kernel_rfl) rfl ?_
      go_wp2_with (go_at_call 46; refine (isStint_any r hn ((k : Int) + 1) _ _ _).mono ?_; rw [hi2'.out]; rintro e v15 ⟨rfl, hbv15⟩)
      replace hk := hk.below hbv15
      replace hsz := (cells_of hk.e).1
      replace hal := (hbv15.block _ (cells_of hal).1).trans hal
      clear hbv15
      refine ⟨hk.m, ?_⟩
      refine wpAnyH_quiet (i := 9) (v := .bool true) rfl (by kernel_rfl) (by kernel_rfl) (by kernel_rfl) (fun _ _ _ h => h) rfl (fun W hW => by go_simp) hk.m ?_
      refine wpAnyH_step (i := 10) (by kernel_rfl) rfl ?_
      go_wp2_with (go_at_call 45; refine (open_any r hn true _ _ (hS'.out.below hk.bel)).mono ?_; intro e v16 hp; obtain ⟨tb, t, rfl, _, ht, hC, hF, hbv16⟩ := open_ok hv'.out hT'.out hp; clear hp; replace hC := hid hC; replace hF := hid hF; replace ht := hid ht; have hv16o : Hid (v16 = v16) := hid rfl)
      replace hk := hk.below hbv16
      replace hsz := (cells_of hk.e).1
      replace hal := (hbv16.block _ (cells_of hal).1).trans hal
      clear hbv16
      refine ⟨hk.m, ?_⟩
      refine wpAnyH_step (i := 17) (by kernel_rfl) rfl ?_
      go_wp2_with (go_at_call 47; refine (span_at tb t T hC.out hF.out _ ht.out (2 * (k : Int) + 2) (2 * (k : Int) + 1) (2 * k + 2) (2 * k + 1) (by simp) (by simp) (by omega) (by omega)).mono ?_; rw [hsp'.out]; rintro e v17 ⟨rfl, hbv17⟩)
      replace hk := hk.below hbv17
      replace hsz := (cells_of hk.e).1
      replace hal := (hbv17.block _ (cells_of hal).1).trans hal
      clear hbv17
      refine ⟨hk.m, ?_⟩
      have la := (cells_of hal).1
      have ca := (cells_of hal).2
      have za := free_of hal
      have hs2 := heap_set_same (o := 1) (v := .int .i64 hh) (heap_set_same (o := 0) (v := .int .i64 lo) hal)
      have hk2 : KeepE w r (.slice sa r.stints.length scap) ((v17.setCell ⟨al, 0, none⟩ (.int .i64 lo)).setCell ⟨al, 1, none⟩ (.int .i64 hh)) := ⟨below_set (below_set hk.bel _ (by simp; omega)) _ (by simp; omega), (Below.heap_setCell _ _ _ _ (by simp; omega)).trans ((Below.heap_setCell _ _ _ _ (by simp; omega)).trans hk.m), (Below.heap_setCell _ _ _ _ (by simp; omega)).trans ((Below.heap_setCell _ _ _ _ (by simp; omega)).trans hk.e)⟩
      refine wpAnyH_step (i := 19) (by kernel_rfl) rfl ?_
      go_wp2
      refine ⟨hk2.m, ?_⟩
      refine wpAnyH_done (by kernel_rfl) ?_ _
      refine NoPanic.normal ?_
      try simp only [Act.put, List.setIfInBounds_toArray]
      clear la ca za hal hk
      generalize ((v17.setCell ⟨al, 0, none⟩ (.int .i64 lo)).setCell ⟨al, 1, none⟩ (.int .i64 hh)) = v18 at hs2 hk2 ⊢
      rw [show ((#[Value.int .i64 0, .int .i64 0] : Array Value).setIfInBounds 0 (.int .i64 lo)).setIfInBounds 1 (.int .i64 hh) = #[.int .i64 lo, .int .i64 hh] by simp] at hs2
      have la := (cells_of hs2).1
      have ca := (cells_of hs2).2
      have l7 := (cells_of hk2.e).1
      have c7 := (cells_of hk2.e).2
      have z7 := free_of hk2.e
      have hfin : Below w.heap.size w (v18.setCell ⟨w.heap.size + 1, 0, none⟩ (.int .i64 0)) := below_set hk2.bel _ (by simp)
      have hfin' := hid hfin
      clear hfin hs2 hk2 hsz hal2
      by_cases hlo : 0 ≤ lo
      · obtain rfl : z = 2 := by rw [hzz.out, if_pos hlo]
        go_wp2
        refine leaves_cons (f := 44) (args := #[.pointer (some ⟨w.heap.size + 1, 0, none⟩)]) (by simp) (by simp [go_sem]) ?_
        refine (told_idle ⟨w.heap.size + 1, 0, none⟩ _).mono ?_
        rintro e u' w'' ⟨rfl, rfl, rfl⟩
        have hfin := hfin'.out
        simp [Leaves, settle, results, Try.results20, go_sem, c7, hfin]
      · by_cases hhh : hh < 0
        · obtain rfl : z = 0 := by rw [hzz.out, if_neg hlo, if_pos hhh]
          go_wp2
          refine leaves_cons (f := 44) (args := #[.pointer (some ⟨w.heap.size + 1, 0, none⟩)]) (by simp) (by simp [go_sem]) ?_
          refine (told_idle ⟨w.heap.size + 1, 0, none⟩ _).mono ?_
          rintro e u' w'' ⟨rfl, rfl, rfl⟩
          have hfin := hfin'.out
          simp [Leaves, settle, results, Try.results20, go_sem, c7, hfin]
        · obtain rfl : z = 1 := by rw [hzz.out, if_neg hlo, if_neg hhh]
          go_wp2
          refine leaves_cons (f := 44) (args := #[.pointer (some ⟨w.heap.size + 1, 0, none⟩)]) (by simp) (by simp [go_sem]) ?_
          refine (told_idle ⟨w.heap.size + 1, 0, none⟩ _).mono ?_
          rintro e u' w'' ⟨rfl, rfl, rfl⟩
          have hfin := hfin'.out
          simp [Leaves, settle, results, Try.results20, go_sem, c7, hfin]
  · skip
    go_wp2
    have hk := hk.below (below_alloc (Below.refl _ _) (.cells #[.int .i64 0, .int .i64 0] 28))
    refine ⟨hk.m, ?_⟩
    have hal := alloc_at (w := v0) (o := .cells #[.int .i64 0, .int .i64 0] 28) rfl
    have hal2 : w.heap.size + 1 < v0.heap.size := hsz
    generalize v0.alloc (.cells #[.int .i64 0, .int .i64 0] 28) = v19 at hk hal ⊢
    generalize v0.heap.size = al at hal hal2 ⊢
    have hsz := (cells_of hk.e).1
    refine wpAnyH_step (i := 3) (by kernel_rfl) rfl ?_
    go_wp2_with (go_at_call 46; refine (isStint_any r hn k _ _ _).mono ?_; rw [hi'.out]; rintro e v20 ⟨rfl, hbv20⟩)
    replace hk := hk.below hbv20
    replace hsz := (cells_of hk.e).1
    replace hal := (hbv20.block _ (cells_of hal).1).trans hal
    clear hbv20
    refine ⟨hk.m, ?_⟩
    refine wpAnyH_quiet (i := 4) (v := .bool true) rfl (by kernel_rfl) (by kernel_rfl) (by kernel_rfl) (fun _ _ _ h => h) rfl (fun W hW => by go_simp) hk.m ?_
    refine wpAnyH_take (i := 5) (v := .agg #[.int .i64 r.rest, .slice sa r.stints.length scap]) rfl (by kernel_rfl) (by kernel_rfl) (by kernel_rfl) (fun _ _ _ h => h) (Or.inl ⟨by rfl, fun W hW => by obtain ⟨lq, cq⟩ := cells_of hW; go_simp⟩) hk.m ?_
    refine wpAnyH_take (i := 6) (v := .int .i64 k) rfl (by kernel_rfl) (by kernel_rfl) (by kernel_rfl) (fun _ _ _ h => h) (Or.inl ⟨by rfl, fun W hW => by go_simp⟩) hk.m ?_
    refine wpAnyH_take (i := 7) (v := .int .i64 ((k : Int) + 1)) rfl (by kernel_rfl) (by kernel_rfl) (by kernel_rfl) (fun _ _ _ h => h) (Or.inl ⟨by rfl, fun W hW => by go_simp⟩) hk.m ?_
    refine wpAnyH_step (i := 8) (by kernel_rfl) rfl ?_
    go_wp2_with (go_at_call 46; refine (isStint_any r hn ((k : Int) + 1) _ _ _).mono ?_; rw [hi2'.out]; rintro e v21 ⟨rfl, hbv21⟩)
    replace hk := hk.below hbv21
    replace hsz := (cells_of hk.e).1
    replace hal := (hbv21.block _ (cells_of hal).1).trans hal
    clear hbv21
    refine ⟨hk.m, ?_⟩
    refine wpAnyH_quiet (i := 9) (v := .bool true) rfl (by kernel_rfl) (by kernel_rfl) (by kernel_rfl) (fun _ _ _ h => h) rfl (fun W hW => by go_simp) hk.m ?_
    refine wpAnyH_step (i := 10) (by kernel_rfl) rfl ?_
    go_wp2_with (go_at_call 45; refine (open_any r hn true _ _ (hS'.out.below hk.bel)).mono ?_; intro e v22 hp; obtain ⟨tb, t, rfl, _, ht, hC, hF, hbv22⟩ := open_ok hv'.out hT'.out hp; clear hp; replace hC := hid hC; replace hF := hid hF; replace ht := hid ht; have hv22o : Hid (v22 = v22) := hid rfl)
    replace hk := hk.below hbv22
    replace hsz := (cells_of hk.e).1
    replace hal := (hbv22.block _ (cells_of hal).1).trans hal
    clear hbv22
    refine ⟨hk.m, ?_⟩
    refine wpAnyH_step (i := 17) (by kernel_rfl) rfl ?_
    go_wp2_with (go_at_call 47; refine (span_at tb t T hC.out hF.out _ ht.out (2 * (k : Int) + 2) (2 * (k : Int) + 1) (2 * k + 2) (2 * k + 1) (by simp) (by simp) (by omega) (by omega)).mono ?_; rw [hsp'.out]; rintro e v23 ⟨rfl, hbv23⟩)
    replace hk := hk.below hbv23
    replace hsz := (cells_of hk.e).1
    replace hal := (hbv23.block _ (cells_of hal).1).trans hal
    clear hbv23
    refine ⟨hk.m, ?_⟩
    have la := (cells_of hal).1
    have ca := (cells_of hal).2
    have za := free_of hal
    have hs2 := heap_set_same (o := 1) (v := .int .i64 hh) (heap_set_same (o := 0) (v := .int .i64 lo) hal)
    have hk2 : KeepE w r (.slice sa r.stints.length scap) ((v23.setCell ⟨al, 0, none⟩ (.int .i64 lo)).setCell ⟨al, 1, none⟩ (.int .i64 hh)) := ⟨below_set (below_set hk.bel _ (by simp; omega)) _ (by simp; omega), (Below.heap_setCell _ _ _ _ (by simp; omega)).trans ((Below.heap_setCell _ _ _ _ (by simp; omega)).trans hk.m), (Below.heap_setCell _ _ _ _ (by simp; omega)).trans ((Below.heap_setCell _ _ _ _ (by simp; omega)).trans hk.e)⟩
    refine wpAnyH_step (i := 19) (by kernel_rfl) rfl ?_
    go_wp2
    refine ⟨hk2.m, ?_⟩
    refine wpAnyH_done (by kernel_rfl) ?_ _
    refine NoPanic.normal ?_
    try simp only [Act.put, List.setIfInBounds_toArray]
    clear la ca za hal hk
    generalize ((v23.setCell ⟨al, 0, none⟩ (.int .i64 lo)).setCell ⟨al, 1, none⟩ (.int .i64 hh)) = v24 at hs2 hk2 ⊢
    rw [show ((#[Value.int .i64 0, .int .i64 0] : Array Value).setIfInBounds 0 (.int .i64 lo)).setIfInBounds 1 (.int .i64 hh) = #[.int .i64 lo, .int .i64 hh] by simp] at hs2
    have la := (cells_of hs2).1
    have ca := (cells_of hs2).2
    have l7 := (cells_of hk2.e).1
    have c7 := (cells_of hk2.e).2
    have z7 := free_of hk2.e
    have hfin : Below w.heap.size w (v24.setCell ⟨w.heap.size + 1, 0, none⟩ (.int .i64 0)) := below_set hk2.bel _ (by simp)
    have hfin' := hid hfin
    clear hfin hs2 hk2 hsz hal2
    by_cases hlo : 0 ≤ lo
    · obtain rfl : z = 2 := by rw [hzz.out, if_pos hlo]
      go_wp2
      refine leaves_cons (f := 44) (args := #[.pointer (some ⟨w.heap.size + 1, 0, none⟩)]) (by simp) (by simp [go_sem]) ?_
      refine (told_idle ⟨w.heap.size + 1, 0, none⟩ _).mono ?_
      rintro e u' w'' ⟨rfl, rfl, rfl⟩
      have hfin := hfin'.out
      simp [Leaves, settle, results, Try.results20, go_sem, c7, hfin]
    · by_cases hhh : hh < 0
      · obtain rfl : z = 0 := by rw [hzz.out, if_neg hlo, if_pos hhh]
        go_wp2
        refine leaves_cons (f := 44) (args := #[.pointer (some ⟨w.heap.size + 1, 0, none⟩)]) (by simp) (by simp [go_sem]) ?_
        refine (told_idle ⟨w.heap.size + 1, 0, none⟩ _).mono ?_
        rintro e u' w'' ⟨rfl, rfl, rfl⟩
        have hfin := hfin'.out
        simp [Leaves, settle, results, Try.results20, go_sem, c7, hfin]
      · obtain rfl : z = 1 := by rw [hzz.out, if_neg hlo, if_neg hhh]
        go_wp2
        refine leaves_cons (f := 44) (args := #[.pointer (some ⟨w.heap.size + 1, 0, none⟩)]) (by simp) (by simp [go_sem]) ?_
        refine (told_idle ⟨w.heap.size + 1, 0, none⟩ _).mono ?_
        rintro e u' w'' ⟨rfl, rfl, rfl⟩
        have hfin := hfin'.out
        simp [Leaves, settle, results, Try.results20, go_sem, c7, hfin]

theorem Handed_any (r : Rel) (hn : r.n ≤ 1000000) (i : Int) (sv : Value) (w : World) (hS : StintsAt w sv r.stints) : Calls Try.prog 20 #[relV r sv, .int .i64 i] w fun e w' => e = .returned (.tuple #[.int .i64 (handedOf r i).1, .int .i64 (handedOf r i).2]) ∧ Below w.heap.size w w' := by
  unfold handedOf
  cases h1 : r.isStint i
  · rcases told_cases r false with ⟨c, hc⟩ | ⟨_, h, _⟩
    · rw [Bool.false_and, told_panics hc]; exact Handed_p0 r hn i c h1 hc sv w hS
    · cases h
  · rw [Bool.true_and]
    rcases told_cases r (r.isStint (i + 1)) with ⟨c, hc⟩ | ⟨hv, hi, T, hT⟩
    · rw [told_panics hc]; exact Handed_p1 r hn i c h1 hc sv w hS
    · obtain ⟨k, rfl⟩ : ∃ k : Nat, i = k := ⟨i.toNat, by simp only [Rel.isStint, Bool.and_eq_true, decide_eq_true_eq] at h1; omega⟩
      rw [hi, told_ok hv hT]; exact Handed_ok r hv k h1 hi T hT sv w hS
end Go.Proofs.Ytccgakdaiaigoaa
