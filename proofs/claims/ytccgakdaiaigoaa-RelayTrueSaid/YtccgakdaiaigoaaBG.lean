/- The walks of On, Off, Length. -/
import Derived.Test.YtccgakdaiaigoaaGD
import Derived.OrdersHeld
namespace Go.Proofs.Ytccgakdaiaigoaa
open Go.RowKit Go.Lap Go.Shelf

theorem leaves_congr {P : Program} {fn : Func} {R : Ending → World → Prop} {t t' : Array Value} (ht : results fn t = results fn t') : ∀ (ds : List Deferred) (u : FrameMode) (w : World), Leaves P fn t R ds u w → Leaves P fn t' R ds u w
  | [], .returning, w, ⟨v, h1, h2⟩ => ⟨v, by rw [← ht]; exact h1, h2⟩
  | [], .panicking _, _, h => h
  | [], .run, _, h => h
  | d :: ds, u, w, ⟨h1, fv, cap, f, args, h2, h3, h4⟩ => ⟨h1, fv, cap, f, args, h2, h3, h4.mono fun e u' w' h => by
      cases e with
      | returned _ => exact leaves_congr ht ds _ _ h
      | panicked _ => exact leaves_congr ht ds _ _ h
      | outgrown => exact h⟩

/-- Which panic 'open' is. -/
def PanicsR (r : Rel) (b : Bool) (c : Int) : Prop := (r.valid = false ∧ c = 1) ∨ (r.valid = true ∧ b = false ∧ c = 2) ∨ (r.valid = true ∧ b = true ∧ r.canB r.every = false ∧ c = 10)
theorem open_panics {r : Rel} {b : Bool} {c : Int} {w w' : World} {e : Ending} (hc : PanicsR r b c) (h : OpenPost r b w e w') : e = panicV c ∧ Below w.heap.size w w' := by
  obtain ⟨hb, h⟩ := h
  refine ⟨?_, hb⟩
  rcases hc with ⟨h1, rfl⟩ | ⟨h1, h2, rfl⟩ | ⟨h1, h2, h3, rfl⟩
  · rcases h with ⟨_, h⟩ | ⟨h, _⟩ | ⟨h, _⟩ | ⟨h, _⟩
    · exact h
    all_goals rw [h1] at h; cases h
  · rcases h with ⟨h, _⟩ | ⟨_, _, h⟩ | ⟨_, h, _⟩ | ⟨_, h, _⟩
    · rw [h1] at h; cases h
    · exact h
    all_goals rw [h2] at h; cases h
  · rcases h with ⟨h, _⟩ | ⟨_, h, _⟩ | ⟨_, _, _, h⟩ | ⟨_, _, _, _, T, _, _, _, h, _⟩
    · rw [h1] at h; cases h
    · rw [h2] at h; cases h
    · exact h
    · rw [Rel.canB, h] at h3; cases h3
theorem open_ok {r : Rel} {T : Tab} {w w' : World} {e : Ending} (hv : r.valid = true) (hT : r.tab r.every = some T) (h : OpenPost r true w e w') : ∃ tb t, e = .returned (.pointer (some ⟨tb, 0, none⟩)) ∧ w.heap.size ≤ tb ∧ TabAt w' tb t ∧ Closed T ∧ Flat t T ∧ Below w.heap.size w w' := by
  obtain ⟨hb, h⟩ := h
  rcases h with ⟨h, _⟩ | ⟨_, h, _⟩ | ⟨_, _, h, _⟩ | ⟨_, _, tb, t, T', h1, h2, h3, h4, h5, h6⟩
  · rw [hv] at h; cases h
  · cases h
  · rw [Rel.canB, hT] at h; cases h
  · rw [hT] at h4; cases h4
    exact ⟨tb, t, h1, h2, h3, h5, h6, hb⟩
theorem told_panics {α : Type} {r : Rel} {b : Bool} {c : Int} {z : α} {f : Tab → α} (hc : PanicsR r b c) : r.told b z f = (z, c) := by
  rcases hc with ⟨h1, rfl⟩ | ⟨h1, h2, rfl⟩ | ⟨h1, h2, h3, rfl⟩
  · simp [Rel.told, h1]
  · simp [Rel.told, h1, h2]
  · cases hT : r.tab r.every with
    | none => simp [Rel.told, h1, h2, hT]
    | some T => rw [Rel.canB, hT] at h3; cases h3
theorem told_ok {α : Type} {r : Rel} {T : Tab} {z : α} {f : Tab → α} (hv : r.valid = true) (hT : r.tab r.every = some T) : r.told true z f = (f T, 0) := by simp [Rel.told, hv, hT]
/-- Either 'open' panics, or it tells a table. -/
theorem told_cases (r : Rel) (b : Bool) : (∃ c, PanicsR r b c) ∨ (r.valid = true ∧ b = true ∧ ∃ T, r.tab r.every = some T) := by
  cases hv : r.valid
  · exact .inl ⟨1, .inl ⟨hv, rfl⟩⟩
  · cases b
    · exact .inl ⟨2, .inr (.inl ⟨hv, rfl, rfl⟩)⟩
    · cases hT : r.tab r.every with
      | none => exact .inl ⟨10, .inr (.inr ⟨hv, rfl, by rw [Rel.canB, hT]; rfl, rfl⟩)⟩
      | some T => exact .inr ⟨rfl, rfl, T, rfl⟩

theorem span_at (tb : Nat) (t : List Int) (T : Tab) (hC : Closed T) (hF : Flat t T) (w : World) (h : TabAt w tb t) (x y : Int) (a b : Nat) (hx : x = a) (hy : y = b) (ha : a < 11) (hb : b < 11) :
    Calls Try.prog 47 #[.pointer (some ⟨tb, 0, none⟩), .int .i64 x, .int .i64 y] w fun e w' => e = .returned (spanV (T.span a b)) ∧ Below w.heap.size w w' := by
  subst hx; subst hy
  have e1 := hF.2 b a hb ha
  have e2 := hF.2 a b ha hb
  have l1 := hC.low (i := b) (k := a) hb ha
  have l2 := hC.far b a hb ha
  have := span_any tb t 113 w h hF.1 a b ha hb (by rw [e1]; omega)
  rw [e1, e2] at this
  exact this

/-- What lies in memory while a function of the package runs: relays, a span, an error. -/
structure KeepR (w : World) (r : Rel) (sv : Value) (W : World) : Prop where
  bel : Below w.heap.size w W
  m : W.heap[w.heap.size]? = some (.cells #[.int .i64 r.rest, sv] 24 (0, 0))
  s : W.heap[w.heap.size + 1]? = some (.cells #[.int .i64 0, .int .i64 0] 28 (0, 0))
  e : W.heap[w.heap.size + 1 + 1]? = some (.cells #[.int .i64 0] 29 (0, 0))
theorem KeepR.below {w : World} {r : Rel} {sv : Value} {W W' : World} (h : KeepR w r sv W) (hb : Below W.heap.size W W') : KeepR w r sv W' :=
  ⟨below_via hb h.bel, (hb.block _ (cells_of h.m).1).trans h.m, (hb.block _ (cells_of h.s).1).trans h.s, (hb.block _ (cells_of h.e).1).trans h.e⟩
theorem KeepR.start (w : World) (r : Rel) (sv : Value) : KeepR w r sv (((w.alloc (.cells #[.int .i64 r.rest, sv] 24)).alloc (.cells #[.int .i64 0, .int .i64 0] 28)).alloc (.cells #[.int .i64 0] 29)) :=
  ⟨below_alloc (below_alloc (below_alloc (Below.refl _ _) _) _) _, alloc_old (by simp <;> omega) (alloc_old (by simp) (alloc_at rfl)), alloc_old (by simp <;> omega) (alloc_at (by simp)), alloc_at (by simp)⟩
theorem isStint_lt {r : Rel} {k : Nat} (h : r.isStint k = true) : k < r.n := by
  simp only [Rel.isStint, Bool.and_eq_true, decide_eq_true_eq] at h; omega


set_option maxRecDepth 100000 in
set_option maxHeartbeats 4000000 in
theorem On_panics (r : Rel) (hn : r.n ≤ 1000000) (i c : Int) (hc : PanicsR r (r.isStint i) c) (sv : Value) (w : World) (hS : StintsAt w sv r.stints) : Calls Try.prog 14 #[relV r sv, .int .i64 i] w fun e w' => e = .returned (.tuple #[spanV (0, 0), .int .i64 c]) ∧ Below w.heap.size w w' := by
  obtain ⟨sa, scap, rfl, _⟩ := id hS
  have hS' := hid hS
  have hc' := hid hc
  clear hS hc
  have hk := KeepR.start w r (.slice sa r.stints.length scap)
  go_enter_defers Try.func14, Try.ntmps14
  go_wp2
  generalize (((w.alloc (.cells #[.int .i64 r.rest, .slice sa r.stints.length scap] 24)).alloc (.cells #[.int .i64 0, .int .i64 0] 28)).alloc (.cells #[.int .i64 0] 29)) = w1 at hk ⊢
  have hQ : ∀ d v q (a : Act) w', (d = some 6 ∨ d = some 7 ∨ d = some 8 ∨ d = some 9 ∨ d = some 11 ∨ d = some 12) → Leaves Try.prog Try.f14 (a.put d v).tmps (fun e w' => e = .returned (.tuple #[spanV (0, 0), .int .i64 c]) ∧ Below w.heap.size w w') (a.put d v).defers (.panicking q) w' → Leaves Try.prog Try.f14 a.tmps (fun e w' => e = .returned (.tuple #[spanV (0, 0), .int .i64 c]) ∧ Below w.heap.size w w') a.defers (.panicking q) w' := by
    intro d v q a w' hd h
    rcases hd with rfl | rfl | rfl | rfl | rfl | rfl
    all_goals
      refine leaves_congr ?_ _ _ _ h
      simp [results, Try.results14, Act.put]
  refine wp_region_held_at (S := fun W => W.heap[w.heap.size]? = some (.cells #[.int .i64 r.rest, .slice sa r.stints.length scap] 24 (0, 0))) (by kernel_rfl) ?_
  intro v0 hb0 _
  replace hk := hk.below hb0
  clear hb0
  refine wpAnyH_quiet (i := 0) (v := .agg #[.int .i64 r.rest, .slice sa r.stints.length scap]) rfl (by kernel_rfl) (by kernel_rfl) (by kernel_rfl) (fun c a w' h => hQ _ _ c a w' (by simp) h) rfl (fun W hW => by obtain ⟨lq, cq⟩ := cells_of hW; go_simp) hk.m ?_
  refine wpAnyH_quiet (i := 1) (v := .agg #[.int .i64 r.rest, .slice sa r.stints.length scap]) rfl (by kernel_rfl) (by kernel_rfl) (by kernel_rfl) (fun c a w' h => hQ _ _ c a w' (by simp) h) rfl (fun W hW => by obtain ⟨lq, cq⟩ := cells_of hW; go_simp) hk.m ?_
  refine wpAnyH_quiet (i := 2) (v := .int .i64 i) rfl (by kernel_rfl) (by kernel_rfl) (by kernel_rfl) (fun c a w' h => hQ _ _ c a w' (by simp) h) rfl (fun W hW => by go_simp) hk.m ?_
  refine wpAnyH_quiet (i := 5) (v := .int .i64 i) rfl (by kernel_rfl) (by kernel_rfl) (by kernel_rfl) (fun c a w' h => hQ _ _ c a w' (by simp) h) rfl (fun W hW => by go_simp) hk.m ?_
  refine wpAnyH_quiet (i := 6) (v := .int .i64 (IntKind.i64.wrap (2 * i))) rfl (by kernel_rfl) (by kernel_rfl) (by kernel_rfl) (fun c a w' h => hQ _ _ c a w' (by simp) h) rfl (fun W hW => by go_simp) hk.m ?_
  refine wpAnyH_step (i := 3) (by kernel_rfl) rfl ?_
  go_wp2_with (go_at_call 46; refine (isStint_any r hn i _ _ _).mono ?_; rintro e w2 ⟨rfl, hb2⟩)
  replace hk := hk.below hb2
  refine ⟨hk.m, ?_⟩
  refine wpAnyH_step (i := 4) (by kernel_rfl) rfl ?_
  go_wp2_with (go_at_call 45; refine (open_any r hn _ _ _ (hS'.out.below hk.bel)).mono ?_; intro e w3 hp; obtain ⟨rfl, hb3⟩ := open_panics hc'.out hp; clear hp)
  replace hk := hk.below hb3
  have l7 := (cells_of hk.e).1
  have c7 := (cells_of hk.e).2
  have l8 := (cells_of hk.s).1
  have c8 := (cells_of hk.s).2
  have z7 := free_of hk.e
  refine leaves_cons (f := 44) (args := #[.pointer (some ⟨w.heap.size + 1 + 1, 0, none⟩)]) (by simp) (by simp [go_sem]) ?_
  refine (told_panicking (w.heap.size + 1 + 1) c 0 _ l7 (by rw [c7]; rfl) (z7 0)).mono ?_
  rintro e u' w'' ⟨rfl, rfl, rfl⟩
  have hfin : Below w.heap.size w ((w3.setCell ⟨w.heap.size + 1 + 1, 0, none⟩ (.int .i64 c)).alloc (.cells #[.int .i64 c] 99)) := below_alloc (below_set hk.bel _ (by simp; omega)) _
  simp [Leaves, settle, results, Try.results14, go_sem, c7, c8, hfin, l7, l8]

set_option maxRecDepth 100000 in
set_option maxHeartbeats 4000000 in
theorem On_ok (r : Rel) (hv : r.valid = true) (k : Nat) (hi : r.isStint k = true) (T : Tab) (hT : r.tab r.every = some T) (sv : Value) (w : World) (hS : StintsAt w sv r.stints) : Calls Try.prog 14 #[relV r sv, .int .i64 k] w fun e w' => e = .returned (.tuple #[spanV (T.span (10) (2 * k)), .int .i64 0]) ∧ Below w.heap.size w w' := by
  obtain ⟨sa, scap, rfl, _⟩ := id hS
  have hS' := hid hS
  have hi' := hid hi
  have hT' := hid hT
  have hk5 : (k : Int) < 5 := by have h1 := isStint_lt hi; have h2 := (r.ok_of hv).2.2.1; omega
  have hn : r.n ≤ 1000000 := by have h2 := (r.ok_of hv).2.2.1; omega
  have hw1 : IntKind.i64.wrap (2 * (k : Int)) = 2 * (k : Int) := Go.IntWalk.i64_in _ (by omega)
  have hw2 : IntKind.i64.wrap (2 * (k : Int) + 1) = 2 * (k : Int) + 1 := Go.IntWalk.i64_in _ (by omega)
  have hv' := hid hv
  clear hS hi hT hv
  obtain ⟨sp, hsp⟩ : ∃ z, T.span (10) (2 * k) = z := ⟨_, rfl⟩
  have hsp' := hid hsp
  rw [hsp]
  clear hsp
  obtain ⟨lo, hh⟩ := sp
  have hk := KeepR.start w r (.slice sa r.stints.length scap)
  go_enter_defers Try.func14, Try.ntmps14
  go_wp2
  generalize (((w.alloc (.cells #[.int .i64 r.rest, .slice sa r.stints.length scap] 24)).alloc (.cells #[.int .i64 0, .int .i64 0] 28)).alloc (.cells #[.int .i64 0] 29)) = w1 at hk ⊢
  refine wp_region_noPanic (wp_region_held_at (S := fun W => W.heap[w.heap.size]? = some (.cells #[.int .i64 r.rest, .slice sa r.stints.length scap] 24 (0, 0))) (by kernel_rfl) ?_)
  intro v0 hb0 _
  replace hk := hk.below hb0
  clear hb0
  refine wpAnyH_quiet (i := 0) (v := .agg #[.int .i64 r.rest, .slice sa r.stints.length scap]) rfl (by kernel_rfl) (by kernel_rfl) (by kernel_rfl) (fun _ _ _ h => h) rfl (fun W hW => by obtain ⟨lq, cq⟩ := cells_of hW; go_simp) hk.m ?_
  refine wpAnyH_quiet (i := 1) (v := .agg #[.int .i64 r.rest, .slice sa r.stints.length scap]) rfl (by kernel_rfl) (by kernel_rfl) (by kernel_rfl) (fun _ _ _ h => h) rfl (fun W hW => by obtain ⟨lq, cq⟩ := cells_of hW; go_simp) hk.m ?_
  refine wpAnyH_quiet (i := 2) (v := .int .i64 k) rfl (by kernel_rfl) (by kernel_rfl) (by kernel_rfl) (fun _ _ _ h => h) rfl (fun W hW => by go_simp) hk.m ?_
  refine wpAnyH_quiet (i := 5) (v := .int .i64 k) rfl (by kernel_rfl) (by kernel_rfl) (by kernel_rfl) (fun _ _ _ h => h) rfl (fun W hW => by go_simp) hk.m ?_
  refine wpAnyH_quiet (i := 6) (v := .int .i64 (2 * (k : Int))) rfl (by kernel_rfl) (by kernel_rfl) (by kernel_rfl) (fun _ _ _ h => h) rfl (fun W hW => by go_simp) hk.m ?_
  refine wpAnyH_step (i := 3) (by kernel_rfl) rfl ?_
  go_wp2_with (go_at_call 46; refine (isStint_any r hn k _ _ _).mono ?_; rw [hi'.out]; rintro e w2 ⟨rfl, hb2⟩)
  replace hk := hk.below hb2
  clear hb2
  refine ⟨hk.m, ?_⟩
  refine wpAnyH_step (i := 4) (by kernel_rfl) rfl ?_
  go_wp2_with (go_at_call 45; refine (open_any r hn true _ _ (hS'.out.below hk.bel)).mono ?_; intro e w3 hp; obtain ⟨tb, t, rfl, _, ht, hC, hF, hb3⟩ := open_ok hv'.out hT'.out hp; clear hp; replace hC := hid hC; replace hF := hid hF; have ht' := hid ht; clear ht)
  replace hk := hk.below hb3
  clear hb3
  refine ⟨hk.m, ?_⟩
  refine wpAnyH_step (i := 7) (by kernel_rfl) rfl ?_
  go_wp2_with (go_at_call 47; refine (span_at tb t T hC.out hF.out _ ht'.out (10) (2 * (k : Int)) (10) (2 * k) (by simp) (by simp) (by omega) (by omega)).mono ?_; rw [hsp'.out]; rintro e w4 ⟨rfl, hb4⟩)
  replace hk := hk.below hb4
  clear hb4
  refine ⟨hk.m, ?_⟩
  have l7 := (cells_of hk.e).1
  have c7 := (cells_of hk.e).2
  have l8 := (cells_of hk.s).1
  have c8 := (cells_of hk.s).2
  have z7 := free_of hk.e
  have z8 := free_of hk.s
  have k0 := hk
  refine wpAnyH_step (i := 8) (by kernel_rfl) rfl ?_
  go_wp2
  have ks := hid (heap_set_same (o := 1) (v := .int .i64 hh) (heap_set_same (o := 0) (v := .int .i64 lo) hk.s))
  have km : ((w4.setCell ⟨w.heap.size + 1, 0, none⟩ (.int .i64 lo)).setCell ⟨w.heap.size + 1, 1, none⟩ (.int .i64 hh)).heap[w.heap.size]? = some (.cells #[.int .i64 r.rest, .slice sa r.stints.length scap] 24 (0, 0)) := (Below.heap_setCell _ _ _ _ (by simp)).trans ((Below.heap_setCell _ _ _ _ (by simp)).trans hk.m)
  have ke : ((w4.setCell ⟨w.heap.size + 1, 0, none⟩ (.int .i64 lo)).setCell ⟨w.heap.size + 1, 1, none⟩ (.int .i64 hh)).heap[w.heap.size + 1 + 1]? = some (.cells #[.int .i64 0] 29 (0, 0)) := (Below.heap_setCell _ _ _ _ (by simp)).trans ((Below.heap_setCell _ _ _ _ (by simp)).trans hk.e)
  have kb : Hid (Below w.heap.size w ((w4.setCell ⟨w.heap.size + 1, 0, none⟩ (.int .i64 lo)).setCell ⟨w.heap.size + 1, 1, none⟩ (.int .i64 hh))) := hid (below_set (below_set hk.bel _ (by simp)) _ (by simp))
  refine ⟨km, ?_⟩
  clear k0 hk l7 c7 l8 c8 z7 z8
  generalize ((w4.setCell ⟨w.heap.size + 1, 0, none⟩ (.int .i64 lo)).setCell ⟨w.heap.size + 1, 1, none⟩ (.int .i64 hh)) = w5 at ks km ke kb ⊢
  have l7 := (cells_of ke).1
  have c7 := (cells_of ke).2
  have z7 := free_of ke
  refine wpAnyH_step (i := 9) (by kernel_rfl) rfl ?_
  go_wp2
  refine ⟨(Below.heap_setCell _ _ _ _ (by simp; omega)).trans km, ?_⟩
  refine wpAnyH_done (by kernel_rfl) ?_ _
  refine NoPanic.normal ?_
  try simp only [Act.put, List.setIfInBounds_toArray]
  have kf := hid (below_set kb.out (p := ⟨w.heap.size + 1 + 1, 0, none⟩) (.int .i64 0) (by simp; omega))
  have hs6 := hid ((Below.heap_setCell w5 ⟨w.heap.size + 1 + 1, 0, none⟩ (.int .i64 0) (w.heap.size + 1) (by simp)).trans ks.out)
  have he6 := hid (heap_set_same (o := 0) (v := .int .i64 0) ke)
  clear l7 c7 z7 km ke
  generalize w5.setCell ⟨w.heap.size + 1 + 1, 0, none⟩ (.int .i64 0) = w6 at kf hs6 he6 ⊢
  have c7 := (cells_of he6.out).2
  have l7 := (cells_of he6.out).1
  have c8 := (cells_of hs6.out).2
  have l8 := (cells_of hs6.out).1
  go_wp2
  refine leaves_cons (f := 44) (args := #[.pointer (some ⟨w.heap.size + 1 + 1, 0, none⟩)]) (by simp) (by simp [go_sem]) ?_
  refine (told_idle ⟨w.heap.size + 1 + 1, 0, none⟩ _).mono ?_
  rintro e u' w'' ⟨rfl, rfl, rfl⟩
  have hfin := kf.out
  simp [Leaves, settle, results, Try.results14, go_sem, c7, c8, hfin]

theorem On_any (r : Rel) (hn : r.n ≤ 1000000) (i : Int) (sv : Value) (w : World) (hS : StintsAt w sv r.stints) : Calls Try.prog 14 #[relV r sv, .int .i64 i] w fun e w' => e = .returned (.tuple #[spanV (onOf r i).1, .int .i64 (onOf r i).2]) ∧ Below w.heap.size w w' := by
  unfold onOf
  rcases told_cases r (r.isStint i) with ⟨c, hc⟩ | ⟨hv, hi, T, hT⟩
  · rw [told_panics hc]; exact On_panics r hn i c hc sv w hS
  · obtain ⟨k, rfl⟩ : ∃ k : Nat, i = k := ⟨i.toNat, by simp only [Rel.isStint, Bool.and_eq_true, decide_eq_true_eq] at hi; omega⟩
    rw [hi, told_ok hv hT]; exact On_ok r hv k hi T hT sv w hS

set_option maxRecDepth 100000 in
set_option maxHeartbeats 4000000 in
theorem Off_panics (r : Rel) (hn : r.n ≤ 1000000) (i c : Int) (hc : PanicsR r (r.isStint i) c) (sv : Value) (w : World) (hS : StintsAt w sv r.stints) : Calls Try.prog 16 #[relV r sv, .int .i64 i] w fun e w' => e = .returned (.tuple #[spanV (0, 0), .int .i64 c]) ∧ Below w.heap.size w w' := by
  obtain ⟨sa, scap, rfl, _⟩ := id hS
  have hS' := hid hS
  have hc' := hid hc
  clear hS hc
  have hk := KeepR.start w r (.slice sa r.stints.length scap)
  go_enter_defers Try.func16, Try.ntmps16
  go_wp2
  generalize (((w.alloc (.cells #[.int .i64 r.rest, .slice sa r.stints.length scap] 24)).alloc (.cells #[.int .i64 0, .int .i64 0] 28)).alloc (.cells #[.int .i64 0] 29)) = w1 at hk ⊢
  have hQ : ∀ d v q (a : Act) w', (d = some 6 ∨ d = some 7 ∨ d = some 8 ∨ d = some 9 ∨ d = some 11 ∨ d = some 12 ∨ d = some 13) → Leaves Try.prog Try.f16 (a.put d v).tmps (fun e w' => e = .returned (.tuple #[spanV (0, 0), .int .i64 c]) ∧ Below w.heap.size w w') (a.put d v).defers (.panicking q) w' → Leaves Try.prog Try.f16 a.tmps (fun e w' => e = .returned (.tuple #[spanV (0, 0), .int .i64 c]) ∧ Below w.heap.size w w') a.defers (.panicking q) w' := by
    intro d v q a w' hd h
    rcases hd with rfl | rfl | rfl | rfl | rfl | rfl | rfl
    all_goals
      refine leaves_congr ?_ _ _ _ h
      simp [results, Try.results16, Act.put]
  refine wp_region_held_at (S := fun W => W.heap[w.heap.size]? = some (.cells #[.int .i64 r.rest, .slice sa r.stints.length scap] 24 (0, 0))) (by kernel_rfl) ?_
  intro v0 hb0 _
  replace hk := hk.below hb0
  clear hb0
  refine wpAnyH_quiet (i := 0) (v := .agg #[.int .i64 r.rest, .slice sa r.stints.length scap]) rfl (by kernel_rfl) (by kernel_rfl) (by kernel_rfl) (fun c a w' h => hQ _ _ c a w' (by simp) h) rfl (fun W hW => by obtain ⟨lq, cq⟩ := cells_of hW; go_simp) hk.m ?_
  refine wpAnyH_quiet (i := 1) (v := .agg #[.int .i64 r.rest, .slice sa r.stints.length scap]) rfl (by kernel_rfl) (by kernel_rfl) (by kernel_rfl) (fun c a w' h => hQ _ _ c a w' (by simp) h) rfl (fun W hW => by obtain ⟨lq, cq⟩ := cells_of hW; go_simp) hk.m ?_
  refine wpAnyH_quiet (i := 2) (v := .int .i64 i) rfl (by kernel_rfl) (by kernel_rfl) (by kernel_rfl) (fun c a w' h => hQ _ _ c a w' (by simp) h) rfl (fun W hW => by go_simp) hk.m ?_
  refine wpAnyH_quiet (i := 5) (v := .int .i64 i) rfl (by kernel_rfl) (by kernel_rfl) (by kernel_rfl) (fun c a w' h => hQ _ _ c a w' (by simp) h) rfl (fun W hW => by go_simp) hk.m ?_
  refine wpAnyH_quiet (i := 6) (v := .int .i64 (IntKind.i64.wrap (2 * i))) rfl (by kernel_rfl) (by kernel_rfl) (by kernel_rfl) (fun c a w' h => hQ _ _ c a w' (by simp) h) rfl (fun W hW => by go_simp) hk.m ?_
  refine wpAnyH_quiet (i := 7) (v := .int .i64 (IntKind.i64.wrap (IntKind.i64.wrap (2 * i) + 1))) rfl (by kernel_rfl) (by kernel_rfl) (by kernel_rfl) (fun c a w' h => hQ _ _ c a w' (by simp) h) rfl (fun W hW => by go_simp) hk.m ?_
  refine wpAnyH_step (i := 3) (by kernel_rfl) rfl ?_
  go_wp2_with (go_at_call 46; refine (isStint_any r hn i _ _ _).mono ?_; rintro e w2 ⟨rfl, hb2⟩)
  replace hk := hk.below hb2
  refine ⟨hk.m, ?_⟩
  refine wpAnyH_step (i := 4) (by kernel_rfl) rfl ?_
  go_wp2_with (go_at_call 45; refine (open_any r hn _ _ _ (hS'.out.below hk.bel)).mono ?_; intro e w3 hp; obtain ⟨rfl, hb3⟩ := open_panics hc'.out hp; clear hp)
  replace hk := hk.below hb3
  have l7 := (cells_of hk.e).1
  have c7 := (cells_of hk.e).2
  have l8 := (cells_of hk.s).1
  have c8 := (cells_of hk.s).2
  have z7 := free_of hk.e
  refine leaves_cons (f := 44) (args := #[.pointer (some ⟨w.heap.size + 1 + 1, 0, none⟩)]) (by simp) (by simp [go_sem]) ?_
  refine (told_panicking (w.heap.size + 1 + 1) c 0 _ l7 (by rw [c7]; rfl) (z7 0)).mono ?_
  rintro e u' w'' ⟨rfl, rfl, rfl⟩
  have hfin : Below w.heap.size w ((w3.setCell ⟨w.heap.size + 1 + 1, 0, none⟩ (.int .i64 c)).alloc (.cells #[.int .i64 c] 99)) := below_alloc (below_set hk.bel _ (by simp; omega)) _
  simp [Leaves, settle, results, Try.results16, go_sem, c7, c8, hfin, l7, l8]

set_option maxRecDepth 100000 in
set_option maxHeartbeats 4000000 in
theorem Off_ok (r : Rel) (hv : r.valid = true) (k : Nat) (hi : r.isStint k = true) (T : Tab) (hT : r.tab r.every = some T) (sv : Value) (w : World) (hS : StintsAt w sv r.stints) : Calls Try.prog 16 #[relV r sv, .int .i64 k] w fun e w' => e = .returned (.tuple #[spanV (T.span (10) (2 * k + 1)), .int .i64 0]) ∧ Below w.heap.size w w' := by
  obtain ⟨sa, scap, rfl, _⟩ := id hS
  have hS' := hid hS
  have hi' := hid hi
  have hT' := hid hT
  have hk5 : (k : Int) < 5 := by have h1 := isStint_lt hi; have h2 := (r.ok_of hv).2.2.1; omega
  have hn : r.n ≤ 1000000 := by have h2 := (r.ok_of hv).2.2.1; omega
  have hw1 : IntKind.i64.wrap (2 * (k : Int)) = 2 * (k : Int) := Go.IntWalk.i64_in _ (by omega)
  have hw2 : IntKind.i64.wrap (2 * (k : Int) + 1) = 2 * (k : Int) + 1 := Go.IntWalk.i64_in _ (by omega)
  have hv' := hid hv
  clear hS hi hT hv
  obtain ⟨sp, hsp⟩ : ∃ z, T.span (10) (2 * k + 1) = z := ⟨_, rfl⟩
  have hsp' := hid hsp
  rw [hsp]
  clear hsp
  obtain ⟨lo, hh⟩ := sp
  have hk := KeepR.start w r (.slice sa r.stints.length scap)
  go_enter_defers Try.func16, Try.ntmps16
  go_wp2
  generalize (((w.alloc (.cells #[.int .i64 r.rest, .slice sa r.stints.length scap] 24)).alloc (.cells #[.int .i64 0, .int .i64 0] 28)).alloc (.cells #[.int .i64 0] 29)) = w1 at hk ⊢
  refine wp_region_noPanic (wp_region_held_at (S := fun W => W.heap[w.heap.size]? = some (.cells #[.int .i64 r.rest, .slice sa r.stints.length scap] 24 (0, 0))) (by kernel_rfl) ?_)
  intro v0 hb0 _
  replace hk := hk.below hb0
  clear hb0
  refine wpAnyH_quiet (i := 0) (v := .agg #[.int .i64 r.rest, .slice sa r.stints.length scap]) rfl (by kernel_rfl) (by kernel_rfl) (by kernel_rfl) (fun _ _ _ h => h) rfl (fun W hW => by obtain ⟨lq, cq⟩ := cells_of hW; go_simp) hk.m ?_
  refine wpAnyH_quiet (i := 1) (v := .agg #[.int .i64 r.rest, .slice sa r.stints.length scap]) rfl (by kernel_rfl) (by kernel_rfl) (by kernel_rfl) (fun _ _ _ h => h) rfl (fun W hW => by obtain ⟨lq, cq⟩ := cells_of hW; go_simp) hk.m ?_
  refine wpAnyH_quiet (i := 2) (v := .int .i64 k) rfl (by kernel_rfl) (by kernel_rfl) (by kernel_rfl) (fun _ _ _ h => h) rfl (fun W hW => by go_simp) hk.m ?_
  refine wpAnyH_quiet (i := 5) (v := .int .i64 k) rfl (by kernel_rfl) (by kernel_rfl) (by kernel_rfl) (fun _ _ _ h => h) rfl (fun W hW => by go_simp) hk.m ?_
  refine wpAnyH_quiet (i := 6) (v := .int .i64 (2 * (k : Int))) rfl (by kernel_rfl) (by kernel_rfl) (by kernel_rfl) (fun _ _ _ h => h) rfl (fun W hW => by go_simp) hk.m ?_
  refine wpAnyH_quiet (i := 7) (v := .int .i64 (2 * (k : Int) + 1)) rfl (by kernel_rfl) (by kernel_rfl) (by kernel_rfl) (fun _ _ _ h => h) rfl (fun W hW => by go_simp) hk.m ?_
  refine wpAnyH_step (i := 3) (by kernel_rfl) rfl ?_
  go_wp2_with (go_at_call 46; refine (isStint_any r hn k _ _ _).mono ?_; rw [hi'.out]; rintro e w2 ⟨rfl, hb2⟩)
  replace hk := hk.below hb2
  clear hb2
  refine ⟨hk.m, ?_⟩
  refine wpAnyH_step (i := 4) (by kernel_rfl) rfl ?_
  go_wp2_with (go_at_call 45; refine (open_any r hn true _ _ (hS'.out.below hk.bel)).mono ?_; intro e w3 hp; obtain ⟨tb, t, rfl, _, ht, hC, hF, hb3⟩ := open_ok hv'.out hT'.out hp; clear hp; replace hC := hid hC; replace hF := hid hF; have ht' := hid ht; clear ht)
  replace hk := hk.below hb3
  clear hb3
  refine ⟨hk.m, ?_⟩
  refine wpAnyH_step (i := 8) (by kernel_rfl) rfl ?_
  go_wp2_with (go_at_call 47; refine (span_at tb t T hC.out hF.out _ ht'.out (10) (2 * (k : Int) + 1) (10) (2 * k + 1) (by simp) (by simp) (by omega) (by omega)).mono ?_; rw [hsp'.out]; rintro e w4 ⟨rfl, hb4⟩)
  replace hk := hk.below hb4
  clear hb4
  refine ⟨hk.m, ?_⟩
  have l7 := (cells_of hk.e).1
  have c7 := (cells_of hk.e).2
  have l8 := (cells_of hk.s).1
  have c8 := (cells_of hk.s).2
  have z7 := free_of hk.e
  have z8 := free_of hk.s
  have k0 := hk
  refine wpAnyH_step (i := 9) (by kernel_rfl) rfl ?_
  go_wp2
  have ks := hid (heap_set_same (o := 1) (v := .int .i64 hh) (heap_set_same (o := 0) (v := .int .i64 lo) hk.s))
  have km : ((w4.setCell ⟨w.heap.size + 1, 0, none⟩ (.int .i64 lo)).setCell ⟨w.heap.size + 1, 1, none⟩ (.int .i64 hh)).heap[w.heap.size]? = some (.cells #[.int .i64 r.rest, .slice sa r.stints.length scap] 24 (0, 0)) := (Below.heap_setCell _ _ _ _ (by simp)).trans ((Below.heap_setCell _ _ _ _ (by simp)).trans hk.m)
  have ke : ((w4.setCell ⟨w.heap.size + 1, 0, none⟩ (.int .i64 lo)).setCell ⟨w.heap.size + 1, 1, none⟩ (.int .i64 hh)).heap[w.heap.size + 1 + 1]? = some (.cells #[.int .i64 0] 29 (0, 0)) := (Below.heap_setCell _ _ _ _ (by simp)).trans ((Below.heap_setCell _ _ _ _ (by simp)).trans hk.e)
  have kb : Hid (Below w.heap.size w ((w4.setCell ⟨w.heap.size + 1, 0, none⟩ (.int .i64 lo)).setCell ⟨w.heap.size + 1, 1, none⟩ (.int .i64 hh))) := hid (below_set (below_set hk.bel _ (by simp)) _ (by simp))
  refine ⟨km, ?_⟩
  clear k0 hk l7 c7 l8 c8 z7 z8
  generalize ((w4.setCell ⟨w.heap.size + 1, 0, none⟩ (.int .i64 lo)).setCell ⟨w.heap.size + 1, 1, none⟩ (.int .i64 hh)) = w5 at ks km ke kb ⊢
  have l7 := (cells_of ke).1
  have c7 := (cells_of ke).2
  have z7 := free_of ke
  refine wpAnyH_step (i := 10) (by kernel_rfl) rfl ?_
  go_wp2
  refine ⟨(Below.heap_setCell _ _ _ _ (by simp; omega)).trans km, ?_⟩
  refine wpAnyH_done (by kernel_rfl) ?_ _
  refine NoPanic.normal ?_
  try simp only [Act.put, List.setIfInBounds_toArray]
  have kf := hid (below_set kb.out (p := ⟨w.heap.size + 1 + 1, 0, none⟩) (.int .i64 0) (by simp; omega))
  have hs6 := hid ((Below.heap_setCell w5 ⟨w.heap.size + 1 + 1, 0, none⟩ (.int .i64 0) (w.heap.size + 1) (by simp)).trans ks.out)
  have he6 := hid (heap_set_same (o := 0) (v := .int .i64 0) ke)
  clear l7 c7 z7 km ke
  generalize w5.setCell ⟨w.heap.size + 1 + 1, 0, none⟩ (.int .i64 0) = w6 at kf hs6 he6 ⊢
  have c7 := (cells_of he6.out).2
  have l7 := (cells_of he6.out).1
  have c8 := (cells_of hs6.out).2
  have l8 := (cells_of hs6.out).1
  go_wp2
  refine leaves_cons (f := 44) (args := #[.pointer (some ⟨w.heap.size + 1 + 1, 0, none⟩)]) (by simp) (by simp [go_sem]) ?_
  refine (told_idle ⟨w.heap.size + 1 + 1, 0, none⟩ _).mono ?_
  rintro e u' w'' ⟨rfl, rfl, rfl⟩
  have hfin := kf.out
  simp [Leaves, settle, results, Try.results16, go_sem, c7, c8, hfin]

theorem Off_any (r : Rel) (hn : r.n ≤ 1000000) (i : Int) (sv : Value) (w : World) (hS : StintsAt w sv r.stints) : Calls Try.prog 16 #[relV r sv, .int .i64 i] w fun e w' => e = .returned (.tuple #[spanV (offOf r i).1, .int .i64 (offOf r i).2]) ∧ Below w.heap.size w w' := by
  unfold offOf
  rcases told_cases r (r.isStint i) with ⟨c, hc⟩ | ⟨hv, hi, T, hT⟩
  · rw [told_panics hc]; exact Off_panics r hn i c hc sv w hS
  · obtain ⟨k, rfl⟩ : ∃ k : Nat, i = k := ⟨i.toNat, by simp only [Rel.isStint, Bool.and_eq_true, decide_eq_true_eq] at hi; omega⟩
    rw [hi, told_ok hv hT]; exact Off_ok r hv k hi T hT sv w hS

set_option maxRecDepth 100000 in
set_option maxHeartbeats 4000000 in
theorem Length_panics (r : Rel) (hn : r.n ≤ 1000000) (i c : Int) (hc : PanicsR r (r.isStint i) c) (sv : Value) (w : World) (hS : StintsAt w sv r.stints) : Calls Try.prog 18 #[relV r sv, .int .i64 i] w fun e w' => e = .returned (.tuple #[spanV (0, 0), .int .i64 c]) ∧ Below w.heap.size w w' := by
  obtain ⟨sa, scap, rfl, _⟩ := id hS
  have hS' := hid hS
  have hc' := hid hc
  clear hS hc
  have hk := KeepR.start w r (.slice sa r.stints.length scap)
  go_enter_defers Try.func18, Try.ntmps18
  go_wp2
  generalize (((w.alloc (.cells #[.int .i64 r.rest, .slice sa r.stints.length scap] 24)).alloc (.cells #[.int .i64 0, .int .i64 0] 28)).alloc (.cells #[.int .i64 0] 29)) = w1 at hk ⊢
  have hQ : ∀ d v q (a : Act) w', (d = some 6 ∨ d = some 7 ∨ d = some 8 ∨ d = some 9 ∨ d = some 11 ∨ d = some 12 ∨ d = some 13 ∨ d = some 14 ∨ d = some 15) → Leaves Try.prog Try.f18 (a.put d v).tmps (fun e w' => e = .returned (.tuple #[spanV (0, 0), .int .i64 c]) ∧ Below w.heap.size w w') (a.put d v).defers (.panicking q) w' → Leaves Try.prog Try.f18 a.tmps (fun e w' => e = .returned (.tuple #[spanV (0, 0), .int .i64 c]) ∧ Below w.heap.size w w') a.defers (.panicking q) w' := by
    intro d v q a w' hd h
    rcases hd with rfl | rfl | rfl | rfl | rfl | rfl | rfl | rfl | rfl
    all_goals
      refine leaves_congr ?_ _ _ _ h
      simp [results, Try.results18, Act.put]
  refine wp_region_held_at (S := fun W => W.heap[w.heap.size]? = some (.cells #[.int .i64 r.rest, .slice sa r.stints.length scap] 24 (0, 0))) (by kernel_rfl) ?_
  intro v0 hb0 _
  replace hk := hk.below hb0
  clear hb0
  refine wpAnyH_quiet (i := 0) (v := .agg #[.int .i64 r.rest, .slice sa r.stints.length scap]) rfl (by kernel_rfl) (by kernel_rfl) (by kernel_rfl) (fun c a w' h => hQ _ _ c a w' (by simp) h) rfl (fun W hW => by obtain ⟨lq, cq⟩ := cells_of hW; go_simp) hk.m ?_
  refine wpAnyH_quiet (i := 1) (v := .agg #[.int .i64 r.rest, .slice sa r.stints.length scap]) rfl (by kernel_rfl) (by kernel_rfl) (by kernel_rfl) (fun c a w' h => hQ _ _ c a w' (by simp) h) rfl (fun W hW => by obtain ⟨lq, cq⟩ := cells_of hW; go_simp) hk.m ?_
  refine wpAnyH_quiet (i := 2) (v := .int .i64 i) rfl (by kernel_rfl) (by kernel_rfl) (by kernel_rfl) (fun c a w' h => hQ _ _ c a w' (by simp) h) rfl (fun W hW => by go_simp) hk.m ?_
  refine wpAnyH_quiet (i := 5) (v := .int .i64 i) rfl (by kernel_rfl) (by kernel_rfl) (by kernel_rfl) (fun c a w' h => hQ _ _ c a w' (by simp) h) rfl (fun W hW => by go_simp) hk.m ?_
  refine wpAnyH_quiet (i := 6) (v := .int .i64 (IntKind.i64.wrap (2 * i))) rfl (by kernel_rfl) (by kernel_rfl) (by kernel_rfl) (fun c a w' h => hQ _ _ c a w' (by simp) h) rfl (fun W hW => by go_simp) hk.m ?_
  refine wpAnyH_quiet (i := 7) (v := .int .i64 i) rfl (by kernel_rfl) (by kernel_rfl) (by kernel_rfl) (fun c a w' h => hQ _ _ c a w' (by simp) h) rfl (fun W hW => by go_simp) hk.m ?_
  refine wpAnyH_quiet (i := 8) (v := .int .i64 (IntKind.i64.wrap (2 * i))) rfl (by kernel_rfl) (by kernel_rfl) (by kernel_rfl) (fun c a w' h => hQ _ _ c a w' (by simp) h) rfl (fun W hW => by go_simp) hk.m ?_
  refine wpAnyH_quiet (i := 9) (v := .int .i64 (IntKind.i64.wrap (IntKind.i64.wrap (2 * i) + 1))) rfl (by kernel_rfl) (by kernel_rfl) (by kernel_rfl) (fun c a w' h => hQ _ _ c a w' (by simp) h) rfl (fun W hW => by go_simp) hk.m ?_
  refine wpAnyH_step (i := 3) (by kernel_rfl) rfl ?_
  go_wp2_with (go_at_call 46; refine (isStint_any r hn i _ _ _).mono ?_; rintro e w2 ⟨rfl, hb2⟩)
  replace hk := hk.below hb2
  refine ⟨hk.m, ?_⟩
  refine wpAnyH_step (i := 4) (by kernel_rfl) rfl ?_
  go_wp2_with (go_at_call 45; refine (open_any r hn _ _ _ (hS'.out.below hk.bel)).mono ?_; intro e w3 hp; obtain ⟨rfl, hb3⟩ := open_panics hc'.out hp; clear hp)
  replace hk := hk.below hb3
  have l7 := (cells_of hk.e).1
  have c7 := (cells_of hk.e).2
  have l8 := (cells_of hk.s).1
  have c8 := (cells_of hk.s).2
  have z7 := free_of hk.e
  refine leaves_cons (f := 44) (args := #[.pointer (some ⟨w.heap.size + 1 + 1, 0, none⟩)]) (by simp) (by simp [go_sem]) ?_
  refine (told_panicking (w.heap.size + 1 + 1) c 0 _ l7 (by rw [c7]; rfl) (z7 0)).mono ?_
  rintro e u' w'' ⟨rfl, rfl, rfl⟩
  have hfin : Below w.heap.size w ((w3.setCell ⟨w.heap.size + 1 + 1, 0, none⟩ (.int .i64 c)).alloc (.cells #[.int .i64 c] 99)) := below_alloc (below_set hk.bel _ (by simp; omega)) _
  simp [Leaves, settle, results, Try.results18, go_sem, c7, c8, hfin, l7, l8]

set_option maxRecDepth 100000 in
set_option maxHeartbeats 4000000 in
theorem Length_ok (r : Rel) (hv : r.valid = true) (k : Nat) (hi : r.isStint k = true) (T : Tab) (hT : r.tab r.every = some T) (sv : Value) (w : World) (hS : StintsAt w sv r.stints) : Calls Try.prog 18 #[relV r sv, .int .i64 k] w fun e w' => e = .returned (.tuple #[spanV (T.span (2 * k) (2 * k + 1)), .int .i64 0]) ∧ Below w.heap.size w w' := by
  obtain ⟨sa, scap, rfl, _⟩ := id hS
  have hS' := hid hS
  have hi' := hid hi
  have hT' := hid hT
  have hk5 : (k : Int) < 5 := by have h1 := isStint_lt hi; have h2 := (r.ok_of hv).2.2.1; omega
  have hn : r.n ≤ 1000000 := by have h2 := (r.ok_of hv).2.2.1; omega
  have hw1 : IntKind.i64.wrap (2 * (k : Int)) = 2 * (k : Int) := Go.IntWalk.i64_in _ (by omega)
  have hw2 : IntKind.i64.wrap (2 * (k : Int) + 1) = 2 * (k : Int) + 1 := Go.IntWalk.i64_in _ (by omega)
  have hv' := hid hv
  clear hS hi hT hv
  obtain ⟨sp, hsp⟩ : ∃ z, T.span (2 * k) (2 * k + 1) = z := ⟨_, rfl⟩
  have hsp' := hid hsp
  rw [hsp]
  clear hsp
  obtain ⟨lo, hh⟩ := sp
  have hk := KeepR.start w r (.slice sa r.stints.length scap)
  go_enter_defers Try.func18, Try.ntmps18
  go_wp2
  generalize (((w.alloc (.cells #[.int .i64 r.rest, .slice sa r.stints.length scap] 24)).alloc (.cells #[.int .i64 0, .int .i64 0] 28)).alloc (.cells #[.int .i64 0] 29)) = w1 at hk ⊢
  refine wp_region_noPanic (wp_region_held_at (S := fun W => W.heap[w.heap.size]? = some (.cells #[.int .i64 r.rest, .slice sa r.stints.length scap] 24 (0, 0))) (by kernel_rfl) ?_)
  intro v0 hb0 _
  replace hk := hk.below hb0
  clear hb0
  refine wpAnyH_quiet (i := 0) (v := .agg #[.int .i64 r.rest, .slice sa r.stints.length scap]) rfl (by kernel_rfl) (by kernel_rfl) (by kernel_rfl) (fun _ _ _ h => h) rfl (fun W hW => by obtain ⟨lq, cq⟩ := cells_of hW; go_simp) hk.m ?_
  refine wpAnyH_quiet (i := 1) (v := .agg #[.int .i64 r.rest, .slice sa r.stints.length scap]) rfl (by kernel_rfl) (by kernel_rfl) (by kernel_rfl) (fun _ _ _ h => h) rfl (fun W hW => by obtain ⟨lq, cq⟩ := cells_of hW; go_simp) hk.m ?_
  refine wpAnyH_quiet (i := 2) (v := .int .i64 k) rfl (by kernel_rfl) (by kernel_rfl) (by kernel_rfl) (fun _ _ _ h => h) rfl (fun W hW => by go_simp) hk.m ?_
  refine wpAnyH_quiet (i := 5) (v := .int .i64 k) rfl (by kernel_rfl) (by kernel_rfl) (by kernel_rfl) (fun _ _ _ h => h) rfl (fun W hW => by go_simp) hk.m ?_
  refine wpAnyH_quiet (i := 6) (v := .int .i64 (2 * (k : Int))) rfl (by kernel_rfl) (by kernel_rfl) (by kernel_rfl) (fun _ _ _ h => h) rfl (fun W hW => by go_simp) hk.m ?_
  refine wpAnyH_quiet (i := 7) (v := .int .i64 k) rfl (by kernel_rfl) (by kernel_rfl) (by kernel_rfl) (fun _ _ _ h => h) rfl (fun W hW => by go_simp) hk.m ?_
  refine wpAnyH_quiet (i := 8) (v := .int .i64 (2 * (k : Int))) rfl (by kernel_rfl) (by kernel_rfl) (by kernel_rfl) (fun _ _ _ h => h) rfl (fun W hW => by go_simp) hk.m ?_
  refine wpAnyH_quiet (i := 9) (v := .int .i64 (2 * (k : Int) + 1)) rfl (by kernel_rfl) (by kernel_rfl) (by kernel_rfl) (fun _ _ _ h => h) rfl (fun W hW => by go_simp) hk.m ?_
  refine wpAnyH_step (i := 3) (by kernel_rfl) rfl ?_
  go_wp2_with (go_at_call 46; refine (isStint_any r hn k _ _ _).mono ?_; rw [hi'.out]; rintro e w2 ⟨rfl, hb2⟩)
  replace hk := hk.below hb2
  clear hb2
  refine ⟨hk.m, ?_⟩
  refine wpAnyH_step (i := 4) (by kernel_rfl) rfl ?_
  go_wp2_with (go_at_call 45; refine (open_any r hn true _ _ (hS'.out.below hk.bel)).mono ?_; intro e w3 hp; obtain ⟨tb, t, rfl, _, ht, hC, hF, hb3⟩ := open_ok hv'.out hT'.out hp; clear hp; replace hC := hid hC; replace hF := hid hF; have ht' := hid ht; clear ht)
  replace hk := hk.below hb3
  clear hb3
  refine ⟨hk.m, ?_⟩
  refine wpAnyH_step (i := 10) (by kernel_rfl) rfl ?_
  go_wp2_with (go_at_call 47; refine (span_at tb t T hC.out hF.out _ ht'.out (2 * (k : Int)) (2 * (k : Int) + 1) (2 * k) (2 * k + 1) (by simp) (by simp) (by omega) (by omega)).mono ?_; rw [hsp'.out]; rintro e w4 ⟨rfl, hb4⟩)
  replace hk := hk.below hb4
  clear hb4
  refine ⟨hk.m, ?_⟩
  have l7 := (cells_of hk.e).1
  have c7 := (cells_of hk.e).2
  have l8 := (cells_of hk.s).1
  have c8 := (cells_of hk.s).2
  have z7 := free_of hk.e
  have z8 := free_of hk.s
  have k0 := hk
  refine wpAnyH_step (i := 11) (by kernel_rfl) rfl ?_
  go_wp2
  have ks := hid (heap_set_same (o := 1) (v := .int .i64 hh) (heap_set_same (o := 0) (v := .int .i64 lo) hk.s))
  have km : ((w4.setCell ⟨w.heap.size + 1, 0, none⟩ (.int .i64 lo)).setCell ⟨w.heap.size + 1, 1, none⟩ (.int .i64 hh)).heap[w.heap.size]? = some (.cells #[.int .i64 r.rest, .slice sa r.stints.length scap] 24 (0, 0)) := (Below.heap_setCell _ _ _ _ (by simp)).trans ((Below.heap_setCell _ _ _ _ (by simp)).trans hk.m)
  have ke : ((w4.setCell ⟨w.heap.size + 1, 0, none⟩ (.int .i64 lo)).setCell ⟨w.heap.size + 1, 1, none⟩ (.int .i64 hh)).heap[w.heap.size + 1 + 1]? = some (.cells #[.int .i64 0] 29 (0, 0)) := (Below.heap_setCell _ _ _ _ (by simp)).trans ((Below.heap_setCell _ _ _ _ (by simp)).trans hk.e)
  have kb : Hid (Below w.heap.size w ((w4.setCell ⟨w.heap.size + 1, 0, none⟩ (.int .i64 lo)).setCell ⟨w.heap.size + 1, 1, none⟩ (.int .i64 hh))) := hid (below_set (below_set hk.bel _ (by simp)) _ (by simp))
  refine ⟨km, ?_⟩
  clear k0 hk l7 c7 l8 c8 z7 z8
  generalize ((w4.setCell ⟨w.heap.size + 1, 0, none⟩ (.int .i64 lo)).setCell ⟨w.heap.size + 1, 1, none⟩ (.int .i64 hh)) = w5 at ks km ke kb ⊢
  have l7 := (cells_of ke).1
  have c7 := (cells_of ke).2
  have z7 := free_of ke
  refine wpAnyH_step (i := 12) (by kernel_rfl) rfl ?_
  go_wp2
  refine ⟨(Below.heap_setCell _ _ _ _ (by simp; omega)).trans km, ?_⟩
  refine wpAnyH_done (by kernel_rfl) ?_ _
  refine NoPanic.normal ?_
  try simp only [Act.put, List.setIfInBounds_toArray]
  have kf := hid (below_set kb.out (p := ⟨w.heap.size + 1 + 1, 0, none⟩) (.int .i64 0) (by simp; omega))
  have hs6 := hid ((Below.heap_setCell w5 ⟨w.heap.size + 1 + 1, 0, none⟩ (.int .i64 0) (w.heap.size + 1) (by simp)).trans ks.out)
  have he6 := hid (heap_set_same (o := 0) (v := .int .i64 0) ke)
  clear l7 c7 z7 km ke
  generalize w5.setCell ⟨w.heap.size + 1 + 1, 0, none⟩ (.int .i64 0) = w6 at kf hs6 he6 ⊢
  have c7 := (cells_of he6.out).2
  have l7 := (cells_of he6.out).1
  have c8 := (cells_of hs6.out).2
  have l8 := (cells_of hs6.out).1
  go_wp2
  refine leaves_cons (f := 44) (args := #[.pointer (some ⟨w.heap.size + 1 + 1, 0, none⟩)]) (by simp) (by simp [go_sem]) ?_
  refine (told_idle ⟨w.heap.size + 1 + 1, 0, none⟩ _).mono ?_
  rintro e u' w'' ⟨rfl, rfl, rfl⟩
  have hfin := kf.out
  simp [Leaves, settle, results, Try.results18, go_sem, c7, c8, hfin]

theorem Length_any (r : Rel) (hn : r.n ≤ 1000000) (i : Int) (sv : Value) (w : World) (hS : StintsAt w sv r.stints) : Calls Try.prog 18 #[relV r sv, .int .i64 i] w fun e w' => e = .returned (.tuple #[spanV (lengthOf r i).1, .int .i64 (lengthOf r i).2]) ∧ Below w.heap.size w w' := by
  unfold lengthOf
  rcases told_cases r (r.isStint i) with ⟨c, hc⟩ | ⟨hv, hi, T, hT⟩
  · rw [told_panics hc]; exact Length_panics r hn i c hc sv w hS
  · obtain ⟨k, rfl⟩ : ∃ k : Nat, i = k := ⟨i.toNat, by simp only [Rel.isStint, Bool.and_eq_true, decide_eq_true_eq] at hi; omega⟩
    rw [hi, told_ok hv hT]; exact Length_ok r hv k hi T hT sv w hS
end Go.Proofs.Ytccgakdaiaigoaa
