/- The walk of 'Check' of package mend. -/
import Derived.Test.YtcgkglonnmkfcaaN6
import Derived.BigQuiet
import Derived.OrdersHeld
import Derived.Shelf.Abstract
namespace Go.Proofs.Ytcgkglonnmkfcaa
open Go.RowKit Go.Lap Go.Shelf

theorem leaves_congr {P : Program} {fn : Func} {R : Ending → World → Prop} {t t' : Array Value} (ht : results fn t = results fn t') : ∀ (ds : List Deferred) (u : FrameMode) (w : World), Leaves P fn t R ds u w → Leaves P fn t' R ds u w
  | [], .returning, w, ⟨v, h1, h2⟩ => ⟨v, by rw [← ht]; exact h1, h2⟩
  | [], .panicking _, _, h => h
  | [], .run, _, h => h
  | d :: ds, u, w, ⟨h1, fv, cap, f, args, h2, h3, h4⟩ => ⟨h1, fv, cap, f, args, h2, h3, h4.mono fun e u' w' h => by
      cases e with
      | returned _ => exact leaves_congr ht ds _ _ h
      | panicked _ => exact leaves_congr ht ds _ _ h
      | outgrown => exact h⟩

theorem open_order {M : Mend} {sv jv lv : Value} {l : List Int} (hl : l.length ≤ 1000) {lb mb : Nat} {w : World} (hS : IntsAt w sv M.setup) (hJ : JobsAt w jv M.jobs) (hlv : IntsAt w lv l)
    (h1 : w.heap[lb]? = some (.cells #[lv] 22 (0, 0))) (h2 : w.heap[mb]? = some (.cells #[sv, jv] 25 (0, 0))) :
    Calls Try.prog 47 #[.agg #[sv, jv], .func (.func 77) #[] #[.pointer (some ⟨lb, 0, none⟩), .pointer (some ⟨mb, 0, none⟩)]] w (OpenPost M sv jv (ordB M.jobs.length l) w) := by
  refine open_any M (ordB M.jobs.length l) 77 _ sv jv w hS hJ (enters_of Try.func77 (by kernel_rfl) rfl) fun hv w' hb => ?_
  obtain ⟨ja, jcap, rfl, _⟩ := hJ
  exact (isOrder1_any M.jobs.length (Mend.valid_ok hv).len sv _ ja jcap rfl l hl lv lb mb w' (hlv.below hb) ((hb.block _ (cells_of h1).1).trans h1) ((hb.block _ (cells_of h2).1).trans h2)).mono fun e w'' ⟨he, hw⟩ => ⟨he, by subst hw; exact Below.refl _ _⟩

/-- What 'Check' tells. -/
def checkOf (M : Mend) (l : List Int) : Int × Int × Int :=
  if M.valid then if ordB M.jobs.length l then if (badOf M 0 (l.map Int.toNat)).2 = 0 then (0, 0, 4) else ((badOf M 0 (l.map Int.toNat)).1, (badOf M 0 (l.map Int.toNat)).2, 0) else (0, 0, 2) else (0, 0, 1)

/-- What lies in memory while a function of the package runs. -/
structure KeepT (w : World) (sv jv : Value) (W : World) : Prop where
  bel : Below w.heap.size w W
  m : W.heap[w.heap.size]? = some (.cells #[sv, jv] 25 (0, 0))
  e : W.heap[w.heap.size + 1]? = some (.cells #[.int .i64 0] 29 (0, 0))
theorem KeepT.below {w : World} {sv jv : Value} {W W' : World} (h : KeepT w sv jv W) (hb : Below W.heap.size W W') : KeepT w sv jv W' :=
  ⟨below_via hb h.bel, (hb.block _ (cells_of h.m).1).trans h.m, (hb.block _ (cells_of h.e).1).trans h.e⟩
theorem KeepT.start (w : World) (sv jv : Value) : KeepT w sv jv ((w.alloc (.cells #[sv, jv] 25)).alloc (.cells #[.int .i64 0] 29)) :=
  ⟨below_alloc (below_alloc (Below.refl _ _) _) _, alloc_old (by simp) (alloc_at rfl), alloc_at (by simp)⟩
theorem openPost_arg {M : Mend} {sv jv : Value} {b : Bool} {w w' : World} {e : Ending} (hv : M.valid = false) (h : OpenPost M sv jv b w e w') : e = .panicked [{ v := failV 1, recovered := false }] ∧ Below w.heap.size w w' := by
  obtain ⟨hb, h⟩ := h
  rw [if_neg (by rw [hv]; exact Bool.false_ne_true)] at h
  exact ⟨h, hb⟩
theorem openPost_rng {M : Mend} {sv jv : Value} {w w' : World} {e : Ending} (hv : M.valid = true) (h : OpenPost M sv jv false w e w') : e = .panicked [{ v := failV 2, recovered := false }] ∧ Below w.heap.size w w' := by
  obtain ⟨hb, h⟩ := h
  rw [if_pos hv, if_neg Bool.false_ne_true] at h
  exact ⟨h, hb⟩
theorem openPost_yes {M : Mend} {sv jv : Value} {w w' : World} {e : Ending} (hv : M.valid = true) (h : OpenPost M sv jv true w e w') : ∃ sb, e = .returned (.pointer (some ⟨sb, 0, none⟩)) ∧ w.heap.size ≤ sb ∧ w'.heap[sb]? = some (.cells #[sv, jv, .int .u64 0] 103 (0, 0)) ∧ Below w.heap.size w w' := by
  obtain ⟨hb, h⟩ := h
  rw [if_pos hv, if_pos rfl] at h
  obtain ⟨sb, h1, h2, h3⟩ := h
  exact ⟨sb, h1, h2, h3, hb⟩


/-- Which panic 'open' is. -/
def PanicsW (M : Mend) (l : List Int) (c : Int) : Prop := (M.valid = false ∧ c = 1) ∨ (M.valid = true ∧ ordB M.jobs.length l = false ∧ c = 2)
theorem openPost_panics {M : Mend} {l : List Int} {c : Int} {sv jv : Value} {w w' : World} {e : Ending} (hc : PanicsW M l c) (h : OpenPost M sv jv (ordB M.jobs.length l) w e w') : e = .panicked [{ v := failV c, recovered := false }] ∧ Below w.heap.size w w' := by
  rcases hc with ⟨hv, rfl⟩ | ⟨hv, ho, rfl⟩
  · exact openPost_arg hv h
  · rw [ho] at h; exact openPost_rng hv h
theorem ints_toNat (p : List Nat) : (ints p).map Int.toNat = p := by
  unfold ints
  rw [List.map_map]
  exact (List.map_congr_left (g := id) fun x _ => by simp).trans (by simp)
theorem ints_inj : ∀ {p q : List Nat}, ints p = ints q → p = q
  | [], [], _ => rfl
  | [], _ :: _, h => by simp [ints] at h
  | _ :: _, [], h => by simp [ints] at h
  | a :: p, b :: q, h => by
    simp only [ints, List.map_cons, List.cons.injEq] at h
    rw [Int.ofNat.inj h.1, ints_inj (p := p) (q := q) h.2]
theorem ord_lt {n : Nat} {l : List Int} {p : List Nat} (ho : ordB n l = true) (hlp : l = ints p) {i : Nat} (hi : i ∈ p) : i < n := by
  obtain ⟨p', hp', hf, _⟩ := ordB_ints.1 ho
  have : p = p' := by
    have h := hlp.symm.trans hp'
    exact ints_inj h
  subst this
  exact ((freshB_iff.1 hf).2 i hi).1
theorem ord_len {n : Nat} {l : List Int} (ho : ordB n l = true) : l.length = n := by
  rw [ordB, Bool.and_eq_true, decide_eq_true_eq] at ho
  exact ho.2
theorem KeepT.drew {w : World} {sv jv : Value} {W : World} (h : KeepT w sv jv W) : KeepT w sv jv W.drew := ⟨h.bel.drew, h.m, h.e⟩

set_option maxRecDepth 100000 in
set_option maxHeartbeats 2000000 in
theorem Check_panics (M : Mend) (c : Int) (sv jv lv : Value) (l : List Int) (hl : l.length ≤ 1000) (w : World) (hS : IntsAt w sv M.setup) (hJ : JobsAt w jv M.jobs) (hlv : IntsAt w lv l) (hc : PanicsW M l c) :
    Calls Try.prog 16 #[.agg #[sv, jv], lv] w fun e w' => e = .returned (.tuple #[.int .i64 0, .int .i64 0, .int .i64 c]) ∧ Below w.heap.size w w' := by
  have hS' := hid hS
  have hJ' := hid hJ
  have hL' := hid hlv
  obtain ⟨sa, scap, rfl, _⟩ := hS
  obtain ⟨ja, jcap, rfl, _⟩ := hJ
  obtain ⟨la, lcap, rfl, _⟩ := hlv
  have hk := KeepT.start w (.slice sa M.setup.length scap) (.slice ja M.jobs.length jcap)
  go_enter_defers Try.func16, Try.ntmps16
  go_wp2
  generalize ((w.alloc (.cells #[.slice sa M.setup.length scap, .slice ja M.jobs.length jcap] 25)).alloc (.cells #[.int .i64 0] 29)) = w1 at hk ⊢
  have hQ : ∀ d v q (a : Act) w', (d = some 11 ∨ d = some 12 ∨ d = some 13 ∨ d = some 16) → Leaves Try.prog Try.f16 (a.put d v).tmps (fun e w' => e = .returned (.tuple #[.int .i64 0, .int .i64 0, .int .i64 c]) ∧ Below w.heap.size w w') (a.put d v).defers (.panicking q) w' → Leaves Try.prog Try.f16 a.tmps (fun e w' => e = .returned (.tuple #[.int .i64 0, .int .i64 0, .int .i64 c]) ∧ Below w.heap.size w w') a.defers (.panicking q) w' := by
    intro d v q a w' hd h
    rcases hd with rfl | rfl | rfl | rfl
    all_goals
      refine leaves_congr ?_ _ _ _ h
      simp [results, Try.results16, Act.put]
  refine wp_region_held (S := fun W => W.heap[w.heap.size]? = some (.cells #[.slice sa M.setup.length scap, .slice ja M.jobs.length jcap] 25 (0, 0))) (by kernel_rfl) ?_
  refine wpAnyH_take (i := 0) (v := .agg #[.slice sa M.setup.length scap, .slice ja M.jobs.length jcap]) rfl (by kernel_rfl) (by kernel_rfl) (by kernel_rfl) (fun c a w' h => hQ _ _ c a w' (.inl rfl) h) (Or.inl ⟨by rfl, ?_⟩) hk.m ?_
  · intro w' hw'
    obtain ⟨lm', cm'⟩ := cells_of hw'
    go_simp
  refine wpAnyH_take (i := 1) (v := .agg #[.slice sa M.setup.length scap, .slice ja M.jobs.length jcap]) rfl (by kernel_rfl) (by kernel_rfl) (by kernel_rfl) (fun c a w' h => hQ _ _ c a w' (.inr (.inl rfl)) h) (Or.inl ⟨by rfl, ?_⟩) hk.m ?_
  · intro w' hw'
    obtain ⟨lm', cm'⟩ := cells_of hw'
    go_simp
  refine wpAnyH_take (i := 2) (v := .slice la l.length lcap) rfl (by kernel_rfl) (by kernel_rfl) (by kernel_rfl) (fun c a w' h => hQ _ _ c a w' (.inr (.inr (.inl rfl))) h) (Or.inl ⟨by rfl, fun _ _ => by go_simp⟩) hk.m ?_
  refine wpAnyH_take (i := 5) (v := .slice la l.length lcap) rfl (by kernel_rfl) (by kernel_rfl) (by kernel_rfl) (fun c a w' h => hQ _ _ c a w' (.inr (.inr (.inr (rfl)))) h) (Or.inl ⟨by rfl, fun _ _ => by go_simp⟩) hk.m ?_
  refine wpAnyH_all (rs := [3]) (by kernel_rfl) (by simp) ?_
  intro i hi
  obtain rfl : i = 3 := by simpa using hi
  unfold wpOp
  go_simp
  refine Or.inl ((isOrder_any _ _ _ _ rfl la l.length lcap rfl w1.drew).mono ?_)
  rintro e w2 ⟨rfl, hm2, hl2, hb2⟩
  have hk2 := hk.drew.below hb2
  refine ⟨hk2.m, ?_⟩
  refine wpAnyH_all (rs := [4]) (by kernel_rfl) (by simp) ?_
  intro i hi
  obtain rfl : i = 4 := by simpa using hi
  unfold wpOp
  go_simp
  refine Or.inl ((open_order hl (hS'.out.below hk2.bel) (hJ'.out.below hk2.bel) (hL'.out.below hk2.bel) hl2 hm2).mono ?_)
  intro e w3 hp
  obtain ⟨he, hb3⟩ := openPost_panics hc hp
  subst he
  have hk3 := hk2.below hb3
  obtain ⟨l7, c7⟩ := cells_of hk3.e
  have z7 := free_of hk3.e
  refine leaves_cons (f := 46) (args := #[.pointer (some ⟨w.heap.size + 1, 0, none⟩)]) (by simp) (by simp [go_sem]) ?_
  refine (told_panicking (w.heap.size + 1) c 0 _ l7 (by rw [c7]; rfl) (z7 0)).mono ?_
  rintro e u' w'' ⟨rfl, rfl, rfl⟩
  have hfin : Below w.heap.size w ((w3.setCell ⟨w.heap.size + 1, 0, none⟩ (.int .i64 c)).alloc (.cells #[.int .i64 c] 107)) := below_alloc (below_set hk3.bel _ (by simp)) _
  simp [Leaves, settle, results, Try.results16, go_sem, c7, hfin, l7]

set_option maxRecDepth 100000 in
set_option maxHeartbeats 2000000 in
theorem Check_fine (M : Mend) (p : List Nat) (n r c : Int) (hb : badOf M 0 p = (n, r)) (hc : c = if r = 0 then 4 else 0) (sv jv lv : Value) (l : List Int) (hl : l.length ≤ 1000) (w : World) (hS : IntsAt w sv M.setup) (hJ : JobsAt w jv M.jobs) (hlv : IntsAt w lv l) (hv : M.valid = true) (hlp : l = ints p) (ho : ordB M.jobs.length l = true) :
    Calls Try.prog 16 #[.agg #[sv, jv], lv] w fun e w' => e = .returned (.tuple #[.int .i64 n, .int .i64 r, .int .i64 c]) ∧ Below w.heap.size w w' := by
  have hp := fun i hi => ord_lt ho hlp (i := i) hi
  have hpl : p.length ≤ 50 := by have h1 := ord_len ho; have := (Mend.valid_ok hv).len; rw [hlp] at h1; simp [ints] at h1; omega
  have hr0 := hid (fun sb w hs hL => run_any M (Mend.valid_ok hv) 0 (by decide) sb lv p hp hpl w hs hL)
  rw [hb] at hr0
  have hn0 : Hid (r = 0 → n = 0) := hid (fun e => by have h2 := badOf_zero' (M := M) (left := 0) (p := p) (by rw [hb]; exact e); rw [hb] at h2; exact (Prod.mk.inj h2).1)
  have ho' := hid ho
  have hc' := hid hc
  clear hc
  have hv' := hid hv
  have hlp' := hid hlp
  clear hb ho hv hlp hp hpl
  have hS' := hid hS
  have hJ' := hid hJ
  have hL' := hid hlv
  obtain ⟨sa, scap, rfl, _⟩ := hS
  obtain ⟨ja, jcap, rfl, _⟩ := hJ
  obtain ⟨la, lcap, rfl, _⟩ := hlv
  have hk := KeepT.start w (.slice sa M.setup.length scap) (.slice ja M.jobs.length jcap)
  go_enter_defers Try.func16, Try.ntmps16
  go_wp2
  generalize ((w.alloc (.cells #[.slice sa M.setup.length scap, .slice ja M.jobs.length jcap] 25)).alloc (.cells #[.int .i64 0] 29)) = w1 at hk ⊢
  have hQ : ∀ d v q (a : Act) w', (d = some 11 ∨ d = some 12 ∨ d = some 13 ∨ d = some 16 ∨ d = some 10 ∨ d = some 18 ∨ d = some 19 ∨ d = some 20 ∨ d = some 7 ∨ d = some 8 ∨ d = some 9) → Leaves Try.prog Try.f16 (a.put d v).tmps (fun e w' => e = .returned (.tuple #[.int .i64 n, .int .i64 r, .int .i64 c]) ∧ Below w.heap.size w w') (a.put d v).defers (.panicking q) w' → Leaves Try.prog Try.f16 a.tmps (fun e w' => e = .returned (.tuple #[.int .i64 n, .int .i64 r, .int .i64 c]) ∧ Below w.heap.size w w') a.defers (.panicking q) w' := by
    intro d v q a w' hd h
    rcases hd with rfl | rfl | rfl | rfl | rfl | rfl | rfl | rfl | rfl | rfl | rfl
    all_goals
      refine leaves_congr ?_ _ _ _ h
      simp [results, Try.results16, Act.put]
  refine wp_region_held (S := fun W => W.heap[w.heap.size]? = some (.cells #[.slice sa M.setup.length scap, .slice ja M.jobs.length jcap] 25 (0, 0))) (by kernel_rfl) ?_
  refine wpAnyH_take (i := 0) (v := .agg #[.slice sa M.setup.length scap, .slice ja M.jobs.length jcap]) rfl (by kernel_rfl) (by kernel_rfl) (by kernel_rfl) (fun c a w' h => hQ _ _ c a w' (.inl rfl) h) (Or.inl ⟨by rfl, ?_⟩) hk.m ?_
  · intro w' hw'
    obtain ⟨lm', cm'⟩ := cells_of hw'
    go_simp
  refine wpAnyH_take (i := 1) (v := .agg #[.slice sa M.setup.length scap, .slice ja M.jobs.length jcap]) rfl (by kernel_rfl) (by kernel_rfl) (by kernel_rfl) (fun c a w' h => hQ _ _ c a w' (.inr (.inl rfl)) h) (Or.inl ⟨by rfl, ?_⟩) hk.m ?_
  · intro w' hw'
    obtain ⟨lm', cm'⟩ := cells_of hw'
    go_simp
  refine wpAnyH_take (i := 2) (v := .slice la l.length lcap) rfl (by kernel_rfl) (by kernel_rfl) (by kernel_rfl) (fun c a w' h => hQ _ _ c a w' (.inr (.inr (.inl rfl))) h) (Or.inl ⟨by rfl, fun _ _ => by go_simp⟩) hk.m ?_
  refine wpAnyH_take (i := 5) (v := .slice la l.length lcap) rfl (by kernel_rfl) (by kernel_rfl) (by kernel_rfl) (fun c a w' h => hQ _ _ c a w' (.inr (.inr (.inr (.inl rfl)))) h) (Or.inl ⟨by rfl, fun _ _ => by go_simp⟩) hk.m ?_
  refine wpAnyH_all (rs := [3]) (by kernel_rfl) (by simp) ?_
  intro i hi
  obtain rfl : i = 3 := by simpa using hi
  unfold wpOp
  go_simp
  refine Or.inl ((isOrder_any _ _ _ _ rfl la l.length lcap rfl w1.drew).mono ?_)
  rintro e w2 ⟨rfl, hm2, hl2, hb2⟩
  have hk2 := hk.drew.below hb2
  refine ⟨hk2.m, ?_⟩
  refine wpAnyH_all (rs := [4]) (by kernel_rfl) (by simp) ?_
  intro i hi
  obtain rfl : i = 4 := by simpa using hi
  unfold wpOp
  go_simp
  refine Or.inl ((open_order hl (hS'.out.below hk2.bel) (hJ'.out.below hk2.bel) (hL'.out.below hk2.bel) hl2 hm2).mono ?_)
  intro e w3 hp2
  rw [ho'.out] at hp2
  obtain ⟨sb, he, _, hsc, hb3⟩ := openPost_yes hv'.out hp2
  subst he
  clear hp2
  have hk3 := hk2.below hb3
  refine ⟨hk3.m, ?_⟩
  refine wpAnyH_all (rs := [6]) (by kernel_rfl) (by simp) ?_
  intro i hi
  obtain rfl : i = 6 := by simpa using hi
  unfold wpOp
  go_simp
  refine Or.inl ((hr0.out sb w3 ⟨_, _, hsc, hS'.out.below hk3.bel, hJ'.out.below hk3.bel⟩ (by rw [← hlp'.out]; exact hL'.out.below hk3.bel)).mono ?_)
  rintro e w4 ⟨v, rfl, hown, hb4⟩
  have hk4 := hk3.below hb4
  refine ⟨hk4.m, ?_⟩
  refine wpAnyH_take (i := 7) (v := (.tuple #[v, .int .i64 n, .int .i64 r])) rfl (by kernel_rfl) (by kernel_rfl) (by kernel_rfl) (fun c a w' h => hQ _ _ c a w' (.inr (.inr (.inr (.inr (.inl rfl))))) h) (Or.inl ⟨by rfl, fun _ _ => by go_simp⟩) hk4.m ?_
  refine wpAnyH_take (i := 8) (v := v) rfl (by kernel_rfl) (by kernel_rfl) (by kernel_rfl) (fun c a w' h => hQ _ _ c a w' (.inr (.inr (.inr (.inr (.inr (.inl rfl)))))) h) (Or.inl ⟨by rfl, fun _ _ => by go_simp⟩) hk4.m ?_
  refine wpAnyH_take (i := 9) (v := .int .i64 n) rfl (by kernel_rfl) (by kernel_rfl) (by kernel_rfl) (fun c a w' h => hQ _ _ c a w' (.inr (.inr (.inr (.inr (.inr (.inr (.inl rfl))))))) h) (Or.inl ⟨by rfl, fun _ _ => by go_simp⟩) hk4.m ?_
  refine wpAnyH_take (i := 10) (v := .int .i64 r) rfl (by kernel_rfl) (by kernel_rfl) (by kernel_rfl) (fun c a w' h => hQ _ _ c a w' (.inr (.inr (.inr (.inr (.inr (.inr (.inr (.inl rfl)))))))) h) (Or.inl ⟨by rfl, fun _ _ => by go_simp⟩) hk4.m ?_
  refine wpAnyH_take (i := 11) (v := v) rfl (by kernel_rfl) (by kernel_rfl) (by kernel_rfl) (fun c a w' h => hQ _ _ c a w' (.inr (.inr (.inr (.inr (.inr (.inr (.inr (.inr (.inl rfl))))))))) h) (Or.inl ⟨by rfl, fun _ _ => by go_simp⟩) hk4.m ?_
  refine wpAnyH_take (i := 12) (v := .int .i64 n) rfl (by kernel_rfl) (by kernel_rfl) (by kernel_rfl) (fun c a w' h => hQ _ _ c a w' (.inr (.inr (.inr (.inr (.inr (.inr (.inr (.inr (.inr (.inl rfl)))))))))) h) (Or.inl ⟨by rfl, fun _ _ => by go_simp⟩) hk4.m ?_
  refine wpAnyH_take (i := 13) (v := .int .i64 r) rfl (by kernel_rfl) (by kernel_rfl) (by kernel_rfl) (fun c a w' h => hQ _ _ c a w' (.inr (.inr (.inr (.inr (.inr (.inr (.inr (.inr (.inr (.inr (rfl))))))))))) h) (Or.inl ⟨by rfl, fun _ _ => by go_simp⟩) hk4.m ?_
  refine wpAnyH_done (by kernel_rfl) ?_ _
  clear hQ
  obtain ⟨l7, c7⟩ := cells_of hk4.e
  have z7 := free_of hk4.e
  by_cases hr : r = 0
  · subst hr
    have hn1 := hn0.out rfl
    subst hn1
    have hc1 : c = 4 := by rw [hc'.out]; simp
    subst hc1
    go_simp
    go_wp2_with (go_at_call 52; with_reducible refine (must_no _ _).mono ?_; rintro e w' ⟨rfl, rfl⟩)
    refine leaves_cons (f := 46) (args := #[.pointer (some ⟨w.heap.size + 1, 0, none⟩)]) (by simp) (by simp [go_sem]) ?_
    refine (told_panicking (w.heap.size + 1) 4 0 _ l7 (by rw [c7]; rfl) (z7 0)).mono ?_
    rintro e u' w'' ⟨rfl, rfl, rfl⟩
    have hfin : Below w.heap.size w ((w4.setCell ⟨w.heap.size + 1, 0, none⟩ (.int .i64 4)).alloc (.cells #[.int .i64 4] 107)) := below_alloc (below_set hk4.bel _ (by simp)) _
    simp [Leaves, settle, results, Try.results16, go_sem, c7, hfin, l7]
  · have hr2 : (r != 0) = true := by simpa using hr
    have hc1 : c = 0 := by rw [hc'.out, if_neg hr]
    subst hc1
    clear hr
    go_simp
    go_wp2_with (go_at_call 52; with_reducible refine (must_yes _ _).mono ?_; rintro e w' ⟨rfl, rfl⟩)
    refine leaves_cons (f := 46) (args := #[.pointer (some ⟨w.heap.size + 1, 0, none⟩)]) (by simp) (by simp [go_sem]) ?_
    refine (told_idle ⟨w.heap.size + 1, 0, none⟩ _).mono ?_
    rintro e u' w'' ⟨rfl, rfl, rfl⟩
    have hfin : Below w.heap.size w (w4.setCell ⟨w.heap.size + 1, 0, none⟩ (.int .i64 0)) := below_set hk4.bel _ (by simp)
    simp [Leaves, settle, results, Try.results16, go_sem, c7, hfin]

theorem Check_any (M : Mend) (sv jv lv : Value) (l : List Int) (hl : l.length ≤ 1000) (w : World) (hS : IntsAt w sv M.setup) (hJ : JobsAt w jv M.jobs) (hlv : IntsAt w lv l) : Calls Try.prog 16 #[.agg #[sv, jv], lv] w fun e w' => e = .returned (.tuple #[.int .i64 (checkOf M l).1, .int .i64 (checkOf M l).2.1, .int .i64 (checkOf M l).2.2]) ∧ Below w.heap.size w w' := by
  unfold checkOf
  cases hv : M.valid
  · exact Check_panics M 1 sv jv lv l hl w hS hJ hlv (.inl ⟨hv, rfl⟩)
  · cases ho : ordB M.jobs.length l
    · exact Check_panics M 2 sv jv lv l hl w hS hJ hlv (.inr ⟨hv, ho, rfl⟩)
    · obtain ⟨p, rfl, _⟩ := ordB_ints.1 ho
      have := Check_fine M p (badOf M 0 p).1 (badOf M 0 p).2 _ rfl rfl sv jv lv (ints p) hl w hS hJ hlv hv rfl ho
      rw [ints_toNat]
      refine this.mono fun e w' h => ?_
      simp only [if_true]
      by_cases hr : (badOf M 0 p).2 = 0
      · have h0 := badOf_zero' hr
        rw [h0] at h
        simpa [h0] using h
      · simpa [hr] using h

end Go.Proofs.Ytcgkglonnmkfcaa
