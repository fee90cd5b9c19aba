/- The walk of 'Times' of package mend. -/
import Derived.Test.YtcgkglonnmkfcaaN7
namespace Go.Proofs.Ytcgkglonnmkfcaa
open Go.RowKit Go.Lap Go.Shelf

/-- Rows of spans. -/
def spanK : RowKind Try.prog (Int × Int) where
  t := 28
  e := 46
  size := 2
  bytes := 16
  z := .agg #[.int .i64 0, .int .i64 0]
  enc := fun x => [.int .i64 x.1, .int .i64 x.2]
  ht := Try.underlying28
  hi := by kernel_rfl
  hzs := rfl
  hsz := by decide
  hb := by decide
  henc := fun _ => rfl
  hone := fun x u hu => by
    simp only [List.mem_cons, List.not_mem_nil, or_false] at hu
    rcases hu with rfl | rfl <;> rfl

/-- What 'Times' tells. -/
def spansOf (M : Mend) (p : List Nat) : List (Int × Int) := (worksL M Sit.begin p).map fun x => (x.1.2, x.1.1.late)
def timesOf (M : Mend) (l : List Int) : List (Int × Int) × Int :=
  if M.valid then if ordB M.jobs.length l then (spansOf M (l.map Int.toNat), 0) else ([], 2) else ([], 1)

set_option maxRecDepth 100000 in
set_option maxHeartbeats 2000000 in
theorem Times_panics (M : Mend) (c : Int) (L : List (Int × Int)) (hL0 : L = []) (sv jv lv : Value) (l : List Int) (hl : l.length ≤ 1000) (w : World) (hS : IntsAt w sv M.setup) (hJ : JobsAt w jv M.jobs) (hlv : IntsAt w lv l) (hc : PanicsW M l c) :
    Calls Try.prog 14 #[.agg #[sv, jv], lv] w fun e w' => ∃ v, e = .returned (.tuple #[v, .int .i64 c]) ∧ spanK.own w.heap.size w' v L ∧ Below w.heap.size w w' := by
  have hL0' := hid hL0
  clear hL0
  have hS' := hid hS
  have hJ' := hid hJ
  have hL' := hid hlv
  obtain ⟨sa, scap, rfl, _⟩ := hS
  obtain ⟨ja, jcap, rfl, _⟩ := hJ
  obtain ⟨la, lcap, rfl, _⟩ := hlv
  have hk := KeepT.start w (.slice sa M.setup.length scap) (.slice ja M.jobs.length jcap)
  go_enter_defers Try.func14, Try.ntmps14
  go_wp2
  generalize ((w.alloc (.cells #[.slice sa M.setup.length scap, .slice ja M.jobs.length jcap] 25)).alloc (.cells #[.int .i64 0] 29)) = w1 at hk ⊢
  have hQ : ∀ d v q (a : Act) w', (d = some 12 ∨ d = some 13 ∨ d = some 14 ∨ d = some 17) → Leaves Try.prog Try.f14 (a.put d v).tmps (fun e w' => ∃ v, e = .returned (.tuple #[v, .int .i64 c]) ∧ spanK.own w.heap.size w' v L ∧ Below w.heap.size w w') (a.put d v).defers (.panicking q) w' → Leaves Try.prog Try.f14 a.tmps (fun e w' => ∃ v, e = .returned (.tuple #[v, .int .i64 c]) ∧ spanK.own w.heap.size w' v L ∧ Below w.heap.size w w') a.defers (.panicking q) w' := by
    intro d v q a w' hd h
    rcases hd with rfl | rfl | rfl | rfl
    all_goals
      refine leaves_congr ?_ _ _ _ h
      simp [results, Try.results14, Act.put]
  refine wp_region_held (S := fun W => W.heap[w.heap.size]? = some (.cells #[.slice sa M.setup.length scap, .slice ja M.jobs.length jcap] 25 (0, 0))) (by kernel_rfl) ?_
  refine wpAnyH_take (i := 0) (v := .agg #[.slice sa M.setup.length scap, .slice ja M.jobs.length jcap]) rfl (by kernel_rfl) (by kernel_rfl) (by kernel_rfl) (fun c a w' h => hQ _ _ c a w' (.inl rfl) h) (Or.inl ⟨by rfl, ?_⟩) hk.m ?_
  · intro w' hw'
    obtain ⟨lm', cm'⟩ := cells_of hw'
    go_simp
  refine wpAnyH_take (i := 1) (v := .agg #[.slice sa M.setup.length scap, .slice ja M.jobs.length jcap]) rfl (by kernel_rfl) (by kernel_rfl) (by kernel_rfl) (fun c a w' h => hQ _ _ c a w' (.inr (.inl rfl)) h) (Or.inl ⟨by rfl, ?_⟩) hk.m ?_
  · intro w' hw'
    obtain ⟨lm', cm'⟩ := cells_of hw'
    go_simp
  refine wpAnyH_take (i := 2) (v := .slice la l.length lcap) rfl (by kernel_rfl) (by kernel_rfl) (by kernel_rfl) (fun c a w' h => hQ _ _ c a w' (.inr (.inr (.inl rfl))) h) (Or.inl ⟨by rfl, fun _ _ => by go_simp⟩) hk.m ?_
  refine wpAnyH_take (i := 5) (v := .slice la l.length lcap) rfl (by kernel_rfl) (by kernel_rfl) (by kernel_rfl) (fun c a w' h => hQ _ _ c a w' (.inr (.inr (.inr (rfl)))) h) (Or.inl ⟨by rfl, fun _ _ => by go_simp⟩) hk.m ?_
  refine wpAnyH_all (rs := [3]) (by kernel_rfl) (by simp) ?_
  intro i hi
  obtain rfl : i = 3 := by simpa using hi
  unfold wpOp
  go_simp
  refine Or.inl ((isOrder_any _ _ _ _ rfl la l.length lcap rfl w1.drew).mono ?_)
  rintro e w2 ⟨rfl, hm2, hl2, hb2⟩
  have hk2 := hk.drew.below hb2
  refine ⟨hk2.m, ?_⟩
  refine wpAnyH_all (rs := [4]) (by kernel_rfl) (by simp) ?_
  intro i hi
  obtain rfl : i = 4 := by simpa using hi
  unfold wpOp
  go_simp
  refine Or.inl ((open_order hl (hS'.out.below hk2.bel) (hJ'.out.below hk2.bel) (hL'.out.below hk2.bel) hl2 hm2).mono ?_)
  intro e w3 hp
  obtain ⟨he, hb3⟩ := openPost_panics hc hp
  subst he
  have hk3 := hk2.below hb3
  obtain ⟨l7, c7⟩ := cells_of hk3.e
  have z7 := free_of hk3.e
  refine leaves_cons (f := 46) (args := #[.pointer (some ⟨w.heap.size + 1, 0, none⟩)]) (by simp) (by simp [go_sem]) ?_
  refine (told_panicking (w.heap.size + 1) c 0 _ l7 (by rw [c7]; rfl) (z7 0)).mono ?_
  rintro e u' w'' ⟨rfl, rfl, rfl⟩
  have hfin : Below w.heap.size w ((w3.setCell ⟨w.heap.size + 1, 0, none⟩ (.int .i64 c)).alloc (.cells #[.int .i64 c] 107)) := below_alloc (below_set hk3.bel _ (by simp)) _
  have hown : spanK.own w.heap.size ((w3.setCell ⟨w.heap.size + 1, 0, none⟩ (.int .i64 c)).alloc (.cells #[.int .i64 c] 107)) (.slice none 0 0) L := by rw [hL0'.out]; exact spanK.own_nil _ _
  simp [Leaves, settle, results, Try.results14, go_sem, c7, hfin, l7, hown]

set_option maxRecDepth 100000 in
set_option maxHeartbeats 2000000 in
theorem Times_fine (M : Mend) (p : List Nat) (n r c : Int) (hb : badOf M 0 p = (n, r)) (hc : c = 0) (L : List (Int × Int)) (hL0 : L = spansOf M p) (sv jv lv : Value) (l : List Int) (hl : l.length ≤ 1000) (w : World) (hS : IntsAt w sv M.setup) (hJ : JobsAt w jv M.jobs) (hlv : IntsAt w lv l) (hv : M.valid = true) (hlp : l = ints p) (ho : ordB M.jobs.length l = true) :
    Calls Try.prog 14 #[.agg #[sv, jv], lv] w fun e w' => ∃ v, e = .returned (.tuple #[v, .int .i64 c]) ∧ spanK.own w.heap.size w' v L ∧ Below w.heap.size w w' := by
  have hp := fun i hi => ord_lt ho hlp (i := i) hi
  have hpl : p.length ≤ 50 := by have h1 := ord_len ho; have := (Mend.valid_ok hv).len; rw [hlp] at h1; simp [ints] at h1; omega
  have hr0 := hid (fun sb w hs hL => run_any M (Mend.valid_ok hv) 0 (by decide) sb lv p hp hpl w hs hL)
  rw [hb] at hr0
  have hpl' := hid hpl
  have ho' := hid ho
  have hL0' := hid hL0
  have hv' := hid hv
  have hlp' := hid hlp
  clear hb ho hv hlp hp hpl hL0
  subst hc
  have hS' := hid hS
  have hJ' := hid hJ
  have hL' := hid hlv
  obtain ⟨sa, scap, rfl, _⟩ := hS
  obtain ⟨ja, jcap, rfl, _⟩ := hJ
  obtain ⟨la, lcap, rfl, _⟩ := hlv
  have hk := KeepT.start w (.slice sa M.setup.length scap) (.slice ja M.jobs.length jcap)
  go_enter_defers Try.func14, Try.ntmps14
  go_wp2
  generalize ((w.alloc (.cells #[.slice sa M.setup.length scap, .slice ja M.jobs.length jcap] 25)).alloc (.cells #[.int .i64 0] 29)) = w1 at hk ⊢
  have hQ : ∀ d v q (a : Act) w', (d = some 12 ∨ d = some 13 ∨ d = some 14 ∨ d = some 17 ∨ d = some 11 ∨ d = some 19 ∨ d = some 20 ∨ d = some 21 ∨ d = some 6 ∨ d = some 7 ∨ d = some 8) → Leaves Try.prog Try.f14 (a.put d v).tmps (fun e w' => ∃ v, e = .returned (.tuple #[v, .int .i64 0]) ∧ spanK.own w.heap.size w' v L ∧ Below w.heap.size w w') (a.put d v).defers (.panicking q) w' → Leaves Try.prog Try.f14 a.tmps (fun e w' => ∃ v, e = .returned (.tuple #[v, .int .i64 0]) ∧ spanK.own w.heap.size w' v L ∧ Below w.heap.size w w') a.defers (.panicking q) w' := by
    intro d v q a w' hd h
    rcases hd with rfl | rfl | rfl | rfl | rfl | rfl | rfl | rfl | rfl | rfl | rfl
    all_goals
      refine leaves_congr ?_ _ _ _ h
      simp [results, Try.results14, Act.put]
  refine wp_region_held (S := fun W => W.heap[w.heap.size]? = some (.cells #[.slice sa M.setup.length scap, .slice ja M.jobs.length jcap] 25 (0, 0))) (by kernel_rfl) ?_
  refine wpAnyH_take (i := 0) (v := .agg #[.slice sa M.setup.length scap, .slice ja M.jobs.length jcap]) rfl (by kernel_rfl) (by kernel_rfl) (by kernel_rfl) (fun c a w' h => hQ _ _ c a w' (.inl rfl) h) (Or.inl ⟨by rfl, ?_⟩) hk.m ?_
  · intro w' hw'
    obtain ⟨lm', cm'⟩ := cells_of hw'
    go_simp
  refine wpAnyH_take (i := 1) (v := .agg #[.slice sa M.setup.length scap, .slice ja M.jobs.length jcap]) rfl (by kernel_rfl) (by kernel_rfl) (by kernel_rfl) (fun c a w' h => hQ _ _ c a w' (.inr (.inl rfl)) h) (Or.inl ⟨by rfl, ?_⟩) hk.m ?_
  · intro w' hw'
    obtain ⟨lm', cm'⟩ := cells_of hw'
    go_simp
  refine wpAnyH_take (i := 2) (v := .slice la l.length lcap) rfl (by kernel_rfl) (by kernel_rfl) (by kernel_rfl) (fun c a w' h => hQ _ _ c a w' (.inr (.inr (.inl rfl))) h) (Or.inl ⟨by rfl, fun _ _ => by go_simp⟩) hk.m ?_
  refine wpAnyH_take (i := 5) (v := .slice la l.length lcap) rfl (by kernel_rfl) (by kernel_rfl) (by kernel_rfl) (fun c a w' h => hQ _ _ c a w' (.inr (.inr (.inr (.inl rfl)))) h) (Or.inl ⟨by rfl, fun _ _ => by go_simp⟩) hk.m ?_
  refine wpAnyH_all (rs := [3]) (by kernel_rfl) (by simp) ?_
  intro i hi
  obtain rfl : i = 3 := by simpa using hi
  unfold wpOp
  go_simp
  refine Or.inl ((isOrder_any _ _ _ _ rfl la l.length lcap rfl w1.drew).mono ?_)
  rintro e w2 ⟨rfl, hm2, hl2, hb2⟩
  have hk2 := hk.drew.below hb2
  refine ⟨hk2.m, ?_⟩
  refine wpAnyH_all (rs := [4]) (by kernel_rfl) (by simp) ?_
  intro i hi
  obtain rfl : i = 4 := by simpa using hi
  unfold wpOp
  go_simp
  refine Or.inl ((open_order hl (hS'.out.below hk2.bel) (hJ'.out.below hk2.bel) (hL'.out.below hk2.bel) hl2 hm2).mono ?_)
  intro e w3 hp2
  rw [ho'.out] at hp2
  obtain ⟨sb, he, _, hsc, hb3⟩ := openPost_yes hv'.out hp2
  subst he
  clear hp2
  have hk3 := hk2.below hb3
  refine ⟨hk3.m, ?_⟩
  refine wpAnyH_all (rs := [6]) (by kernel_rfl) (by simp) ?_
  intro i hi
  obtain rfl : i = 6 := by simpa using hi
  unfold wpOp
  go_simp
  refine Or.inl ((hr0.out sb w3 ⟨_, _, hsc, hS'.out.below hk3.bel, hJ'.out.below hk3.bel⟩ (by rw [← hlp'.out]; exact hL'.out.below hk3.bel)).mono ?_)
  rintro e w4 ⟨v, rfl, hown, hb4⟩
  have hk4 := hk3.below hb4
  refine ⟨hk4.m, ?_⟩
  refine wpAnyH_take (i := 7) (v := (.tuple #[v, .int .i64 n, .int .i64 r])) rfl (by kernel_rfl) (by kernel_rfl) (by kernel_rfl) (fun c a w' h => hQ _ _ c a w' (.inr (.inr (.inr (.inr (.inl rfl))))) h) (Or.inl ⟨by rfl, fun _ _ => by go_simp⟩) hk4.m ?_
  refine wpAnyH_take (i := 8) (v := v) rfl (by kernel_rfl) (by kernel_rfl) (by kernel_rfl) (fun c a w' h => hQ _ _ c a w' (.inr (.inr (.inr (.inr (.inr (.inl rfl)))))) h) (Or.inl ⟨by rfl, fun _ _ => by go_simp⟩) hk4.m ?_
  refine wpAnyH_take (i := 9) (v := .int .i64 n) rfl (by kernel_rfl) (by kernel_rfl) (by kernel_rfl) (fun c a w' h => hQ _ _ c a w' (.inr (.inr (.inr (.inr (.inr (.inr (.inl rfl))))))) h) (Or.inl ⟨by rfl, fun _ _ => by go_simp⟩) hk4.m ?_
  refine wpAnyH_take (i := 10) (v := .int .i64 r) rfl (by kernel_rfl) (by kernel_rfl) (by kernel_rfl) (fun c a w' h => hQ _ _ c a w' (.inr (.inr (.inr (.inr (.inr (.inr (.inr (.inl rfl)))))))) h) (Or.inl ⟨by rfl, fun _ _ => by go_simp⟩) hk4.m ?_
  refine wpAnyH_take (i := 11) (v := v) rfl (by kernel_rfl) (by kernel_rfl) (by kernel_rfl) (fun c a w' h => hQ _ _ c a w' (.inr (.inr (.inr (.inr (.inr (.inr (.inr (.inr (.inl rfl))))))))) h) (Or.inl ⟨by rfl, fun _ _ => by go_simp⟩) hk4.m ?_
  refine wpAnyH_take (i := 12) (v := .int .i64 n) rfl (by kernel_rfl) (by kernel_rfl) (by kernel_rfl) (fun c a w' h => hQ _ _ c a w' (.inr (.inr (.inr (.inr (.inr (.inr (.inr (.inr (.inr (.inl rfl)))))))))) h) (Or.inl ⟨by rfl, fun _ _ => by go_simp⟩) hk4.m ?_
  refine wpAnyH_take (i := 13) (v := .int .i64 r) rfl (by kernel_rfl) (by kernel_rfl) (by kernel_rfl) (fun c a w' h => hQ _ _ c a w' (.inr (.inr (.inr (.inr (.inr (.inr (.inr (.inr (.inr (.inr (rfl))))))))))) h) (Or.inl ⟨by rfl, fun _ _ => by go_simp⟩) hk4.m ?_
  refine wpAnyH_done (by kernel_rfl) ?_ _
  clear hQ
  obtain ⟨wa, wcap, rfl, hwr⟩ := hown.at
  have hwl : (worksL M Sit.begin p).length = p.length := worksL_length M p _
  rw [hwl]
  have hwr' := hid hwr
  have hown' := hid hown
  have hwl' := hid hwl
  clear hwr hown hwl
  have hk4' := hid hk4
  clear hk4
  go_simp
  go_wp2
  go_loopw [4, 10, 24] (fun v _ i wr => ∃ k : Nat, k ≤ p.length ∧ i = .int .i64 k ∧ spanK.own w4.heap.size wr v ((spansOf M p).take k) ∧ Below w4.heap.size w4 wr) (fun _ _ i _ => p.length - (intOf i).toNat)
  case atStart => exact ⟨0, by omega, rfl, spanK.own_nil _ _, Below.refl _ _⟩
  case round =>
    obtain ⟨k, hkk, rfl, hrow, hbr⟩ := hrel
    obtain ⟨hcr, hfr⟩ := bcell hbr
    by_cases hlt : k < p.length
    · obtain ⟨b1, bo, rfl, hc⟩ := hwr'.out (fun e => by have := hwl'.out; rw [e] at this; simp at this; omega)
      obtain ⟨x, hx⟩ : ∃ x, (worksL M Sit.begin p)[k]? = some x := ⟨_, List.getElem?_eq_getElem (by rw [hwl'.out]; exact hlt)⟩
      have hs : Hid ((spansOf M p).take (k + 1) = (spansOf M p).take k ++ [(x.1.2, x.1.1.late)]) := hid (by
        rw [List.take_add_one]
        unfold spansOf
        rw [List.getElem?_map, hx]; rfl)
      have hc0 := hc k x hx 0 _ rfl
      have hc1 := hc k x hx 1 _ rfl
      have hc2 := hc k x hx 2 _ rfl
      have hc3 := hc k x hx 3 _ rfl
      have hc4 := hc k x hx 4 _ rfl
      have lb1 := cell_lt hc0
      clear hc hx
      simp only [workK, Nat.add_zero] at hc0 hc1 hc2 hc3 hc4
      have lb2 := Nat.lt_of_lt_of_le lb1 hbr.size
      have hki : (k : Int) < (p.length : Int) := by omega
      have hpl6 := hpl'.out
      have hrow' := hid hrow
      have hbr' := hid hbr
      clear hrow hbr
      go_upto_region 6 with fail
      have hbx := alloc_at (w := wr) (o := .cells #[.int .u64 x.1.1.done, .int .i64 x.1.1.kind, .int .i64 x.1.1.late, .int .i64 x.1.2, .int .i64 x.2] 74) rfl
      have hb5 := below_alloc (Below.refl _ wr) (.cells #[.int .u64 x.1.1.done, .int .i64 x.1.1.kind, .int .i64 x.1.1.late, .int .i64 x.1.2, .int .i64 x.2] 74)
      generalize wr.alloc (.cells #[.int .u64 x.1.1.done, .int .i64 x.1.1.kind, .int .i64 x.1.1.late, .int .i64 x.1.2, .int .i64 x.2] 74) = w5 at hbx hb5 ⊢
      obtain ⟨lbx, cbx⟩ := cells_of hbx
      have hbr5 := hid (below_via hb5 hbr'.out)
      clear hc0 hc1 hc2 hc3 hc4 hcr hfr
      go_wp2_with (at_builtin; refine wpList_append_row spanK rfl _ _ rfl w4.heap.size u4 ((spansOf M p).take k) [(x.1.2, x.1.1.late)] rfl (hrow'.out.below (below_alloc hb5 _)) w5.heap.size 0 1 1 rfl rfl (row_one spanK w5 (x.1.2, x.1.1.late) _ _ rfl) (by have := hpl'.out; rw [List.length_take, List.length_singleton]; omega) (by have := hbr5.out.size; simp; omega) ?_; intro v' w6 hown6 hb6 _; rw [← hs.out] at hown6)
      go_roundw
      case rel => exact ⟨k + 1, by omega, by go_num, hown6, below_low hb6 (below_alloc hbr5.out _) (Nat.le_refl _)⟩
      case measure => simp [intOf]; omega
    · obtain rfl : k = p.length := by omega
      have hk9 := hk4'.out.below hbr
      obtain ⟨l7, c7⟩ := cells_of hk9.e
      have z7 := free_of hk9.e
      have hfr := (hrow.set (u := .int .i64 0) (o := 0) (b := w.heap.size + 1) (cells_of hk4'.out.e).1).low hk4'.out.bel.size
      rw [List.take_of_length_le (by simp [spansOf, worksL_length]), ← hL0'.out] at hfr
      go_wp2
      refine leaves_cons (f := 46) (args := #[.pointer (some ⟨w.heap.size + 1, 0, none⟩)]) (by simp) (by simp [go_sem]) ?_
      refine (told_idle ⟨w.heap.size + 1, 0, none⟩ _).mono ?_
      rintro e u' w'' ⟨rfl, rfl, rfl⟩
      have hfin : Below w.heap.size w (wr.setCell ⟨w.heap.size + 1, 0, none⟩ (.int .i64 0)) := below_set hk9.bel _ (by simp)
      simp [Leaves, settle, results, Try.results14, go_sem, c7, hfin]
      exact hfr

theorem Times_any (M : Mend) (sv jv lv : Value) (l : List Int) (hl : l.length ≤ 1000) (w : World) (hS : IntsAt w sv M.setup) (hJ : JobsAt w jv M.jobs) (hlv : IntsAt w lv l) : Calls Try.prog 14 #[.agg #[sv, jv], lv] w fun e w' => ∃ v, e = .returned (.tuple #[v, .int .i64 (timesOf M l).2]) ∧ spanK.own w.heap.size w' v (timesOf M l).1 ∧ Below w.heap.size w w' := by
  unfold timesOf
  cases hv : M.valid
  · exact Times_panics M 1 [] rfl sv jv lv l hl w hS hJ hlv (.inl ⟨hv, rfl⟩)
  · cases ho : ordB M.jobs.length l
    · exact Times_panics M 2 [] rfl sv jv lv l hl w hS hJ hlv (.inr ⟨hv, ho, rfl⟩)
    · obtain ⟨p, rfl, _⟩ := ordB_ints.1 ho
      rw [ints_toNat]
      exact Times_fine M p _ _ 0 rfl rfl _ rfl sv jv lv (ints p) hl w hS hJ hlv hv rfl ho

end Go.Proofs.Ytcgkglonnmkfcaa
