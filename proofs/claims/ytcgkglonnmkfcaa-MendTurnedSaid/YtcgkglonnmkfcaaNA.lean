/- The walk of 'Slack' of package mend. -/
import Derived.Test.YtcgkglonnmkfcaaN9
namespace Go.Proofs.Ytcgkglonnmkfcaa
open Go.RowKit Go.Lap Go.Shelf

/-- How far something goes on, at most so far. -/
def slackFrom (f : Nat → Bool) : Nat → Nat → Nat
  | 0, k => k
  | n + 1, k => if f (k + 1) then slackFrom f n (k + 1) else k
/-- Is an order right if each job takes longer? -/
def longB (M : Mend) (p : List Nat) (k : Nat) : Bool := decide ((badOf (M.longer k) 0 p).2 = 0)
/-- What 'Slack' tells. -/
def slackOf (M : Mend) (l : List Int) : Int × Int :=
  if M.valid then if ordB M.jobs.length l then if longB M (l.map Int.toNat) 0 then ((slackFrom (longB M (l.map Int.toNat)) 30 0 : Nat), 0) else (0, 4) else (0, 2) else (0, 1)

set_option maxRecDepth 100000 in
set_option maxHeartbeats 2000000 in
theorem Slack_panics (M : Mend) (c n : Int) (hn : n = 0) (sv jv lv : Value) (l : List Int) (hl : l.length ≤ 1000) (w : World) (hS : IntsAt w sv M.setup) (hJ : JobsAt w jv M.jobs) (hlv : IntsAt w lv l) (hc : PanicsW M l c) :
    Calls Try.prog 18 #[.agg #[sv, jv], lv] w fun e w' => e = .returned (.tuple #[.int .i64 n, .int .i64 c]) ∧ Below w.heap.size w w' := by
  subst hn
  have hS' := hid hS
  have hJ' := hid hJ
  have hL' := hid hlv
  obtain ⟨sa, scap, rfl, _⟩ := hS
  obtain ⟨ja, jcap, rfl, _⟩ := hJ
  obtain ⟨la, lcap, rfl, _⟩ := hlv
  have hk := KeepT.start w (.slice sa M.setup.length scap) (.slice ja M.jobs.length jcap)
  go_enter_defers Try.func18, Try.ntmps18
  go_wp2
  generalize ((w.alloc (.cells #[.slice sa M.setup.length scap, .slice ja M.jobs.length jcap] 25)).alloc (.cells #[.int .i64 0] 29)) = w1 at hk ⊢
  have hQ : ∀ d v q (a : Act) w', (d = some 9 ∨ d = some 10 ∨ d = some 11) → Leaves Try.prog Try.f18 (a.put d v).tmps (fun e w' => e = .returned (.tuple #[.int .i64 0, .int .i64 c]) ∧ Below w.heap.size w w') (a.put d v).defers (.panicking q) w' → Leaves Try.prog Try.f18 a.tmps (fun e w' => e = .returned (.tuple #[.int .i64 0, .int .i64 c]) ∧ Below w.heap.size w w') a.defers (.panicking q) w' := by
    intro d v q a w' hd h
    rcases hd with rfl | rfl | rfl
    all_goals
      refine leaves_congr ?_ _ _ _ h
      simp [results, Try.results18, Act.put]
  refine wp_region_held (S := fun W => W.heap[w.heap.size]? = some (.cells #[.slice sa M.setup.length scap, .slice ja M.jobs.length jcap] 25 (0, 0))) (by kernel_rfl) ?_
  refine wpAnyH_take (i := 0) (v := .agg #[.slice sa M.setup.length scap, .slice ja M.jobs.length jcap]) rfl (by kernel_rfl) (by kernel_rfl) (by kernel_rfl) (fun c a w' h => hQ _ _ c a w' (.inl rfl) h) (Or.inl ⟨by rfl, ?_⟩) hk.m ?_
  · intro w' hw'
    obtain ⟨lm', cm'⟩ := cells_of hw'
    go_simp
  refine wpAnyH_take (i := 1) (v := .agg #[.slice sa M.setup.length scap, .slice ja M.jobs.length jcap]) rfl (by kernel_rfl) (by kernel_rfl) (by kernel_rfl) (fun c a w' h => hQ _ _ c a w' (.inr (.inl rfl)) h) (Or.inl ⟨by rfl, ?_⟩) hk.m ?_
  · intro w' hw'
    obtain ⟨lm', cm'⟩ := cells_of hw'
    go_simp
  refine wpAnyH_take (i := 2) (v := .slice la l.length lcap) rfl (by kernel_rfl) (by kernel_rfl) (by kernel_rfl) (fun c a w' h => hQ _ _ c a w' (.inr (.inr (rfl))) h) (Or.inl ⟨by rfl, fun _ _ => by go_simp⟩) hk.m ?_
  refine wpAnyH_all (rs := [3]) (by kernel_rfl) (by simp) ?_
  intro i hi
  obtain rfl : i = 3 := by simpa using hi
  unfold wpOp
  go_simp
  refine Or.inl ((isOrder_any _ _ _ _ rfl la l.length lcap rfl w1.drew).mono ?_)
  rintro e w2 ⟨rfl, hm2, hl2, hb2⟩
  have hk2 := hk.drew.below hb2
  refine ⟨hk2.m, ?_⟩
  refine wpAnyH_all (rs := [4]) (by kernel_rfl) (by simp) ?_
  intro i hi
  obtain rfl : i = 4 := by simpa using hi
  unfold wpOp
  go_simp
  refine Or.inl ((open_order hl (hS'.out.below hk2.bel) (hJ'.out.below hk2.bel) (hL'.out.below hk2.bel) hl2 hm2).mono ?_)
  intro e w3 hp
  obtain ⟨he, hb3⟩ := openPost_panics hc hp
  subst he
  have hk3 := hk2.below hb3
  obtain ⟨l7, c7⟩ := cells_of hk3.e
  have z7 := free_of hk3.e
  refine leaves_cons (f := 46) (args := #[.pointer (some ⟨w.heap.size + 1, 0, none⟩)]) (by simp) (by simp [go_sem]) ?_
  refine (told_panicking (w.heap.size + 1) c 0 _ l7 (by rw [c7]; rfl) (z7 0)).mono ?_
  rintro e u' w'' ⟨rfl, rfl, rfl⟩
  have hfin : Below w.heap.size w ((w3.setCell ⟨w.heap.size + 1, 0, none⟩ (.int .i64 c)).alloc (.cells #[.int .i64 c] 107)) := below_alloc (below_set hk3.bel _ (by simp)) _
  simp [Leaves, settle, results, Try.results18, go_sem, c7, hfin, l7]

set_option maxRecDepth 100000 in
set_option maxHeartbeats 2000000 in
theorem Slack_fine (M : Mend) (p : List Nat) (f : Nat → Bool) (hf : longB M p = f) (n c : Int) (hc : (n, c) = if f 0 then (((slackFrom f 30 0 : Nat) : Int), 0) else (0, 4)) (sv jv lv : Value) (l : List Int) (hl : l.length ≤ 1000) (w : World) (hS : IntsAt w sv M.setup) (hJ : JobsAt w jv M.jobs) (hlv : IntsAt w lv l) (hv : M.valid = true) (hlp : l = ints p) (ho : ordB M.jobs.length l = true) :
    Calls Try.prog 18 #[.agg #[sv, jv], lv] w fun e w' => e = .returned (.tuple #[.int .i64 n, .int .i64 c]) ∧ Below w.heap.size w w' := by
  have hp := fun i hi => ord_lt ho hlp (i := i) hi
  have hpl : p.length ≤ 50 := by have h1 := ord_len ho; have := (Mend.valid_ok hv).len; rw [hlp] at h1; simp [ints] at h1; omega
  have hlo0 : ∀ k : Int, 0 ≤ k → k ≤ 40 → ∀ w, IntsAt w sv M.setup → JobsAt w jv M.jobs → IntsAt w lv l → Calls Try.prog 54 #[.agg #[sv, jv, .int .u64 0], lv, .int .i64 k] w fun e w' => e = .returned (.bool (f k.toNat)) ∧ Below w.heap.size w w' := by
    intro k hk0 hk1 w hS hJ hL
    have := longer_any M hv k hk0 (by omega) sv jv lv p hp hpl w hS hJ (by rw [← hlp]; exact hL)
    rw [← hf, longB, show ((k.toNat : Nat) : Int) = k by omega]
    exact this
  have hlo := hid hlo0
  have ho' := hid ho
  have hv' := hid hv
  have hc' := hid hc
  clear hlo0 ho hv hlp hp hpl hf hc
  have hS' := hid hS
  have hJ' := hid hJ
  have hL' := hid hlv
  obtain ⟨sa, scap, rfl, _⟩ := hS
  obtain ⟨ja, jcap, rfl, _⟩ := hJ
  obtain ⟨la, lcap, rfl, _⟩ := hlv
  have hk := KeepT.start w (.slice sa M.setup.length scap) (.slice ja M.jobs.length jcap)
  go_enter_defers Try.func18, Try.ntmps18
  go_wp2
  generalize ((w.alloc (.cells #[.slice sa M.setup.length scap, .slice ja M.jobs.length jcap] 25)).alloc (.cells #[.int .i64 0] 29)) = w1 at hk ⊢
  have hQ : ∀ d v q (a : Act) w', (d = some 9 ∨ d = some 10 ∨ d = some 11 ∨ d = some 6) → Leaves Try.prog Try.f18 (a.put d v).tmps (fun e w' => e = .returned (.tuple #[.int .i64 n, .int .i64 c]) ∧ Below w.heap.size w w') (a.put d v).defers (.panicking q) w' → Leaves Try.prog Try.f18 a.tmps (fun e w' => e = .returned (.tuple #[.int .i64 n, .int .i64 c]) ∧ Below w.heap.size w w') a.defers (.panicking q) w' := by
    intro d v q a w' hd h
    rcases hd with rfl | rfl | rfl | rfl
    all_goals
      refine leaves_congr ?_ _ _ _ h
      simp [results, Try.results18, Act.put]
  refine wp_region_held (S := fun W => W.heap[w.heap.size]? = some (.cells #[.slice sa M.setup.length scap, .slice ja M.jobs.length jcap] 25 (0, 0))) (by kernel_rfl) ?_
  refine wpAnyH_take (i := 0) (v := .agg #[.slice sa M.setup.length scap, .slice ja M.jobs.length jcap]) rfl (by kernel_rfl) (by kernel_rfl) (by kernel_rfl) (fun c a w' h => hQ _ _ c a w' (.inl rfl) h) (Or.inl ⟨by rfl, ?_⟩) hk.m ?_
  · intro w' hw'
    obtain ⟨lm', cm'⟩ := cells_of hw'
    go_simp
  refine wpAnyH_take (i := 1) (v := .agg #[.slice sa M.setup.length scap, .slice ja M.jobs.length jcap]) rfl (by kernel_rfl) (by kernel_rfl) (by kernel_rfl) (fun c a w' h => hQ _ _ c a w' (.inr (.inl rfl)) h) (Or.inl ⟨by rfl, ?_⟩) hk.m ?_
  · intro w' hw'
    obtain ⟨lm', cm'⟩ := cells_of hw'
    go_simp
  refine wpAnyH_take (i := 2) (v := .slice la l.length lcap) rfl (by kernel_rfl) (by kernel_rfl) (by kernel_rfl) (fun c a w' h => hQ _ _ c a w' (.inr (.inr (.inl rfl))) h) (Or.inl ⟨by rfl, fun _ _ => by go_simp⟩) hk.m ?_
  refine wpAnyH_all (rs := [3]) (by kernel_rfl) (by simp) ?_
  intro i hi
  obtain rfl : i = 3 := by simpa using hi
  unfold wpOp
  go_simp
  refine Or.inl ((isOrder_any _ _ _ _ rfl la l.length lcap rfl w1.drew).mono ?_)
  rintro e w2 ⟨rfl, hm2, hl2, hb2⟩
  have hk2 := hk.drew.below hb2
  refine ⟨hk2.m, ?_⟩
  refine wpAnyH_all (rs := [4]) (by kernel_rfl) (by simp) ?_
  intro i hi
  obtain rfl : i = 4 := by simpa using hi
  unfold wpOp
  go_simp
  refine Or.inl ((open_order hl (hS'.out.below hk2.bel) (hJ'.out.below hk2.bel) (hL'.out.below hk2.bel) hl2 hm2).mono ?_)
  intro e w3 hp2
  rw [ho'.out] at hp2
  obtain ⟨sb, he, _, hsc, hb3⟩ := openPost_yes hv'.out hp2
  subst he
  clear hp2
  have hk3 := hk2.below hb3
  refine ⟨hk3.m, ?_⟩
  refine wpAnyH_take (i := 5) (v := .pointer (some ⟨sb, 0, none⟩)) rfl (by kernel_rfl) (by kernel_rfl) (by kernel_rfl) (fun c a w' h => hQ _ _ c a w' (.inr (.inr (.inr (rfl)))) h) (Or.inl ⟨by rfl, fun _ _ => by go_simp⟩) hk3.m ?_
  refine wpAnyH_done (by kernel_rfl) ?_ _
  clear hQ
  obtain ⟨lsb, csb⟩ := cells_of hsc
  cases hf0 : f 0
  · have hf0' := hid hf0
    have hlo0 := hid (hlo.out 0 (by omega) (by omega))
    rw [show f (0 : Int).toNat = f 0 from rfl, hf0] at hlo0
    rw [hf0] at hc'
    have hcc := hc'.out
    simp only [Bool.false_eq_true, if_false, Prod.mk.injEq] at hcc
    obtain ⟨rfl, rfl⟩ := hcc
    clear hf0
    go_simp
    go_wp2_with (first | (go_at_call 54; go_loud (with_reducible refine (hlo0.out _ (hS'.out.below hk3.bel) (hJ'.out.below hk3.bel) (hL'.out.below hk3.bel)).mono ?_; rintro e w4 ⟨rfl, hb4⟩)) | (go_at_call 52; with_reducible refine (must_no _ _).mono ?_; rintro e w' ⟨rfl, rfl⟩))
    have hk4 := hk3.below hb4
    obtain ⟨l7, c7⟩ := cells_of hk4.e
    have z7 := free_of hk4.e
    refine leaves_cons (f := 46) (args := #[.pointer (some ⟨w.heap.size + 1, 0, none⟩)]) (by simp) (by simp [go_sem]) ?_
    refine (told_panicking (w.heap.size + 1) 4 0 _ l7 (by rw [c7]; rfl) (z7 0)).mono ?_
    rintro e u' w'' ⟨rfl, rfl, rfl⟩
    have hfin : Below w.heap.size w ((w4.setCell ⟨w.heap.size + 1, 0, none⟩ (.int .i64 4)).alloc (.cells #[.int .i64 4] 107)) := below_alloc (below_set hk4.bel _ (by simp)) _
    simp [Leaves, settle, results, Try.results18, go_sem, c7, hfin, l7]
  · have hf0' := hid hf0
    have hlo0 := hid (hlo.out 0 (by omega) (by omega))
    rw [show f (0 : Int).toNat = f 0 from rfl, hf0] at hlo0
    rw [hf0] at hc'
    have hcc := hc'.out
    simp only [if_true, Prod.mk.injEq] at hcc
    obtain ⟨hn, rfl⟩ := hcc
    have hn' := hid hn
    clear hf0 hn hc'
    go_simp
    go_wp2_with (first | (go_at_call 54; with_reducible refine (hlo0.out _ (hS'.out.below hk3.bel) (hJ'.out.below hk3.bel) (hL'.out.below hk3.bel)).mono ?_; rintro e w4 ⟨rfl, hb4⟩) | (go_at_call 52; with_reducible refine (must_yes _ _).mono ?_; rintro e w' ⟨rfl, rfl⟩))
    have hk4 := hk3.below hb4
    have hk4' := hid hk4
    clear hk4
    go_loopw [8] (fun m wr => ∃ k : Nat, k ≤ 30 ∧ m = .int .i64 k ∧ Hid (slackFrom f 30 0 = slackFrom f (30 - k) k) ∧ KeepT w (.slice sa M.setup.length scap) (.slice ja M.jobs.length jcap) wr) (fun m _ => 30 - (intOf m).toNat)
    case atStart => exact ⟨0, by omega, rfl, hid rfl, hk4'.out⟩
    case round =>
      obtain ⟨k, hkk, rfl, hsl, hk⟩ := hrel
      obtain ⟨l7, c7⟩ := cells_of hk.e
      have z7 := free_of hk.e
      by_cases hlt : k < 30
      · have hki : (k : Int) < 30 := by omega
        have hsl2 : Hid (slackFrom f (30 - k) k = if f (k + 1) then slackFrom f (30 - (k + 1)) (k + 1) else k) := hid (by rw [show 30 - k = (30 - (k + 1)) + 1 by omega, slackFrom])
        cases hfk : f (k + 1)
        all_goals
          have hfk' := hid hfk
          rw [hfk] at hsl2
          have hlok := hid (hlo.out ((k : Int) + 1) (by omega) (by omega))
          rw [show f ((k : Int) + 1).toNat = f (k + 1) by rw [show ((k : Int) + 1).toNat = k + 1 by omega], hfk] at hlok
          clear hfk
          go_wp2_with (go_at_call 54; with_reducible refine (hlok.out _ (hS'.out.below hk.bel) (hJ'.out.below hk.bel) (hL'.out.below hk.bel)).mono ?_; rintro e w6 ⟨rfl, hb6⟩; have hk6 := hk.below hb6; obtain ⟨l6, c6⟩ := cells_of hk6.e; have z6 := free_of hk6.e)
        · have hnk : n = k := by rw [hn'.out, hsl.out, hsl2.out]; simp
          refine leaves_cons (f := 46) (args := #[.pointer (some ⟨w.heap.size + 1, 0, none⟩)]) (by simp) (by simp [go_sem]) ?_
          refine (told_idle ⟨w.heap.size + 1, 0, none⟩ _).mono ?_
          rintro e u' w'' ⟨rfl, rfl, rfl⟩
          have hfin : Below w.heap.size w (w6.setCell ⟨w.heap.size + 1, 0, none⟩ (.int .i64 0)) := below_set hk6.bel _ (by simp)
          simp [Leaves, settle, results, Try.results18, go_sem, c6, hfin, hnk]
        · go_roundw
          case rel => exact ⟨k + 1, by omega, by go_num, hid (by rw [hsl.out, hsl2.out]; simp), hk6⟩
          case measure => simp [intOf]; omega
      · obtain rfl : k = 30 := by omega
        have hsl3 : slackFrom f (30 - 30) 30 = 30 := rfl
        go_wp2
        have hnk : n = (30 : Nat) := by rw [hn'.out, hsl.out, hsl3]
        refine leaves_cons (f := 46) (args := #[.pointer (some ⟨w.heap.size + 1, 0, none⟩)]) (by simp) (by simp [go_sem]) ?_
        refine (told_idle ⟨w.heap.size + 1, 0, none⟩ _).mono ?_
        rintro e u' w'' ⟨rfl, rfl, rfl⟩
        have hfin : Below w.heap.size w (wr.setCell ⟨w.heap.size + 1, 0, none⟩ (.int .i64 0)) := below_set hk.bel _ (by simp)
        simp [Leaves, settle, results, Try.results18, go_sem, c7, hfin, hnk]

theorem Slack_any (M : Mend) (sv jv lv : Value) (l : List Int) (hl : l.length ≤ 1000) (w : World) (hS : IntsAt w sv M.setup) (hJ : JobsAt w jv M.jobs) (hlv : IntsAt w lv l) : Calls Try.prog 18 #[.agg #[sv, jv], lv] w fun e w' => e = .returned (.tuple #[.int .i64 (slackOf M l).1, .int .i64 (slackOf M l).2]) ∧ Below w.heap.size w w' := by
  unfold slackOf
  cases hv : M.valid
  · exact Slack_panics M 1 0 rfl sv jv lv l hl w hS hJ hlv (.inl ⟨hv, rfl⟩)
  · cases ho : ordB M.jobs.length l
    · exact Slack_panics M 2 0 rfl sv jv lv l hl w hS hJ hlv (.inr ⟨hv, ho, rfl⟩)
    · obtain ⟨p, rfl, _⟩ := ordB_ints.1 ho
      rw [ints_toNat]
      simp only [if_true]
      cases hf : longB M p 0
      · exact Slack_fine M p _ rfl 0 4 (by rw [hf]; rfl) sv jv lv (ints p) hl w hS hJ hlv hv rfl ho
      · exact Slack_fine M p _ rfl _ 0 (by rw [hf]; rfl) sv jv lv (ints p) hl w hS hJ hlv hv rfl ho

end Go.Proofs.Ytcgkglonnmkfcaa
