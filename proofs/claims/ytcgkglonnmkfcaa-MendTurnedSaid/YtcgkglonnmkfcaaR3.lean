/- The walk of 'awake'. -/
import Derived.Test.YtcgkglonnmkfcaaR2
import Derived.Test.YtcgkglonnmkfcaaHF
import Derived.Test.YtcgkglonnmkfcaaHD
import Derived.Test.YtcgkglonnmkfcaaNA
namespace Go.Proofs.Ytcgkglonnmkfcaa
open Go.RowKit Go.Lap Go.Shelf

/-- The document's sample. -/
def sampleM (n : Int) : Mend := ⟨[2, 3], [⟨0, 3, 4, 0, 8, 10, 2, 0⟩, ⟨1, 2, 3, 0, 9, n, 1, 1⟩, ⟨0, 1, 2, 4, 7, 15, 3, 0⟩]⟩

theorem rows_fresh {P : Program} {α : Type} (K : RowKind P α) (X : World) (xs : List α) (c : Array Value) (e : TypeId) (hc : c = (xs.flatMap K.enc).toArray) (n : Nat) (hn : n = xs.length) : K.at (X.alloc (.cells c e)) (.slice (some ⟨X.heap.size, 0, none⟩) n n) xs := by
  subst hc hn
  refine ⟨_, _, rfl, fun _ => ⟨X.heap.size, 0, rfl, fun k x hk f u hu => ?_⟩⟩
  rw [Nat.zero_add, (cells_of (alloc_at (w := X) (n := X.heap.size) rfl)).2]
  simpa using flat_get K xs k x hk f u hu
theorem IntsAt.fresh (X : World) (xs : List Int) (n : Nat) (hn : n = xs.length) (c : Array Value) (hc : c = intsV xs) : IntsAt (X.alloc (.cells c 3)) (.slice (some ⟨X.heap.size, 0, Option.none⟩) n n) xs := by
  subst hn hc
  exact NewList.at (B := X.heap.size) (.inr ⟨X.heap.size, Nat.le_refl _, rfl, alloc_at rfl⟩)

set_option maxRecDepth 100000 in
set_option maxHeartbeats 2000000 in
theorem sample_any (n : Int) (w : World) : Calls Try.prog 45 #[.int .i64 n] w fun e w' => ∃ sa ja, e = .returned (.agg #[.slice sa 2 2, .slice ja 3 3]) ∧ IntsAt w' (.slice sa 2 2) (sampleM n).setup ∧ JobsAt w' (.slice ja 3 3) (sampleM n).jobs ∧ Below w.heap.size w w' := by
  have hX := below_alloc (below_alloc (Below.refl w.heap.size w) (.cells #[.slice none 0 0, .slice none 0 0] 25)) (.cells #[.int .i64 2, .int .i64 3] 3)
  have hm0 : ((w.alloc (.cells #[.slice none 0 0, .slice none 0 0] 25)).alloc (.cells #[.int .i64 2, .int .i64 3] 3)).heap[w.heap.size]? = some (.cells #[.slice none 0 0, .slice none 0 0] 25 (0, 0)) := alloc_old (by simp) (alloc_at rfl)
  have hI0 : ((w.alloc (.cells #[.slice none 0 0, .slice none 0 0] 25)).alloc (.cells #[.int .i64 2, .int .i64 3] 3)).heap[w.heap.size + 1]? = some (.cells #[.int .i64 2, .int .i64 3] 3 (0, 0)) := alloc_at (by simp)
  go_enter Try.func45, Try.ntmps45
  go_wp2_with (first
    | (go_at_call 36; with_reducible refine (span_any 3 4 _).mono ?_; rintro e w1 ⟨rfl, hb1⟩; have hm1 := (hb1.block _ (heap_lt hm0)).trans hm0; have hI1 := (hb1.block _ (heap_lt hI0)).trans hI0; have hbw1 := below_via hb1 hX)
    | (go_at_call 36; with_reducible refine (span_any 2 3 _).mono ?_; rintro e w2 ⟨rfl, hb2⟩; have hm2 := (hb2.block _ (heap_lt hm1)).trans hm1; have hI2 := (hb2.block _ (heap_lt hI1)).trans hI1; have hbw2 := below_via hb2 hbw1)
    | (go_at_call 36; with_reducible refine (span_any 1 2 _).mono ?_; rintro e w3 ⟨rfl, hb3⟩; have hm3 := (hb3.block _ (heap_lt hm2)).trans hm2; have hI3 := (hb3.block _ (heap_lt hI2)).trans hI2; have hbw3 := below_via hb3 hbw2; obtain ⟨lm, cm⟩ := cells_of hm3; have zm := free_of hm3))
  have hz := alloc_old (o := (.cells #[.int .i64 0, .int .i64 3, .int .i64 4, .int .i64 0, .int .i64 8, .int .i64 10, .int .i64 2, .int .i64 0, .int .i64 1, .int .i64 2, .int .i64 3, .int .i64 0, .int .i64 9, .int .i64 n, .int .i64 1, .int .i64 1, .int .i64 0, .int .i64 1, .int .i64 2, .int .i64 4, .int .i64 7, .int .i64 15, .int .i64 3, .int .i64 0] 48)) (by simpa using lm) (heap_set_same (o := 1) (v := .slice (some ⟨w3.heap.size, 0, none⟩) 3 3) (heap_set_same (o := 0) (v := .slice (some ⟨w.heap.size + 1, 0, none⟩) 2 2) hm3))
  have hJ9 := alloc_at (w := (w3.setCell ⟨w.heap.size, 0, none⟩ (.slice (some ⟨w.heap.size + 1, 0, none⟩) 2 2)).setCell ⟨w.heap.size, 1, none⟩ (.slice (some ⟨w3.heap.size, 0, none⟩) 3 3)) (o := (.cells #[.int .i64 0, .int .i64 3, .int .i64 4, .int .i64 0, .int .i64 8, .int .i64 10, .int .i64 2, .int .i64 0, .int .i64 1, .int .i64 2, .int .i64 3, .int .i64 0, .int .i64 9, .int .i64 n, .int .i64 1, .int .i64 1, .int .i64 0, .int .i64 1, .int .i64 2, .int .i64 4, .int .i64 7, .int .i64 15, .int .i64 3, .int .i64 0] 48)) (n := w3.heap.size) (by simp)
  have hI9 := alloc_old (o := (.cells #[.int .i64 0, .int .i64 3, .int .i64 4, .int .i64 0, .int .i64 8, .int .i64 10, .int .i64 2, .int .i64 0, .int .i64 1, .int .i64 2, .int .i64 3, .int .i64 0, .int .i64 9, .int .i64 n, .int .i64 1, .int .i64 1, .int .i64 0, .int .i64 1, .int .i64 2, .int .i64 4, .int .i64 7, .int .i64 15, .int .i64 3, .int .i64 0] 48)) (by have := heap_lt hI3; simpa using this) ((Below.heap_setCell (w3.setCell ⟨w.heap.size, 0, none⟩ (.slice (some ⟨w.heap.size + 1, 0, none⟩) 2 2)) ⟨w.heap.size, 1, none⟩ (.slice (some ⟨w3.heap.size, 0, none⟩) 3 3) _ (by simp)).trans ((Below.heap_setCell w3 ⟨w.heap.size, 0, none⟩ (.slice (some ⟨w.heap.size + 1, 0, none⟩) 2 2) _ (by simp)).trans hI3))
  have hbz := below_alloc (below_set (below_set hbw3 (.slice (some ⟨w.heap.size + 1, 0, none⟩) 2 2) (p := ⟨w.heap.size, 0, none⟩) (Nat.le_refl _)) (.slice (some ⟨w3.heap.size, 0, none⟩) 3 3) (p := ⟨w.heap.size, 1, none⟩) (Nat.le_refl _)) (.cells #[.int .i64 0, .int .i64 3, .int .i64 4, .int .i64 0, .int .i64 8, .int .i64 10, .int .i64 2, .int .i64 0, .int .i64 1, .int .i64 2, .int .i64 3, .int .i64 0, .int .i64 9, .int .i64 n, .int .i64 1, .int .i64 1, .int .i64 0, .int .i64 1, .int .i64 2, .int .i64 4, .int .i64 7, .int .i64 15, .int .i64 3, .int .i64 0] 48)
  have cz := (cells_of hz).2
  refine bodyPost_ret (v := .agg #[.slice (some ⟨w.heap.size + 1, 0, none⟩) 2 2, .slice (some ⟨w3.heap.size, 0, none⟩) 3 3]) (by simp [results, Try.results45, go_sem, cz]) rfl ⟨_, _, rfl, ?_, ?_, hbz⟩
  · exact NewList.at (B := 0) (xs := [2, 3]) (.inr ⟨_, Nat.zero_le _, rfl, hI9⟩)
  · refine jobs_at.2 ⟨_, _, rfl, fun _ => ⟨_, 0, rfl, fun k x hk f u hu => ?_⟩⟩
    rw [Nat.zero_add, (cells_of hJ9).2]
    have h2 := flat_get jobK _ k x hk f u hu
    simpa [sampleM, jobK] using h2

/-- What lies in memory while 'awake' runs. -/
structure KeepA (w : World) (b : Nat) (sa ja : Option Addr) (W : World) : Prop where
  bel : Below w.heap.size w W
  m : W.heap[b]? = some (.cells #[.slice sa 2 2, .slice ja 3 3] 25 (0, 0))
  s : IntsAt W (.slice sa 2 2) (sampleM 20).setup
  j : JobsAt W (.slice ja 3 3) (sampleM 20).jobs
theorem KeepA.below {w : World} {b : Nat} {sa ja : Option Addr} {W W' : World} (h : KeepA w b sa ja W) (hb : Below W.heap.size W W') : KeepA w b sa ja W' :=
  ⟨below_via hb h.bel, (hb.block b (heap_lt h.m)).trans h.m, h.s.below hb, h.j.below hb⟩
theorem t1 : timesOf (sampleM 20) [2, 0, 1] = ([(5, 6), (8, 10), (13, 16)], 0) := by kernel_rfl
theorem t2 : checkOf (sampleM 20) [0, 1, 2] = (2, 2, 0) := by kernel_rfl
theorem t3 : slackOf (sampleM 20) [0, 2, 1] = (2, 0) := by kernel_rfl
theorem t4 : countOf (sampleM 20) = (2, 0) := by kernel_rfl
theorem t5 : firstOf (sampleM 20) = (5, 0) := by kernel_rfl
theorem t6 : bestOf (sampleM 20) = (8, [0, 2, 1], 0) := by kernel_rfl
theorem t7 : untilOf (sampleM 20) = (14, 0) := by kernel_rfl
theorem t8 : dropOf (sampleM 13) = (1, 0) := by kernel_rfl

section
variable {w W : World} {b : Nat} {sa ja : Option Addr}
theorem aw_times (hk : KeepA w b sa ja W) : Calls Try.prog 14 #[.agg #[.slice sa 2 2, .slice ja 3 3], .slice (some ⟨W.heap.size, 0, none⟩) 3 3] (W.alloc (.cells #[.int .i64 2, .int .i64 0, .int .i64 1] 3)) fun e w' => ∃ v, e = .returned (.tuple #[v, .int .i64 0]) ∧ spanK.at w' v [(5, 6), (8, 10), (13, 16)] ∧ KeepA w b sa ja w' := by
  have hk1 := hk.below (below_alloc (Below.refl _ W) (.cells #[.int .i64 2, .int .i64 0, .int .i64 1] 3))
  have h := Times_any (sampleM 20) _ _ _ [2, 0, 1] (by simp) _ hk1.s hk1.j (IntsAt.fresh W [2, 0, 1] 3 rfl _ rfl)
  rw [t1] at h
  exact h.mono fun e w' ⟨v, h1, h2, h3⟩ => ⟨v, h1, h2.at, hk1.below h3⟩
theorem aw_check (hk : KeepA w b sa ja W) : Calls Try.prog 16 #[.agg #[.slice sa 2 2, .slice ja 3 3], .slice (some ⟨W.heap.size, 0, none⟩) 3 3] (W.alloc (.cells #[.int .i64 0, .int .i64 1, .int .i64 2] 3)) fun e w' => e = .returned (.tuple #[.int .i64 2, .int .i64 2, .int .i64 0]) ∧ KeepA w b sa ja w' ∧ Below W.heap.size W w' := by
  have hk0 := below_alloc (Below.refl _ W) (.cells #[.int .i64 0, .int .i64 1, .int .i64 2] 3)
  have hk1 := hk.below hk0
  have h := Check_any (sampleM 20) _ _ _ [0, 1, 2] (by simp) _ hk1.s hk1.j (IntsAt.fresh W [0, 1, 2] 3 rfl _ rfl)
  rw [t2] at h
  exact h.mono fun e w' ⟨h1, h3⟩ => ⟨h1, hk1.below h3, below_via h3 hk0⟩
theorem aw_slack (hk : KeepA w b sa ja W) : Calls Try.prog 18 #[.agg #[.slice sa 2 2, .slice ja 3 3], .slice (some ⟨W.heap.size, 0, none⟩) 3 3] (W.alloc (.cells #[.int .i64 0, .int .i64 2, .int .i64 1] 3)) fun e w' => e = .returned (.tuple #[.int .i64 2, .int .i64 0]) ∧ KeepA w b sa ja w' ∧ Below W.heap.size W w' := by
  have hk0 := below_alloc (Below.refl _ W) (.cells #[.int .i64 0, .int .i64 2, .int .i64 1] 3)
  have hk1 := hk.below hk0
  have h := Slack_any (sampleM 20) _ _ _ [0, 2, 1] (by simp) _ hk1.s hk1.j (IntsAt.fresh W [0, 2, 1] 3 rfl _ rfl)
  rw [t3] at h
  exact h.mono fun e w' ⟨h1, h3⟩ => ⟨h1, hk1.below h3, below_via h3 hk0⟩
theorem aw_count (hk : KeepA w b sa ja W) : Calls Try.prog 20 #[.agg #[.slice sa 2 2, .slice ja 3 3]] W fun e w' => e = .returned (.tuple #[.int .i64 2, .int .i64 0]) ∧ KeepA w b sa ja w' ∧ Below W.heap.size W w' := by
  have h := Count_any (sampleM 20) _ _ _ hk.s hk.j
  rw [t4] at h
  exact h.mono fun e w' ⟨h1, h3⟩ => ⟨h1, hk.below h3, h3⟩
theorem aw_first (hk : KeepA w b sa ja W) : Calls Try.prog 22 #[.agg #[.slice sa 2 2, .slice ja 3 3]] W fun e w' => e = .returned (.tuple #[.int .i64 5, .int .i64 0]) ∧ KeepA w b sa ja w' ∧ Below W.heap.size W w' := by
  have h := First_any (sampleM 20) _ _ _ hk.s hk.j
  rw [t5] at h
  exact h.mono fun e w' ⟨h1, h3⟩ => ⟨h1, hk.below h3, h3⟩
theorem aw_best (hk : KeepA w b sa ja W) : Calls Try.prog 26 #[.agg #[.slice sa 2 2, .slice ja 3 3]] W fun e w' => ∃ v, e = .returned (.tuple #[.int .i64 8, v, .int .i64 0]) ∧ IntsAt w' v [0, 2, 1] ∧ KeepA w b sa ja w' ∧ Below W.heap.size W w' := by
  have h := Best_any (sampleM 20) _ _ _ hk.s hk.j
  rw [t6] at h
  exact h.mono fun e w' ⟨v, h1, h2, h3⟩ => ⟨v, h1, h2.at, hk.below h3, h3⟩
theorem aw_until (hk : KeepA w b sa ja W) : Calls Try.prog 28 #[.agg #[.slice sa 2 2, .slice ja 3 3]] W fun e w' => e = .returned (.tuple #[.int .i64 14, .int .i64 0]) ∧ KeepA w b sa ja w' ∧ Below W.heap.size W w' := by
  have h := Until_any (sampleM 20) _ _ _ hk.s hk.j
  rw [t7] at h
  exact h.mono fun e w' ⟨h1, h3⟩ => ⟨h1, hk.below h3, h3⟩
theorem aw_drop (hs : IntsAt W (.slice sa 2 2) (sampleM 13).setup) (hj : JobsAt W (.slice ja 3 3) (sampleM 13).jobs) : Calls Try.prog 30 #[.agg #[.slice sa 2 2, .slice ja 3 3]] W fun e w' => e = .returned (.tuple #[.int .i64 1, .int .i64 0]) ∧ Below W.heap.size W w' := by
  have h := Drop_any (sampleM 13) _ _ _ hs hj
  rw [t8] at h
  exact h
theorem aw_spans {v : Value} (h : spanK.at W v [(5, 6), (8, 10), (13, 16)]) : Calls Try.prog 24 #[v, .slice (some ⟨W.heap.size, 0, none⟩) 3 3] (W.alloc (.cells #[.int .i64 5, .int .i64 6, .int .i64 8, .int .i64 10, .int .i64 13, .int .i64 16] 46)) fun e w' => e = .returned (.bool true) ∧ Below W.heap.size W w' := by
  have hb := below_alloc (Below.refl _ W) (.cells #[.int .i64 5, .int .i64 6, .int .i64 8, .int .i64 10, .int .i64 13, .int .i64 16] 46)
  exact (spans_any v _ [(5, 6), (8, 10), (13, 16)] [(5, 6), (8, 10), (13, 16)] (by simp) _ (h.below hb) (rows_fresh spanK W [(5, 6), (8, 10), (13, 16)] _ _ rfl 3 rfl)).mono fun e w' ⟨h1, h3⟩ => ⟨h1, below_via h3 hb⟩
theorem aw_ints {v : Value} (h : IntsAt W v [0, 2, 1]) : Calls Try.prog 32 #[v, .slice (some ⟨W.heap.size, 0, none⟩) 3 3] (W.alloc (.cells #[.int .i64 0, .int .i64 2, .int .i64 1] 3)) fun e w' => e = .returned (.bool true) ∧ Below W.heap.size W w' := by
  have hb := below_alloc (Below.refl _ W) (.cells #[.int .i64 0, .int .i64 2, .int .i64 1] 3)
  exact (ints_any v _ [0, 2, 1] [0, 2, 1] (by simp) _ (h.below hb) (IntsAt.fresh W [0, 2, 1] 3 rfl _ rfl)).mono fun e w' ⟨h1, h3⟩ => ⟨h1, below_via h3 hb⟩
end

set_option maxRecDepth 100000 in
set_option maxHeartbeats 4000000 in
theorem awake_any (w : World) : Calls Try.prog 13 #[] w fun e w' => e = .returned (.bool true) ∧ Below w.heap.size w w' := by
  go_enter Try.func13, Try.ntmps13
  go_upto_region 2 with (go_at_call 45; refine (sample_any 20 _).mono ?_; rintro e w1 ⟨sa, ja, rfl, hS, hJ, hb1⟩)
  have hk0 : KeepA w w1.heap.size sa ja (w1.alloc (.cells #[.slice sa 2 2, .slice ja 3 3] 25)) := ⟨below_alloc hb1 _, alloc_at rfl, hS.below (below_alloc (Below.refl _ _) _), hJ.below (below_alloc (Below.refl _ _) _)⟩
  generalize w1.alloc (.cells #[.slice sa 2 2, .slice ja 3 3] 25) = w2 at hk0 ⊢
  obtain ⟨l0, c0⟩ := cells_of hk0.m
  clear hS hJ hb1
  go_upto_region 3 with (go_at_call 14; refine (aw_times hk0).mono ?_; rintro e w3 ⟨vt, rfl, ht3, hk3⟩)
  clear l0 c0 hk0
  obtain ⟨l0, c0⟩ := cells_of hk3.m
  go_upto_region 4 with (go_at_call 16; refine (aw_check hk3).mono ?_; rintro e w4 ⟨rfl, hk4, hb4⟩)
  have ht4 := ht3.below hb4
  clear l0 c0 hk3 ht3 hb4
  obtain ⟨l0, c0⟩ := cells_of hk4.m
  go_upto_region 5 with (go_at_call 18; refine (aw_slack hk4).mono ?_; rintro e w5 ⟨rfl, hk5, hb5⟩)
  have ht5 := ht4.below hb5
  clear l0 c0 hk4 ht4 hb5
  obtain ⟨l0, c0⟩ := cells_of hk5.m
  go_upto_region 6 with (go_at_call 20; refine (aw_count hk5).mono ?_; rintro e w6 ⟨rfl, hk6, hb6⟩)
  have ht6 := ht5.below hb6
  clear l0 c0 hk5 ht5 hb6
  obtain ⟨l0, c0⟩ := cells_of hk6.m
  go_upto_region 7 with (go_at_call 22; refine (aw_first hk6).mono ?_; rintro e w7 ⟨rfl, hk7, hb7⟩)
  have ht7 := ht6.below hb7
  clear l0 c0 hk6 ht6 hb7
  obtain ⟨l0, c0⟩ := cells_of hk7.m
  go_upto_region 8 with (go_at_call 26; refine (aw_best hk7).mono ?_; rintro e w8 ⟨vb, rfl, hi8, hk8, hb8⟩)
  have ht8 := ht7.below hb8
  clear l0 c0 hk7 ht7 hb8
  obtain ⟨l0, c0⟩ := cells_of hk8.m
  go_upto_region 9 with (go_at_call 28; refine (aw_until hk8).mono ?_; rintro e w9 ⟨rfl, hk9, hb9⟩)
  have ht9 := ht8.below hb9
  have hi9 := hi8.below hb9
  clear l0 c0 hk8 ht8 hi8 hb9
  go_upto_region 10 with (first
    | (go_at_call 45; refine (sample_any 13 _).mono ?_; rintro e w10 ⟨sa', ja', rfl, hS, hJ, hb10⟩; have ht10 := ht9.below hb10; have hi10 := hi9.below hb10; have hk10 := hk9.below hb10)
    | (go_at_call 30; refine (aw_drop hS hJ).mono ?_; rintro e w11 ⟨rfl, hb11⟩; have ht11 := ht10.below hb11; have hi11 := hi10.below hb11; have hk11 := hk10.below hb11))
  clear hk9 hk10 ht9 ht10 hi9 hi10 hS hJ hb10 hb11
  go_upto_region 12 with (first
    | (go_at_call 36; with_reducible refine (span_any 5 6 _).mono ?_; rintro e w12 ⟨rfl, hb12⟩; have ht12 := ht11.below hb12; have hi12 := hi11.below hb12; have hk12 := hk11.below hb12)
    | (go_at_call 36; with_reducible refine (span_any 8 10 _).mono ?_; rintro e w13 ⟨rfl, hb13⟩; have ht13 := ht12.below hb13; have hi13 := hi12.below hb13; have hk13 := hk12.below hb13)
    | (go_at_call 36; with_reducible refine (span_any 13 16 _).mono ?_; rintro e w14 ⟨rfl, hb14⟩; have ht14 := ht13.below hb14; have hi14 := hi13.below hb14; have hk14 := hk13.below hb14)
    | (go_at_call 24; refine (aw_spans ht14).mono ?_; rintro e w15 ⟨rfl, hb15⟩; have hi15 := hi14.below hb15; have hk15 := hk14.below hb15))
  go_wp2_with (go_at_call 32; refine (aw_ints hi15).mono ?_; rintro e w16 ⟨rfl, hb16⟩; have hk16 := hk15.below hb16)
  go_ret
  exact ⟨rfl, hk16.bel⟩

end Go.Proofs.Ytcgkglonnmkfcaa
