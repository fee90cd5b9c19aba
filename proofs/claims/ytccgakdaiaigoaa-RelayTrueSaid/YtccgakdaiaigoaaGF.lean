/- The walks of Nobody and Gap. The walk of clash. The walk of clash: all pairs of entries. The walk of Clash. -/
import Derived.Test.YtccgakdaiaigoaaGE
import Derived.Test.YtccgakdaiaigoaaBH
namespace Go.Proofs.Ytccgakdaiaigoaa
open Go.RowKit Go.Lap Go.Shelf

/-- What is told of the first minute of which something is so. -/
def minuteOf (r : Rel) (q : Tab → Int → Bool) (a b : Int) : Int × Int :=
  if r.valid then if rangeB a b then match r.tab r.every with | some T => (match firstOf (q T) a (b + 1 - a).toNat with | some m => (m, 0) | none => (0, 4)) | none => (0, 10) else (0, 2) else (0, 1)
def nobodyOf (r : Rel) (a b : Int) : Int × Int := minuteOf r (nobQ r) a b
def minuteGapOf (r : Rel) (a b : Int) : Int × Int := minuteOf r (gapQ r) a b
theorem minute_panics {r : Rel} {q : Tab → Int → Bool} {a b c : Int} (hc : PanicsR r (rangeB a b) c) : minuteOf r q a b = (0, c) := by
  rcases hc with ⟨h1, rfl⟩ | ⟨h1, h2, rfl⟩ | ⟨h1, h2, h3, rfl⟩
  · simp [minuteOf, h1]
  · simp [minuteOf, h1, h2]
  · cases hT : r.tab r.every with
    | none => simp [minuteOf, h1, h2, hT]
    | some T => rw [Rel.canB, hT] at h3; cases h3
theorem minute_ok {r : Rel} {q : Tab → Int → Bool} {a b : Int} {T : Tab} (hv : r.valid = true) (h2 : rangeB a b = true) (hT : r.tab r.every = some T) : minuteOf r q a b = match firstOf (q T) a (b + 1 - a).toNat with | some m => (m, 0) | none => (0, 4) := by
  simp only [minuteOf, hv, h2, hT, if_true]
/-- What 'first' tells, as its caller tells it. -/
theorem first_tells (r : Rel) (hn : r.n ≤ 1000000) (a b : Int) (f : Nat) (cap : Array Value) (E : World → Prop) (q : Tab → Int → Bool) (hA : Asks r f cap E q) (sv : Value) (w : World) (hE : E w) (hS : StintsAt w sv r.stints) :
    Calls Try.prog 51 #[relV r sv, .int .i64 a, .int .i64 b, .agg #[.func (.func f) #[] cap]] w fun e w' => Below w.heap.size w w' ∧ ((∃ c, minuteOf r q a b = (0, c) ∧ e = panicV c) ∨ (∃ m, minuteOf r q a b = (m, 0) ∧ e = .returned (.int .i64 m))) :=
  (first_any r hn a b f cap E q hA sv w hE hS).mono fun e w' ⟨hb, h⟩ => ⟨hb, by
    rcases h with ⟨c, hc, rfl⟩ | ⟨T, hv, h2, hT, rfl⟩
    · exact .inl ⟨c, minute_panics hc, rfl⟩
    · rw [minute_ok hv h2 hT]
      cases firstOf (q T) a (b + 1 - a).toNat with
      | none => exact .inl ⟨4, rfl, rfl⟩
      | some m => exact .inr ⟨m, rfl, rfl⟩⟩
theorem asks_nobody (r : Rel) (B : Nat) (sv : Value) (hsv : ∃ a c, sv = .slice a r.stints.length c) : Asks r 52 #[.pointer (some ⟨B, 0, none⟩)] (fun W => W.heap[B]? = some (.cells #[.int .i64 r.rest, sv] 24 (0, 0))) (nobQ r) where
  he := enters_of Try.func52 (by kernel_rfl) rfl
  keep := fun W W' h hb => (hb.block _ (cells_of h).1).trans h
  is := fun hv T t tb m W hh h1 h2 ht hr => nobody_any r (r.ok_of hv).2.2.1 T t hh m h1 h2 tb B sv hsv W ht hr
theorem asks_gap (r : Rel) (B : Nat) (sv : Value) (hsv : ∃ a c, sv = .slice a r.stints.length c) : Asks r 56 #[.pointer (some ⟨B, 0, none⟩)] (fun W => W.heap[B]? = some (.cells #[.int .i64 r.rest, sv] 24 (0, 0))) (gapQ r) where
  he := enters_of Try.func56 (by kernel_rfl) rfl
  keep := fun W W' h hb => (hb.block _ (cells_of h).1).trans h
  is := fun hv T t tb m W hh h1 h2 ht hr => gap_any r (r.ok_of hv).2.2.1 T t hh m h1 h2 tb B sv hsv W ht hr

set_option maxRecDepth 100000 in
set_option maxHeartbeats 4000000 in
theorem Nobody_any (r : Rel) (hn : r.n ≤ 1000000) (a b : Int) (sv : Value) (w : World) (hS : StintsAt w sv r.stints) : Calls Try.prog 22 #[relV r sv, .int .i64 a, .int .i64 b] w fun e w' => e = .returned (.tuple #[.int .i64 (nobodyOf r a b).1, .int .i64 (nobodyOf r a b).2]) ∧ Below w.heap.size w w' := by
  have hmf := hmf
  obtain ⟨sa, scap, rfl, _⟩ := id hS
  have hS' := hid hS
  clear hS
  have hk := KeepE.start w r (.slice sa r.stints.length scap)
  obtain ⟨z1, hz1⟩ : ∃ z, (nobodyOf r a b).1 = z := ⟨_, rfl⟩
  obtain ⟨z2, hz2⟩ : ∃ z, (nobodyOf r a b).2 = z := ⟨_, rfl⟩
  have hzz : Hid (minuteOf r (nobQ r) a b = (z1, z2)) := hid (by rw [← hz1, ← hz2]; rfl)
  rw [hz1, hz2]
  clear hz1 hz2
  go_enter_defers Try.func22, Try.ntmps22
  go_upto_region 2 with fail
  generalize ((w.alloc (.cells #[.int .i64 r.rest, .slice sa r.stints.length scap] 24)).alloc (.cells #[.int .i64 0] 29)) = w1 at hk ⊢
  obtain ⟨lx, cx⟩ := cells_of hk.m
  have HC := hid (first_tells r hn a b 52 #[.pointer (some ⟨w.heap.size, 0, none⟩)] _ (nobQ r) (asks_nobody r w.heap.size (.slice sa r.stints.length scap) ⟨_, _, rfl⟩) (.slice sa r.stints.length scap) w1 hk.m (hS'.out.below hk.bel))
  go_wp2_with fail
  refine HC.out.mono ?_
  clear lx cx
  rintro e w2 ⟨hb, h⟩
  replace hk := hk.below hb
  clear hb
  have l7 := (cells_of hk.e).1
  have c7 := (cells_of hk.e).2
  have z7 := free_of hk.e
  rw [hzz.out] at h
  rcases h with ⟨c, hc, rfl⟩ | ⟨m, hc, rfl⟩
  · injection hc with e1 e2
    subst e1
    subst e2
    replace hk := hid hk
    refine leaves_cons (f := 44) (args := #[.pointer (some ⟨w.heap.size + 1, 0, none⟩)]) (by simp) (by simp [go_sem]) ?_
    refine (told_panicking (w.heap.size + 1) _ 0 _ l7 (by rw [c7]; rfl) (z7 0)).mono ?_
    rintro e u' w'' ⟨rfl, rfl, rfl⟩
    have hfin : Below w.heap.size w ((w2.setCell ⟨w.heap.size + 1, 0, none⟩ (.int .i64 z2)).alloc (.cells #[.int .i64 z2] 99)) := below_alloc (below_set hk.out.bel _ (by simp)) _
    simp [Leaves, settle, results, Try.results22, go_sem, c7, hfin, l7]
  · injection hc with e1 e2
    subst e1
    subst e2
    have hfin' := hid (below_set hk.bel (p := ⟨w.heap.size + 1, 0, none⟩) (.int .i64 0) (by simp))
    replace hk := hid hk
    go_wp2
    refine leaves_cons (f := 44) (args := #[.pointer (some ⟨w.heap.size + 1, 0, none⟩)]) (by simp) (by simp [go_sem]) ?_
    refine (told_idle ⟨w.heap.size + 1, 0, none⟩ _).mono ?_
    rintro e u' w'' ⟨rfl, rfl, rfl⟩
    have hfin := hfin'.out
    simp [Leaves, settle, results, Try.results22, go_sem, c7, hfin]

set_option maxRecDepth 100000 in
set_option maxHeartbeats 4000000 in
theorem Gap_any (r : Rel) (hn : r.n ≤ 1000000) (a b : Int) (sv : Value) (w : World) (hS : StintsAt w sv r.stints) : Calls Try.prog 24 #[relV r sv, .int .i64 a, .int .i64 b] w fun e w' => e = .returned (.tuple #[.int .i64 (minuteGapOf r a b).1, .int .i64 (minuteGapOf r a b).2]) ∧ Below w.heap.size w w' := by
  have hmf := hmf
  obtain ⟨sa, scap, rfl, _⟩ := id hS
  have hS' := hid hS
  clear hS
  have hk := KeepE.start w r (.slice sa r.stints.length scap)
  obtain ⟨z1, hz1⟩ : ∃ z, (minuteGapOf r a b).1 = z := ⟨_, rfl⟩
  obtain ⟨z2, hz2⟩ : ∃ z, (minuteGapOf r a b).2 = z := ⟨_, rfl⟩
  have hzz : Hid (minuteOf r (gapQ r) a b = (z1, z2)) := hid (by rw [← hz1, ← hz2]; rfl)
  rw [hz1, hz2]
  clear hz1 hz2
  go_enter_defers Try.func24, Try.ntmps24
  go_upto_region 2 with fail
  generalize ((w.alloc (.cells #[.int .i64 r.rest, .slice sa r.stints.length scap] 24)).alloc (.cells #[.int .i64 0] 29)) = w1 at hk ⊢
  obtain ⟨lx, cx⟩ := cells_of hk.m
  have HC := hid (first_tells r hn a b 56 #[.pointer (some ⟨w.heap.size, 0, none⟩)] _ (gapQ r) (asks_gap r w.heap.size (.slice sa r.stints.length scap) ⟨_, _, rfl⟩) (.slice sa r.stints.length scap) w1 hk.m (hS'.out.below hk.bel))
  go_wp2_with fail
  refine HC.out.mono ?_
  clear lx cx
  rintro e w2 ⟨hb, h⟩
  replace hk := hk.below hb
  clear hb
  have l7 := (cells_of hk.e).1
  have c7 := (cells_of hk.e).2
  have z7 := free_of hk.e
  rw [hzz.out] at h
  rcases h with ⟨c, hc, rfl⟩ | ⟨m, hc, rfl⟩
  · injection hc with e1 e2
    subst e1
    subst e2
    replace hk := hid hk
    refine leaves_cons (f := 44) (args := #[.pointer (some ⟨w.heap.size + 1, 0, none⟩)]) (by simp) (by simp [go_sem]) ?_
    refine (told_panicking (w.heap.size + 1) _ 0 _ l7 (by rw [c7]; rfl) (z7 0)).mono ?_
    rintro e u' w'' ⟨rfl, rfl, rfl⟩
    have hfin : Below w.heap.size w ((w2.setCell ⟨w.heap.size + 1, 0, none⟩ (.int .i64 z2)).alloc (.cells #[.int .i64 z2] 99)) := below_alloc (below_set hk.out.bel _ (by simp)) _
    simp [Leaves, settle, results, Try.results24, go_sem, c7, hfin, l7]
  · injection hc with e1 e2
    subst e1
    subst e2
    have hfin' := hid (below_set hk.bel (p := ⟨w.heap.size + 1, 0, none⟩) (.int .i64 0) (by simp))
    replace hk := hid hk
    go_wp2
    refine leaves_cons (f := 44) (args := #[.pointer (some ⟨w.heap.size + 1, 0, none⟩)]) (by simp) (by simp [go_sem]) ?_
    refine (told_idle ⟨w.heap.size + 1, 0, none⟩ _).mono ?_
    rintro e u' w'' ⟨rfl, rfl, rfl⟩
    have hfin := hfin'.out
    simp [Leaves, settle, results, Try.results24, go_sem, c7, hfin]

end Go.Proofs.Ytccgakdaiaigoaa

namespace Go.Proofs.Ytccgakdaiaigoaa
open Go.RowKit Go.Lap Go.Shelf

theorem andN_sub {a b : Nat} (ha : a < 18446744073709551616) : (andN a b = 0) ↔ subB a b = true := by
  rw [subB_iff]
  constructor
  · intro h i hi
    have h1 := andN_bit (b := b) ha i
    rw [h, Nat.zero_testBit, hi, Bool.true_and] at h1
    simpa using h1.symm
  · intro h
    apply Nat.eq_of_testBit_eq
    intro i
    rw [andN_bit ha, Nat.zero_testBit]
    cases hi : a.testBit i
    · rfl
    · rw [h i hi]; rfl
theorem two_64 {i k : Nat} (hi : i < 64) (hk : k < 64) : two i k < 18446744073709551616 := by
  have := two_lt (m := 64) hi hk
  simpa using this
theorem stu_grown {B r : Nat} {w w' : World} {sv : Value} {L : List Stint} (h : StU B w sv L) (hg : w.grownBy w' (some r)) (hB : B ≤ r) : StU B w' sv L := h.kp (TabKp.grown hg) hB

/-- What lies in memory while pairs are tried. -/
structure PairEnv (B setb bb rb : Nat) (r : Rel) (sv : Value) (set best : Nat) (W : World) : Prop where
  s : W.heap[setb]? = some (.cells #[.int .u64 set] 84 (0, 0))
  b : W.heap[bb]? = some (.cells #[.int .u64 best] 84 (0, 0))
  rr : W.heap[rb]? = some (.cells #[.int .i64 r.rest, sv] 87 (0, 0))
  st : StU B W sv r.stints
theorem PairEnv.below {B setb bb rb : Nat} {r : Rel} {sv : Value} {set best : Nat} {W W' : World} (h : PairEnv B setb bb rb r sv set best W) (hb : Below W.heap.size W W') : PairEnv B setb bb rb r sv set best W' :=
  ⟨(hb.block _ (cells_of h.s).1).trans h.s, (hb.block _ (cells_of h.b).1).trans h.b, (hb.block _ (cells_of h.rr).1).trans h.rr, h.st.below hb⟩
theorem PairEnv.store {B setb bb rb : Nat} {r : Rel} {sv : Value} {set best : Nat} {W : World} (h : PairEnv B setb bb rb r sv set best W) (h1 : setb ≠ bb) (h2 : rb ≠ bb) (hB : B ≤ bb) (x : Nat) : PairEnv B setb bb rb r sv set x (W.setCell ⟨bb, 0, none⟩ (.int .u64 x)) :=
  ⟨(Below.heap_setCell _ _ _ _ h1).trans h.s, by rw [heap_set_same h.b]; simp, (Below.heap_setCell _ _ _ _ h2).trans h.rr, stu_grown h.st (grown_set (grown_of_below (Below.refl _ _) _) 0 _) hB⟩

set_option maxRecDepth 100000 in
set_option maxHeartbeats 4000000 in
theorem pair_any (r : Rel) (hv : r.valid = true) (B setb bb rb ib : Nat) (sv : Value) (hsv : ∃ a c, sv = .slice a r.stints.length c) (set best i k : Nat) (hset : set < 18446744073709551616) (hbest : best < 18446744073709551616) (hi : i < 64) (hk : k < 64) (w : World) (hE : PairEnv B setb bb rb r sv set best w) (hib : w.heap[ib]? = some (.cells #[.int .i64 i] 3 (0, 0))) (h1 : setb ≠ bb) (h2 : rb ≠ bb) (hB : B ≤ bb) :
    Calls Try.prog 83 #[.int .i64 k, .pointer (some ⟨ib, 0, none⟩), .pointer (some ⟨setb, 0, none⟩), .pointer (some ⟨bb, 0, none⟩), .pointer (some ⟨rb, 0, none⟩)] w fun e w' => e = .returned (.tuple #[]) ∧ PairEnv B setb bb rb r sv set (pairStep (r.clashP set) best i k) w' ∧ w.grownBy w' (some bb) := by
  obtain ⟨a, c, rfl⟩ := hsv
  have hE' := hid hE
  obtain ⟨li, ci⟩ := cells_of hib
  clear hE hib
  have hsx : Hid (two i k < 18446744073709551616) := hid (two_64 hi hk)
  have hb1 := below_alloc (Below.refl _ w) (.cells #[.int .i64 i, .int .i64 k] 3)
  have hr1 := alloc_at (w := w) (o := .cells #[.int .i64 i, .int .i64 k] 3) rfl
  have hE1 := hid (hE'.out.below hb1)
  obtain ⟨ln, cn⟩ := cells_of hr1
  have HS := hid (setOf_any i k hi hk w.heap.size (w.alloc (.cells #[.int .i64 i, .int .i64 k] 3)) (cn 0) (cn 1))
  have hb1 := hid hb1
  clear hr1 ln cn
  obtain ⟨s, hs⟩ : ∃ s, two i k = s := ⟨_, rfl⟩
  have hss := hid hs
  rw [hs] at hsx HS
  clear hs
  go_enter Try.func83, Try.ntmps83
  go_upto_region 1 with (go_at_call 84; refine HS.out.mono ?_; rintro e w2 ⟨rfl, rfl⟩)
  obtain ⟨l1, c1⟩ := cells_of hE1.out.s
  obtain ⟨l2, c2⟩ := cells_of hE1.out.b
  obtain ⟨l3, c3⟩ := cells_of hE1.out.rr
  have hand := (bits_u s set hsx.out hset).2.2
  have hstep : Hid (pairStep (r.clashP set) best i k = if lesserB s best && (subB s set && !r.canB s) then s else best) := hid (by rw [pairStep, hss.out]; rfl)
  obtain ⟨d, hd⟩ : ∃ d, andN s set = d := ⟨_, rfl⟩
  rw [hd] at hand
  have hdd := hid hd
  clear hd
  have hfin : ∀ W, Below w.heap.size w W → (lesserB s best && (subB s set && !r.canB s)) = false → PairEnv B setb bb rb r (.slice a r.stints.length c) set (pairStep (r.clashP set) best i k) W ∧ w.grownBy W (some bb) := fun W hW hf => by
    rw [hstep.out, hf]
    exact ⟨hE'.out.below hW, grown_of_below hW _⟩
  replace hfin := hid hfin
  cases hA : subB s set
  · have hd0 : ¬ d = 0 := fun e => by rw [← hdd.out, andN_sub hsx.out, hA] at e; cases e
    have hdb : ((d : Int) == 0) = false := by simpa using hd0
    have hA' := hid hA
    clear hA
    go_wp2_with fail
    go_end0
    exact ⟨rfl, hfin.out _ hb1.out (by rw [hA'.out]; simp)⟩
  · have hd0 : d = 0 := by rw [← hdd.out]; exact (andN_sub hsx.out).2 hA
    subst hd0
    have hA' := hid hA
    clear hA
    cases hL : lesserB s best
    · have hL' := hid hL
      clear hL
      go_wp2_with (go_at_call 65; refine (lesser_any s best hsx.out hbest _).mono ?_; rw [hL'.out]; rintro e w3 ⟨rfl, hb3⟩; replace hb3 := hid (below_via hb3 hb1.out))
      go_end0
      exact ⟨rfl, hfin.out _ hb3.out (by rw [hL'.out]; rfl)⟩
    · have hL' := hid hL
      clear hL
      cases hC : r.canB s
      all_goals
        have hC' := hid hC
        clear hC
        go_wp2_with (first | (go_at_call 65; refine (lesser_any s best hsx.out hbest _).mono ?_; rw [hL'.out]; rintro e w3 ⟨rfl, hb3⟩; have hE3 := hid (hE1.out.below hb3); have hbw3 := hid (below_via hb3 hb1.out); have l33 := (cells_of hE3.out.rr).1; have c33 := (cells_of hE3.out.rr).2; clear hb3) | (go_at_call 63; refine (rcan_any r hv s hsx.out _ _ hE3.out.st.at).mono ?_; rw [hC'.out]; rintro e w4 ⟨rfl, hb4⟩; have hE4 := hid (hE3.out.below hb4); have hbw4 := hid (below_via hb4 hbw3.out); have l44 := (cells_of hE4.out.b).1; have c44 := (cells_of hE4.out.b).2; have z44 := free_of hE4.out.b; clear hb4))
        go_end0
      · refine ⟨rfl, ?_, grown_set (grown_of_below hbw4.out _) 0 _⟩
        rw [hstep.out, hL'.out, hA'.out, hC'.out]
        exact hE4.out.store h1 h2 hB s
      · exact ⟨rfl, hfin.out _ hbw4.out (by rw [hL'.out, hA'.out, hC'.out]; rfl)⟩
end Go.Proofs.Ytccgakdaiaigoaa

namespace Go.Proofs.Ytccgakdaiaigoaa
open Go.RowKit Go.Lap Go.Shelf

theorem pairStep_lt {p : Nat → Bool} {b i k : Nat} (hb : b < 18446744073709551616) (hi : i < 64) (hk : k < 64) : pairStep p b i k < 18446744073709551616 := by
  simp only [pairStep]
  split
  · exact two_64 hi hk
  · exact hb
theorem pairRow_lt {p : Nat → Bool} {i : Nat} (hi : i < 64) {b : Nat} (hb : b < 18446744073709551616) : ∀ k, k ≤ 64 → pairRow p i b k < 18446744073709551616
  | 0, _ => hb
  | k + 1, hk => pairStep_lt (pairRow_lt hi hb k (by omega)) hi (by omega)
theorem pairs_lt {p : Nat → Bool} {b : Nat} (hb : b < 18446744073709551616) : ∀ i, i ≤ 60 → pairs p b i < 18446744073709551616
  | 0, _ => hb
  | i + 1, hi => pairRow_lt (by omega) (pairs_lt hb i (by omega)) (i + 1) (by omega)
theorem PairEnv.grown {B setb bb rb x : Nat} {r : Rel} {sv : Value} {set best : Nat} {W W' : World} (h : PairEnv B setb bb rb r sv set best W) (hg : W.grownBy W' (some x)) (h1 : setb ≠ x) (h2 : bb ≠ x) (h3 : rb ≠ x) (hB : B ≤ x) : PairEnv B setb bb rb r sv set best W' :=
  ⟨blk_grown hg h.s h1, blk_grown hg h.b h2, blk_grown hg h.rr h3, stu_grown h.st hg hB⟩

set_option maxRecDepth 100000 in
set_option maxHeartbeats 4000000 in
theorem prow_any (r : Rel) (hv : r.valid = true) (B setb bb rb : Nat) (sv : Value) (hsv : ∃ a c, sv = .slice a r.stints.length c) (set best i : Nat) (hset : set < 18446744073709551616) (hbest : best < 18446744073709551616) (hi : i < 60) (w : World) (hE : PairEnv B setb bb rb r sv set best w) (h1 : setb ≠ bb) (h2 : rb ≠ bb) (hB : B ≤ bb) :
    Calls Try.prog 82 #[.int .i64 i, .pointer (some ⟨setb, 0, none⟩), .pointer (some ⟨bb, 0, none⟩), .pointer (some ⟨rb, 0, none⟩)] w fun e w' => e = .returned (.tuple #[]) ∧ PairEnv B setb bb rb r sv set (pairRow (r.clashP set) i best (i + 1)) w' ∧ w.grownBy w' (some bb) := by
  have hmf := hmf
  have hE' := hid hE
  have hbb := (cells_of hE.b).1
  clear hE
  have hii : (i : Int) < 60 := by omega
  have hb1 := below_alloc (Below.refl _ w) (.cells #[.int .i64 i] 3)
  have hx1 := hid (alloc_at (w := w) (o := .cells #[.int .i64 i] 3) rfl)
  have hE1 := hid (hE'.out.below hb1)
  have hb1 := hid hb1
  have he : ∀ args w, (callFunc 83 args).run Try.prog w = .ok (.enter 83 args) w := enters_of Try.func83 (by kernel_rfl) rfl
  go_enter Try.func82, Try.ntmps82
  go_wp2_with fail
  rw [show ((i : Int) + 1) = ((i + 1 : Nat) : Int) by omega]
  refine (each_any (i + 1) (by omega) 83 _ he (fun k W => PairEnv B setb bb rb r sv set (pairRow (r.clashP set) i best k) W ∧ w.grownBy W (some bb) ∧ W.heap[w.heap.size]? = some (.cells #[.int .i64 i] 3 (0, 0))) _ ⟨hE1.out, grown_of_below hb1.out _, hx1.out⟩ ?_).mono ?_
  · intro k W hk hI
    refine (pair_any r hv B setb bb rb w.heap.size sv hsv set _ i k hset (pairRow_lt (by omega) hbest k (by omega)) (by omega) (by omega) W hI.1 hI.2.2 h1 h2 hB).mono ?_
    intro e w2 h
    exact ⟨h.1, h.2.1, grown_of_both hI.2.1 h.2.2, blk_grown h.2.2 hI.2.2 (by omega)⟩
  rintro e w3 ⟨rfl, hI3⟩
  replace hI3 := hid hI3
  go_wp2
  go_end0
  exact ⟨rfl, hI3.out.1, hI3.out.2.1⟩

set_option maxRecDepth 100000 in
set_option maxHeartbeats 4000000 in
theorem clash_any (r : Rel) (hv : r.valid = true) (set : Nat) (hset : set < 18446744073709551616) (sv : Value) (w : World) (hS : StintsAt w sv r.stints) :
    Calls Try.prog 59 #[relV r sv, .int .u64 set] w fun e w' => e = .returned (.tuple #[.int .u64 ((r.clashIn set).getD 0 : Nat), .bool (r.clashIn set).isSome]) ∧ Below w.heap.size w w' := by
  obtain ⟨sa, scap, rfl, _⟩ := id hS
  have hS' := hid hS
  clear hS
  have hmf := hmf
  have hn5 : r.stints.length ≤ 5 := (r.ok_of hv).2.2.1
  have hn5i : (r.stints.length : Int) ≤ 5 := by omega
  have he : ∀ args w, (callFunc 82 args).run Try.prog w = .ok (.enter 82 args) w := enters_of Try.func82 (by kernel_rfl) rfl
  have hW1 : ∃ W, W = (w.alloc (.cells #[.int .i64 r.rest, .slice sa r.stints.length scap] 87)).alloc (.cells #[.int .u64 set] 84) := ⟨_, rfl⟩
  have hb1 := hid (below_alloc (below_alloc (Below.refl _ w) (.cells #[.int .i64 r.rest, .slice sa r.stints.length scap] 87)) (.cells #[.int .u64 set] 84))
  have hm1 := hid (alloc_old (w := w.alloc (.cells #[.int .i64 r.rest, .slice sa r.stints.length scap] 87)) (o := .cells #[.int .u64 set] 84) (by simp) (alloc_at rfl))
  have hs1 := hid (alloc_at (w := w.alloc (.cells #[.int .i64 r.rest, .slice sa r.stints.length scap] 87)) (o := .cells #[.int .u64 set] 84) (n := w.heap.size + 1) (by simp))
  clear hW1
  go_enter Try.func59, Try.ntmps59
  go_upto_region 1 with fail
  generalize (w.alloc (.cells #[.int .i64 r.rest, .slice sa r.stints.length scap] 87)).alloc (.cells #[.int .u64 set] 84) = w1 at hb1 hm1 hs1 ⊢
  obtain ⟨l1, c1⟩ := cells_of hm1.out
  obtain ⟨l2, c2⟩ := cells_of hs1.out
  cases hC : r.canB set
  all_goals
    have hC' := hid hC
    clear hC
  · have hci : Hid (r.clashIn set = some (pairs (r.clashP set) allOnes (4 * r.n))) := hid (by rw [Rel.clashIn, hC'.out]; rfl)
    go_upto_region 4 with (go_at_call 63; refine (rcan_any r hv set hset _ _ (hS'.out.below hb1.out)).mono ?_; rw [hC'.out]; rintro e w3 ⟨rfl, hb3⟩; have hm3 := hid ((hb3.block _ l1).trans hm1.out); have hs3 := hid ((hb3.block _ l2).trans hs1.out); have hbw3 := hid (below_via hb3 hb1.out); clear hb3)
    have hE4 : Hid (PairEnv w.heap.size (w.heap.size + 1) w3.heap.size w.heap.size r (.slice sa r.stints.length scap) set allOnes (w3.alloc (.cells #[.int .u64 18446744073709551615] 84))) := hid ⟨alloc_old (cells_of hs3.out).1 hs3.out, alloc_at rfl, alloc_old (cells_of hm3.out).1 hm3.out, (hS'.out.under.below hbw3.out).below (below_alloc (Below.refl _ _) _)⟩
    have hb4 := hid (below_alloc hbw3.out (.cells #[.int .u64 18446744073709551615] 84))
    have hl3 := (cells_of hs3.out).1
    obtain ⟨bb, hbb⟩ : ∃ b, b = w3.heap.size := ⟨_, rfl⟩
    rw [← hbb] at hE4 hl3 ⊢
    clear hm3 hs3
    generalize w3.alloc (.cells #[.int .u64 18446744073709551615] 84) = w4 at hE4 hb4 ⊢
    have hwb : w.heap.size ≤ bb := by omega
    clear hbw3 c1 c2 l1 l2 hbb
    obtain ⟨l1, c1⟩ := cells_of hE4.out.rr
    go_wp2_with fail
    rw [show (4 * (r.stints.length : Int)) = ((4 * r.n : Nat) : Int) by have : r.n = r.stints.length := rfl; omega]
    refine (each_any (4 * r.n) (by have : r.n = r.stints.length := rfl; omega) 82 _ he (fun k W => PairEnv w.heap.size (w.heap.size + 1) bb w.heap.size r (.slice sa r.stints.length scap) set (pairs (r.clashP set) allOnes k) W ∧ w4.grownBy W (some bb)) _ ⟨hE4.out, grown_of_below (Below.refl _ _) _⟩ ?_).mono ?_
    · intro k W hk hI
      refine (prow_any r hv w.heap.size (w.heap.size + 1) bb w.heap.size (.slice sa r.stints.length scap) ⟨_, _, rfl⟩ set _ k hset (pairs_lt (by decide) k (by have : r.n = r.stints.length := rfl; omega)) (by have : r.n = r.stints.length := rfl; omega) W hI.1 (by omega) (by omega) (by omega)).mono ?_
      intro e w2 h
      exact ⟨h.1, h.2.1, grown_of_both hI.2 h.2.2⟩
    rintro e w5 ⟨rfl, hI5⟩
    have l5 := (cells_of hI5.1.b).1
    have c5 := (cells_of hI5.1.b).2
    have hg5 := hid hI5.2
    clear hI5
    go_wp2
    go_ret2
    refine ⟨by rw [hci.out]; rfl, ?_⟩
    have h1 := hb4.out
    have hg := hg5.out
    exact ⟨hg.os.trans h1.os, hg.tape.trans h1.tape, hg.output.trans h1.output, Nat.le_trans h1.size hg.size, fun k hk => (hg.block k (Nat.lt_of_lt_of_le hk h1.size) (fun e => by cases e; omega)).trans (h1.block k hk)⟩
  · have hci : Hid (r.clashIn set = none) := hid (by rw [Rel.clashIn, hC'.out]; rfl)
    go_wp2_with (go_at_call 63; refine (rcan_any r hv set hset _ _ (hS'.out.below hb1.out)).mono ?_; rw [hC'.out]; rintro e w3 ⟨rfl, hb3⟩; have hbw3 := hid (below_via hb3 hb1.out); clear hb3)
    go_ret2
    exact ⟨by rw [hci.out]; rfl, hbw3.out⟩
end Go.Proofs.Ytccgakdaiaigoaa

namespace Go.Proofs.Ytccgakdaiaigoaa
open Go.RowKit Go.Lap Go.Shelf

theorem valid_post {r : Rel} {w w' : World} {e : Ending} (h : ValidPost r true w e w') : Below w.heap.size w w' ∧ ((r.valid = false ∧ e = panicV 1) ∨ (r.valid = true ∧ e = .returned (.tuple #[]))) := by
  cases hv : r.valid
  · obtain ⟨h1, h2⟩ := valid_fails h hv; exact ⟨h2, .inl ⟨rfl, h1⟩⟩
  · obtain ⟨h1, h2⟩ := valid_goes h hv; exact ⟨h2, .inr ⟨rfl, h1⟩⟩
theorem sub_every_lt {r : Rel} (hv : r.valid = true) {s : Nat} (h : Sub s r.every) : s < 1048576 := by
  have h1 := h.le
  have h5 := (r.ok_of hv).2.2.1
  have h2 : 2 ^ (4 * r.n) ≤ 2 ^ 20 := Nat.pow_le_pow_right (by decide) (by omega)
  have h0 : 0 < 2 ^ (4 * r.n) := Nat.pow_pos (by decide)
  simp only [Rel.every] at h1
  omega

set_option maxRecDepth 100000 in
set_option maxHeartbeats 4000000 in
theorem Clash_any (r : Rel) (hn : r.n ≤ 1000000) (sv : Value) (w : World) (hS : StintsAt w sv r.stints) : Calls Try.prog 26 #[relV r sv] w fun e w' => e = .returned (.tuple #[.int .i64 (clashOf r).1, .int .i64 (clashOf r).2]) ∧ Below w.heap.size w w' := by
  obtain ⟨sa, scap, rfl, _⟩ := id hS
  have hS' := hid hS
  clear hS
  have hk := KeepE.start w r (.slice sa r.stints.length scap)
  obtain ⟨z1, hz1⟩ : ∃ z, (clashOf r).1 = z := ⟨_, rfl⟩
  obtain ⟨z2, hz2⟩ : ∃ z, (clashOf r).2 = z := ⟨_, rfl⟩
  have hzz : Hid (clashOf r = (z1, z2)) := hid (by rw [← hz1, ← hz2])
  rw [hz1, hz2]
  clear hz1 hz2
  go_enter_defers Try.func26, Try.ntmps26
  go_upto_region 2 with fail
  generalize ((w.alloc (.cells #[.int .i64 r.rest, .slice sa r.stints.length scap] 24)).alloc (.cells #[.int .i64 0] 29)) = w1 at hk ⊢
  obtain ⟨lx, cx⟩ := cells_of hk.m
  have HV := hid (valid_any r hn true (.slice sa r.stints.length scap) w1 (hS'.out.below hk.bel))
  cases hv : r.valid
  · have hv' := hid hv
    clear hv
    go_wp2_with fail
    refine HV.out.mono ?_
    clear lx cx
    intro e w2 hp
    obtain ⟨rfl, hb⟩ := valid_fails hp hv'.out
    replace hk := hk.below hb
    clear hp hb
    have l7 := (cells_of hk.e).1
    have c7 := (cells_of hk.e).2
    have z7 := free_of hk.e
    obtain ⟨e1, e2⟩ : z1 = 0 ∧ z2 = 1 := by have := hzz.out; rw [clashOf, hv'.out] at this; simpa [Prod.ext_iff, eq_comm] using this
    subst e1; subst e2
    refine leaves_cons (f := 44) (args := #[.pointer (some ⟨w.heap.size + 1, 0, none⟩)]) (by simp) (by simp [go_sem]) ?_
    refine (told_panicking (w.heap.size + 1) _ 0 _ l7 (by rw [c7]; rfl) (z7 0)).mono ?_
    rintro e u' w'' ⟨rfl, rfl, rfl⟩
    have hfin : Below w.heap.size w ((w2.setCell ⟨w.heap.size + 1, 0, none⟩ (.int .i64 1)).alloc (.cells #[.int .i64 1] 99)) := below_alloc (below_set hk.bel _ (by simp)) _
    simp [Leaves, settle, results, Try.results26, go_sem, c7, hfin, l7]
  · have hv' := hid hv
    have hn5 := hid (r.ok_of hv).2.2.1
    clear hv
    go_upto_region 3 with (go_at_call 58; refine HV.out.mono ?_; intro e w2 hp; obtain ⟨rfl, hb⟩ := valid_goes hp hv'.out; replace hk := hk.below hb; clear hp hb lx cx)
    clear HV
    obtain ⟨lx, cx⟩ := cells_of hk.m
    have HC := hid (fun W hW => clash_any r hv'.out r.every (every_lt hv'.out) (.slice sa r.stints.length scap) W hW)
    refine wp_region_later (by kernel_rfl) (by kernel_rfl) ?_
    intro hx
    repeat (any_goals (first | go_big_quiet_step ((first | (go_at_call 60; with_reducible exact Calls.later (every_any r hn5.out _ _ _)) | (go_at_call 59; with_reducible exact Calls.later (HC.out _ (hS'.out.below (below_via (Later.below _) hk.bel)))))) | quiet_step ((first | (go_at_call 60; with_reducible exact Calls.later (every_any r hn5.out _ _ _)) | (go_at_call 59; with_reducible exact Calls.later (HC.out _ (hS'.out.below (below_via (Later.below _) hk.bel))))))))
    refine wpQuiet_nil ?_
    rintro w4 ⟨x4, hxw⟩
    have hb4 := x4.below
    rw [← hxw] at hb4
    clear hx hxw x4 lx cx HC
    replace hk := hk.below hb4
    clear hb4
    have l7 := (cells_of hk.e).1
    have c7 := (cells_of hk.e).2
    have z7 := free_of hk.e
    cases hC : r.clashIn r.every with
    | none =>
      obtain ⟨e1, e2⟩ : z1 = 0 ∧ z2 = 4 := by have := hzz.out; rw [clashOf, hv'.out, hC] at this; simpa [Prod.ext_iff, eq_comm] using this
      subst e1; subst e2
      simp only [Option.getD_none, Option.isSome_none]
      clear hC
      replace hk := hid hk
      go_wp2_with (go_at_call 61; with_reducible refine (must_no _ _).mono ?_; rintro e w' ⟨rfl, rfl⟩)
      refine leaves_cons (f := 44) (args := #[.pointer (some ⟨w.heap.size + 1, 0, none⟩)]) (by simp) (by simp [go_sem]) ?_
      refine (told_panicking (w.heap.size + 1) _ 0 _ l7 (by rw [c7]; rfl) (z7 0)).mono ?_
      rintro e u' w'' ⟨rfl, rfl, rfl⟩
      have hfin : Below w.heap.size w ((w4.setCell ⟨w.heap.size + 1, 0, none⟩ (.int .i64 4)).alloc (.cells #[.int .i64 4] 99)) := below_alloc (below_set hk.out.bel _ (by simp)) _
      simp [Leaves, settle, results, Try.results26, go_sem, c7, hfin, l7]
    | some s =>
      obtain ⟨e1, e2⟩ : z1 = (s : Int) ∧ z2 = 0 := by have := hzz.out; rw [clashOf, hv'.out, hC] at this; simpa [Prod.ext_iff, eq_comm] using this
      subst e1; subst e2
      have hsl : s < 1048576 := sub_every_lt hv'.out (Rel.clashIn_some hv'.out hC).2.2.1
      have hwr : IntKind.i64.wrap (s : Int) = s := Go.IntWalk.i64_in _ (by omega)
      simp only [Option.getD_some, Option.isSome_some]
      clear hC
      have hfin' := hid (below_set hk.bel (p := ⟨w.heap.size + 1, 0, none⟩) (.int .i64 0) (by simp))
      replace hk := hid hk
      go_wp2_with (go_at_call 61; with_reducible refine (must_yes _ _).mono ?_; rintro e w' ⟨rfl, rfl⟩)
      refine leaves_cons (f := 44) (args := #[.pointer (some ⟨w.heap.size + 1, 0, none⟩)]) (by simp) (by simp [go_sem]) ?_
      refine (told_idle ⟨w.heap.size + 1, 0, none⟩ _).mono ?_
      rintro e u' w'' ⟨rfl, rfl, rfl⟩
      have hfin := hfin'.out
      simp [Leaves, settle, results, Try.results26, go_sem, c7, hfin]
end Go.Proofs.Ytccgakdaiaigoaa
