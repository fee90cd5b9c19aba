/- The reference's Nobody and Gap, walked. The reference's Handed and Length, walked. The reference's Clash and Wrong, walked. -/
import Derived.Test.YtccgakdaiaigoaaGT
import Derived.Test.YtccgakdaiaigoaaGE
import Derived.Test.YtccgakdaiaigoaaGF
import Derived.Test.YtccgakdaiaigoaaGG
namespace Go.Proofs.Ytccgakdaiaigoaa
open Go.RowKit Go.Lap Go.Shelf

/-- What 'open' gives: why not, or that there is a table. -/
theorem OpenR.out2 {r : Rel} {b : Bool} {w w' : World} {e : Ending} (h : OpenR r b w e w') : Below w.heap.size w w' ∧ ∃ (v : Value) (c : Int), e = .returned (.tuple #[v, .int .i64 c]) ∧ ((c ≠ 0 ∧ PanicsR r b c) ∨ (c = 0 ∧ r.valid = true ∧ b = true ∧ ∃ T, r.tab r.every = some T)) := by
  obtain ⟨hb, v, c, rfl, h⟩ := h
  refine ⟨hb, v, c, rfl, ?_⟩
  rcases h with ⟨hv, rfl⟩ | ⟨hv, rfl, rfl⟩ | ⟨hv, rfl, hN, rfl⟩ | ⟨hv, rfl, O, hN, rfl, ho⟩
  · exact .inl ⟨by decide, .inl ⟨hv, rfl⟩⟩
  · exact .inl ⟨by decide, .inr (.inl ⟨hv, rfl, rfl⟩)⟩
  · refine .inl ⟨by decide, .inr (.inr ⟨hv, rfl, ?_, rfl⟩)⟩
    rw [← Bool.not_eq_true]
    intro h
    have := (Rel.narrow_can hN).2 ((Rel.tab_truth hv r.every).1 h)
    cases this
  · obtain ⟨T, hT, _⟩ := told_some (z := (0 : Int)) (f := fun _ => 0) hv hN
    exact .inr ⟨rfl, hv, rfl, T, hT⟩
theorem refRange_as {a b : Int} {x : Bool} (h : rangeB a b = x) (w : World) : Calls Try.prog 54 #[.int .i64 a, .int .i64 b] w fun e w' => e = .returned (.bool x) ∧ w = w' := by
  subst h
  exact (refRange_any a b w).mono fun e w' ⟨h1, h2⟩ => ⟨h1, h2.symm⟩
theorem range_of {a b : Int} (h : rangeB a b = true) : 0 ≤ a ∧ a ≤ b ∧ b ≤ 600 := by
  simp only [rangeB, inB, Bool.and_eq_true, decide_eq_true_eq] at h
  omega

set_option maxRecDepth 100000 in
set_option maxHeartbeats 4000000 in
theorem refNobody_any (r : Rel) (hn : r.n ≤ 1000000) (a b : Int) (sv : Value) (w : World) (hS : StintsAt w sv r.stints) : Calls Try.prog 23 #[relV r sv, .int .i64 a, .int .i64 b] w fun e w' => e = .returned (.tuple #[.int .i64 (nobodyOf r a b).1, .int .i64 (nobodyOf r a b).2]) ∧ Below w.heap.size w w' := by
  obtain ⟨sa, scap, rfl, hs0⟩ := id hS
  clear hs0
  replace hS := hid hS
  have hn' := hid hn
  clear hn
  have hb0 := hid (below_alloc (Below.refl _ w) (.cells #[.int .i64 r.rest, .slice sa r.stints.length scap] 24))
  have hm := alloc_at (w := w) (o := .cells #[.int .i64 r.rest, .slice sa r.stints.length scap] 24) rfl
  obtain ⟨rb, hrb⟩ : ∃ x, x = rangeB a b := ⟨_, rfl⟩
  have hra := hid (refRange_as hrb.symm)
  replace hrb := hid hrb
  go_enter Try.func23, Try.ntmps23
  go_upto_region 1 with fail
  generalize w.alloc (.cells #[.int .i64 r.rest, .slice sa r.stints.length scap] 24) = w0 at hm hb0 ⊢
  have hbx := hid (Nat.le_refl w.heap.size)
  refine wp_region_held_at (S := fun W => W.heap[w.heap.size]? = some (.cells #[.int .i64 r.rest, .slice sa r.stints.length scap] 24 (0, 0))) (by kernel_rfl) ?_
  intro w1 hw1 _
  have hz : w1.heap[w.heap.size]? = some (.cells #[.int .i64 r.rest, .slice sa r.stints.length scap] 24 (0, 0)) := (hw1.block _ (cells_of hm).1).trans hm
  replace hb0 := hid (below_via hw1 hb0.out)
  clear hm hw1
  try simp only [Array.replicate]
  refine wpAnyH_quiet (i := 0) (v := relV r (.slice sa r.stints.length scap)) rfl (by kernel_rfl) (by kernel_rfl) (by kernel_rfl) (fun _ _ _ h => h) rfl (fun W hW => by obtain ⟨lq, cq⟩ := cells_of hW; go_simp) hz ?_
  refine wpAnyH_quiet (i := 1) (v := .int .i64 a) rfl (by kernel_rfl) (by kernel_rfl) (by kernel_rfl) (fun _ _ _ h => h) rfl (fun W hW => by go_simp) hz ?_
  refine wpAnyH_quiet (i := 2) (v := .int .i64 b) rfl (by kernel_rfl) (by kernel_rfl) (by kernel_rfl) (fun _ _ _ h => h) rfl (fun W hW => by go_simp) hz ?_
  try simp only [Act.put, List.setIfInBounds_toArray]
  refine wpAnyH_step (i := 3) (by kernel_rfl) rfl ?_
  go_wp2_with (go_at_call 54; with_reducible refine (hra.out w1).mono ?_; rintro e w2 ⟨rfl, rfl⟩)
  refine ⟨hz, ?_⟩
  have hf := hid (refOpen_any r hn'.out rb (.slice sa r.stints.length scap) w1 (hS.out.below hb0.out))
  refine wpAnyH_step (i := 4) (by kernel_rfl) rfl ?_
  go_wp2_with (go_at_call 48; with_reducible refine hf.out.mono ?_; rintro e w3 hP; obtain ⟨hb3, v, c, rfl, hO⟩ := hP.out2; clear hP; replace hz := (hb3.block _ (cells_of hz).1).trans hz; replace hb0 := hid (below_via hb3 hb0.out); replace hO := hid hO; clear hf hb3)
  refine ⟨hz, ?_⟩
  refine wpAnyH_quiet (i := 5) (v := .tuple #[v, .int .i64 c]) rfl (by kernel_rfl) (by kernel_rfl) (by kernel_rfl) (fun _ _ _ h => h) rfl (fun W hW => by go_simp) hz ?_
  refine wpAnyH_quiet (i := 6) (v := v) rfl (by kernel_rfl) (by kernel_rfl) (by kernel_rfl) (fun _ _ _ h => h) rfl (fun W hW => by go_simp) hz ?_
  refine wpAnyH_quiet (i := 7) (v := .int .i64 c) rfl (by kernel_rfl) (by kernel_rfl) (by kernel_rfl) (fun _ _ _ h => h) rfl (fun W hW => by go_simp) hz ?_
  refine wpAnyH_step (i := 8) (by kernel_rfl) rfl ?_
  go_wp2
  refine ⟨hz, ?_⟩
  refine wpAnyH_step (i := 9) (by kernel_rfl) rfl ?_
  go_wp2
  refine ⟨hz, ?_⟩
  refine wpAnyH_done (by kernel_rfl) ?_ _
  try simp only [Act.put, List.setIfInBounds_toArray]
  rw [hrb.out] at hO
  clear hrb
  rcases hO.out with ⟨hc, ht⟩ | ⟨rfl, hv, hb, T, hT⟩
  · have hof := hid (show nobodyOf r a b = (0, c) from minute_panics ht)
    clear ht hO
    go_wp2
    go_ret2
    exact ⟨by rw [hof.out]; rfl, hb0.out⟩
  · obtain ⟨ha, hab, hb6⟩ := range_of hb
    have hof := hid (show nobodyOf r a b = match firstOf (nobQ r T) a (b + 1 - a).toNat with | some m => (m, 0) | none => (0, 4) from minute_ok hv hb hT)
    have hv' := hid hv
    have hT' := hid hT
    clear hv hT hb hO hra
    replace hz := hid hz
    have lz := (cells_of hz.out).1
    have cz := (cells_of hz.out).2
    go_wp2
    go_loopw [10] (fun i wr => ∃ x : Int, a ≤ x ∧ x ≤ b + 1 ∧ i = .int .i64 x ∧ Hid (∀ y, a ≤ y → y < x → nobQ r T y = false) ∧ Hid (Below w.heap.size w wr) ∧ Hid (wr.heap[w.heap.size]? = some (.cells #[.int .i64 r.rest, .slice sa r.stints.length scap] 24 (0, 0)))) (fun i _ => (b + 1 - intOf i).toNat)
    case atStart => exact ⟨a, by omega, by omega, rfl, hid (fun y h1 h2 => by omega), hb0, hz⟩
    case round =>
      obtain ⟨x, hx1, hx2, rfl, hno, hb, hzz⟩ := hrel
      clear lz cz hz hb0
      have lt := (cells_of hzz.out).1
      have ct := (cells_of hzz.out).2
      by_cases hlt : x ≤ b
      · have hf := hid (busy_any r hv'.out x (by omega) (.slice sa r.stints.length scap) wr (hS.out.below hb.out))
        go_upto_region 7 with fail
        go_wp2_with (go_at_call 55; with_reducible refine hf.out.mono ?_; rintro e w4 ⟨bz, rfl, hbi, hb4⟩; replace hzz := hid ((hb4.block _ (cells_of hzz.out).1).trans hzz.out); replace hb := hid (below_via hb4 hb.out); replace hbi := hid hbi; clear hf hb4; cases bz)
        · go_ret2
          have hq := hid (show nobQ r T x = true by rw [nobQ_iff hv'.out hT'.out]; have h := hbi.out; simp only [Bool.false_eq_true, false_iff] at h; exact fun i hi h2 => h ⟨i, hi, h2⟩)
          exact ⟨by rw [hof.out, firstOf_yes _ _ x hno.out hq.out (by omega) (by omega)]; rfl, hb.out⟩
        · go_roundw
          case rel =>
            have hq := hid (show nobQ r T x = false by rw [← Bool.not_eq_true, nobQ_iff hv'.out hT'.out]; have h := hbi.out; simp only [true_iff] at h; exact fun h3 => by obtain ⟨i, hi, h2⟩ := h; exact h3 i hi h2)
            exact ⟨x + 1, by omega, by omega, by go_num, hid (fun y h1 h2 => by
              by_cases e : y = x
              · rw [e]; exact hq.out
              · exact hno.out y h1 (by omega)), hb, hzz⟩
          case measure => simp [intOf]; omega
      · obtain rfl : x = b + 1 := by omega
        go_wp2
        go_ret2
        exact ⟨by rw [hof.out, firstOf_no _ _ (fun y h1 h2 => hno.out y h1 (by omega))]; rfl, hb.out⟩

set_option maxRecDepth 100000 in
set_option maxHeartbeats 4000000 in
theorem refGap_any (r : Rel) (hn : r.n ≤ 1000000) (a b : Int) (sv : Value) (w : World) (hS : StintsAt w sv r.stints) : Calls Try.prog 25 #[relV r sv, .int .i64 a, .int .i64 b] w fun e w' => e = .returned (.tuple #[.int .i64 (minuteGapOf r a b).1, .int .i64 (minuteGapOf r a b).2]) ∧ Below w.heap.size w w' := by
  obtain ⟨sa, scap, rfl, hs0⟩ := id hS
  clear hs0
  replace hS := hid hS
  have hn' := hid hn
  clear hn
  have hb0 := hid (below_alloc (Below.refl _ w) (.cells #[.int .i64 r.rest, .slice sa r.stints.length scap] 24))
  have hm := alloc_at (w := w) (o := .cells #[.int .i64 r.rest, .slice sa r.stints.length scap] 24) rfl
  obtain ⟨rb, hrb⟩ : ∃ x, x = rangeB a b := ⟨_, rfl⟩
  have hra := hid (refRange_as hrb.symm)
  replace hrb := hid hrb
  go_enter Try.func25, Try.ntmps25
  go_upto_region 1 with fail
  generalize w.alloc (.cells #[.int .i64 r.rest, .slice sa r.stints.length scap] 24) = w0 at hm hb0 ⊢
  have hbx := hid (Nat.le_refl w.heap.size)
  refine wp_region_held_at (S := fun W => W.heap[w.heap.size]? = some (.cells #[.int .i64 r.rest, .slice sa r.stints.length scap] 24 (0, 0))) (by kernel_rfl) ?_
  intro w1 hw1 _
  have hz : w1.heap[w.heap.size]? = some (.cells #[.int .i64 r.rest, .slice sa r.stints.length scap] 24 (0, 0)) := (hw1.block _ (cells_of hm).1).trans hm
  replace hb0 := hid (below_via hw1 hb0.out)
  clear hm hw1
  try simp only [Array.replicate]
  refine wpAnyH_quiet (i := 0) (v := relV r (.slice sa r.stints.length scap)) rfl (by kernel_rfl) (by kernel_rfl) (by kernel_rfl) (fun _ _ _ h => h) rfl (fun W hW => by obtain ⟨lq, cq⟩ := cells_of hW; go_simp) hz ?_
  refine wpAnyH_quiet (i := 1) (v := .int .i64 a) rfl (by kernel_rfl) (by kernel_rfl) (by kernel_rfl) (fun _ _ _ h => h) rfl (fun W hW => by go_simp) hz ?_
  refine wpAnyH_quiet (i := 2) (v := .int .i64 b) rfl (by kernel_rfl) (by kernel_rfl) (by kernel_rfl) (fun _ _ _ h => h) rfl (fun W hW => by go_simp) hz ?_
  try simp only [Act.put, List.setIfInBounds_toArray]
  refine wpAnyH_step (i := 3) (by kernel_rfl) rfl ?_
  go_wp2_with (go_at_call 54; with_reducible refine (hra.out w1).mono ?_; rintro e w2 ⟨rfl, rfl⟩)
  refine ⟨hz, ?_⟩
  have hf := hid (refOpen_any r hn'.out rb (.slice sa r.stints.length scap) w1 (hS.out.below hb0.out))
  refine wpAnyH_step (i := 4) (by kernel_rfl) rfl ?_
  go_wp2_with (go_at_call 48; with_reducible refine hf.out.mono ?_; rintro e w3 hP; obtain ⟨hb3, v, c, rfl, hO⟩ := hP.out2; clear hP; replace hz := (hb3.block _ (cells_of hz).1).trans hz; replace hb0 := hid (below_via hb3 hb0.out); replace hO := hid hO; clear hf hb3)
  refine ⟨hz, ?_⟩
  refine wpAnyH_quiet (i := 5) (v := .tuple #[v, .int .i64 c]) rfl (by kernel_rfl) (by kernel_rfl) (by kernel_rfl) (fun _ _ _ h => h) rfl (fun W hW => by go_simp) hz ?_
  refine wpAnyH_quiet (i := 6) (v := v) rfl (by kernel_rfl) (by kernel_rfl) (by kernel_rfl) (fun _ _ _ h => h) rfl (fun W hW => by go_simp) hz ?_
  refine wpAnyH_quiet (i := 7) (v := .int .i64 c) rfl (by kernel_rfl) (by kernel_rfl) (by kernel_rfl) (fun _ _ _ h => h) rfl (fun W hW => by go_simp) hz ?_
  refine wpAnyH_step (i := 8) (by kernel_rfl) rfl ?_
  go_wp2
  refine ⟨hz, ?_⟩
  refine wpAnyH_step (i := 9) (by kernel_rfl) rfl ?_
  go_wp2
  refine ⟨hz, ?_⟩
  refine wpAnyH_done (by kernel_rfl) ?_ _
  try simp only [Act.put, List.setIfInBounds_toArray]
  rw [hrb.out] at hO
  clear hrb
  rcases hO.out with ⟨hc, ht⟩ | ⟨rfl, hv, hb, T, hT⟩
  · have hof := hid (show minuteGapOf r a b = (0, c) from minute_panics ht)
    clear ht hO
    go_wp2
    go_ret2
    exact ⟨by rw [hof.out]; rfl, hb0.out⟩
  · obtain ⟨ha, hab, hb6⟩ := range_of hb
    have hof := hid (show minuteGapOf r a b = match firstOf (gapQ r T) a (b + 1 - a).toNat with | some m => (m, 0) | none => (0, 4) from minute_ok hv hb hT)
    have hv' := hid hv
    have hT' := hid hT
    clear hv hT hb hO hra
    replace hz := hid hz
    have lz := (cells_of hz.out).1
    have cz := (cells_of hz.out).2
    go_wp2
    go_loopw [10] (fun i wr => ∃ x : Int, a ≤ x ∧ x ≤ b + 1 ∧ i = .int .i64 x ∧ Hid (∀ y, a ≤ y → y < x → gapQ r T y = false) ∧ Hid (Below w.heap.size w wr) ∧ Hid (wr.heap[w.heap.size]? = some (.cells #[.int .i64 r.rest, .slice sa r.stints.length scap] 24 (0, 0)))) (fun i _ => (b + 1 - intOf i).toNat)
    case atStart => exact ⟨a, by omega, by omega, rfl, hid (fun y h1 h2 => by omega), hb0, hz⟩
    case round =>
      obtain ⟨x, hx1, hx2, rfl, hno, hb, hzz⟩ := hrel
      clear lz cz hz hb0
      have lt := (cells_of hzz.out).1
      have ct := (cells_of hzz.out).2
      by_cases hlt : x ≤ b
      · have hf := hid (free_any r hv'.out x (by omega) (.slice sa r.stints.length scap) wr (hS.out.below hb.out))
        go_upto_region 7 with fail
        go_wp2_with (go_at_call 57; with_reducible refine hf.out.mono ?_; rintro e w4 ⟨bz, rfl, hbi, hb4⟩; replace hzz := hid ((hb4.block _ (cells_of hzz.out).1).trans hzz.out); replace hb := hid (below_via hb4 hb.out); replace hbi := hid hbi; clear hf hb4; cases bz)
        · go_roundw
          case rel =>
            have hq := hid (show gapQ r T x = false by rw [← Bool.not_eq_true, gapQ_iff hv'.out hT'.out]; have h := hbi.out; simp only [Bool.false_eq_true, false_iff] at h; exact h)
            exact ⟨x + 1, by omega, by omega, by go_num, hid (fun y h1 h2 => by
              by_cases e : y = x
              · rw [e]; exact hq.out
              · exact hno.out y h1 (by omega)), hb, hzz⟩
          case measure => simp [intOf]; omega
        · go_ret2
          have hq := hid (show gapQ r T x = true by rw [gapQ_iff hv'.out hT'.out]; have h := hbi.out; simp only [true_iff] at h; exact h)
          exact ⟨by rw [hof.out, firstOf_yes _ _ x hno.out hq.out (by omega) (by omega)]; rfl, hb.out⟩
      · obtain rfl : x = b + 1 := by omega
        go_wp2
        go_ret2
        exact ⟨by rw [hof.out, firstOf_no _ _ (fun y h1 h2 => hno.out y h1 (by omega))]; rfl, hb.out⟩

end Go.Proofs.Ytccgakdaiaigoaa

namespace Go.Proofs.Ytccgakdaiaigoaa
open Go.RowKit Go.Lap Go.Shelf

theorem tab_ge {r : Rel} (hv : r.valid = true) {set : Nat} {T : Tab} (hT : r.tab set = some T) {i k : Nat} (hi : r.isT i) (hk : r.isT k) {v : Int} : v ≤ T i k ↔ ∃ s, Truth r set s ∧ v ≤ ext r s k - ext r s i := by
  obtain ⟨⟨s, hs, he⟩, hle⟩ := Rel.tab_hi hv hT hi hk
  constructor
  · intro h; exact ⟨s, hs, by omega⟩
  · rintro ⟨s', h1, h2⟩; have := hle s' h1; omega
theorem tab_ge2 {r : Rel} (hv : r.valid = true) {T : Tab} (hT : r.tab r.every = some T) {i k : Nat} (hi : i < 2 * r.n) (hk : k < 2 * r.n) {v : Int} : v ≤ T i k ↔ ∃ s, Truth r r.every s ∧ Ru.ok ⟨i, k, v⟩ s := by
  rw [tab_ge hv hT (.inl hi) (.inl hk)]
  refine exists_congr fun s => and_congr_right fun _ => ?_
  rw [ext_stint hi, ext_stint hk]
  simp only [Ru.ok]
  omega
theorem with_as (r : Rel) (hv : r.valid = true) {T : Tab} (hT : r.tab r.every = some T) {i k : Nat} (hi : i < 2 * r.n) (hk : k < 2 * r.n) {A B v : Int} (hA : A = i) (hB : B = k) (hx : -1000 ≤ v ∧ v ≤ 1000) {x : Bool} (hx2 : decide (v ≤ T i k) = x) (sv : Value) (w : World) (hS : StintsAt w sv r.stints) : Calls Try.prog 50 #[relV r sv, .int .i64 A, .int .i64 B, .int .i64 v] w fun e w' => e = .returned (.bool x) ∧ Below w.heap.size w w' := by
  subst hA hB hx2
  refine (with_any r hv ⟨i, k, v⟩ ⟨hi, hk, hx.1, hx.2⟩ sv w hS).mono ?_
  rintro e w' ⟨b, rfl, h, hb⟩
  have e : b = decide (v ≤ T i k) := by
    rw [Bool.eq_iff_iff, h, decide_eq_true_eq, tab_ge2 hv hT hi hk]
  rw [e]
  exact ⟨rfl, hb⟩

theorem heap_set_ne {W : World} {b b' o : Nat} {v : Value} (h : b ≠ b') : (W.setCell ⟨b, o, none⟩ v).heap[b']? = W.heap[b']? := by
  simp only [World.setCell, Array.getElem?_modify]
  rw [if_neg h]
theorem len_range {r : Rel} (hv : r.valid = true) {T : Tab} (hT : r.tab r.every = some T) {q : Nat} (hq : q < r.n) : T (2 * q + 1) (2 * q) ≤ -1 ∧ -T (2 * q + 1) (2 * q) ≤ T (2 * q) (2 * q + 1) ∧ T (2 * q) (2 * q + 1) ≤ 600 := by
  obtain ⟨⟨s, hs, he⟩, _⟩ := Rel.tab_hi hv hT (i := 2 * q + 1) (k := 2 * q) (.inl (by omega)) (.inl (by omega))
  obtain ⟨⟨s2, hs2, he2⟩, hle2⟩ := Rel.tab_hi hv hT (i := 2 * q) (k := 2 * q + 1) (.inl (by omega)) (.inl (by omega))
  have h3 := hle2 s hs
  rw [ext_stint (show 2 * q < 2 * r.n by omega), ext_stint (show 2 * q + 1 < 2 * r.n by omega)] at he he2 h3
  have h1 := hs.own q hq
  have h2 := hs2.own q hq
  omega
theorem isStint_as {r : Rel} {a : Option Addr} {cap : Nat} (hn : r.n ≤ 1000000) {i : Int} {x : Bool} (h : r.isStint i = x) (w : World) : Calls Try.prog 49 #[relV r (.slice a r.n cap), .int .i64 i] w fun e w' => e = .returned (.bool x) ∧ Below w.heap.size w w' := by
  subst h; exact refStint_any r hn i a cap w

set_option maxRecDepth 100000 in
set_option maxHeartbeats 4000000 in
theorem refHanded_no (r : Rel) (hn : r.n ≤ 1000000) (i : Int) (hx : r.isStint i = false) (sv : Value) (w : World) (hS : StintsAt w sv r.stints) : Calls Try.prog 21 #[relV r sv, .int .i64 i] w fun e w' => e = .returned (.tuple #[.int .i64 (handedOf r i).1, .int .i64 (handedOf r i).2]) ∧ Below w.heap.size w w' := by
  obtain ⟨sa, scap, rfl, hs0⟩ := id hS
  clear hs0
  replace hS := hid hS
  have hn' := hid hn
  clear hn
  have hb0 := hid (below_alloc (Below.refl _ w) (.cells #[.int .i64 r.rest, .slice sa r.stints.length scap] 24))
  have hm := alloc_at (w := w) (o := .cells #[.int .i64 r.rest, .slice sa r.stints.length scap] 24) rfl
  have hi1 := hid (isStint_as (a := sa) (cap := scap) hn'.out hx)
  have hof := hid (show ∀ c, PanicsR r false c → handedOf r i = (0, c) from fun c hc => by rw [handedOf, hx]; exact told_panics hc)
  clear hx
  go_enter Try.func21, Try.ntmps21
  go_upto_region 1 with fail
  generalize w.alloc (.cells #[.int .i64 r.rest, .slice sa r.stints.length scap] 24) = w0 at hm hb0 ⊢
  have hbx := hid (Nat.le_refl w.heap.size)
  refine wp_region_held_at (S := fun W => W.heap[w.heap.size]? = some (.cells #[.int .i64 r.rest, .slice sa r.stints.length scap] 24 (0, 0))) (by kernel_rfl) ?_
  intro w1 hw1 _
  have hz : w1.heap[w.heap.size]? = some (.cells #[.int .i64 r.rest, .slice sa r.stints.length scap] 24 (0, 0)) := (hw1.block _ (cells_of hm).1).trans hm
  replace hb0 := hid (below_via hw1 hb0.out)
  clear hm hw1
  try simp only [Array.replicate]
  refine wpAnyH_quiet (i := 0) (v := relV r (.slice sa r.stints.length scap)) rfl (by kernel_rfl) (by kernel_rfl) (by kernel_rfl) (fun _ _ _ h => h) rfl (fun W hW => by obtain ⟨lq, cq⟩ := cells_of hW; go_simp) hz ?_
  refine wpAnyH_quiet (i := 1) (v := relV r (.slice sa r.stints.length scap)) rfl (by kernel_rfl) (by kernel_rfl) (by kernel_rfl) (fun _ _ _ h => h) rfl (fun W hW => by obtain ⟨lq, cq⟩ := cells_of hW; go_simp) hz ?_
  refine wpAnyH_quiet (i := 2) (v := .int .i64 i) rfl (by kernel_rfl) (by kernel_rfl) (by kernel_rfl) (fun _ _ _ h => h) rfl (fun W hW => by go_simp) hz ?_
  try simp only [Act.put, List.setIfInBounds_toArray]
  refine wpAnyH_step (i := 3) (by kernel_rfl) rfl ?_
  go_wp2_with (go_at_call 49; with_reducible refine (hi1.out w1).mono ?_; rintro e w2 ⟨rfl, hb2⟩; replace hz := (hb2.block _ (cells_of hz).1).trans hz; replace hb0 := hid (below_via hb2 hb0.out); clear hb2)
  refine ⟨hz, ?_⟩
  refine wpAnyH_quiet (i := 4) (v := .bool false) rfl (by kernel_rfl) (by kernel_rfl) (by kernel_rfl) (fun _ _ _ h => h) rfl (fun W hW => by go_simp) hz ?_
  refine wpAnyH_take (i := 5) (v := undef) rfl (by kernel_rfl) (by kernel_rfl) (by kernel_rfl) (fun _ _ _ h => h) (Or.inr ⟨by rfl, rfl⟩) hz ?_
  refine wpAnyH_take (i := 6) (v := undef) rfl (by kernel_rfl) (by kernel_rfl) (by kernel_rfl) (fun _ _ _ h => h) (Or.inr ⟨by rfl, rfl⟩) hz ?_
  refine wpAnyH_take (i := 7) (v := undef) rfl (by kernel_rfl) (by kernel_rfl) (by kernel_rfl) (fun _ _ _ h => h) (Or.inr ⟨by rfl, rfl⟩) hz ?_
  refine wpAnyH_take (i := 8) (v := undef) rfl (by kernel_rfl) (by kernel_rfl) (by kernel_rfl) (fun _ _ _ h => h) (Or.inr ⟨by rfl, rfl⟩) hz ?_
  refine wpAnyH_quiet (i := 9) (v := .bool false) rfl (by kernel_rfl) (by kernel_rfl) (by kernel_rfl) (fun _ _ _ h => h) rfl (fun W hW => by go_simp) hz ?_
  try simp only [Act.put, List.setIfInBounds_toArray]
  have hf := hid (refOpen_any r hn'.out false (.slice sa r.stints.length scap) w2 (hS.out.below hb0.out))
  refine wpAnyH_step (i := 10) (by kernel_rfl) rfl ?_
  go_wp2_with (go_at_call 48; with_reducible refine hf.out.mono ?_; rintro e w3 hP; obtain ⟨hb3, v, c, rfl, hO⟩ := hP.out2; clear hP; replace hz := (hb3.block _ (cells_of hz).1).trans hz; replace hb0 := hid (below_via hb3 hb0.out); replace hO := hid hO; clear hf hb3)
  refine ⟨hz, ?_⟩
  refine wpAnyH_quiet (i := 11) (v := .tuple #[v, .int .i64 c]) rfl (by kernel_rfl) (by kernel_rfl) (by kernel_rfl) (fun _ _ _ h => h) rfl (fun W hW => by go_simp) hz ?_
  refine wpAnyH_quiet (i := 12) (v := v) rfl (by kernel_rfl) (by kernel_rfl) (by kernel_rfl) (fun _ _ _ h => h) rfl (fun W hW => by go_simp) hz ?_
  refine wpAnyH_quiet (i := 13) (v := .int .i64 c) rfl (by kernel_rfl) (by kernel_rfl) (by kernel_rfl) (fun _ _ _ h => h) rfl (fun W hW => by go_simp) hz ?_
  refine wpAnyH_step (i := 14) (by kernel_rfl) rfl ?_
  go_wp2
  refine ⟨hz, ?_⟩
  refine wpAnyH_step (i := 15) (by kernel_rfl) rfl ?_
  go_wp2
  refine ⟨hz, ?_⟩
  refine wpAnyH_done (by kernel_rfl) ?_ _
  try simp only [Act.put, List.setIfInBounds_toArray]
  rcases hO.out with ⟨hc, ht⟩ | ⟨rfl, hv, hb, _⟩
  · have ho := hid (hof.out c ht)
    clear ht hO hof
    go_wp2
    go_ret2
    exact ⟨by rw [ho.out]; rfl, hb0.out⟩
  · cases hb

set_option maxRecDepth 100000 in
set_option maxHeartbeats 4000000 in
theorem refHanded_yes (r : Rel) (hn : r.n ≤ 1000000) (i : Int) (hx : r.isStint i = true) (sv : Value) (w : World) (hS : StintsAt w sv r.stints) : Calls Try.prog 21 #[relV r sv, .int .i64 i] w fun e w' => e = .returned (.tuple #[.int .i64 (handedOf r i).1, .int .i64 (handedOf r i).2]) ∧ Below w.heap.size w w' := by
  obtain ⟨sa, scap, rfl, hs0⟩ := id hS
  clear hs0
  replace hS := hid hS
  have hn' := hid hn
  have hiq := hx
  simp only [Rel.isStint, Bool.and_eq_true, decide_eq_true_eq] at hiq
  have hir : 0 ≤ i ∧ i < 1000000 := by omega
  clear hn hiq
  obtain ⟨hir1, hir2⟩ := hir
  have hwq : IntKind.i64.wrap (i + 1) = i + 1 := Go.IntWalk.i64_in _ (by omega)
  have hb0 := hid (below_alloc (Below.refl _ w) (.cells #[.int .i64 r.rest, .slice sa r.stints.length scap] 24))
  have hm := alloc_at (w := w) (o := .cells #[.int .i64 r.rest, .slice sa r.stints.length scap] 24) rfl
  have hi1 := hid (isStint_as (a := sa) (cap := scap) hn'.out hx)
  obtain ⟨x2, hx2⟩ : ∃ x, x = r.isStint (i + 1) := ⟨_, rfl⟩
  have hi2 := hid (isStint_as (a := sa) (cap := scap) hn'.out hx2.symm)
  have hof := hid (show handedOf r i = r.told x2 0 fun T => handedAt T i.toNat by rw [handedOf, hx, hx2, Bool.true_and])
  replace hx := hid hx
  replace hx2 := hid hx2
  go_enter Try.func21, Try.ntmps21
  go_upto_region 1 with fail
  generalize w.alloc (.cells #[.int .i64 r.rest, .slice sa r.stints.length scap] 24) = w0 at hm hb0 ⊢
  have hbx := hid (Nat.le_refl w.heap.size)
  refine wp_region_held_at (S := fun W => W.heap[w.heap.size]? = some (.cells #[.int .i64 r.rest, .slice sa r.stints.length scap] 24 (0, 0))) (by kernel_rfl) ?_
  intro w1 hw1 _
  have hz : w1.heap[w.heap.size]? = some (.cells #[.int .i64 r.rest, .slice sa r.stints.length scap] 24 (0, 0)) := (hw1.block _ (cells_of hm).1).trans hm
  replace hb0 := hid (below_via hw1 hb0.out)
  clear hm hw1
  try simp only [Array.replicate]
  refine wpAnyH_quiet (i := 0) (v := relV r (.slice sa r.stints.length scap)) rfl (by kernel_rfl) (by kernel_rfl) (by kernel_rfl) (fun _ _ _ h => h) rfl (fun W hW => by obtain ⟨lq, cq⟩ := cells_of hW; go_simp) hz ?_
  refine wpAnyH_quiet (i := 1) (v := relV r (.slice sa r.stints.length scap)) rfl (by kernel_rfl) (by kernel_rfl) (by kernel_rfl) (fun _ _ _ h => h) rfl (fun W hW => by obtain ⟨lq, cq⟩ := cells_of hW; go_simp) hz ?_
  refine wpAnyH_quiet (i := 2) (v := .int .i64 i) rfl (by kernel_rfl) (by kernel_rfl) (by kernel_rfl) (fun _ _ _ h => h) rfl (fun W hW => by go_simp) hz ?_
  try simp only [Act.put, List.setIfInBounds_toArray]
  refine wpAnyH_step (i := 3) (by kernel_rfl) rfl ?_
  go_wp2_with (go_at_call 49; with_reducible refine (hi1.out w1).mono ?_; rintro e w2 ⟨rfl, hb2⟩; replace hz := (hb2.block _ (cells_of hz).1).trans hz; replace hb0 := hid (below_via hb2 hb0.out); clear hb2)
  refine ⟨hz, ?_⟩
  refine wpAnyH_quiet (i := 4) (v := .bool true) rfl (by kernel_rfl) (by kernel_rfl) (by kernel_rfl) (fun _ _ _ h => h) rfl (fun W hW => by go_simp) hz ?_
  refine wpAnyH_take (i := 5) (v := relV r (.slice sa r.stints.length scap)) rfl (by kernel_rfl) (by kernel_rfl) (by kernel_rfl) (fun _ _ _ h => h) (Or.inl ⟨by rfl, fun W hW => by obtain ⟨lq, cq⟩ := cells_of hW; go_simp⟩) hz ?_
  refine wpAnyH_take (i := 6) (v := .int .i64 i) rfl (by kernel_rfl) (by kernel_rfl) (by kernel_rfl) (fun _ _ _ h => h) (Or.inl ⟨by rfl, fun W hW => by go_simp⟩) hz ?_
  refine wpAnyH_take (i := 7) (v := .int .i64 (i + 1)) rfl (by kernel_rfl) (by kernel_rfl) (by kernel_rfl) (fun _ _ _ h => h) (Or.inl ⟨by rfl, fun W hW => by go_simp⟩) hz ?_
  try simp only [Act.put, List.setIfInBounds_toArray]
  refine wpAnyH_step (i := 8) (by kernel_rfl) rfl ?_
  go_wp2_with (go_at_call 49; with_reducible refine (hi2.out w2).mono ?_; rintro e w5 ⟨rfl, hb2⟩; replace hz := (hb2.block _ (cells_of hz).1).trans hz; replace hb0 := hid (below_via hb2 hb0.out); clear hb2)
  refine ⟨hz, ?_⟩
  refine wpAnyH_quiet (i := 9) (v := .bool x2) rfl (by kernel_rfl) (by kernel_rfl) (by kernel_rfl) (fun _ _ _ h => h) rfl (fun W hW => by go_simp) hz ?_
  try simp only [Act.put, List.setIfInBounds_toArray]
  have hf := hid (refOpen_any r hn'.out x2 (.slice sa r.stints.length scap) w5 (hS.out.below hb0.out))
  refine wpAnyH_step (i := 10) (by kernel_rfl) rfl ?_
  go_wp2_with (go_at_call 48; with_reducible refine hf.out.mono ?_; rintro e w3 hP; obtain ⟨hb3, v, c, rfl, hO⟩ := hP.out2; clear hP; replace hz := (hb3.block _ (cells_of hz).1).trans hz; replace hb0 := hid (below_via hb3 hb0.out); replace hO := hid hO; clear hf hb3)
  refine ⟨hz, ?_⟩
  refine wpAnyH_quiet (i := 11) (v := .tuple #[v, .int .i64 c]) rfl (by kernel_rfl) (by kernel_rfl) (by kernel_rfl) (fun _ _ _ h => h) rfl (fun W hW => by go_simp) hz ?_
  refine wpAnyH_quiet (i := 12) (v := v) rfl (by kernel_rfl) (by kernel_rfl) (by kernel_rfl) (fun _ _ _ h => h) rfl (fun W hW => by go_simp) hz ?_
  refine wpAnyH_quiet (i := 13) (v := .int .i64 c) rfl (by kernel_rfl) (by kernel_rfl) (by kernel_rfl) (fun _ _ _ h => h) rfl (fun W hW => by go_simp) hz ?_
  refine wpAnyH_step (i := 14) (by kernel_rfl) rfl ?_
  go_wp2
  refine ⟨hz, ?_⟩
  refine wpAnyH_step (i := 15) (by kernel_rfl) rfl ?_
  go_wp2
  refine ⟨hz, ?_⟩
  refine wpAnyH_done (by kernel_rfl) ?_ _
  try simp only [Act.put, List.setIfInBounds_toArray]
  rcases hO.out with ⟨hc, ht⟩ | ⟨rfl, hv, hb, T, hT⟩
  · have ho := hid (show handedOf r i = (0, c) by rw [hof.out]; exact told_panics ht)
    clear ht hO hof
    go_wp2
    go_ret2
    exact ⟨by rw [ho.out]; rfl, hb0.out⟩
  · have ho := hid (show handedOf r i = (handedAt T i.toNat, 0) by rw [hof.out, hb]; exact told_ok hv hT)
    rw [hb] at hx2
    have h2 := hx2.out.symm
    simp only [Rel.isStint, Bool.and_eq_true, decide_eq_true_eq] at h2
    obtain ⟨q, rfl⟩ := Int.eq_ofNat_of_zero_le hir1
    have hq : q + 1 < r.n := by omega
    have hn5 := (r.ok_of hv).2.2.1
    have hq5 : (q : Int) < 5 := by omega
    clear hO hof hx2 h2 hx hb hi1 hi2
    obtain ⟨y1, hy1⟩ : ∃ x, x = decide (0 ≤ T (2 * q + 2) (2 * q + 1)) := ⟨_, rfl⟩
    obtain ⟨y2, hy2⟩ : ∃ x, x = decide (1 ≤ T (2 * q + 1) (2 * q + 2)) := ⟨_, rfl⟩
    have hh := hid (show handedAt T q = if y2 then (if y1 then 1 else 0) else 2 by
      rw [hy1, hy2, handedAt, Tab.span]
      by_cases e1 : 0 ≤ T (2 * q + 2) (2 * q + 1) <;> by_cases e2 : 1 ≤ T (2 * q + 1) (2 * q + 2) <;> simp only [e1, e2, decide_true, decide_false, if_true, if_false, Bool.false_eq_true] <;> (first | rw [if_pos (by omega)] | (rw [if_neg (by omega), if_pos (by omega)]) | rw [if_neg (by omega), if_neg (by omega)]))
    have hw1 := hid (with_as r hv hT (i := 2 * q + 2) (k := 2 * q + 1) (by omega) (by omega) (A := 2 * (q : Int) + 2) (B := 2 * (q : Int) + 1) (by omega) (by omega) (v := 0) (by omega) hy1.symm (.slice sa r.stints.length scap))
    have hw2 := hid (with_as r hv hT (i := 2 * q + 1) (k := 2 * q + 2) (by omega) (by omega) (A := 2 * (q : Int) + 1) (B := 2 * (q : Int) + 2) (by omega) (by omega) (v := 1) (by omega) hy2.symm (.slice sa r.stints.length scap))
    clear hn5 hq hy1 hy2 hv hT
    go_upto_region 5 with fail
    refine wp_region_held_at (S := fun W => W.heap[w.heap.size]? = some (.cells #[.int .i64 r.rest, .slice sa r.stints.length scap] 24 (0, 0))) (by kernel_rfl) ?_
    intro w6 hw6 _
    replace hz : w6.heap[w.heap.size]? = some (.cells #[.int .i64 r.rest, .slice sa r.stints.length scap] 24 (0, 0)) := (hw6.block _ (cells_of hz).1).trans hz
    replace hb0 := hid (below_via hw6 hb0.out)
    clear hw6
    try simp only [Array.replicate]
    refine wpAnyH_quiet (i := 0) (v := relV r (.slice sa r.stints.length scap)) rfl (by kernel_rfl) (by kernel_rfl) (by kernel_rfl) (fun _ _ _ h => h) rfl (fun W hW => by obtain ⟨lq, cq⟩ := cells_of hW; go_simp) hz ?_
    refine wpAnyH_quiet (i := 1) (v := .int .i64 (2 * (q : Int) + 2)) rfl (by kernel_rfl) (by kernel_rfl) (by kernel_rfl) (fun _ _ _ h => h) rfl (fun W hW => by go_simp) hz ?_
    refine wpAnyH_quiet (i := 2) (v := .int .i64 (2 * (q : Int) + 1)) rfl (by kernel_rfl) (by kernel_rfl) (by kernel_rfl) (fun _ _ _ h => h) rfl (fun W hW => by go_simp) hz ?_
    refine wpAnyH_quiet (i := 4) (v := relV r (.slice sa r.stints.length scap)) rfl (by kernel_rfl) (by kernel_rfl) (by kernel_rfl) (fun _ _ _ h => h) rfl (fun W hW => by obtain ⟨lq, cq⟩ := cells_of hW; go_simp) hz ?_
    refine wpAnyH_quiet (i := 5) (v := .int .i64 (2 * (q : Int) + 1)) rfl (by kernel_rfl) (by kernel_rfl) (by kernel_rfl) (fun _ _ _ h => h) rfl (fun W hW => by go_simp) hz ?_
    refine wpAnyH_quiet (i := 6) (v := .int .i64 (2 * (q : Int) + 2)) rfl (by kernel_rfl) (by kernel_rfl) (by kernel_rfl) (fun _ _ _ h => h) rfl (fun W hW => by go_simp) hz ?_
    try simp only [Act.put, List.setIfInBounds_toArray]
    have hf := hid (hw1.out w6 (hS.out.below hb0.out))
    clear hw1
    refine wpAnyH_step (i := 3) (by kernel_rfl) rfl ?_
    go_wp2_with (go_at_call 50; with_reducible refine hf.out.mono ?_; rintro e w7 ⟨rfl, hb2⟩; replace hz := (hb2.block _ (cells_of hz).1).trans hz; replace hb0 := hid (below_via hb2 hb0.out); clear hb2 hf)
    refine ⟨hz, ?_⟩
    have hf := hid (hw2.out w7 (hS.out.below hb0.out))
    clear hw2
    refine wpAnyH_step (i := 7) (by kernel_rfl) rfl ?_
    go_wp2_with (go_at_call 50; with_reducible refine hf.out.mono ?_; rintro e w8 ⟨rfl, hb2⟩; replace hz := (hb2.block _ (cells_of hz).1).trans hz; replace hb0 := hid (below_via hb2 hb0.out); clear hb2 hf)
    refine ⟨hz, ?_⟩
    refine wpAnyH_step (i := 8) (by kernel_rfl) rfl ?_
    go_wp2
    refine ⟨hz, ?_⟩
    refine wpAnyH_step (i := 9) (by kernel_rfl) rfl ?_
    go_wp2
    refine ⟨hz, ?_⟩
    refine wpAnyH_done (by kernel_rfl) ?_ _
    try simp only [Act.put, List.setIfInBounds_toArray]
    cases y2
    · go_wp2
      go_ret2
      exact ⟨by rw [ho.out]; rw [Int.toNat_natCast, hh.out]; rfl, hb0.out⟩
    · cases y1
      · go_wp2
        go_ret2
        exact ⟨by rw [ho.out]; rw [Int.toNat_natCast, hh.out]; rfl, hb0.out⟩
      · go_wp2
        go_ret2
        exact ⟨by rw [ho.out]; rw [Int.toNat_natCast, hh.out]; rfl, hb0.out⟩
theorem refHanded_any (r : Rel) (hn : r.n ≤ 1000000) (i : Int) (sv : Value) (w : World) (hS : StintsAt w sv r.stints) : Calls Try.prog 21 #[relV r sv, .int .i64 i] w fun e w' => e = .returned (.tuple #[.int .i64 (handedOf r i).1, .int .i64 (handedOf r i).2]) ∧ Below w.heap.size w w' := by
  cases hx : r.isStint i
  · exact refHanded_no r hn i hx sv w hS
  · exact refHanded_yes r hn i hx sv w hS

set_option maxRecDepth 100000 in
set_option maxHeartbeats 4000000 in
theorem refLength_any (r : Rel) (hn : r.n ≤ 1000000) (i : Int) (sv : Value) (w : World) (hS : StintsAt w sv r.stints) : Calls Try.prog 19 #[relV r sv, .int .i64 i] w fun e w' => e = .returned (.tuple #[spanV (lengthOf r i).1, .int .i64 (lengthOf r i).2]) ∧ Below w.heap.size w w' := by
  obtain ⟨sa, scap, rfl, hs0⟩ := id hS
  clear hs0
  replace hS := hid hS
  have hn' := hid hn
  clear hn
  have hb0 := hid (below_alloc (below_alloc (Below.refl _ w) (.cells #[.int .i64 r.rest, .slice sa r.stints.length scap] 24)) (.cells #[.int .i64 0, .int .i64 0] 28))
  have hm : ((w.alloc (.cells #[.int .i64 r.rest, .slice sa r.stints.length scap] 24)).alloc (.cells #[.int .i64 0, .int .i64 0] 28)).heap[w.heap.size]? = some (.cells #[.int .i64 r.rest, .slice sa r.stints.length scap] 24 (0, 0)) ∧ ((w.alloc (.cells #[.int .i64 r.rest, .slice sa r.stints.length scap] 24)).alloc (.cells #[.int .i64 0, .int .i64 0] 28)).heap[w.heap.size + 1]? = some (.cells #[.int .i64 0, .int .i64 0] 28 (0, 0)) := ⟨alloc_old (by simp) (alloc_at rfl), alloc_at (by simp)⟩
  obtain ⟨x1, hx1⟩ : ∃ x, x = r.isStint i := ⟨_, rfl⟩
  have hi1 := hid (isStint_as (a := sa) (cap := scap) hn'.out hx1.symm)
  have hof := hid (show lengthOf r i = r.told x1 (0, 0) fun T => T.span (2 * i.toNat) (2 * i.toNat + 1) by rw [lengthOf, hx1])
  replace hx1 := hid hx1
  go_enter Try.func19, Try.ntmps19
  go_upto_region 1 with fail
  generalize (w.alloc (.cells #[.int .i64 r.rest, .slice sa r.stints.length scap] 24)).alloc (.cells #[.int .i64 0, .int .i64 0] 28) = w0 at hm hb0 ⊢
  have hbx := hid (Nat.le_refl w.heap.size)
  refine wp_region_held_at (S := fun W => W.heap[w.heap.size]? = some (.cells #[.int .i64 r.rest, .slice sa r.stints.length scap] 24 (0, 0)) ∧ W.heap[w.heap.size + 1]? = some (.cells #[.int .i64 0, .int .i64 0] 28 (0, 0))) (by kernel_rfl) ?_
  intro w1 hw1 _
  have hz : w1.heap[w.heap.size]? = some (.cells #[.int .i64 r.rest, .slice sa r.stints.length scap] 24 (0, 0)) ∧ w1.heap[w.heap.size + 1]? = some (.cells #[.int .i64 0, .int .i64 0] 28 (0, 0)) := ⟨(hw1.block _ (cells_of hm.1).1).trans hm.1, (hw1.block _ (cells_of hm.2).1).trans hm.2⟩
  replace hb0 := hid (below_via hw1 hb0.out)
  clear hm hw1
  try simp only [Array.replicate]
  refine wpAnyH_quiet (i := 0) (v := relV r (.slice sa r.stints.length scap)) rfl (by kernel_rfl) (by kernel_rfl) (by kernel_rfl) (fun _ _ _ h => h) rfl (fun W hW => by obtain ⟨lq, cq⟩ := cells_of hW.1; go_simp) hz ?_
  refine wpAnyH_quiet (i := 1) (v := relV r (.slice sa r.stints.length scap)) rfl (by kernel_rfl) (by kernel_rfl) (by kernel_rfl) (fun _ _ _ h => h) rfl (fun W hW => by obtain ⟨lq, cq⟩ := cells_of hW.1; go_simp) hz ?_
  refine wpAnyH_quiet (i := 2) (v := .int .i64 i) rfl (by kernel_rfl) (by kernel_rfl) (by kernel_rfl) (fun _ _ _ h => h) rfl (fun W hW => by go_simp) hz ?_
  try simp only [Act.put, List.setIfInBounds_toArray]
  refine wpAnyH_step (i := 3) (by kernel_rfl) rfl ?_
  go_wp2_with (go_at_call 49; with_reducible refine (hi1.out w1).mono ?_; rintro e w2 ⟨rfl, hb2⟩; replace hz := And.intro ((hb2.block _ (cells_of hz.1).1).trans hz.1) ((hb2.block _ (cells_of hz.2).1).trans hz.2); replace hb0 := hid (below_via hb2 hb0.out); clear hb2)
  refine ⟨hz, ?_⟩
  have hf := hid (refOpen_any r hn'.out x1 (.slice sa r.stints.length scap) w2 (hS.out.below hb0.out))
  refine wpAnyH_step (i := 4) (by kernel_rfl) rfl ?_
  go_wp2_with (go_at_call 48; with_reducible refine hf.out.mono ?_; rintro e w3 hP; obtain ⟨hb3, v, c, rfl, hO⟩ := hP.out2; clear hP; replace hz := And.intro ((hb3.block _ (cells_of hz.1).1).trans hz.1) ((hb3.block _ (cells_of hz.2).1).trans hz.2); replace hb0 := hid (below_via hb3 hb0.out); replace hO := hid hO; clear hf hb3)
  refine ⟨hz, ?_⟩
  refine wpAnyH_quiet (i := 5) (v := .tuple #[v, .int .i64 c]) rfl (by kernel_rfl) (by kernel_rfl) (by kernel_rfl) (fun _ _ _ h => h) rfl (fun W hW => by go_simp) hz ?_
  refine wpAnyH_quiet (i := 6) (v := v) rfl (by kernel_rfl) (by kernel_rfl) (by kernel_rfl) (fun _ _ _ h => h) rfl (fun W hW => by go_simp) hz ?_
  refine wpAnyH_quiet (i := 7) (v := .int .i64 c) rfl (by kernel_rfl) (by kernel_rfl) (by kernel_rfl) (fun _ _ _ h => h) rfl (fun W hW => by go_simp) hz ?_
  refine wpAnyH_step (i := 8) (by kernel_rfl) rfl ?_
  go_wp2
  refine ⟨hz, ?_⟩
  refine wpAnyH_step (i := 9) (by kernel_rfl) rfl ?_
  go_wp2
  refine ⟨hz, ?_⟩
  refine wpAnyH_done (by kernel_rfl) ?_ _
  try simp only [Act.put, List.setIfInBounds_toArray]
  rcases hO.out with ⟨hc, ht⟩ | ⟨rfl, hv, hb, T, hT⟩
  · have ho := hid (show lengthOf r i = ((0, 0), c) by rw [hof.out]; exact told_panics ht)
    clear ht hO hof
    replace hz := hid hz
    have lz := (cells_of hz.out.2).1
    have cz := (cells_of hz.out.2).2
    have zz := free_of hz.out.2
    go_wp2
    have hs := heap_set_same (o := 1) (v := .int .i64 0) (heap_set_same (o := 0) (v := .int .i64 0) hz.out.2)
    have r0 := (cells_of hs).2 0
    have r1 := (cells_of hs).2 1
    refine bodyPost_ret (v := .tuple #[.agg #[.int .i64 0, .int .i64 0], .int .i64 c]) (by simp [results, Try.results19, go_sem, r0, r1]) rfl ⟨by rw [ho.out], below_set (below_set hb0.out _ (by simp)) _ (by simp)⟩
  · have ho := hid (show lengthOf r i = (T.span (2 * i.toNat) (2 * i.toNat + 1), 0) by rw [hof.out, hb]; exact told_ok hv hT)
    rw [hb] at hx1
    have h2 := hx1.out.symm
    simp only [Rel.isStint, Bool.and_eq_true, decide_eq_true_eq] at h2
    obtain ⟨q, rfl⟩ := Int.eq_ofNat_of_zero_le h2.1
    have hq : q < r.n := by omega
    have hn5 := (r.ok_of hv).2.2.1
    have hq5 : (q : Int) < 5 := by omega
    clear hO hof hx1 h2 hb hi1
    have hT1 := hid (len_range hv hT hq)
    have hwa := hid (fun (v : Int) (h : -1000 ≤ v ∧ v ≤ 1000) (x : Bool) (hx : decide (v ≤ T (2 * q + 1) (2 * q)) = x) => with_as r hv hT (i := 2 * q + 1) (k := 2 * q) (by omega) (by omega) (A := 2 * (q : Int) + 1) (B := 2 * (q : Int)) (by omega) (by omega) (v := v) h hx (.slice sa r.stints.length scap))
    have hwb := hid (fun (v : Int) (h : -1000 ≤ v ∧ v ≤ 1000) (x : Bool) (hx : decide (v ≤ T (2 * q) (2 * q + 1)) = x) => with_as r hv hT (i := 2 * q) (k := 2 * q + 1) (by omega) (by omega) (A := 2 * (q : Int)) (B := 2 * (q : Int) + 1) (by omega) (by omega) (v := v) h hx (.slice sa r.stints.length scap))
    rw [Int.toNat_natCast, Tab.span] at ho
    generalize T (2 * q + 1) (2 * q) = t1 at ho hT1 hwa
    generalize T (2 * q) (2 * q + 1) = t2 at ho hT1 hwb
    clear hn5 hq hv hT
    obtain ⟨hz1, hz2⟩ := hz
    replace hz1 := hid hz1
    replace hz2 := hid hz2
    have hlt := hid hb0.out.size
    have hlt2 := hid (cells_of hz2.out).1
    have hb1 := hid (below_alloc hb0.out (.cells #[.int .i64 0, .int .i64 600] 28))
    have hm := alloc_at (w := w3) (o := .cells #[.int .i64 0, .int .i64 600] 28) rfl
    replace hz1 := hid (alloc_old (o := .cells #[.int .i64 0, .int .i64 600] 28) (cells_of hz1.out).1 hz1.out)
    replace hz2 := hid (alloc_old (o := .cells #[.int .i64 0, .int .i64 600] 28) (cells_of hz2.out).1 hz2.out)
    clear hb0
    go_wp2
    generalize w3.alloc (.cells #[.int .i64 0, .int .i64 600] 28) = w4 at hm hz1 hz2 hb1 ⊢
    generalize w3.heap.size = ob at hm hlt hlt2 ⊢
    replace hm := hid hm
    have ht6 := hT1.out.1
    have ht7 := hT1.out.2.1
    have ht8 := hT1.out.2.2
    go_loopg [] ((-t1).toNat) (fun g wr => ∃ x : Int, 0 ≤ x ∧ x ≤ -t1 ∧ (-t1 - x).toNat ≤ g ∧ Hid (Below w.heap.size w wr) ∧ Hid (wr.heap[w.heap.size]? = some (.cells #[.int .i64 r.rest, .slice sa r.stints.length scap] 24 (0, 0))) ∧ Hid (wr.heap[w.heap.size + 1]? = some (.cells #[.int .i64 0, .int .i64 0] 28 (0, 0))) ∧ Hid (wr.heap[ob]? = some (.cells #[.int .i64 x, .int .i64 600] 28 (0, 0))))
    case atStart => exact ⟨0, by omega, by omega, by omega, hb1, hz1, hz2, hm⟩
    case round =>
      obtain ⟨x, hx0, hx1, hxg, hb, hz1, hz2, ho1⟩ := hrel
      clear hm hb1
      have l1 := (cells_of hz1.out).1
      have c1 := (cells_of hz1.out).2
      have l3 := (cells_of ho1.out).1
      have c3 := (cells_of ho1.out).2
      have hx6 : x ≤ 600 := by omega
      by_cases hlx : -x ≤ t1
      · obtain rfl : x = -t1 := by omega
        have hf := hid (hwa.out t1 (by omega) true (by simp) wr (hS.out.below hb.out))
        go_wp2_with (go_at_call 50; with_reducible refine hf.out.mono ?_; rintro e w5 ⟨rfl, hb4⟩; replace hb := hid (below_via hb4 hb.out); replace hz1 := hid ((hb4.block _ (cells_of hz1.out).1).trans hz1.out); replace hz2 := hid ((hb4.block _ (cells_of hz2.out).1).trans hz2.out); replace ho1 := hid ((hb4.block _ (cells_of ho1.out).1).trans ho1.out); have l6 := (cells_of ho1.out).1; have c6 := (cells_of ho1.out).2; have z6 := free_of ho1.out; clear hf hb4)
        clear l6 c6 z6
        go_loopg [] ((600 - t2).toNat) (fun g wr => ∃ x : Int, t2 ≤ x ∧ x ≤ 600 ∧ (x - t2).toNat ≤ g ∧ Hid (Below w.heap.size w wr) ∧ Hid (wr.heap[w.heap.size]? = some (.cells #[.int .i64 r.rest, .slice sa r.stints.length scap] 24 (0, 0))) ∧ Hid (wr.heap[w.heap.size + 1]? = some (.cells #[.int .i64 0, .int .i64 0] 28 (0, 0))) ∧ Hid (wr.heap[ob]? = some (.cells #[.int .i64 (-t1), .int .i64 x] 28 (0, 0))))
        case atStart => exact ⟨600, by omega, by omega, by omega, hb, hz1, hz2, ho1⟩
        case round =>
          obtain ⟨y, hy0, hy1, hyg, hb, hz1, hz2, ho1⟩ := hrel
          have l1 := (cells_of hz1.out).1
          have c1 := (cells_of hz1.out).2
          have l3 := (cells_of ho1.out).1
          have c3 := (cells_of ho1.out).2
          by_cases hly : y ≤ t2
          · obtain rfl : y = t2 := by omega
            have hf := hid (hwb.out y (by omega) true (by simp) wr (hS.out.below hb.out))
            have hq2 := hid hz2.out
            go_wp2_with (go_at_call 50; with_reducible refine hf.out.mono ?_; rintro e w6 ⟨rfl, hb4⟩; replace hb := hid (below_via hb4 hb.out); replace hz1 := hid ((hb4.block _ (cells_of hz1.out).1).trans hz1.out); replace hz2 := hid ((hb4.block _ (cells_of hz2.out).1).trans hz2.out); replace ho1 := hid ((hb4.block _ (cells_of ho1.out).1).trans ho1.out); have l6 := (cells_of ho1.out).1; have c6 := (cells_of ho1.out).2; have z6 := free_of ho1.out; clear hf hb4; have l7 := (cells_of hz2.out).1; have c7 := (cells_of hz2.out).2; have z7 := free_of hz2.out)
            have hs := heap_set_same (o := 1) (v := .int .i64 y) (heap_set_same (o := 0) (v := .int .i64 (-t1)) hz2.out)
            have r0 := (cells_of hs).2 0
            have r1 := (cells_of hs).2 1
            refine bodyPost_ret (v := .tuple #[.agg #[.int .i64 (-t1), .int .i64 y], .int .i64 0]) (by simp [results, Try.results19, go_sem, r0, r1]) rfl ⟨by rw [ho.out], below_set (below_set hb.out _ (by simp)) _ (by simp)⟩
          · have hf := hid (hwb.out y (by omega) false (by simp; omega) wr (hS.out.below hb.out))
            go_wp2_with (go_at_call 50; with_reducible refine hf.out.mono ?_; rintro e w6 ⟨rfl, hb4⟩; replace hb := hid (below_via hb4 hb.out); replace hz1 := hid ((hb4.block _ (cells_of hz1.out).1).trans hz1.out); replace hz2 := hid ((hb4.block _ (cells_of hz2.out).1).trans hz2.out); replace ho1 := hid ((hb4.block _ (cells_of ho1.out).1).trans ho1.out); have l6 := (cells_of ho1.out).1; have c6 := (cells_of ho1.out).2; have z6 := free_of ho1.out; clear hf hb4)
            have hne1 := hid (show ob ≠ w.heap.size by have := hlt2.out; omega)
            have hne2 := hid (show ob ≠ w.heap.size + 1 by have := hlt2.out; omega)
            have hbn := hid (below_set (p := ⟨ob, 1, none⟩) hb.out (.int .i64 (y - 1)) hlt.out)
            have hs1 := hid ((heap_set_ne (W := w6) (o := 1) (v := .int .i64 (y - 1)) hne1.out).trans hz1.out)
            have hs2 := hid ((heap_set_ne (W := w6) (o := 1) (v := .int .i64 (y - 1)) hne2.out).trans hz2.out)
            have hs3 := hid (heap_set_same (o := 1) (v := .int .i64 (y - 1)) ho1.out)
            go_roundg (y - 1 - t2).toNat
            case measure => omega
            case rel => exact ⟨y - 1, by omega, by omega, by omega, hbn, hs1, hs2, hs3⟩
      · have hf := hid (hwa.out (-x) (by omega) false (by simp; omega) wr (hS.out.below hb.out))
        go_wp2_with (go_at_call 50; with_reducible refine hf.out.mono ?_; rintro e w6 ⟨rfl, hb4⟩; replace hb := hid (below_via hb4 hb.out); replace hz1 := hid ((hb4.block _ (cells_of hz1.out).1).trans hz1.out); replace hz2 := hid ((hb4.block _ (cells_of hz2.out).1).trans hz2.out); replace ho1 := hid ((hb4.block _ (cells_of ho1.out).1).trans ho1.out); have l6 := (cells_of ho1.out).1; have c6 := (cells_of ho1.out).2; have z6 := free_of ho1.out; clear hf hb4)
        have hne1 := hid (show ob ≠ w.heap.size by have := hlt2.out; omega)
        have hne2 := hid (show ob ≠ w.heap.size + 1 by have := hlt2.out; omega)
        have hbn := hid (below_set (p := ⟨ob, 0, none⟩) hb.out (.int .i64 (x + 1)) hlt.out)
        have hs1 := hid ((heap_set_ne (W := w6) (o := 0) (v := .int .i64 (x + 1)) hne1.out).trans hz1.out)
        have hs2 := hid ((heap_set_ne (W := w6) (o := 0) (v := .int .i64 (x + 1)) hne2.out).trans hz2.out)
        have hs3 := hid (heap_set_same (o := 0) (v := .int .i64 (x + 1)) ho1.out)
        go_roundg (-t1 - (x + 1)).toNat
        case measure => omega
        case rel => exact ⟨x + 1, by omega, by omega, by omega, hbn, hs1, hs2, hs3⟩
end Go.Proofs.Ytccgakdaiaigoaa

namespace Go.Proofs.Ytccgakdaiaigoaa
open Go.RowKit Go.Lap Go.Shelf

theorem refCan_as {r : Rel} (hv : r.valid = true) {set : Nat} {x : Bool} (hx : r.canB set = x) (hset : set ≤ 1048575) (sv : Value) (w : World) (hS : StintsAt w sv r.stints) : Calls Try.prog 62 #[relV r sv, .int .i64 set] w fun e w' => e = .returned (.bool x) ∧ Below w.heap.size w w' := by
  refine (refCan_any r hv set hset sv w hS).mono ?_
  rintro e w' ⟨b, rfl, h, hb⟩
  have e : b = x := by rw [← hx, Bool.eq_iff_iff, h, Rel.canB_iff hv]
  rw [e]
  exact ⟨rfl, hb⟩
theorem refSize_as {s n : Nat} (h : popc s = n) (hs : s ≤ 1048576) (w : World) : Calls Try.prog 39 #[.int .i64 (s : Int)] w fun e w' => e = .returned (.int .i64 (n : Nat)) ∧ w = w' := by
  subst h; exact refSize_any s (Nat.lt_of_le_of_lt hs (by decide)) w
theorem refEvery_as {r : Rel} (hn : r.n ≤ 5) {E : Nat} (hE : r.every = E) (a : Option Addr) (cap : Nat) (w : World) : Calls Try.prog 36 #[relV r (.slice a r.n cap)] w fun e w' => e = .returned (.int .i64 (E : Nat)) ∧ Below w.heap.size w w' := by
  subst hE; exact refEvery_any r hn a cap w
theorem tried_le (p : Nat → Bool) (E : Nat) : ∀ k, k ≤ E + 1 → tried p E k ≤ E
  | 0, _ => Nat.le_refl _
  | k + 1, h => by
    simp only [tried]
    split
    · omega
    · exact tried_le p E k (by omega)
theorem clash_arg {r : Rel} (h : r.valid = false) : clashOf r = (0, 1) := by simp [clashOf, h]
theorem wrong_arg {r : Rel} (h : r.valid = false) : r.wrongOf = (0, 1) := by simp [Rel.wrongOf, h]
theorem clash_no {r : Rel} (h : r.valid = true) (hc : r.canB r.every = true) : clashOf r = (0, 4) := by simp [clashOf, h, Rel.clashIn, hc]
theorem wrong_no {r : Rel} (h : r.valid = true) (hc : r.canB r.every = true) : r.wrongOf = (0, 4) := by simp [Rel.wrongOf, h, hc]

set_option maxRecDepth 100000 in
set_option maxHeartbeats 4000000 in
theorem refClash_any (r : Rel) (hn : r.n ≤ 1000000) (sv : Value) (w : World) (hS : StintsAt w sv r.stints) : Calls Try.prog 27 #[relV r sv] w fun e w' => e = .returned (.tuple #[.int .i64 (clashOf r).1, .int .i64 (clashOf r).2]) ∧ Below w.heap.size w w' := by
  obtain ⟨sa, scap, rfl, hs0⟩ := id hS
  clear hs0
  have hb0 := below_alloc (Below.refl _ w) (.cells #[.int .i64 r.rest, .slice sa r.stints.length scap] 24)
  have hx := alloc_at (w := w) (o := .cells #[.int .i64 r.rest, .slice sa r.stints.length scap] 24) rfl
  have hf := hid (refRelays_any r hn (.slice sa r.stints.length scap) _ (hS.below hb0))
  replace hb0 := hid hb0
  replace hS := hid hS
  cases hv : r.valid
  · have ho := hid (clash_arg hv)
    rw [hv] at hf
    clear hv
    go_enter Try.func27, Try.ntmps27
    go_wp2_with (go_at_call 32; with_reducible refine hf.out.mono ?_; rintro e w1 ⟨rfl, hb1⟩; replace hb0 := hid (below_via hb1 hb0.out); clear hf hb1)
    go_ret2
    exact ⟨by rw [ho.out]; rfl, hb0.out⟩
  · have hv' := hid hv
    have hn5 := hid (r.ok_of hv).2.2.1
    have hEl := hid (Rel.every_le hn5.out)
    have htr := hid (show r.canB r.every = false → clashOf r = _ from clash_tried hv)
    have hno := hid (show r.canB r.every = true → clashOf r = (0, 4) from clash_no hv)
    obtain ⟨E, hE⟩ : ∃ E, r.every = E := ⟨_, rfl⟩
    rw [hE] at hEl htr hno
    have hE' := hid hE
    rw [hv] at hf
    clear hv hE
    have hEi : (E : Int) ≤ 1048575 := by have := hEl.out; omega
    have hfe := hid (refEvery_as hn5.out hE'.out sa scap)
    go_enter Try.func27, Try.ntmps27
    go_upto_region 4 with (first | (go_at_call 32; with_reducible refine hf.out.mono ?_; rintro e w1 ⟨rfl, hb1⟩; replace hx := (hb1.block _ (cells_of hx).1).trans hx; have lx := (cells_of hx).1; have cx := (cells_of hx).2; replace hb0 := hid (below_via hb1 hb0.out); clear hf hb1) | (go_at_call 36; with_reducible refine (hfe.out _).mono ?_; rintro e w2 ⟨rfl, hb1⟩; replace hx := hid ((hb1.block _ (cells_of hx).1).trans hx); replace hb0 := hid (below_via hb1 hb0.out); clear hb1 lx cx))
    cases hc : r.canB E
    · have ho := hid (htr.out hc)
      have hf := hid (refCan_as hv'.out hc (by have := hEl.out; omega) (.slice sa r.stints.length scap) w2 (hS.out.below hb0.out))
      clear htr hno hc
      have lt := (cells_of hx.out).1
      have ct := (cells_of hx.out).2
      go_wp2_with (go_at_call 62; with_reducible refine hf.out.mono ?_; rintro e w3 ⟨rfl, hb1⟩; replace hx := hid ((hb1.block _ (cells_of hx.out).1).trans hx.out); replace hb0 := hid (below_via hb1 hb0.out); clear hf hb1)
      clear lt ct
      obtain ⟨p, hp⟩ : ∃ p : Nat → Bool, p = fun s => !r.canB s := ⟨_, rfl⟩
      rw [← hp] at ho
      replace hp := hid hp
      go_loopw [4, 5] (fun best s wr => ∃ (k b : Nat), k ≤ E + 1 ∧ b ≤ E ∧ s = .int .i64 k ∧ best = .int .i64 b ∧ Hid (b = tried p E k) ∧ Hid (Below w.heap.size w wr) ∧ Hid (wr.heap[w.heap.size]? = some (.cells #[.int .i64 r.rest, .slice sa r.stints.length scap] 24 (0, 0)))) (fun _ s _ => E + 1 - (intOf s).toNat)
      case atStart => exact ⟨0, E, by omega, by omega, rfl, rfl, hid rfl, hb0, hx⟩
      case round =>
        obtain ⟨k, b, hk, hbE, rfl, rfl, hbt, hb, hz⟩ := hrel
        clear hb0 hx
        have lt := (cells_of hz.out).1
        have ct := (cells_of hz.out).2
        have hkE : (k : Int) ≤ (E : Int) + 1 := by omega
        have hbi : (b : Int) ≤ 1048575 := by omega
        by_cases hlt : k ≤ E
        · have hli : (k : Int) ≤ (E : Int) := by omega
          obtain ⟨n1, hn1⟩ : ∃ n, popc k = n := ⟨_, rfl⟩
          obtain ⟨n2, hn2⟩ : ∃ n, popc b = n := ⟨_, rfl⟩
          have hs1 := hid (refSize_as hn1 (by have := hEl.out; omega))
          have hs2 := hid (refSize_as hn2 (by have := hEl.out; omega))
          replace hn1 := hid hn1
          replace hn2 := hid hn2
          go_upto_region 9 with (go_at_call 36; with_reducible refine (hfe.out _).mono ?_; rintro e w4 ⟨rfl, hb1⟩; replace hz := hid ((hb1.block _ (cells_of hz.out).1).trans hz.out); replace hb := hid (below_via hb1 hb.out); clear hb1)
          clear lt ct
          obtain ⟨y, hy⟩ : ∃ y, p k = y := ⟨_, rfl⟩
          have hcy : r.canB k = !y := by rw [← hy, hp.out]; simp
          have hf := hid (refCan_as hv'.out hcy (by have := hEl.out; omega) (.slice sa r.stints.length scap) w4 (hS.out.below hb.out))
          replace hy := hid hy
          clear hcy
          have lt := (cells_of hz.out).1
          have ct := (cells_of hz.out).2
          by_cases hlq : n1 < n2
          · cases y
            all_goals
              simp only [Bool.not_true, Bool.not_false] at hf
              go_wp2_with (first | (go_at_call 39; first | (with_reducible refine (hs1.out _).mono ?_; rintro e w5 ⟨rfl, rfl⟩) | (with_reducible refine (hs2.out _).mono ?_; rintro e w5 ⟨rfl, rfl⟩)) | (go_at_call 62; with_reducible refine hf.out.mono ?_; rintro e w6 ⟨rfl, hb1⟩; replace hz := hid ((hb1.block _ (cells_of hz.out).1).trans hz.out); replace hb := hid (below_via hb1 hb.out); clear hf hb1))
            · skip
              go_roundw
              case rel => exact ⟨k + 1, b, by omega, by omega, by go_num, rfl, hid (by rw [tried, ← hbt.out, hn1.out, hn2.out]; rw [hy.out]; simp [hlq]), hb, hz⟩
              case measure => simp [intOf]; omega
            · skip
              go_roundw
              case rel => exact ⟨k + 1, k, by omega, by omega, by go_num, rfl, hid (by rw [tried, ← hbt.out, hn1.out, hn2.out]; rw [hy.out]; simp [hlq]), hb, hz⟩
              case measure => simp [intOf]; omega
          · go_wp2_with ((go_at_call 39; first | (with_reducible refine (hs1.out _).mono ?_; rintro e w5 ⟨rfl, rfl⟩) | (with_reducible refine (hs2.out _).mono ?_; rintro e w5 ⟨rfl, rfl⟩)))
            go_roundw
            case rel => exact ⟨k + 1, b, by omega, by omega, by go_num, rfl, hid (by rw [tried, ← hbt.out, hn1.out, hn2.out]; simp [hlq]), hb, hz⟩
            case measure => simp [intOf]; omega
        · obtain rfl : k = E + 1 := by omega
          go_wp2_with (go_at_call 36; with_reducible refine (hfe.out _).mono ?_; rintro e w4 ⟨rfl, hb1⟩; replace hb := hid (below_via hb1 hb.out); clear hb1)
          go_ret2
          exact ⟨by rw [ho.out, ← hbt.out]; rfl, hb.out⟩
    · have ho := hid (hno.out hc)
      have hf := hid (refCan_as hv'.out hc (by have := hEl.out; omega) (.slice sa r.stints.length scap) w2 (hS.out.below hb0.out))
      clear htr hno hc
      have lt := (cells_of hx.out).1
      have ct := (cells_of hx.out).2
      go_wp2_with (go_at_call 62; with_reducible refine hf.out.mono ?_; rintro e w3 ⟨rfl, hb1⟩; replace hb0 := hid (below_via hb1 hb0.out); clear hf hb1)
      go_ret2
      exact ⟨by rw [ho.out]; rfl, hb0.out⟩

set_option maxRecDepth 100000 in
set_option maxHeartbeats 4000000 in
theorem refWrong_any (r : Rel) (hn : r.n ≤ 1000000) (sv : Value) (w : World) (hS : StintsAt w sv r.stints) : Calls Try.prog 29 #[relV r sv] w fun e w' => e = .returned (.tuple #[.int .i64 (r.wrongOf).1, .int .i64 (r.wrongOf).2]) ∧ Below w.heap.size w w' := by
  obtain ⟨sa, scap, rfl, hs0⟩ := id hS
  clear hs0
  have hb0 := below_alloc (Below.refl _ w) (.cells #[.int .i64 r.rest, .slice sa r.stints.length scap] 24)
  have hx := alloc_at (w := w) (o := .cells #[.int .i64 r.rest, .slice sa r.stints.length scap] 24) rfl
  have hf := hid (refRelays_any r hn (.slice sa r.stints.length scap) _ (hS.below hb0))
  replace hb0 := hid hb0
  replace hS := hid hS
  cases hv : r.valid
  · have ho := hid (wrong_arg hv)
    rw [hv] at hf
    clear hv
    go_enter Try.func29, Try.ntmps29
    go_wp2_with (go_at_call 32; with_reducible refine hf.out.mono ?_; rintro e w1 ⟨rfl, hb1⟩; replace hb0 := hid (below_via hb1 hb0.out); clear hf hb1)
    go_ret2
    exact ⟨by rw [ho.out]; rfl, hb0.out⟩
  · have hv' := hid hv
    have hn5 := hid (r.ok_of hv).2.2.1
    have hEl := hid (Rel.every_le hn5.out)
    have htr := hid (show r.canB r.every = false → r.wrongOf = _ from wrong_tried hv)
    have hno := hid (show r.canB r.every = true → r.wrongOf = (0, 4) from wrong_no hv)
    obtain ⟨E, hE⟩ : ∃ E, r.every = E := ⟨_, rfl⟩
    rw [hE] at hEl htr hno
    have hE' := hid hE
    rw [hv] at hf
    clear hv hE
    have hEi : (E : Int) ≤ 1048575 := by have := hEl.out; omega
    have hfe := hid (refEvery_as hn5.out hE'.out sa scap)
    go_enter Try.func29, Try.ntmps29
    go_upto_region 4 with (first | (go_at_call 32; with_reducible refine hf.out.mono ?_; rintro e w1 ⟨rfl, hb1⟩; replace hx := (hb1.block _ (cells_of hx).1).trans hx; have lx := (cells_of hx).1; have cx := (cells_of hx).2; replace hb0 := hid (below_via hb1 hb0.out); clear hf hb1) | (go_at_call 36; with_reducible refine (hfe.out _).mono ?_; rintro e w2 ⟨rfl, hb1⟩; replace hx := hid ((hb1.block _ (cells_of hx).1).trans hx); replace hb0 := hid (below_via hb1 hb0.out); clear hb1 lx cx))
    cases hc : r.canB E
    · have ho := hid (htr.out hc)
      have hf := hid (refCan_as hv'.out hc (by have := hEl.out; omega) (.slice sa r.stints.length scap) w2 (hS.out.below hb0.out))
      clear htr hno hc
      have lt := (cells_of hx.out).1
      have ct := (cells_of hx.out).2
      go_wp2_with (go_at_call 62; with_reducible refine hf.out.mono ?_; rintro e w3 ⟨rfl, hb1⟩; replace hx := hid ((hb1.block _ (cells_of hx.out).1).trans hx.out); replace hb0 := hid (below_via hb1 hb0.out); clear hf hb1)
      clear lt ct
      obtain ⟨p, hp⟩ : ∃ p : Nat → Bool, p = fun s => r.canB (E - s) := ⟨_, rfl⟩
      rw [← hp] at ho
      replace hp := hid hp
      go_loopw [4, 5] (fun best s wr => ∃ (k b : Nat), k ≤ E + 1 ∧ b ≤ E ∧ s = .int .i64 k ∧ best = .int .i64 b ∧ Hid (b = tried p E k) ∧ Hid (Below w.heap.size w wr) ∧ Hid (wr.heap[w.heap.size]? = some (.cells #[.int .i64 r.rest, .slice sa r.stints.length scap] 24 (0, 0)))) (fun _ s _ => E + 1 - (intOf s).toNat)
      case atStart => exact ⟨0, E, by omega, by omega, rfl, rfl, hid rfl, hb0, hx⟩
      case round =>
        obtain ⟨k, b, hk, hbE, rfl, rfl, hbt, hb, hz⟩ := hrel
        clear hb0 hx
        have lt := (cells_of hz.out).1
        have ct := (cells_of hz.out).2
        have hkE : (k : Int) ≤ (E : Int) + 1 := by omega
        have hbi : (b : Int) ≤ 1048575 := by omega
        by_cases hlt : k ≤ E
        · have hli : (k : Int) ≤ (E : Int) := by omega
          obtain ⟨n1, hn1⟩ : ∃ n, popc k = n := ⟨_, rfl⟩
          obtain ⟨n2, hn2⟩ : ∃ n, popc b = n := ⟨_, rfl⟩
          have hs1 := hid (refSize_as hn1 (by have := hEl.out; omega))
          have hs2 := hid (refSize_as hn2 (by have := hEl.out; omega))
          replace hn1 := hid hn1
          replace hn2 := hid hn2
          go_upto_region 9 with (go_at_call 36; with_reducible refine (hfe.out _).mono ?_; rintro e w4 ⟨rfl, hb1⟩; replace hz := hid ((hb1.block _ (cells_of hz.out).1).trans hz.out); replace hb := hid (below_via hb1 hb.out); clear hb1)
          clear lt ct
          obtain ⟨y, hy⟩ : ∃ y, p k = y := ⟨_, rfl⟩
          have hcy : r.canB (E - k) = y := by rw [← hy, hp.out]
          have hff := hid (fun w hS => refCan_as hv'.out hcy (by have := hEl.out; omega) (.slice sa r.stints.length scap) w hS)
          replace hy := hid hy
          clear hcy
          have hwq : IntKind.i64.wrap ((E : Int) - k) = (E : Int) - k := Go.IntWalk.i64_in _ (by omega)
          have hsub : ((E - k : Nat) : Int) = (E : Int) - k := by omega
          rw [hsub] at hff
          clear hsub
          by_cases hlq : n1 < n2
          · refine wp_region_held_at (S := fun W => W.heap[w.heap.size]? = some (.cells #[.int .i64 r.rest, .slice sa r.stints.length scap] 24 (0, 0))) (by kernel_rfl) ?_
            intro w5 hw5 hw5e
            have hz0 := hz
            replace hz : w5.heap[w.heap.size]? = some (.cells #[.int .i64 r.rest, .slice sa r.stints.length scap] 24 (0, 0)) := (hw5.block _ (cells_of hz0.out).1).trans hz0.out
            clear hz0
            replace hb := hid (below_via hw5 hb.out)
            clear hw5 hw5e
            try simp only [Array.replicate]
            refine wpAnyH_quiet (i := 0) (v := .int .i64 k) rfl (by kernel_rfl) (by kernel_rfl) (by kernel_rfl) (fun _ _ _ h => h) rfl (fun W hW => by go_simp) hz ?_
            refine wpAnyH_quiet (i := 2) (v := .int .i64 b) rfl (by kernel_rfl) (by kernel_rfl) (by kernel_rfl) (fun _ _ _ h => h) rfl (fun W hW => by go_simp) hz ?_
            try simp only [Act.put, List.setIfInBounds_toArray]
            refine wpAnyH_step (i := 1) (by kernel_rfl) rfl ?_
            go_wp2_with (go_at_call 39; with_reducible refine (hs1.out _).mono ?_; rintro e w6 ⟨rfl, rfl⟩)
            refine ⟨hz, ?_⟩
            refine wpAnyH_step (i := 3) (by kernel_rfl) rfl ?_
            go_wp2_with (go_at_call 39; with_reducible refine (hs2.out _).mono ?_; rintro e w6 ⟨rfl, rfl⟩)
            refine ⟨hz, ?_⟩
            have hlb : decide ((n1 : Int) < (n2 : Int)) = true := by simp; omega
            refine wpAnyH_quiet (i := 4) (v := .bool true) rfl (by kernel_rfl) (by kernel_rfl) (by kernel_rfl) (fun _ _ _ h => h) rfl (fun W hW => by go_simp) hz ?_
            refine wpAnyH_quiet (i := 5) (v := .bool true) rfl (by kernel_rfl) (by kernel_rfl) (by kernel_rfl) (fun _ _ _ h => h) rfl (fun W hW => by go_simp) hz ?_
            refine wpAnyH_take (i := 6) (v := relV r (.slice sa r.stints.length scap)) rfl (by kernel_rfl) (by kernel_rfl) (by kernel_rfl) (fun _ _ _ h => h) (Or.inl ⟨by rfl, fun W hW => by obtain ⟨lq, cq⟩ := cells_of hW; go_simp⟩) hz ?_
            refine wpAnyH_take (i := 7) (v := relV r (.slice sa r.stints.length scap)) rfl (by kernel_rfl) (by kernel_rfl) (by kernel_rfl) (fun _ _ _ h => h) (Or.inl ⟨by rfl, fun W hW => by obtain ⟨lq, cq⟩ := cells_of hW; go_simp⟩) hz ?_
            refine wpAnyH_take (i := 9) (v := .int .i64 k) rfl (by kernel_rfl) (by kernel_rfl) (by kernel_rfl) (fun _ _ _ h => h) (Or.inl ⟨by rfl, fun W hW => by go_simp⟩) hz ?_
            try simp only [Act.put, List.setIfInBounds_toArray]
            refine wpAnyH_step (i := 8) (by kernel_rfl) rfl ?_
            go_wp2_with (go_at_call 36; with_reducible refine (hfe.out _).mono ?_; rintro e w7 ⟨rfl, hb1⟩; replace hz := (hb1.block _ (cells_of hz).1).trans hz; replace hb := hid (below_via hb1 hb.out); clear hb1)
            refine ⟨hz, ?_⟩
            refine wpAnyH_take (i := 10) (v := .int .i64 ((E : Int) - k)) rfl (by kernel_rfl) (by kernel_rfl) (by kernel_rfl) (fun _ _ _ h => h) (Or.inl ⟨by rfl, fun W hW => by go_simp⟩) hz ?_
            try simp only [Act.put, List.setIfInBounds_toArray]
            have hf := hid (hff.out w7 (hS.out.below hb.out))
            refine wpAnyH_step (i := 11) (by kernel_rfl) rfl ?_
            go_wp2_with (go_at_call 62; with_reducible refine hf.out.mono ?_; rintro e w8 ⟨rfl, hb1⟩; replace hz := (hb1.block _ (cells_of hz).1).trans hz; replace hb := hid (below_via hb1 hb.out); clear hb1 hf)
            refine ⟨hz, ?_⟩
            refine wpAnyH_quiet (i := 12) (v := .bool y) rfl (by kernel_rfl) (by kernel_rfl) (by kernel_rfl) (fun _ _ _ h => h) rfl (fun W hW => by go_simp) hz ?_
            refine wpAnyH_done (by kernel_rfl) ?_ _
            try simp only [Act.put, List.setIfInBounds_toArray]
            replace hz := hid hz
            clear hlb
            cases y
            · go_wp2
              go_roundw
              case rel => exact ⟨k + 1, b, by omega, by omega, by go_num, rfl, hid (by rw [tried, ← hbt.out, hn1.out, hn2.out]; rw [hy.out]; simp [hlq]), hb, hz⟩
              case measure => simp [intOf]; omega
            · go_wp2
              go_roundw
              case rel => exact ⟨k + 1, k, by omega, by omega, by go_num, rfl, hid (by rw [tried, ← hbt.out, hn1.out, hn2.out]; rw [hy.out]; simp [hlq]), hb, hz⟩
              case measure => simp [intOf]; omega
          · refine wp_region_held_at (S := fun W => W.heap[w.heap.size]? = some (.cells #[.int .i64 r.rest, .slice sa r.stints.length scap] 24 (0, 0))) (by kernel_rfl) ?_
            intro w5 hw5 hw5e
            have hz0 := hz
            replace hz : w5.heap[w.heap.size]? = some (.cells #[.int .i64 r.rest, .slice sa r.stints.length scap] 24 (0, 0)) := (hw5.block _ (cells_of hz0.out).1).trans hz0.out
            clear hz0
            replace hb := hid (below_via hw5 hb.out)
            clear hw5 hw5e
            try simp only [Array.replicate]
            refine wpAnyH_quiet (i := 0) (v := .int .i64 k) rfl (by kernel_rfl) (by kernel_rfl) (by kernel_rfl) (fun _ _ _ h => h) rfl (fun W hW => by go_simp) hz ?_
            refine wpAnyH_quiet (i := 2) (v := .int .i64 b) rfl (by kernel_rfl) (by kernel_rfl) (by kernel_rfl) (fun _ _ _ h => h) rfl (fun W hW => by go_simp) hz ?_
            try simp only [Act.put, List.setIfInBounds_toArray]
            refine wpAnyH_step (i := 1) (by kernel_rfl) rfl ?_
            go_wp2_with (go_at_call 39; with_reducible refine (hs1.out _).mono ?_; rintro e w6 ⟨rfl, rfl⟩)
            refine ⟨hz, ?_⟩
            refine wpAnyH_step (i := 3) (by kernel_rfl) rfl ?_
            go_wp2_with (go_at_call 39; with_reducible refine (hs2.out _).mono ?_; rintro e w6 ⟨rfl, rfl⟩)
            refine ⟨hz, ?_⟩
            have hlb : decide ((n1 : Int) < (n2 : Int)) = false := by simp; omega
            refine wpAnyH_quiet (i := 4) (v := .bool false) rfl (by kernel_rfl) (by kernel_rfl) (by kernel_rfl) (fun _ _ _ h => h) rfl (fun W hW => by go_simp) hz ?_
            refine wpAnyH_quiet (i := 5) (v := .bool false) rfl (by kernel_rfl) (by kernel_rfl) (by kernel_rfl) (fun _ _ _ h => h) rfl (fun W hW => by go_simp) hz ?_
            try simp [Act.put]
            refine wpAnyH_take (i := 6) (v := undef) rfl (by kernel_rfl) (by kernel_rfl) (by kernel_rfl) (fun _ _ _ h => h) (Or.inr ⟨by rfl, rfl⟩) hz ?_
            refine wpAnyH_take (i := 7) (v := undef) rfl (by kernel_rfl) (by kernel_rfl) (by kernel_rfl) (fun _ _ _ h => h) (Or.inr ⟨by rfl, rfl⟩) hz ?_
            refine wpAnyH_take (i := 8) (v := undef) rfl (by kernel_rfl) (by kernel_rfl) (by kernel_rfl) (fun _ _ _ h => h) (Or.inr ⟨by rfl, rfl⟩) hz ?_
            try simp [Act.put]
            refine wpAnyH_take (i := 9) (v := undef) rfl (by kernel_rfl) (by kernel_rfl) (by kernel_rfl) (fun _ _ _ h => h) (Or.inr ⟨by rfl, rfl⟩) hz ?_
            refine wpAnyH_take (i := 10) (v := undef) rfl (by kernel_rfl) (by kernel_rfl) (by kernel_rfl) (fun _ _ _ h => h) (Or.inr ⟨by rfl, rfl⟩) hz ?_
            refine wpAnyH_take (i := 11) (v := undef) rfl (by kernel_rfl) (by kernel_rfl) (by kernel_rfl) (fun _ _ _ h => h) (Or.inr ⟨by rfl, rfl⟩) hz ?_
            refine wpAnyH_quiet (i := 12) (v := .bool false) rfl (by kernel_rfl) (by kernel_rfl) (by kernel_rfl) (fun _ _ _ h => h) rfl (fun W hW => by go_simp) hz ?_
            refine wpAnyH_done (by kernel_rfl) ?_ _
            try simp only [Act.put, List.setIfInBounds_toArray]
            replace hz := hid hz
            clear hlb
            go_wp2
            go_roundw
            case rel => exact ⟨k + 1, b, by omega, by omega, by go_num, rfl, hid (by rw [tried, ← hbt.out, hn1.out, hn2.out]; simp [hlq]), hb, hz⟩
            case measure => simp [intOf]; omega
        · obtain rfl : k = E + 1 := by omega
          go_wp2_with (go_at_call 36; with_reducible refine (hfe.out _).mono ?_; rintro e w4 ⟨rfl, hb1⟩; replace hb := hid (below_via hb1 hb.out); clear hb1)
          go_ret2
          exact ⟨by rw [ho.out, ← hbt.out]; rfl, hb.out⟩
    · have ho := hid (hno.out hc)
      have hf := hid (refCan_as hv'.out hc (by have := hEl.out; omega) (.slice sa r.stints.length scap) w2 (hS.out.below hb0.out))
      clear htr hno hc
      have lt := (cells_of hx.out).1
      have ct := (cells_of hx.out).2
      go_wp2_with (go_at_call 62; with_reducible refine hf.out.mono ?_; rintro e w3 ⟨rfl, hb1⟩; replace hb0 := hid (below_via hb1 hb0.out); clear hf hb1)
      go_ret2
      exact ⟨by rw [ho.out]; rfl, hb0.out⟩

end Go.Proofs.Ytccgakdaiaigoaa
