/- What the law RelayTrue draws, walked: a number below another one, by remainders. What a judge writes of a minute, in the law RelayTrue, walked. What is kept while relays are drawn, in the law RelayTrue. -/
import Derived.Test.YtccgakdaiaigoaaEA
import Derived.Test.YtccgakdaiaigoaaGK
import Derived.Test.YtccgakdaiaigoaaGY
import Derived.Test.YtccgakdaiaigoaaBH
import Derived.Test.YtccgakdaiaigoaaEF
namespace Go.Proofs.Ytccgakdaiaigoaa
open Go.RowKit Go.Lap Go.Shelf

/-- Rows of numbers of 16 bits. -/
def wordK : RowKind Try.prog Int where
  t := 38
  e := 50
  size := 1
  bytes := 2
  z := .int .u16 0
  enc := fun x => [.int .u16 x]
  ht := Try.underlying38
  hi := by kernel_rfl
  hzs := rfl
  hsz := by decide
  hb := by decide
  henc := fun _ => rfl
  hone := fun x u hu => by
    simp only [List.mem_cons, List.not_mem_nil, or_false] at hu
    rcases hu with rfl; rfl
/-- A slice of such numbers lies so. -/
def WordsAt (w : World) (v : Value) (xs : List Int) : Prop := wordK.at w v xs ∧ (∀ x, x ∈ xs → 0 ≤ x ∧ x ≤ 65535) ∧ xs.length ≤ 9223372036854775807
theorem WordsAt.below {w w' : World} {v : Value} {xs : List Int} (h : WordsAt w v xs) (hb : Below w.heap.size w w') : WordsAt w' v xs := ⟨h.1.below hb, h.2⟩
theorem words_cell {w : World} {a : Option Addr} {n cap : Nat} {xs : List Int} (h : WordsAt w (.slice a n cap) xs) {k : Nat} (hk : k < xs.length) : ∃ b off, a = some ⟨b, off, none⟩ ∧ w.cell? ⟨b, off + k, none⟩ = some (.int .u16 (xs.getD k 0)) ∧ 0 ≤ xs.getD k 0 ∧ xs.getD k 0 ≤ 65535 := by
  obtain ⟨⟨a', cap', e, hc⟩, hr, _⟩ := h
  injection e with e1 e2 e3
  subst e1
  obtain ⟨b, off, rfl, hq⟩ := hc (fun e => by rw [e] at hk; simp at hk)
  have h1 := hq k _ (List.getElem?_eq_getElem hk) 0 _ rfl
  have e1 : xs.getD k 0 = xs[k] := by rw [List.getD_eq_getElem?_getD, List.getElem?_eq_getElem hk]; rfl
  refine ⟨b, off, rfl, ?_, ?_⟩
  · rw [e1]
    simpa [wordK] using h1
  · rw [e1]; exact hr _ (List.getElem_mem hk)

/-- All but one block is kept. -/
abbrev Only (p : Nat) (w w' : World) : Prop := w.grownBy w' (some p)
theorem only_refl (p : Nat) (w : World) : Only p w w := ⟨rfl, rfl, rfl, Nat.le_refl _, fun _ _ _ => rfl⟩
theorem only_set {p : Nat} {w W : World} (h : Only p w W) (o : Nat) (v : Value) : Only p w (W.setCell ⟨p, o, none⟩ v) :=
  ⟨h.os, h.tape, h.output, by have := h.size; simpa using this, fun k hk hne => (Below.heap_setCell W ⟨p, o, none⟩ v k (fun e => hne (by rw [e]))).trans (h.block k hk hne)⟩
theorem only_below {p : Nat} {w W W' : World} (h : Only p w W) (hb : Below W.heap.size W W') : Only p w W' :=
  ⟨hb.os.trans h.os, hb.tape.trans h.tape, hb.output.trans h.output, Nat.le_trans h.size hb.size, fun k hk hne => (hb.block k (Nat.lt_of_lt_of_le hk h.size)).trans (h.block k hk hne)⟩
theorem only_trans {p : Nat} {w W W' : World} (h : Only p w W) (hb : Only p W W') : Only p w W' :=
  ⟨hb.os.trans h.os, hb.tape.trans h.tape, hb.output.trans h.output, Nat.le_trans h.size hb.size, fun k hk hne => (hb.block k (Nat.lt_of_lt_of_le hk h.size) hne).trans (h.block k hk hne)⟩
theorem only_low {p B : Nat} {w W : World} (h : Only p w W) (hB : B ≤ w.heap.size) (hp : B ≤ p) : Below B w W :=
  ⟨h.os, h.tape, h.output, h.size, fun k hk => h.block k (by omega) (fun e => by cases e; omega)⟩

set_option maxRecDepth 100000 in
set_option maxHeartbeats 4000000 in
theorem draw_any {bs : List Int} {bv : Value} (hne : bs ≠ []) {pa pb : Nat} {at' N : Int} (h0 : 0 ≤ at') (h1 : at' ≤ 10000) (hN0 : 1 ≤ N) (hN1 : N ≤ 1000) (w : World) (hW : WordsAt w bv bs) (ha : w.heap[pa]? = some (.cells #[.int .i64 at'] 3 (0, 0))) (hb : w.heap[pb]? = some (.cells #[bv] 38 (0, 0))) :
    Calls Try.prog 66 #[.int .i64 N, .pointer (some ⟨pa, 0, none⟩), .pointer (some ⟨pb, 0, none⟩)] w fun e w' => ∃ v, 0 ≤ v ∧ v < N ∧ e = .returned (.int .i64 v) ∧ w'.heap[pa]? = some (.cells #[.int .i64 (at' + 1)] 3 (0, 0)) ∧ Only pa w w' := by
  obtain ⟨⟨sa, cap, rfl, hq0⟩, hr⟩ := id hW
  clear hq0 hr
  have hl63 : (bs.length : Int) ≤ 9223372036854775807 := by have := hW.2.2; omega
  have hl0 : 0 < bs.length := by cases bs with | nil => exact (hne rfl).elim | cons x l => simp
  obtain ⟨ki, hki⟩ : ∃ k, (at' + 1) % (bs.length : Int) = k := ⟨_, rfl⟩
  have hk0 : 0 ≤ ki := by rw [← hki]; exact Int.emod_nonneg _ (by omega)
  have hk1 : ki < (bs.length : Int) := by rw [← hki]; exact Int.emod_lt_of_pos _ (by omega)
  have hkt : (at' + 1).tmod (bs.length : Int) = ki := by rw [Int.tmod_eq_emod_of_nonneg (by omega)]; exact hki
  clear hki
  obtain ⟨k, rfl⟩ := Int.eq_ofNat_of_zero_le hk0
  obtain ⟨b, off, rfl, hc, hx0, hx1⟩ := words_cell hW (show k < bs.length by omega)
  obtain ⟨x, hx⟩ : ∃ x, bs.getD k 0 = x := ⟨_, rfl⟩
  rw [hx] at hc hx0 hx1
  clear hx hW hne
  obtain ⟨v, hv⟩ : ∃ v, (x + 43 * (at' + 1)) % N = v := ⟨_, rfl⟩
  have hv0 : 0 ≤ v := by rw [← hv]; exact Int.emod_nonneg _ (by omega)
  have hv1 : v < N := by rw [← hv]; exact Int.emod_lt_of_pos _ (by omega)
  have hvt : (x + 43 * (at' + 1)).tmod N = v := by rw [Int.tmod_eq_emod_of_nonneg (by omega)]; exact hv
  clear hv
  have lb := (cells_of hb).1
  have cb := (cells_of hb).2
  have la := (cells_of ha).1
  have ca := (cells_of ha).2
  have za := free_of ha
  have hab : pb ≠ pa := by
    rintro rfl
    rw [ha] at hb
    cases hb
  have hbb : b ≠ pa := by
    rintro rfl
    rw [ca] at hc
    have : off + k = 0 := by
      rcases Nat.eq_zero_or_pos (off + k) with h | h
      · exact h
      · rw [show (off + k) = (off + k - 1) + 1 by omega] at hc; simp at hc
    rw [this] at hc
    simp at hc
  have hfin := heap_set_same (o := 0) (v := .int .i64 (at' + 1)) ha
  simp only [List.setIfInBounds_toArray, List.set_cons_zero] at hfin
  replace hfin := hid hfin
  have hon := hid (only_set (only_refl pa w) 0 (.int .i64 (at' + 1)))
  clear ha hb
  have hc2 := (World.cell?_of_block (a := ⟨b, off + k, none⟩) (Below.heap_setCell w ⟨pa, 0, none⟩ (.int .i64 (at' + 1)) b hbb)).trans hc
  have cb2 : (w.setCell ⟨pa, 0, none⟩ (.int .i64 (at' + 1))).cell? ⟨pb, 0, none⟩ = some (.slice (some ⟨b, off, none⟩) bs.length cap) := (World.cell?_of_block (a := ⟨pb, 0, none⟩) (Below.heap_setCell w ⟨pa, 0, none⟩ (.int .i64 (at' + 1)) pb hab)).trans (cb 0)
  have ca2 : (w.setCell ⟨pa, 0, none⟩ (.int .i64 (at' + 1))).cell? ⟨pa, 0, none⟩ = some (.int .i64 (at' + 1)) := (cells_of hfin.out).2 0
  have hkn : (k : Int) < bs.length := hk1
  go_enter Try.func66, Try.ntmps66
  go_wp2
  generalize w.setCell ⟨pa, 0, none⟩ (.int .i64 (at' + 1)) = w1 at hfin hon hc2 cb2 ca2 ⊢
  clear lb cb la ca za hab hbb hc
  have lb := cell_lt cb2
  have la := cell_lt ca2
  have lc := cell_lt hc2
  go_quiet (fail)
  go_wp2
  go_ret
  exact ⟨v, hv0, hv1, rfl, hfin.out, only_below hon.out (below_drewN (Below.refl _ _) _)⟩
end Go.Proofs.Ytccgakdaiaigoaa

namespace Go.Proofs.Ytccgakdaiaigoaa
open Go.RowKit Go.Lap Go.Shelf

/-- The closure that draws. -/
abbrev drawF (pa pb : Nat) : Value := .func (.func 66) #[] #[.pointer (some ⟨pa, 0, none⟩), .pointer (some ⟨pb, 0, none⟩)]
/-- What is kept while numbers are drawn. -/
structure Dr (w0 : World) (bs : List Int) (bv : Value) (pa pb pf : Nat) (n : Int) (W : World) : Prop where
  base : Below w0.heap.size w0 W
  words : WordsAt w0 bv bs
  ne : bs ≠ []
  a : W.heap[pa]? = some (.cells #[.int .i64 n] 3 (0, 0))
  b : W.heap[pb]? = some (.cells #[bv] 38 (0, 0))
  f : W.heap[pf]? = some (.cells #[drawF pa pb] 60 (0, 0))
  lo : w0.heap.size ≤ pa ∧ w0.heap.size ≤ pb ∧ w0.heap.size ≤ pf
  ab : pb ≠ pa
  af : pf ≠ pa
theorem Dr.below {w0 W W' : World} {bs : List Int} {bv : Value} {pa pb pf : Nat} {n : Int} (h : Dr w0 bs bv pa pb pf n W) (hb : Below W.heap.size W W') : Dr w0 bs bv pa pb pf n W' :=
  ⟨below_via hb h.base, h.words, h.ne, (hb.block _ (cells_of h.a).1).trans h.a, (hb.block _ (cells_of h.b).1).trans h.b, (hb.block _ (cells_of h.f).1).trans h.f, h.lo, h.ab, h.af⟩
theorem Dr.set {w0 W : World} {bs : List Int} {bv : Value} {pa pb pf : Nat} {n : Int} (h : Dr w0 bs bv pa pb pf n W) {p o : Nat} {v : Value} (hp : p ≠ pa ∧ p ≠ pb ∧ p ≠ pf ∧ w0.heap.size ≤ p) : Dr w0 bs bv pa pb pf n (W.setCell ⟨p, o, none⟩ v) :=
  ⟨below_set h.base v hp.2.2.2, h.words, h.ne, (Below.heap_setCell W ⟨p, o, none⟩ v _ hp.1.symm).trans h.a, (Below.heap_setCell W ⟨p, o, none⟩ v _ hp.2.1.symm).trans h.b, (Below.heap_setCell W ⟨p, o, none⟩ v _ hp.2.2.1.symm).trans h.f, h.lo, h.ab, h.af⟩
theorem Dr.draw {w0 W : World} {bs : List Int} {bv : Value} {pa pb pf : Nat} {n : Int} (h : Dr w0 bs bv pa pb pf n W) (h0 : 0 ≤ n ∧ n ≤ 10000) {N : Int} (hN0 : 1 ≤ N) (hN1 : N ≤ 1000) :
    Calls Try.prog 66 #[.int .i64 N, .pointer (some ⟨pa, 0, none⟩), .pointer (some ⟨pb, 0, none⟩)] W fun e w' => ∃ v, 0 ≤ v ∧ v < N ∧ e = .returned (.int .i64 v) ∧ Dr w0 bs bv pa pb pf (n + 1) w' ∧ Only pa W w' :=
  (draw_any h.ne h0.1 h0.2 hN0 hN1 W ⟨(h.words.below h.base).1, h.words.2⟩ h.a h.b).mono fun e w' ⟨v, h1, h2, h3, h4, h5⟩ =>
    ⟨v, h1, h2, h3, ⟨h.base.trans (only_low h5 h.base.size h.lo.1), h.words, h.ne, h4, (h5.block _ (cells_of h.b).1 (by simpa using h.ab)).trans h.b, (h5.block _ (cells_of h.f).1 (by simpa using h.af)).trans h.f, h.lo, h.ab, h.af⟩, h5⟩
theorem only_at {p b : Nat} {W W' : World} {c : Array Value} {t : TypeId} (h : Only p W W') (hb : W.heap[b]? = some (.cells c t (0, 0))) (hne : b ≠ p) : W'.heap[b]? = some (.cells c t (0, 0)) :=
  (h.block _ (cells_of hb).1 (by simpa using hne)).trans hb

theorem only_far {p q : Nat} {w W : World} (h : Only p w W) (hq : w.heap.size ≤ q) (o : Nat) (v : Value) : Only p w (W.setCell ⟨q, o, none⟩ v) :=
  ⟨h.os, h.tape, h.output, by have := h.size; simpa using this, fun k hk hne => (Below.heap_setCell W ⟨q, o, none⟩ v k (show k ≠ q by omega)).trans (h.block k hk hne)⟩

set_option maxRecDepth 100000 in
set_option maxHeartbeats 4000000 in
theorem around_any {w0 : World} {bs : List Int} {bv : Value} {pa pb pf : Nat} {n at' : Int} (hn : 0 ≤ n ∧ n ≤ 600) (h0 : 0 ≤ at' ∧ at' ≤ 5000) (w : World) (hD : Dr w0 bs bv pa pb pf at' w) :
    Calls Try.prog 67 #[.int .i64 n, .pointer (some ⟨pf, 0, none⟩)] w fun e w' => ∃ a b c d, 0 ≤ a ∧ 0 ≤ b ∧ 0 ≤ c ∧ 0 ≤ d ∧ e = .returned (.agg #[.int .i64 (max 0 (n - a)), .int .i64 (min 600 (n + b)), .int .i64 (max 0 (n - c)), .int .i64 (min 600 (n + d))]) ∧ Dr w0 bs bv pa pb pf (at' + 4) w' ∧ Only pa w w' := by
  obtain ⟨hn0, hn1⟩ := hn
  have hpa := hid (cells_of hD.a).1
  have hO := hid (only_below (only_below (only_refl pa w) (below_alloc (Below.refl _ w) (.cells #[.int .i64 0, .int .i64 0, .int .i64 0, .int .i64 0] 44))) (below_alloc (Below.refl _ _) (.cells #[.int .i64 0, .int .i64 0, .int .i64 0, .int .i64 0] 44)))
  have hx := hid ((hD.below (below_alloc (Below.refl _ w) (.cells #[.int .i64 0, .int .i64 0, .int .i64 0, .int .i64 0] 44))).below (below_alloc (Below.refl _ _) (.cells #[.int .i64 0, .int .i64 0, .int .i64 0, .int .i64 0] 44)))
  have hr := hid (alloc_old (o := .cells #[.int .i64 0, .int .i64 0, .int .i64 0, .int .i64 0] 44) (by simp) (alloc_at (w := w) (o := .cells #[.int .i64 0, .int .i64 0, .int .i64 0, .int .i64 0] 44) rfl))
  have hs := hid (show ((w.alloc (.cells #[.int .i64 0, .int .i64 0, .int .i64 0, .int .i64 0] 44)).alloc (.cells #[.int .i64 0, .int .i64 0, .int .i64 0, .int .i64 0] 44)).heap[w.heap.size + 1]? = some (.cells #[.int .i64 0, .int .i64 0, .int .i64 0, .int .i64 0] 44 (0, 0)) from alloc_at (by simp))
  have hlow := hid (show w0.heap.size ≤ w.heap.size ∧ pb < w.heap.size ∧ pf < w.heap.size from ⟨hD.base.size, (cells_of hD.b).1, (cells_of hD.f).1⟩)
  clear hD
  go_enter Try.func67, Try.ntmps67
  go_wp2
  generalize (w.alloc (.cells #[.int .i64 0, .int .i64 0, .int .i64 0, .int .i64 0] 44)).alloc (.cells #[.int .i64 0, .int .i64 0, .int .i64 0, .int .i64 0] 44) = w1 at hO hx hr hs ⊢
  have hpq := hid (show w.heap.size ≠ w.heap.size + 1 by omega)
  have hlp := hid (show w0.heap.size ≤ w.heap.size ∧ pa ≠ w.heap.size ∧ pb ≠ w.heap.size ∧ pf ≠ w.heap.size from ⟨hlow.out.1, Nat.ne_of_lt hpa.out, Nat.ne_of_lt hlow.out.2.1, Nat.ne_of_lt hlow.out.2.2⟩)
  have hlq := hid (show w0.heap.size ≤ w.heap.size + 1 ∧ pa ≠ w.heap.size + 1 ∧ pb ≠ w.heap.size + 1 ∧ pf ≠ w.heap.size + 1 from by have := hlow.out; have := hpa.out; omega)
  have hOq := hid (show Only pa w w1 from hO.out)
  have hpw := hid (Nat.le_refl w.heap.size)
  obtain ⟨p, hp⟩ : ∃ p, p = w.heap.size := ⟨_, rfl⟩
  rw [← hp] at hr hs hpq hlp hlq hpw ⊢
  have hqw := hid (show w.heap.size ≤ p + 1 by omega)
  generalize p + 1 = q at hs hpq hlq hqw ⊢
  have hpw2 := hid (show w.heap.size ≤ p from by omega)
  clear hp hpw hO hlow
  refine wp_loop_rounds 3 ?_
  rw [rounds_succ]
  go_upto_region 5 with fail
  refine wp_region_held_at (S := fun W => W.heap[pf]? = some (.cells #[drawF pa pb] 60 (0, 0))) (by kernel_rfl) ?_
  intro v0 hb _
  replace hx := hid (hx.out.below hb)
  replace hOq := hid (only_below hOq.out hb)
  replace hr := hid ((hb.block _ (cells_of hr.out).1).trans hr.out)
  replace hs := hid ((hb.block _ (cells_of hs.out).1).trans hs.out)
  have hz := hx.out.f
  clear hb
  try simp only [Array.replicate]
  refine wpAnyH_quiet (i := 0) (v := .int .i64 0) rfl (by kernel_rfl) (by kernel_rfl) (by kernel_rfl) (fun _ _ _ h => h) rfl (fun W hW => by go_simp) hz ?_
  refine wpAnyH_quiet (i := 1) (v := .int .i64 n) rfl (by kernel_rfl) (by kernel_rfl) (by kernel_rfl) (fun _ _ _ h => h) rfl (fun W hW => by go_simp) hz ?_
  refine wpAnyH_quiet (i := 2) (v := drawF pa pb) rfl (by kernel_rfl) (by kernel_rfl) (by kernel_rfl) (fun _ _ _ h => h) rfl (fun W hW => by obtain ⟨lq, cq⟩ := cells_of hW; go_simp) hz ?_
  try simp only [Act.put, List.setIfInBounds_toArray]
  refine wpAnyH_quiet (i := 6) (v := .int .i64 n) rfl (by kernel_rfl) (by kernel_rfl) (by kernel_rfl) (fun _ _ _ h => h) rfl (fun W hW => by go_simp) hz ?_
  refine wpAnyH_quiet (i := 7) (v := drawF pa pb) rfl (by kernel_rfl) (by kernel_rfl) (by kernel_rfl) (fun _ _ _ h => h) rfl (fun W hW => by obtain ⟨lq, cq⟩ := cells_of hW; go_simp) hz ?_
  try simp only [Act.put, List.setIfInBounds_toArray]
  have hd := hid (hx.out.draw (N := 9) (by omega) (by decide) (by decide))
  refine wpAnyH_step (i := 3) (by kernel_rfl) rfl ?_
  go_wp2_with (go_at_call 66; with_reducible refine hd.out.mono ?_; rintro e y0 ⟨a, ha0, ha1, rfl, hx1, ho⟩; replace hx := hid hx1; replace hOq := hid (only_trans hOq.out ho); replace hr := hid (only_at ho hr.out hlp.out.2.1.symm); replace hs := hid (only_at ho hs.out hlq.out.2.1.symm); clear hd hx1 ho hz; have hz := hx.out.f)
  refine ⟨hz, ?_⟩
  try simp only [Act.put, List.setIfInBounds_toArray]
  have hma : (if a < n then n - a else 0) = max 0 (n - a) := by split <;> omega
  have hwa : IntKind.i64.wrap (n - a) = n - a := Go.IntWalk.i64_in _ (by omega)
  refine wpAnyH_quiet (i := 4) (v := .int .i64 (n - a)) rfl (by kernel_rfl) (by kernel_rfl) (by kernel_rfl) (fun _ _ _ h => h) rfl (fun W hW => by go_simp) hz ?_
  refine wpAnyH_quiet (i := 5) (v := .int .i64 (max 0 (n - a))) rfl (by kernel_rfl) (by kernel_rfl) (by kernel_rfl) (fun _ _ _ h => h) rfl (fun W hW => by go_simp) hz ?_
  try simp only [Act.put, List.setIfInBounds_toArray]
  clear hma hwa
  have hd := hid (hx.out.draw (N := 9) (by omega) (by decide) (by decide))
  refine wpAnyH_step (i := 8) (by kernel_rfl) rfl ?_
  go_wp2_with (go_at_call 66; with_reducible refine hd.out.mono ?_; rintro e y1 ⟨b, hb0, hb1, rfl, hx1, ho⟩; replace hx := hid hx1; replace hOq := hid (only_trans hOq.out ho); replace hr := hid (only_at ho hr.out hlp.out.2.1.symm); replace hs := hid (only_at ho hs.out hlq.out.2.1.symm); clear hd hx1 ho hz; have hz := hx.out.f)
  refine ⟨hz, ?_⟩
  try simp only [Act.put, List.setIfInBounds_toArray]
  have hmb : (if n + b < 600 then n + b else 600) = min 600 (n + b) := by split <;> omega
  have hwb : IntKind.i64.wrap (n + b) = n + b := Go.IntWalk.i64_in _ (by omega)
  refine wpAnyH_quiet (i := 9) (v := .int .i64 (n + b)) rfl (by kernel_rfl) (by kernel_rfl) (by kernel_rfl) (fun _ _ _ h => h) rfl (fun W hW => by go_simp) hz ?_
  refine wpAnyH_quiet (i := 10) (v := .int .i64 (min 600 (n + b))) rfl (by kernel_rfl) (by kernel_rfl) (by kernel_rfl) (fun _ _ _ h => h) rfl (fun W hW => by go_simp) hz ?_
  try simp only [Act.put, List.setIfInBounds_toArray]
  clear hmb hwb
  refine wpAnyH_step (i := 11) (by kernel_rfl) rfl ?_
  go_wp2_with (go_at_call 34; with_reducible refine (lspan_any _ _ _).mono ?_; rintro e z0 ⟨rfl, hb⟩; replace hx := hid (hx.out.below hb); replace hOq := hid (only_below hOq.out hb); replace hr := hid ((hb.block _ (cells_of hr.out).1).trans hr.out); replace hs := hid ((hb.block _ (cells_of hs.out).1).trans hs.out); clear hb hz; have hz := hx.out.f)
  refine ⟨hz, ?_⟩
  try simp only [Act.put, List.setIfInBounds_toArray]
  refine wpAnyH_step (i := 12) (by kernel_rfl) rfl ?_
  go_wp2
  refine ⟨hz, ?_⟩
  try simp only [Act.put, List.setIfInBounds_toArray]
  have ls := (cells_of hs.out).1
  have cs := (cells_of hs.out).2
  have zs := free_of hs.out
  refine wpAnyH_step (i := 13) (by kernel_rfl) rfl ?_
  go_wp2
  clear ls cs zs
  have hs2 := heap_set_same (o := 1) (v := .int .i64 (min 600 (n + b))) (heap_set_same (o := 0) (v := .int .i64 (max 0 (n - a))) hs.out)
  replace hr := hid ((Below.heap_setCell _ ⟨q, 1, none⟩ (.int .i64 (min 600 (n + b))) _ hpq.out).trans ((Below.heap_setCell z0 ⟨q, 0, none⟩ (.int .i64 (max 0 (n - a))) _ hpq.out).trans hr.out))
  replace hx := hid ((hx.out.set (o := 0) (v := .int .i64 (max 0 (n - a))) ⟨hlq.out.2.1.symm, hlq.out.2.2.1.symm, hlq.out.2.2.2.symm, hlq.out.1⟩).set (o := 1) (v := .int .i64 (min 600 (n + b))) ⟨hlq.out.2.1.symm, hlq.out.2.2.1.symm, hlq.out.2.2.2.symm, hlq.out.1⟩)
  replace hOq := hid (only_far (only_far hOq.out hqw.out 0 (.int .i64 (max 0 (n - a)))) hqw.out 1 (.int .i64 (min 600 (n + b))))
  simp only [List.setIfInBounds_toArray, List.set_cons_zero, List.set_cons_succ] at hs2
  replace hs := hid hs2
  clear hs2 hz
  refine ⟨hx.out.f, ?_⟩
  generalize (World.setCell z0 ⟨q, 0, none⟩ (.int .i64 (max 0 (n - a)))).setCell ⟨q, 1, none⟩ (.int .i64 (min 600 (n + b))) = u0 at hx hr hs hOq ⊢
  refine wpAnyH_done (by kernel_rfl) ?_ _
  try simp only [Act.put, List.setIfInBounds_toArray]
  go_wp2
  rw [rounds_succ]
  go_upto_region 5 with fail
  refine wp_region_held_at (S := fun W => W.heap[pf]? = some (.cells #[drawF pa pb] 60 (0, 0))) (by kernel_rfl) ?_
  intro v1 hb _
  replace hx := hid (hx.out.below hb)
  replace hOq := hid (only_below hOq.out hb)
  replace hr := hid ((hb.block _ (cells_of hr.out).1).trans hr.out)
  replace hs := hid ((hb.block _ (cells_of hs.out).1).trans hs.out)
  have hz := hx.out.f
  clear hb
  try simp only [Array.replicate]
  refine wpAnyH_quiet (i := 0) (v := .int .i64 1) rfl (by kernel_rfl) (by kernel_rfl) (by kernel_rfl) (fun _ _ _ h => h) rfl (fun W hW => by go_simp) hz ?_
  refine wpAnyH_quiet (i := 1) (v := .int .i64 n) rfl (by kernel_rfl) (by kernel_rfl) (by kernel_rfl) (fun _ _ _ h => h) rfl (fun W hW => by go_simp) hz ?_
  refine wpAnyH_quiet (i := 2) (v := drawF pa pb) rfl (by kernel_rfl) (by kernel_rfl) (by kernel_rfl) (fun _ _ _ h => h) rfl (fun W hW => by obtain ⟨lq, cq⟩ := cells_of hW; go_simp) hz ?_
  try simp only [Act.put, List.setIfInBounds_toArray]
  refine wpAnyH_quiet (i := 6) (v := .int .i64 n) rfl (by kernel_rfl) (by kernel_rfl) (by kernel_rfl) (fun _ _ _ h => h) rfl (fun W hW => by go_simp) hz ?_
  refine wpAnyH_quiet (i := 7) (v := drawF pa pb) rfl (by kernel_rfl) (by kernel_rfl) (by kernel_rfl) (fun _ _ _ h => h) rfl (fun W hW => by obtain ⟨lq, cq⟩ := cells_of hW; go_simp) hz ?_
  try simp only [Act.put, List.setIfInBounds_toArray]
  have hd := hid (hx.out.draw (N := 9) (by omega) (by decide) (by decide))
  refine wpAnyH_step (i := 3) (by kernel_rfl) rfl ?_
  go_wp2_with (go_at_call 66; with_reducible refine hd.out.mono ?_; rintro e y2 ⟨c, hc0, hc1, rfl, hx1, ho⟩; replace hx := hid hx1; replace hOq := hid (only_trans hOq.out ho); replace hr := hid (only_at ho hr.out hlp.out.2.1.symm); replace hs := hid (only_at ho hs.out hlq.out.2.1.symm); clear hd hx1 ho hz; have hz := hx.out.f)
  refine ⟨hz, ?_⟩
  try simp only [Act.put, List.setIfInBounds_toArray]
  have hmc : (if c < n then n - c else 0) = max 0 (n - c) := by split <;> omega
  have hwc : IntKind.i64.wrap (n - c) = n - c := Go.IntWalk.i64_in _ (by omega)
  refine wpAnyH_quiet (i := 4) (v := .int .i64 (n - c)) rfl (by kernel_rfl) (by kernel_rfl) (by kernel_rfl) (fun _ _ _ h => h) rfl (fun W hW => by go_simp) hz ?_
  refine wpAnyH_quiet (i := 5) (v := .int .i64 (max 0 (n - c))) rfl (by kernel_rfl) (by kernel_rfl) (by kernel_rfl) (fun _ _ _ h => h) rfl (fun W hW => by go_simp) hz ?_
  try simp only [Act.put, List.setIfInBounds_toArray]
  clear hmc hwc
  have hd := hid (hx.out.draw (N := 9) (by omega) (by decide) (by decide))
  refine wpAnyH_step (i := 8) (by kernel_rfl) rfl ?_
  go_wp2_with (go_at_call 66; with_reducible refine hd.out.mono ?_; rintro e y3 ⟨d, hd0, hd1, rfl, hx1, ho⟩; replace hx := hid hx1; replace hOq := hid (only_trans hOq.out ho); replace hr := hid (only_at ho hr.out hlp.out.2.1.symm); replace hs := hid (only_at ho hs.out hlq.out.2.1.symm); clear hd hx1 ho hz; have hz := hx.out.f)
  refine ⟨hz, ?_⟩
  try simp only [Act.put, List.setIfInBounds_toArray]
  have hmd : (if n + d < 600 then n + d else 600) = min 600 (n + d) := by split <;> omega
  have hwd : IntKind.i64.wrap (n + d) = n + d := Go.IntWalk.i64_in _ (by omega)
  refine wpAnyH_quiet (i := 9) (v := .int .i64 (n + d)) rfl (by kernel_rfl) (by kernel_rfl) (by kernel_rfl) (fun _ _ _ h => h) rfl (fun W hW => by go_simp) hz ?_
  refine wpAnyH_quiet (i := 10) (v := .int .i64 (min 600 (n + d))) rfl (by kernel_rfl) (by kernel_rfl) (by kernel_rfl) (fun _ _ _ h => h) rfl (fun W hW => by go_simp) hz ?_
  try simp only [Act.put, List.setIfInBounds_toArray]
  clear hmd hwd
  refine wpAnyH_step (i := 11) (by kernel_rfl) rfl ?_
  go_wp2_with (go_at_call 34; with_reducible refine (lspan_any _ _ _).mono ?_; rintro e z1 ⟨rfl, hb⟩; replace hx := hid (hx.out.below hb); replace hOq := hid (only_below hOq.out hb); replace hr := hid ((hb.block _ (cells_of hr.out).1).trans hr.out); replace hs := hid ((hb.block _ (cells_of hs.out).1).trans hs.out); clear hb hz; have hz := hx.out.f)
  refine ⟨hz, ?_⟩
  try simp only [Act.put, List.setIfInBounds_toArray]
  refine wpAnyH_step (i := 12) (by kernel_rfl) rfl ?_
  go_wp2
  refine ⟨hz, ?_⟩
  try simp only [Act.put, List.setIfInBounds_toArray]
  have ls := (cells_of hs.out).1
  have cs := (cells_of hs.out).2
  have zs := free_of hs.out
  refine wpAnyH_step (i := 13) (by kernel_rfl) rfl ?_
  go_wp2
  clear ls cs zs
  have hs2 := heap_set_same (o := 3) (v := .int .i64 (min 600 (n + d))) (heap_set_same (o := 2) (v := .int .i64 (max 0 (n - c))) hs.out)
  replace hr := hid ((Below.heap_setCell _ ⟨q, 3, none⟩ (.int .i64 (min 600 (n + d))) _ hpq.out).trans ((Below.heap_setCell z1 ⟨q, 2, none⟩ (.int .i64 (max 0 (n - c))) _ hpq.out).trans hr.out))
  replace hx := hid ((hx.out.set (o := 2) (v := .int .i64 (max 0 (n - c))) ⟨hlq.out.2.1.symm, hlq.out.2.2.1.symm, hlq.out.2.2.2.symm, hlq.out.1⟩).set (o := 3) (v := .int .i64 (min 600 (n + d))) ⟨hlq.out.2.1.symm, hlq.out.2.2.1.symm, hlq.out.2.2.2.symm, hlq.out.1⟩)
  replace hOq := hid (only_far (only_far hOq.out hqw.out 2 (.int .i64 (max 0 (n - c)))) hqw.out 3 (.int .i64 (min 600 (n + d))))
  simp only [List.setIfInBounds_toArray, List.set_cons_zero, List.set_cons_succ] at hs2
  replace hs := hid hs2
  clear hs2 hz
  refine ⟨hx.out.f, ?_⟩
  generalize (World.setCell z1 ⟨q, 2, none⟩ (.int .i64 (max 0 (n - c)))).setCell ⟨q, 3, none⟩ (.int .i64 (min 600 (n + d))) = u1 at hx hr hs hOq ⊢
  refine wpAnyH_done (by kernel_rfl) ?_ _
  try simp only [Act.put, List.setIfInBounds_toArray]
  go_wp2
  rw [rounds_succ]
  have ls := (cells_of hs.out).1
  have cs := (cells_of hs.out).2
  have lr := (cells_of hr.out).1
  have cr := (cells_of hr.out).2
  have zr := free_of hr.out
  go_wp2
  clear ls cs lr cr zr
  have hf := (heap_set_same (o := 3) (v := .int .i64 (min 600 (n + d))) (heap_set_same (o := 2) (v := .int .i64 (max 0 (n - c))) (heap_set_same (o := 1) (v := .int .i64 (min 600 (n + b))) (heap_set_same (o := 0) (v := .int .i64 (max 0 (n - a))) hr.out))))
  have e0 := (cells_of hf).2 0
  have e1 := (cells_of hf).2 1
  have e2 := (cells_of hf).2 2
  have e3 := (cells_of hf).2 3
  refine bodyPost_ret (v := .agg #[.int .i64 (max 0 (n - a)), .int .i64 (min 600 (n + b)), .int .i64 (max 0 (n - c)), .int .i64 (min 600 (n + d))]) (by simp [results, Try.results67, go_sem, e0, e1, e2, e3]) rfl ⟨a, b, c, d, ha0, hb0, hc0, hd0, rfl, ?_, ?_⟩
  · have := ((((hx.out.set (o := 0) (v := .int .i64 (max 0 (n - a))) ⟨hlp.out.2.1.symm, hlp.out.2.2.1.symm, hlp.out.2.2.2.symm, hlp.out.1⟩).set (o := 1) (v := .int .i64 (min 600 (n + b))) ⟨hlp.out.2.1.symm, hlp.out.2.2.1.symm, hlp.out.2.2.2.symm, hlp.out.1⟩).set (o := 2) (v := .int .i64 (max 0 (n - c))) ⟨hlp.out.2.1.symm, hlp.out.2.2.1.symm, hlp.out.2.2.2.symm, hlp.out.1⟩).set (o := 3) (v := .int .i64 (min 600 (n + d))) ⟨hlp.out.2.1.symm, hlp.out.2.2.1.symm, hlp.out.2.2.2.symm, hlp.out.1⟩)
    rw [show at' + 4 = at' + 1 + 1 + 1 + 1 by omega]
    exact this
  · exact (only_far (only_far (only_far (only_far hOq.out hpw2.out 0 (.int .i64 (max 0 (n - a)))) hpw2.out 1 (.int .i64 (min 600 (n + b)))) hpw2.out 2 (.int .i64 (max 0 (n - c)))) hpw2.out 3 (.int .i64 (min 600 (n + d))))
end Go.Proofs.Ytccgakdaiaigoaa

namespace Go.Proofs.Ytccgakdaiaigoaa
open Go.RowKit Go.Lap Go.Shelf

/-- Rows of numbers. -/
def onK : RowKind Try.prog Int where
  t := 39
  e := 3
  size := 1
  bytes := 8
  z := .int .i64 0
  enc := fun x => [.int .i64 x]
  ht := Try.underlying39
  hi := by kernel_rfl
  hzs := rfl
  hsz := by decide
  hb := by decide
  henc := fun _ => rfl
  hone := fun x u hu => by
    simp only [List.mem_cons, List.not_mem_nil, or_false] at hu
    rcases hu with rfl; rfl
/-- When stints truly began, and ended. -/
def onsL (n : Nat) (s : Nat → Int) : List Int := (List.range n).map fun i => s (2 * i)
def offsL (n : Nat) (s : Nat → Int) : List Int := (List.range n).map fun i => s (2 * i + 1)
theorem onsL_length (n : Nat) (s : Nat → Int) : (onsL n s).length = n := by simp [onsL]
theorem offsL_length (n : Nat) (s : Nat → Int) : (offsL n s).length = n := by simp [offsL]
theorem onsL_more (s : Nat → Int) (n : Nat) (on off : Int) : onsL (n + 1) (more s n on off) = onsL n s ++ [on] := by
  simp only [onsL, List.range_succ, List.map_append, List.map_cons, List.map_nil, more_on]
  congr 1
  exact List.map_congr_left fun i hi => more_old _ _ _ _ (by have := List.mem_range.1 hi; omega)
theorem offsL_more (s : Nat → Int) (n : Nat) (on off : Int) : offsL (n + 1) (more s n on off) = offsL n s ++ [off] := by
  simp only [offsL, List.range_succ, List.map_append, List.map_cons, List.map_nil, more_off]
  congr 1
  exact List.map_congr_left fun i hi => more_old _ _ _ _ (by have := List.mem_range.1 hi; omega)
theorem onsL_get (s : Nat → Int) {n k : Nat} (h : k < n) : (onsL n s)[k]? = some (s (2 * k)) := by simp [onsL, h]
theorem offsL_get (s : Nat → Int) {n k : Nat} (h : k < n) : (offsL n s)[k]? = some (s (2 * k + 1)) := by simp [offsL, h]

/-- What is kept while stints are drawn: the draw, the relays' box, the last stints, three rows that grow, and one box more. -/
structure MD (w : World) (bs : List Int) (bv : Value) (B pa pb pf pr pl : Nat) (rest c : Int) (L : List Stint) (ons offs : List Int) (las : Array Value) (ps : Nat) (o : Option Obj) (rv ov fv : Value) (W : World) : Prop where
  dr : Dr w bs bv pa pb pf c W
  box : W.heap[pr]? = some (.cells #[.int .i64 rest, rv] 24 (0, 0))
  las : W.heap[pl]? = some (.cells las 53 (0, 0))
  rows : stK.own B W rv L
  on : onK.own B W ov ons
  off : onK.own B W fv offs
  ap : Apart ov fv
  lt : pa < B ∧ pb < B ∧ pf < B ∧ pr < B ∧ pl < B
  ne : (pr ≠ pa ∧ pr ≠ pb ∧ pr ≠ pf ∧ w.heap.size ≤ pr) ∧ (pl ≠ pa ∧ pl ≠ pb ∧ pl ≠ pf ∧ w.heap.size ≤ pl) ∧ pr ≠ pl
  np : rv.ownBlock ≠ some ps ∧ ov.ownBlock ≠ some ps ∧ fv.ownBlock ≠ some ps
  hb : B ≤ ps
  at' : W.heap[ps]? = o
section
variable {w W W' : World} {bs : List Int} {bv rv ov fv : Value} {B pa pb pf pr pl ps : Nat} {rest c c' : Int} {L : List Stint} {ons offs : List Int} {las : Array Value} {o : Obj}
theorem MD.le (h : MD w bs bv B pa pb pf pr pl rest c L ons offs las ps (some o) rv ov fv W) : B ≤ W.heap.size := by
  have := (Array.getElem?_eq_some_iff.1 h.at').1
  have := h.hb
  omega
theorem MD.below (h : MD w bs bv B pa pb pf pr pl rest c L ons offs las ps (some o) rv ov fv W) (hb : Below W.heap.size W W') : MD w bs bv B pa pb pf pr pl rest c L ons offs las ps (some o) rv ov fv W' :=
  ⟨h.dr.below hb, (hb.block _ (cells_of h.box).1).trans h.box, (hb.block _ (cells_of h.las).1).trans h.las, h.rows.below hb, h.on.below hb, h.off.below hb, h.ap, h.lt, h.ne, h.np, h.hb, (hb.block _ (Array.getElem?_eq_some_iff.1 h.at').1).trans h.at'⟩
theorem MD.alloc (h : MD w bs bv B pa pb pf pr pl rest c L ons offs las ps none rv ov fv W) (hs : W.heap.size = ps) (o : Obj) : MD w bs bv B pa pb pf pr pl rest c L ons offs las ps (some o) rv ov fv (W.alloc o) := by
  have hb := below_alloc (Below.refl _ W) o
  exact ⟨h.dr.below hb, (hb.block _ (cells_of h.box).1).trans h.box, (hb.block _ (cells_of h.las).1).trans h.las, h.rows.below hb, h.on.below hb, h.off.below hb, h.ap, h.lt, h.ne, h.np, h.hb, alloc_at hs.symm⟩
theorem MD.drop (h : MD w bs bv B pa pb pf pr pl rest c L ons offs las ps (some o) rv ov fv W) : MD w bs bv B pa pb pf pr pl rest c L ons offs las W.heap.size none rv ov fv W :=
  ⟨h.dr, h.box, h.las, h.rows, h.on, h.off, h.ap, h.lt, h.ne, ⟨fun e => by have := World.ownsRow.lt h.rows _ e; omega, fun e => by have := World.ownsRow.lt h.on _ e; omega, fun e => by have := World.ownsRow.lt h.off _ e; omega⟩, h.le, by simp⟩
theorem own_only {α : Type} {K : RowKind Try.prog α} {v : Value} {xs : List α} {p : Nat} (h : K.own B W v xs) (ho : Only p W W') (hp : p < B) : K.own B W' v xs :=
  World.ownsRow.kept h ho (by
    cases hv : v.ownBlock with
    | none => exact .inl rfl
    | some g => exact .inr (fun e => by cases e; have := World.ownsRow.lt h _ hv; omega))
theorem MD.only (h : MD w bs bv B pa pb pf pr pl rest c L ons offs las ps (some o) rv ov fv W) (ho : Only pa W W') (hd : Dr w bs bv pa pb pf c' W') : MD w bs bv B pa pb pf pr pl rest c' L ons offs las ps (some o) rv ov fv W' :=
  ⟨hd, only_at ho h.box h.ne.1.1, only_at ho h.las h.ne.2.1.1, own_only h.rows ho h.lt.1, own_only h.on ho h.lt.1, own_only h.off ho h.lt.1, h.ap, h.lt, h.ne, h.np, h.hb,
    (ho.block _ (Array.getElem?_eq_some_iff.1 h.at').1 (fun e => by cases e; have := h.hb; have := h.lt.1; omega)).trans h.at'⟩
theorem MD.draw (h : MD w bs bv B pa pb pf pr pl rest c L ons offs las ps (some o) rv ov fv W) (h0 : 0 ≤ c ∧ c ≤ 10000) {N : Int} (hN0 : 1 ≤ N) (hN1 : N ≤ 1000) :
    Calls Try.prog 66 #[.int .i64 N, .pointer (some ⟨pa, 0, none⟩), .pointer (some ⟨pb, 0, none⟩)] W fun e w' => ∃ v, 0 ≤ v ∧ v < N ∧ e = .returned (.int .i64 v) ∧ MD w bs bv B pa pb pf pr pl rest (c + 1) L ons offs las ps (some o) rv ov fv w' :=
  (h.dr.draw h0 hN0 hN1).mono fun _ _ ⟨v, h1, h2, h3, h4, h5⟩ => ⟨v, h1, h2, h3, h.only h5 h4⟩
theorem MD.around (h : MD w bs bv B pa pb pf pr pl rest c L ons offs las ps (some o) rv ov fv W) {n : Int} (hn : 0 ≤ n ∧ n ≤ 600) (h0 : 0 ≤ c ∧ c ≤ 5000) :
    Calls Try.prog 67 #[.int .i64 n, .pointer (some ⟨pf, 0, none⟩)] W fun e w' => ∃ x y z t, 0 ≤ x ∧ 0 ≤ y ∧ 0 ≤ z ∧ 0 ≤ t ∧ e = .returned (.agg #[.int .i64 (max 0 (n - x)), .int .i64 (min 600 (n + y)), .int .i64 (max 0 (n - z)), .int .i64 (min 600 (n + t))]) ∧ MD w bs bv B pa pb pf pr pl rest (c + 4) L ons offs las ps (some o) rv ov fv w' :=
  (around_any hn h0 W h.dr).mono fun _ _ ⟨x, y, z, t, h1, h2, h3, h4, h5, h6, h7⟩ => ⟨x, y, z, t, h1, h2, h3, h4, h5, h.only h7 h6⟩
/-- A block far below, or far above, that a store does not meet. -/
theorem MD.low (h : MD w bs bv B pa pb pf pr pl rest c L ons offs las ps (some o) rv ov fv W) (hb : Below B W W') : Dr w bs bv pa pb pf c W' ∧ W'.heap[pr]? = some (.cells #[.int .i64 rest, rv] 24 (0, 0)) ∧ W'.heap[pl]? = some (.cells las 53 (0, 0)) :=
  ⟨⟨h.dr.base.trans (hb.mono (Nat.le_trans h.dr.lo.1 (Nat.le_of_lt h.lt.1))), h.dr.words, h.dr.ne, (hb.block _ h.lt.1).trans h.dr.a, (hb.block _ h.lt.2.1).trans h.dr.b, (hb.block _ h.lt.2.2.1).trans h.dr.f, h.dr.lo, h.dr.ab, h.dr.af⟩,
    (hb.block _ h.lt.2.2.2.1).trans h.box, (hb.block _ h.lt.2.2.2.2).trans h.las⟩
theorem own_other {α β : Type} {K : RowKind Try.prog α} {K2 : RowKind Try.prog β} {v u : Value} {xs : List α} {ys : List β} (h : K.own B W v xs) (hu : K2.own B W u ys) (hne : K.e ≠ K2.e) (hg : W.grownBy W' u.ownBlock) : K.own B W' v xs :=
  World.ownsRow.kept h hg (by
    cases hv : v.ownBlock with
    | none => exact .inl rfl
    | some g =>
      refine .inr fun e => ?_
      have h1 : ∃ cur, W.heap[g]? = some (.cells cur K.e (0, 0)) := by
        rcases h.2 with ⟨rfl, _⟩ | ⟨g', cap, cur, rfl, _, hg2, _⟩
        · simp [Value.ownBlock] at hv
        · simp only [Value.ownBlock, Option.some.injEq] at hv
          subst hv; exact ⟨cur, hg2⟩
      have h2 : ∃ cur, W.heap[g]? = some (.cells cur K2.e (0, 0)) := by
        rcases hu.2 with ⟨rfl, _⟩ | ⟨g', cap, cur, rfl, _, hg2, _⟩
        · simp [Value.ownBlock] at e
        · simp only [Value.ownBlock, Option.some.injEq] at e
          subst e; exact ⟨cur, hg2⟩
      obtain ⟨c1, e1⟩ := h1
      obtain ⟨c2, e2⟩ := h2
      rw [e1] at e2
      simp only [Option.some.injEq, Obj.cells.injEq] at e2
      exact hne e2.2.1)
theorem MD.growOn {v' : Value} {ons' : List Int} (h : MD w bs bv B pa pb pf pr pl rest c L ons offs las ps (some o) rv ov fv W) (hown : onK.own B W' v' ons') (hg : Grows B ov v' W W') : MD w bs bv B pa pb pf pr pl rest c L ons' offs las ps (some o) rv v' fv W' := by
  obtain ⟨h1, h2, h3⟩ := h.low hg.low
  refine ⟨h1, h2, h3, own_other h.rows h.on (by decide) hg.grown, hown, h.off.grown hg.grown h.ap.symm, Apart.grow h.ap h.off hg.own, h.lt, h.ne, ⟨h.np.1, ?_, h.np.2.2⟩, h.hb, (hg.grown.block ps (Array.getElem?_eq_some_iff.1 h.at').1 (Ne.symm h.np.2.1)).trans h.at'⟩
  intro e
  rcases hg.own _ e with h4 | h4
  · exact h.np.2.1 h4
  · have := (Array.getElem?_eq_some_iff.1 h.at').1; omega
theorem MD.growOff {v' : Value} {offs' : List Int} (h : MD w bs bv B pa pb pf pr pl rest c L ons offs las ps (some o) rv ov fv W) (hown : onK.own B W' v' offs') (hg : Grows B fv v' W W') : MD w bs bv B pa pb pf pr pl rest c L ons offs' las ps (some o) rv ov v' W' := by
  obtain ⟨h1, h2, h3⟩ := h.low hg.low
  refine ⟨h1, h2, h3, own_other h.rows h.off (by decide) hg.grown, h.on.grown hg.grown h.ap, hown, (Apart.grow h.ap.symm h.on hg.own).symm, h.lt, h.ne, ⟨h.np.1, h.np.2.1, ?_⟩, h.hb, (hg.grown.block ps (Array.getElem?_eq_some_iff.1 h.at').1 (Ne.symm h.np.2.2)).trans h.at'⟩
  intro e
  rcases hg.own _ e with h4 | h4
  · exact h.np.2.2 h4
  · have := (Array.getElem?_eq_some_iff.1 h.at').1; omega
theorem MD.growRows {v' : Value} {L' : List Stint} (h : MD w bs bv B pa pb pf pr pl rest c L ons offs las ps (some o) rv ov fv W) (hown : stK.own B W' v' L') (hg : Grows B rv v' W W') :
    W'.heap[pr]? = some (.cells #[.int .i64 rest, rv] 24 (0, 0)) ∧ MD w bs bv B pa pb pf pr pl rest c L' ons offs las ps (some o) v' ov fv (W'.setCell ⟨pr, 1, none⟩ v') := by
  obtain ⟨h1, h2, h3⟩ := h.low hg.low
  have e3 : W'.heap[ps]? = some o := (hg.grown.block ps (Array.getElem?_eq_some_iff.1 h.at').1 (Ne.symm h.np.1)).trans h.at'
  have hps : ps ≠ pr := by have := h.hb; have := h.lt.2.2.2.1; omega
  refine ⟨h2, h1.set h.ne.1, by simpa using heap_set_same (o := 1) (v := v') h2, heap_set_ne h3 h.ne.2.2.symm, hown.set h.lt.2.2.2.1, (own_other h.on h.rows (by decide) hg.grown).set h.lt.2.2.2.1, (own_other h.off h.rows (by decide) hg.grown).set h.lt.2.2.2.1, h.ap, h.lt, h.ne, ⟨?_, h.np.2⟩, h.hb, heap_set_ne e3 hps⟩
  intro e
  rcases hg.own _ e with h4 | h4
  · exact h.np.1 h4
  · have := (Array.getElem?_eq_some_iff.1 h.at').1; omega
theorem MD.setLast (h : MD w bs bv B pa pb pf pr pl rest c L ons offs las ps (some o) rv ov fv W) (q : Nat) (v : Value) : MD w bs bv B pa pb pf pr pl rest c L ons offs (las.setIfInBounds q v) ps (some o) rv ov fv (W.setCell ⟨pl, q, none⟩ v) :=
  ⟨h.dr.set h.ne.2.1, heap_set_ne h.box h.ne.2.2, heap_set_same h.las, h.rows.set h.lt.2.2.2.2, h.on.set h.lt.2.2.2.2, h.off.set h.lt.2.2.2.2, h.ap, h.lt, h.ne, h.np, h.hb, heap_set_ne h.at' (by have := h.hb; have := h.lt.2.2.2.2; omega)⟩
theorem own_far {α : Type} {K : RowKind Try.prog α} {v u : Value} {xs : List α} {p q : Nat} (h : K.own B W v xs) (hp : v.ownBlock ≠ some p) : K.own B (W.setCell ⟨p, q, none⟩ u) v xs :=
  World.ownsRow.kept h (only_set (only_refl p W) q u) (.inr hp)
theorem MD.setBox {cs : Array Value} {t : TypeId} (h : MD w bs bv B pa pb pf pr pl rest c L ons offs las ps (some (.cells cs t (0, 0))) rv ov fv W) (q : Nat) (v : Value) : MD w bs bv B pa pb pf pr pl rest c L ons offs las ps (some (.cells (cs.setIfInBounds q v) t (0, 0))) rv ov fv (W.setCell ⟨ps, q, none⟩ v) := by
  have h1 := h.hb
  have h2 := h.lt
  have h3 := h.dr.lo
  exact ⟨h.dr.set ⟨by omega, by omega, by omega, by omega⟩, heap_set_ne h.box (by omega), heap_set_ne h.las (by omega), own_far h.rows h.np.1, own_far h.on h.np.2.1, own_far h.off h.np.2.2, h.ap, h.lt, h.ne, h.np, h.hb, heap_set_same h.at'⟩
theorem MD.only0 (h : MD w bs bv B pa pb pf pr pl rest c L ons offs las ps none rv ov fv W) (hB : B ≤ W.heap.size) (ho : Only pa W W') (hd : Dr w bs bv pa pb pf c' W') : MD w bs bv B pa pb pf pr pl rest c' L ons offs las W'.heap.size none rv ov fv W' := by
  have h1 := own_only h.rows ho h.lt.1
  have h2 := own_only h.on ho h.lt.1
  have h3 := own_only h.off ho h.lt.1
  exact ⟨hd, only_at ho h.box h.ne.1.1, only_at ho h.las h.ne.2.1.1, h1, h2, h3, h.ap, h.lt, h.ne,
    ⟨fun e => by have := World.ownsRow.lt h1 _ e; omega, fun e => by have := World.ownsRow.lt h2 _ e; omega, fun e => by have := World.ownsRow.lt h3 _ e; omega⟩, Nat.le_trans hB ho.size, by simp⟩
theorem MD.draw0 (h : MD w bs bv B pa pb pf pr pl rest c L ons offs las ps none rv ov fv W) (hB : B ≤ W.heap.size) (h0 : 0 ≤ c ∧ c ≤ 10000) {N : Int} (hN0 : 1 ≤ N) (hN1 : N ≤ 1000) :
    Calls Try.prog 66 #[.int .i64 N, .pointer (some ⟨pa, 0, none⟩), .pointer (some ⟨pb, 0, none⟩)] W fun e w' => ∃ v, 0 ≤ v ∧ v < N ∧ e = .returned (.int .i64 v) ∧ MD w bs bv B pa pb pf pr pl rest (c + 1) L ons offs las w'.heap.size none rv ov fv w' :=
  (h.dr.draw h0 hN0 hN1).mono fun _ _ ⟨v, h1, h2, h3, h4, h5⟩ => ⟨v, h1, h2, h3, h.only0 hB h5 h4⟩
theorem MD.start (h : Dr w bs bv pa pb pf c W) (hr : W.heap[pr]? = some (.cells #[.int .i64 rest, .slice none 0 0] 24 (0, 0))) (hl : W.heap[pl]? = some (.cells las 53 (0, 0)))
    (hne : (pr ≠ pa ∧ pr ≠ pb ∧ pr ≠ pf ∧ w.heap.size ≤ pr) ∧ (pl ≠ pa ∧ pl ≠ pb ∧ pl ≠ pf ∧ w.heap.size ≤ pl) ∧ pr ≠ pl) : MD w bs bv W.heap.size pa pb pf pr pl rest c [] [] [] las W.heap.size none (.slice none 0 0) (.slice none 0 0) (.slice none 0 0) W :=
  ⟨h, hr, hl, stK.own_nil _ _, onK.own_nil _ _, onK.own_nil _ _, apart_nil _, ⟨(cells_of h.a).1, (cells_of h.b).1, (cells_of h.f).1, (cells_of hr).1, (cells_of hl).1⟩, hne, ⟨by simp [Value.ownBlock], by simp [Value.ownBlock], by simp [Value.ownBlock]⟩, Nat.le_refl _, by simp⟩
end
theorem row_cell {B : Nat} {W : World} {v : Value} {xs : List Int} (h : onK.own B W v xs) {j : Nat} {x : Int} (hj : xs[j]? = some x) : ∃ g cap, v = .slice (some ⟨g, 0, none⟩) xs.length cap ∧ g < W.heap.size ∧ W.cell? ⟨g, j, none⟩ = some (.int .i64 x) := by
  rcases h.2 with ⟨rfl, hn⟩ | ⟨g, cap, cur, rfl, hb, hg, _, _, hs, ht⟩
  · have : xs = [] := List.eq_nil_of_length_eq_zero hn
    subst this; simp at hj
  · refine ⟨g, cap, rfl, (cells_of hg).1, ?_⟩
    have := h.cells (g := g) rfl (j * 1 + 0) _ (flat_get onK xs j x hj 0 _ rfl)
    rw [addr_add0] at this
    simpa using this
theorem off_cell {B : Nat} {W : World} {v : Value} {n : Nat} {s : Nat → Int} (h : onK.own B W v (offsL n s)) {j : Nat} (hj : j < n) : ∃ g cap, v = .slice (some ⟨g, 0, none⟩) n cap ∧ g < W.heap.size ∧ W.cell? ⟨g, j, none⟩ = some (.int .i64 (s (2 * j + 1))) := by
  have := row_cell h (offsL_get s hj)
  rwa [offsL_length] at this
theorem las_push {r : Rel} {q : Nat} (hq : q < 2) {x : Stint} (hx : x.rider = (q : Int)) : (#[.int .i64 (r.lastOf 0), .int .i64 (r.lastOf 1)] : Array Value).setIfInBounds q (.int .i64 r.n) = #[.int .i64 ((r.push x).lastOf 0), .int .i64 ((r.push x).lastOf 1)] := by
  rw [Rel.push_last, Rel.push_last, hx]
  rcases (by omega : q = 0 ∨ q = 1) with rfl | rfl <;> rfl
theorem off_last {B : Nat} {W : World} {a : Option Addr} {cap n : Nat} {s : Nat → Int} {x : Int} (h : onK.own B W (.slice a (n + 1) cap) (offsL n s ++ [x])) : ∃ g, a = some ⟨g, 0, none⟩ ∧ g < W.heap.size ∧ W.cell? ⟨g, n, none⟩ = some (.int .i64 x) := by
  obtain ⟨g, cap', e, h1, h2⟩ := row_cell h (j := n) (x := x) (by rw [List.getElem?_append_right (by rw [offsL_length]; exact Nat.le_refl _), offsL_length]; simp)
  injection e with e1 e2 e3
  exact ⟨g, e1, h1, h2⟩
theorem lastOf_cell {W : World} {pl : Nat} {r : Rel} (h : W.heap[pl]? = some (.cells #[.int .i64 (r.lastOf 0), .int .i64 (r.lastOf 1)] 53 (0, 0))) {q : Nat} (hq : q < 2) : W.cell? ⟨pl, q, none⟩ = some (.int .i64 (r.lastOf q)) := by
  rw [(cells_of h).2]
  rcases (by omega : q = 0 ∨ q = 1) with rfl | rfl <;> rfl
end Go.Proofs.Ytccgakdaiaigoaa
