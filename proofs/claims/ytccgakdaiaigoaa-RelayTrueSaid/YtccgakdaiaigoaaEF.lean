/- The law RelayTurned, walked: its beginning. -/
import Derived.Test.YtccgakdaiaigoaaEA
import Derived.Test.YtccgakdaiaigoaaBH
import Derived.Test.YtccgakdaiaigoaaEE
import Derived.Test.YtccgakdaiaigoaaGX
import Derived.Test.YtccgakdaiaigoaaGK
import Derived.DeepKeys
namespace Go.Proofs.Ytccgakdaiaigoaa
open Go.RowKit Go.Lap Go.Shelf
theorem KeepM.low {w W W' : World} {r : Rel} {sv : Value} {B : Nat} (h : KeepM w r sv W) (hS : StintsAt w sv r.stints) (hB : w.heap.size < B) (hb : Below B W W') : KeepM w r sv W' := by
  have hb2 := h.bel.trans (hb.mono (Nat.le_of_lt hB))
  exact ⟨hb2, (hb.block _ hB).trans h.m, hS.below hb2⟩

theorem heap_set_ne {W : World} {p o b : Nat} {v : Value} {x : Obj} (h : W.heap[b]? = some x) (hne : b ≠ p) : (W.setCell ⟨p, o, none⟩ v).heap[b]? = some x := (Below.heap_setCell W ⟨p, o, none⟩ v b hne).trans h
/-- A box of two cells is written. -/
theorem two_set {w W : World} {r : Rel} {sv : Value} (hS : StintsAt w sv r.stints) (h : KeepM w r sv W) {p : Nat} {x0 x1 y0 y1 : Value} {t : TypeId} (hp : W.heap[p]? = some (.cells #[x0, x1] t (0, 0))) (hw : w.heap.size < p) :
    KeepM w r sv ((W.setCell ⟨p, 0, none⟩ y0).setCell ⟨p, 1, none⟩ y1) ∧ ((W.setCell ⟨p, 0, none⟩ y0).setCell ⟨p, 1, none⟩ y1).heap[p]? = some (.cells #[y0, y1] t (0, 0)) ∧
    ∀ b x, b ≠ p → W.heap[b]? = some x → ((W.setCell ⟨p, 0, none⟩ y0).setCell ⟨p, 1, none⟩ y1).heap[b]? = some x := by
  refine ⟨(h.set hS hw _).set hS hw _, ?_, fun b x hb hx => heap_set_ne (heap_set_ne hx hb) hb⟩
  have := heap_set_same (o := 1) (v := y1) (heap_set_same (o := 0) (v := y0) hp)
  simpa using this

/-- Two relays that grow, one entry for each stint: by other judges, and some minutes later; beside them something lies at a block of its own. -/
structure LT (w : World) (r : Rel) (sv : Value) (d : Int) (B px py : Nat) (kx ky bs : Nat) (o : Option Obj) (xv yv : Value) (W : World) : Prop where
  keep : KeepM w r sv W
  hpx : w.heap.size < px ∧ px < B
  hpy : w.heap.size < py ∧ py < B
  hne : px ≠ py
  box : W.heap[px]? = some (.cells #[.int .i64 r.rest, xv] 24 (0, 0))
  boy : W.heap[py]? = some (.cells #[.int .i64 r.rest, yv] 24 (0, 0))
  ox : stK.own B W xv (r.swap.stints.take kx)
  oy : stK.own B W yv ((r.later d).stints.take ky)
  ap : Apart xv yv
  nx : xv.ownBlock ≠ some bs
  ny : yv.ownBlock ≠ some bs
  hb : B ≤ bs
  at' : W.heap[bs]? = o
theorem LT.le {w W : World} {r : Rel} {sv xv yv : Value} {d : Int} {B px py kx ky bs : Nat} {o : Obj} (h : LT w r sv d B px py kx ky bs (some o) xv yv W) : B ≤ W.heap.size := by
  have := (Array.getElem?_eq_some_iff.1 h.at').1
  have := h.hb
  omega
theorem LT.below {w W W' : World} {r : Rel} {sv xv yv : Value} {d : Int} {B px py kx ky bs : Nat} {o : Obj} (h : LT w r sv d B px py kx ky bs (some o) xv yv W) (hb : Below W.heap.size W W') : LT w r sv d B px py kx ky bs (some o) xv yv W' :=
  ⟨h.keep.below hb, h.hpx, h.hpy, h.hne, (hb.block _ (cells_of h.box).1).trans h.box, (hb.block _ (cells_of h.boy).1).trans h.boy, h.ox.below hb, h.oy.below hb, h.ap, h.nx, h.ny, h.hb, (hb.block _ (Array.getElem?_eq_some_iff.1 h.at').1).trans h.at'⟩
theorem LT.alloc {w W : World} {r : Rel} {sv xv yv : Value} {d : Int} {B px py kx ky bs : Nat} (h : LT w r sv d B px py kx ky bs none xv yv W) (hs : W.heap.size = bs) (o : Obj) : LT w r sv d B px py kx ky bs (some o) xv yv (W.alloc o) := by
  have hb := below_alloc (Below.refl _ W) o
  exact ⟨h.keep.below hb, h.hpx, h.hpy, h.hne, (hb.block _ (cells_of h.box).1).trans h.box, (hb.block _ (cells_of h.boy).1).trans h.boy, h.ox.below hb, h.oy.below hb, h.ap, h.nx, h.ny, h.hb, alloc_at hs.symm⟩
theorem LT.drop {w W : World} {r : Rel} {sv xv yv : Value} {d : Int} {B px py kx ky bs : Nat} {o : Obj} (h : LT w r sv d B px py kx ky bs (some o) xv yv W) : LT w r sv d B px py kx ky W.heap.size none xv yv W :=
  ⟨h.keep, h.hpx, h.hpy, h.hne, h.box, h.boy, h.ox, h.oy, h.ap, fun e => by have := World.ownsRow.lt h.ox _ e; omega, fun e => by have := World.ownsRow.lt h.oy _ e; omega, h.le, by simp⟩
theorem LT.both {w W : World} {r : Rel} {sv xv yv : Value} {d : Int} {B px py bs : Nat} {o : Option Obj} (h : LT w r sv d B px py r.stints.length r.stints.length bs o xv yv W) : StintsAt W xv r.swap.stints ∧ StintsAt W yv (r.later d).stints := by
  have h1 := h.ox
  have h2 := h.oy
  rw [List.take_of_length_le (by rw [show r.swap.stints = r.stints.map Stint.swap from rfl, List.length_map]; exact Nat.le_refl _)] at h1
  rw [List.take_of_length_le (by rw [show (r.later d).stints = r.stints.map (Stint.later d) from rfl, List.length_map]; exact Nat.le_refl _)] at h2
  exact ⟨stints_of h1.at, stints_of h2.at⟩
/-- What an append keeps. -/
structure Grows (B : Nat) (v v' : Value) (W W' : World) : Prop where
  low : Below B W W'
  grown : W.grownBy W' v.ownBlock
  own : ∀ g, v'.ownBlock = some g → v.ownBlock = some g ∨ g = W.heap.size
theorem LT.growx {w W W' : World} {r : Rel} {sv xv yv v' : Value} {d : Int} {B px py k k' ky bs : Nat} {o : Obj} (hS : StintsAt w sv r.stints) (h : LT w r sv d B px py k ky bs (some o) xv yv W) (hown : stK.own B W' v' (r.swap.stints.take k')) (hg : Grows B xv v' W W') :
    (W'.heap[px]? = some (.cells #[.int .i64 r.rest, xv] 24 (0, 0)) ∧ W'.heap[bs]? = some o) ∧ LT w r sv d B px py k' ky bs (some o) v' yv (W'.setCell ⟨px, 1, none⟩ v') := by
  have e1 := (hg.low.block _ h.hpx.2).trans h.box
  have e2 := (hg.low.block _ h.hpy.2).trans h.boy
  have e3 : W'.heap[bs]? = some o := (hg.grown.block bs (Array.getElem?_eq_some_iff.1 h.at').1 (Ne.symm h.nx)).trans h.at'
  have hk := h.keep.low hS (Nat.lt_trans h.hpx.1 h.hpx.2) hg.low
  have hbs : bs ≠ px := by have := h.hb; have := h.hpx.2; omega
  refine ⟨⟨e1, e3⟩, hk.set hS h.hpx.1 _, h.hpx, h.hpy, h.hne, by simpa using heap_set_same (o := 1) (v := v') e1, heap_set_ne e2 h.hne.symm, hown.set h.hpx.2, (h.oy.grown hg.grown h.ap.symm).set h.hpx.2, Apart.grow h.ap h.oy hg.own, ?_, h.ny, h.hb, heap_set_ne e3 hbs⟩
  intro e
  rcases hg.own bs e with h2 | h2
  · exact h.nx h2
  · have := (Array.getElem?_eq_some_iff.1 h.at').1; omega
theorem LT.growy {w W W' : World} {r : Rel} {sv xv yv v' : Value} {d : Int} {B px py k k' kx bs : Nat} {o : Obj} (hS : StintsAt w sv r.stints) (h : LT w r sv d B px py kx k bs (some o) xv yv W) (hown : stK.own B W' v' ((r.later d).stints.take k')) (hg : Grows B yv v' W W') :
    (W'.heap[py]? = some (.cells #[.int .i64 r.rest, yv] 24 (0, 0)) ∧ W'.heap[bs]? = some o) ∧ LT w r sv d B px py kx k' bs (some o) xv v' (W'.setCell ⟨py, 1, none⟩ v') := by
  have e1 := (hg.low.block _ h.hpx.2).trans h.box
  have e2 := (hg.low.block _ h.hpy.2).trans h.boy
  have e3 : W'.heap[bs]? = some o := (hg.grown.block bs (Array.getElem?_eq_some_iff.1 h.at').1 (Ne.symm h.ny)).trans h.at'
  have hk := h.keep.low hS (Nat.lt_trans h.hpx.1 h.hpx.2) hg.low
  have hbs : bs ≠ py := by have := h.hb; have := h.hpy.2; omega
  refine ⟨⟨e2, e3⟩, hk.set hS h.hpy.1 _, h.hpx, h.hpy, h.hne, heap_set_ne e1 h.hne, by simpa using heap_set_same (o := 1) (v := v') e2, (h.ox.grown hg.grown h.ap).set h.hpy.2, hown.set h.hpy.2, (Apart.grow h.ap.symm h.ox hg.own).symm, h.nx, ?_, h.hb, heap_set_ne e3 hbs⟩
  intro e
  rcases hg.own bs e with h2 | h2
  · exact h.ny h2
  · have := (Array.getElem?_eq_some_iff.1 h.at').1; omega
theorem LT.start {w W W' : World} {r : Rel} {sv : Value} {d : Int} (hS : StintsAt w sv r.stints) (h : KeepM w r sv W) {p q : Nat} {x y : Value} (hne : p ≠ q) (hp : w.heap.size < p) (hq : w.heap.size < q) (hpx : W.heap[p]? = some (.cells #[.int .i64 r.rest, x] 24 (0, 0))) (hqx : W.heap[q]? = some (.cells #[.int .i64 r.rest, y] 24 (0, 0)))
    (hW : W' = (W.setCell ⟨p, 1, none⟩ (.slice none 0 0)).setCell ⟨q, 1, none⟩ (.slice none 0 0)) : LT w r sv d W'.heap.size p q 0 0 W'.heap.size none (.slice none 0 0) (.slice none 0 0) W' := by
  subst hW
  have e1 := heap_set_ne (v := .slice none 0 0) (o := 1) (heap_set_same (o := 1) (v := .slice none 0 0) hpx) hne
  have e2 := heap_set_same (o := 1) (v := .slice none 0 0) (heap_set_ne (v := .slice none 0 0) (o := 1) hqx hne.symm)
  refine ⟨(h.set hS hp _).set hS hq _, ⟨hp, (cells_of e1).1⟩, ⟨hq, (cells_of e2).1⟩, hne, by simpa using e1, by simpa using e2, ?_, ?_, apart_nil _, by simp [Value.ownBlock], by simp [Value.ownBlock], Nat.le_refl _, by simp⟩
  · rw [List.take_zero]; exact stK.own_nil _ _
  · rw [List.take_zero]; exact stK.own_nil _ _
theorem take_more {L : List Stint} {k : Nat} {x : Stint} (h : L[k]? = some x) : L.take (k + 1) = L.take k ++ [x] := by
  rw [List.take_add_one, h]; rfl
theorem take_swap {r : Rel} {k : Nat} {s : Stint} (hk : k < r.stints.length) (hs : r.st k = s) : r.swap.stints.take (k + 1) = r.swap.stints.take k ++ [s.swap] :=
  take_more (by rw [show r.swap.stints = r.stints.map Stint.swap from rfl, List.getElem?_map, st_get hk, hs]; rfl)
theorem take_later {r : Rel} {d : Int} {k : Nat} {s : Stint} (hk : k < r.stints.length) (hs : r.st k = s) : (r.later d).stints.take (k + 1) = (r.later d).stints.take k ++ [s.later d] :=
  take_more (by rw [show (r.later d).stints = r.stints.map (Stint.later d) from rfl, List.getElem?_map, st_get hk, hs]; rfl)
/-- All of the first stints' minutes remain, if all is later. -/
def Rel.fitsTo (r : Rel) (d : Int) (k : Nat) : Prop := ∀ e, e < 4 * k → (r.entry e).2 + d ≤ 600
theorem max2_int (x y : Int) (w : World) : (Builtin.max2 (.int .i64 x) (.int .i64 y)).run Try.prog w = .ok (.int .i64 (max x y)) w := by
  by_cases h : y > x
  · rw [show max x y = y by omega]; simp [Builtin.max2, h]
  · rw [show max x y = x by omega]; simp [Builtin.max2, h]
theorem max4 (a b c d : Int) : ∃ M, a ≤ M ∧ b ≤ M ∧ c ≤ M ∧ d ≤ M ∧ (M = a ∨ M = b ∨ M = c ∨ M = d) ∧ ∀ w, (Builtin.max_ #[3, 3, 3, 3] 3 #[.int .i64 a, .int .i64 b, .int .i64 c, .int .i64 d]).run Try.prog w = .ok (.int .i64 M) w := by
  refine ⟨max (max (max a b) c) d, by omega, by omega, by omega, by omega, by omega, fun w => ?_⟩
  simp [Builtin.max_, max2_int]
  try omega
theorem shl_pow {k : Nat} (hk : k < 20) : ∃ pw : Nat, (wrap64 ((2 : Int) ^ k) = (pw : Int) ∧ IntKind.i64.wrap ((2 : Int) ^ k) = (pw : Int)) ∧ pw = 2 ^ k :=
  ⟨_, (by decide +kernel : ∀ k : Fin 20, wrap64 ((2 : Int) ^ k.val) = ((2 ^ k.val : Nat) : Int) ∧ IntKind.i64.wrap ((2 : Int) ^ k.val) = ((2 ^ k.val : Nat) : Int)) ⟨k, hk⟩, rfl⟩
/-- A box of two cells is written, beside others. -/
theorem wide_box {w W : World} {r : Rel} {sv : Value} (hS : StintsAt w sv r.stints) (h : KeepM w r sv W) {p : Nat} {x0 x1 y0 y1 : Value} {t : TypeId} (hp : W.heap[p]? = some (.cells #[x0, x1] t (0, 0))) (hw : w.heap.size < p) :
    KeepM w r sv ((W.setCell ⟨p, 0, none⟩ y0).setCell ⟨p, 1, none⟩ y1) ∧ ((W.setCell ⟨p, 0, none⟩ y0).setCell ⟨p, 1, none⟩ y1).heap[p]? = some (.cells #[y0, y1] t (0, 0)) ∧
    (∀ L : List (Nat × Obj), (∀ b o, (b, o) ∈ L → b ≠ p) → Has L W → Has L ((W.setCell ⟨p, 0, none⟩ y0).setCell ⟨p, 1, none⟩ y1)) ∧
    ∀ v L, StintsAt W v L → StintsAt ((W.setCell ⟨p, 0, none⟩ y0).setCell ⟨p, 1, none⟩ y1) v L := by
  obtain ⟨h1, h2, h3⟩ := two_set hS h hp hw (y0 := y0) (y1 := y1)
  refine ⟨h1, h2, fun L hL hH b o hm => h3 b o (hL b o hm) (hH b o hm), fun v L hv => ?_⟩
  obtain ⟨a, cap, rfl, hc⟩ := hv
  refine ⟨a, cap, rfl, fun hne => ?_⟩
  obtain ⟨b, off, rfl, hk⟩ := hc hne
  refine ⟨b, off, rfl, fun k hk2 f hf => ?_⟩
  have h4 := hk k hk2 f hf
  have hbp : b ≠ p := by
    rintro rfl
    have h5 := hk 0 (by cases L with | nil => exact (hne rfl).elim | cons a l => simp) 8 (by decide)
    rw [(cells_of hp).2] at h5
    simp at h5
  rw [World.cell?_of_block (show ((W.setCell ⟨p, 0, none⟩ y0).setCell ⟨p, 1, none⟩ y1).heap[b]? = W.heap[b]? from (Below.heap_setCell _ ⟨p, 1, none⟩ y1 b hbp).trans (Below.heap_setCell W ⟨p, 0, none⟩ y0 b hbp))]
  exact h4
theorem stints_form {W : World} {v : Value} {L : List Stint} (h : StintsAt W v L) : ∃ a n c, v = .slice a n c := by
  obtain ⟨a, c, e, _⟩ := h
  exact ⟨a, _, c, e⟩
set_option maxRecDepth 100000 in
theorem eqIn28 (a b : Int) (w : World) : (Op.equalIn (9994 + 4) 28 (.agg #[.int .i64 a, .int .i64 b]) (.agg #[.int .i64 a, .int .i64 b])).run Try.prog w = .ok true w := by
  rw [run_equalIn_agg _ _ _ _ _ (by kernel_rfl) (by kernel_rfl)]
  go_simp
set_option maxRecDepth 100000 in
theorem eqIn44 (a b c d : Int) (w : World) : (Op.equalIn 9999 44 (.agg #[.int .i64 a, .int .i64 b, .int .i64 c, .int .i64 d]) (.agg #[.int .i64 a, .int .i64 b, .int .i64 c, .int .i64 d])).run Try.prog w = .ok true w := by
  obtain ⟨i, hi⟩ : ∃ i, Try.prog.info? 28 = some i := Option.isSome_iff_exists.1 (by kernel_rfl)
  rw [show (9999 : Nat) = 9998 + 1 from rfl, run_equalIn_array w 9998 (t := 44) (e := 28) (n := 2) _ _ (by kernel_rfl) hi]
  have h1 := fun w => eqIn28 a b w
  have h2 := fun w => eqIn28 c d w
  have hs : Try.prog.cellsOf 28 = 2 := by kernel_rfl
  rw [hs, show List.range 2 = [0, 1] from rfl]
  simp only [Op.eqItems]
  go_simp
set_option maxRecDepth 100000 in
theorem eq_stint46 (s : Stint) (w : World) : (Op.equal 46 (.agg (stintC s)) (.agg (stintC s))).run Try.prog w = .ok true w := by
  show (Op.equalIn (9996 + 4) 46 (.agg (stintC s)) (.agg (stintC s))).run Try.prog w = _
  rw [run_equalIn_agg _ _ _ _ _ (by kernel_rfl) (by kernel_rfl)]
  have h1 := eqIn44 s.on0.1 s.on0.2 s.on1.1 s.on1.2
  have h2 := eqIn44 s.off0.1 s.off0.2 s.off1.1 s.off1.2
  go_simp
theorem every_le5 {r : Rel} (hn : r.n ≤ 5) : r.every ≤ 1048575 := by
  have : 2 ^ (4 * r.n) ≤ 2 ^ 20 := Nat.pow_le_pow_right (by decide) (by omega)
  unfold Rel.every
  omega
theorem turned_sets {r : Rel} (hv : r.valid = true) : ∃ (A B X Y : Nat) (c : Int) (p q : Nat), clashOf r = ((A : Int), c) ∧ clashOf r.swap = ((B : Int), c) ∧ r.wrongOf = ((X : Int), c) ∧ r.swap.wrongOf = ((Y : Int), c) ∧ (A ≤ 1048575 ∧ B ≤ 1048575 ∧ X ≤ 1048575 ∧ Y ≤ 1048575) ∧ popc A = p ∧ popc B = p ∧ popc X = q ∧ popc Y = q := by
  have he := every_le5 (r.ok_of hv).2.2.1
  cases hc : r.canB r.every with
  | true =>
    obtain ⟨s, hs⟩ := (Rel.canB_iff hv).1 hc
    have hv2 := Rel.swap_valid hv
    have hc2 : r.swap.canB r.swap.every = true := by rw [swap_can_every hv]; exact hc
    refine ⟨0, 0, 0, 0, 4, popc 0, popc 0, by simp [clashOf, hv, Rel.clashIn, hc], by simp [clashOf, hv2, Rel.clashIn, hc2], by simp [Rel.wrongOf, hv, hc], by simp [Rel.wrongOf, hv2, hc2], ⟨by omega, by omega, by omega, by omega⟩, rfl, rfl, rfl, rfl⟩
  | false =>
    obtain ⟨A, B, h1, h2, h3, h4, h5⟩ := clash_turned hv hc
    obtain ⟨X, Y, g1, g2, g3, g4, g5⟩ := wrong_turned hv hc
    exact ⟨A, B, X, Y, 0, popc A, popc X, h1, h2, g1, g2, ⟨by omega, by omega, by omega, by omega⟩, rfl, h5.symm, rfl, g5.symm⟩
theorem stint_cells {W : World} {b o n cap : Nat} {L : List Stint} (h : StintsAt W (.slice (some ⟨b, o, none⟩) n cap) L) {k : Nat} {s : Stint} (hk : k < L.length) (hs : L.getD k Stint.none = s) :
    b < W.heap.size ∧ W.cell? ⟨b, o + k * 9, none⟩ = some (.int .i64 s.rider) ∧ W.cell? ⟨b, o + k * 9 + 1, none⟩ = some (.int .i64 s.on0.1) ∧ W.cell? ⟨b, o + k * 9 + 2, none⟩ = some (.int .i64 s.on0.2) ∧ W.cell? ⟨b, o + k * 9 + 3, none⟩ = some (.int .i64 s.on1.1) ∧ W.cell? ⟨b, o + k * 9 + 4, none⟩ = some (.int .i64 s.on1.2) ∧ W.cell? ⟨b, o + k * 9 + 5, none⟩ = some (.int .i64 s.off0.1) ∧ W.cell? ⟨b, o + k * 9 + 6, none⟩ = some (.int .i64 s.off0.2) ∧ W.cell? ⟨b, o + k * 9 + 7, none⟩ = some (.int .i64 s.off1.1) ∧ W.cell? ⟨b, o + k * 9 + 8, none⟩ = some (.int .i64 s.off1.2) := by
  obtain ⟨b', o', e, hl, hq⟩ := h.at hk
  cases e
  subst hs
  exact ⟨hl, hq 0 (by decide), hq 1 (by decide), hq 2 (by decide), hq 3 (by decide), hq 4 (by decide), hq 5 (by decide), hq 6 (by decide), hq 7 (by decide), hq 8 (by decide)⟩
/-- The rows that are made. -/
structure Five (r : Rel) (d : Int) (pw : Nat) (xv yv kv wv : Value) (W : World) : Prop where
  x : StintsAt W xv r.swap.stints
  y : StintsAt W yv (r.later d).stints
  k : StintsAt W kv r.stints
  z : StintsAt W wv (r.wide pw).stints
theorem Five.below {r : Rel} {d : Int} {pw : Nat} {xv yv kv wv : Value} {W W' : World} (h : Five r d pw xv yv kv wv W) (hb : Below W.heap.size W W') : Five r d pw xv yv kv wv W' :=
  ⟨h.x.below hb, h.y.below hb, h.k.below hb, h.z.below hb⟩
theorem Handed_as {r : Rel} (hn : r.n ≤ 1000000) {i : Int} {x y : Int} (h : handedOf r i = (x, y)) (sv : Value) (w : World) (hS : StintsAt w sv r.stints) : Calls Try.prog 20 #[relV r sv, .int .i64 i] w fun e w' => e = .returned (.tuple #[.int .i64 x, .int .i64 y]) ∧ Below w.heap.size w w' := by
  have := Handed_any r hn i sv w hS
  rw [h] at this; exact this
theorem on_range {r : Rel} (hv : r.valid = true) (hc : r.canB r.every = true) {i : Nat} (hi : i < r.n) {a b : Int} (h : onOf r (i : Int) = ((a, b), 0)) : 0 ≤ a ∧ a ≤ 600 ∧ 0 ≤ b ∧ b ≤ 600 := by
  obtain ⟨x, y, e, hA⟩ := on_spec hv hc hi
  rw [h] at e
  cases e
  have := span_range (k := 2 * i) (by omega) hA
  omega
theorem off_range {r : Rel} (hv : r.valid = true) (hc : r.canB r.every = true) {i : Nat} (hi : i < r.n) {a b : Int} (h : offOf r (i : Int) = ((a, b), 0)) : 0 ≤ a ∧ a ≤ 600 ∧ 0 ≤ b ∧ b ≤ 600 := by
  obtain ⟨x, y, e, hA⟩ := off_spec hv hc hi
  rw [h] at e
  cases e
  have := span_range (k := 2 * i + 1) (by omega) hA
  omega
theorem wide_range {r : Rel} (hv : r.valid = true) (S : Nat) (hc : r.canB r.every = true) {i : Nat} (_hi : i < r.n) {nn nj : Int} (hn : handedOf r (i : Int) = (nn, nj)) : ∃ wn wj, handedOf (r.wide S) (i : Int) = (wn, wj) ∧ (wj = 0 → wn = nn ∨ wn = 1) := by
  by_cases h : i + 1 < r.n
  · obtain ⟨v, u, e1, e2, e3⟩ := wide_handed hv S hc h
    rw [hn] at e1
    cases e1
    exact ⟨u, 0, e2, fun _ => e3⟩
  · exact ⟨0, 2, handed_last (Rel.wide_valid hv S) (by rw [(r.wide_sim S).n]; omega), fun e => by cases e⟩
theorem fits_step {r : Rel} {d : Int} {k : Nat} {s : Stint} (hk : k < r.stints.length) (hs : r.st k = s) : r.fitsTo d (k + 1) ↔ (r.fitsTo d k ∧ s.on0.2 + d ≤ 600 ∧ s.on1.2 + d ≤ 600 ∧ s.off0.2 + d ≤ 600 ∧ s.off1.2 + d ≤ 600) := by
  have _ := hk
  have key : ∀ q, q < 4 → r.entry (4 * k + q) = s.said q := fun q hq => by
    rw [Rel.entry, show (4 * k + q) / 4 = k by omega, show (4 * k + q) % 4 = q by omega, hs]
  constructor
  · intro h
    refine ⟨fun e he => h e (by omega), ?_, ?_, ?_, ?_⟩
    · have := h (4 * k + 0) (by omega); rw [key 0 (by omega)] at this; exact this
    · have := h (4 * k + 1) (by omega); rw [key 1 (by omega)] at this; exact this
    · have := h (4 * k + 2) (by omega); rw [key 2 (by omega)] at this; exact this
    · have := h (4 * k + 3) (by omega); rw [key 3 (by omega)] at this; exact this
  · rintro ⟨h0, h1, h2, h3, h4⟩ e he
    by_cases hlt : e < 4 * k
    · exact h0 e hlt
    · obtain ⟨q, hq, rfl⟩ : ∃ q, q < 4 ∧ e = 4 * k + q := ⟨e - 4 * k, by omega, by omega⟩
      rw [key q hq]
      rcases (by omega : q = 0 ∨ q = 1 ∨ q = 2 ∨ q = 3) with rfl | rfl | rfl | rfl
      · exact h1
      · exact h2
      · exact h3
      · exact h4
theorem stint_ranges {r : Rel} (hv : r.valid = true) {k : Nat} {s : Stint} (hk : k < r.stints.length) (hs : r.st k = s) :
    ((0 ≤ s.on0.1 ∧ s.on0.1 ≤ 600 ∧ 0 ≤ s.on0.2 ∧ s.on0.2 ≤ 600) ∧ 0 ≤ s.on1.1 ∧ s.on1.1 ≤ 600 ∧ 0 ≤ s.on1.2 ∧ s.on1.2 ≤ 600) ∧ (0 ≤ s.off0.1 ∧ s.off0.1 ≤ 600 ∧ 0 ≤ s.off0.2 ∧ s.off0.2 ≤ 600) ∧ 0 ≤ s.off1.1 ∧ s.off1.1 ≤ 600 ∧ 0 ≤ s.off1.2 ∧ s.off1.2 ≤ 600 := by
  have := (r.ok_of hv).2.2.2 k hk
  rw [hs] at this
  simp only [Stint.ok, spanOk, Bool.and_eq_true, decide_eq_true_eq] at this
  omega

end Go.Proofs.Ytccgakdaiaigoaa
