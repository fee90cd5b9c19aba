/- The walk of 'run' of package mend. -/
import Derived.Test.YtcgkglonnmkfcaaN5
import Derived.Test.YtcgkglonnmkfcaaGP
import Derived.Test.YtcgkglonnmkfcaaGK
namespace Go.Proofs.Ytcgkglonnmkfcaa
open Go.RowKit Go.Lap

/-- Rows of works. -/
def workK : RowKind Try.prog (Sit × Nat) where
  t := 64
  e := 74
  size := 5
  bytes := 40
  z := .agg #[.int .u64 0, .int .i64 0, .int .i64 0, .int .i64 0, .int .i64 0]
  enc := fun x => [.int .u64 x.1.1.done, .int .i64 x.1.1.kind, .int .i64 x.1.1.late, .int .i64 x.1.2, .int .i64 x.2]
  ht := Try.underlying64
  hi := by kernel_rfl
  hzs := rfl
  hsz := by decide
  hb := by decide
  henc := fun _ => rfl
  hone := fun x u hu => by
    simp only [List.mem_cons, List.not_mem_nil, or_false] at hu
    rcases hu with rfl | rfl | rfl | rfl | rfl <;> rfl

theorem next_sit {M : Mend} (hM : M.Ok) {left sb n : Nat} {x : Sit} (hx : Sit.In M n x) (hn : n ≤ 50) (last : Int) {i : Nat} (hi : i < M.jobs.length) (w : World) (hs : ShopAt w sb M left) :
    Calls Try.prog 78 #[.pointer (some ⟨sb, 0, none⟩), workV x.1 x.2 last, .int .i64 i] w fun e w' => e = .returned (workV (M.nextS x i).1 (M.nextS x i).2 i) ∧ Below w.heap.size w w' := by
  have h1 := hx.late1
  have h2 := hx.soon1
  have h3 := hx.done_lt hM
  exact next_any M left sb x.1 x.2 last i hi hM.len (by omega) w hs (hM.kind i hi).1 (hM.kind i hi).2 hM.set (hM.from_ i hi) (hM.lo i hi) (hM.hi i hi) ⟨hx.late0, by omega⟩ ⟨hx.soon0, by omega⟩
theorem broken_sit {M : Mend} (hM : M.Ok) {left sb n : Nat} (hl : left < 18446744073709551616) {x : Sit} (hx : Sit.In M n x) {i : Nat} (hi : i < M.jobs.length) (w : World) (hs : ShopAt w sb M left) :
    Calls Try.prog 79 #[.pointer (some ⟨sb, 0, none⟩), workV x.1 x.2 i] w fun e w' => e = .returned (.int .i64 (M.broken left x.1 i)) ∧ Below w.heap.size w w' :=
  broken_any M hM left hl sb x.1 (by have := hx.done_lt hM; omega) x.2 i hi w hs
theorem begin_sit (w : World) : Calls Try.prog 58 #[] w fun e w' => e = .returned (workV Sit.begin.1 Sit.begin.2 (-1)) ∧ Below w.heap.size w w' := begin_any w
theorem sit_take {M : Mend} (hM : M.Ok) {p : List Nat} (hp : ∀ i, i ∈ p → i < M.jobs.length) : ∀ k, k ≤ p.length → Sit.In M k (sitOf M (p.take k))
  | 0, _ => by simpa [sitOf] using Sit.begin_in M
  | k + 1, hk => by
    rw [sitOf_succ M (by omega)]
    exact Sit.next_in hM (sit_take hM hp k (by omega)) (hp _ (by
      rw [List.getD_eq_getElem?_getD, List.getElem?_eq_getElem (by omega : k < p.length)]
      exact List.getElem_mem _))

theorem ints_cell {w : World} {a : Option Addr} {n cap : Nat} {p : List Nat} (h : IntsAt w (.slice a n cap) (ints p)) {k : Nat} (hk : k < p.length) :
    ∃ b off, a = some ⟨b, off, none⟩ ∧ b < w.heap.size ∧ w.cell? ⟨b, off + k, none⟩ = some (.int .i64 ((p.getD k 0 : Nat) : Int)) := by
  obtain ⟨b, off, cap', e, lb, hc⟩ := h.some (fun e => by rw [List.map_eq_nil_iff] at e; rw [e] at hk; simp at hk)
  injection e with e1
  have hik : (ints p).getD k 0 = ((p.getD k 0 : Nat) : Int) := by simp [ints, List.getElem?_eq_getElem hk]
  have := hc k (by simpa [ints] using hk)
  rw [hik] at this
  exact ⟨b, off, e1, lb, this⟩

abbrev workCells (x : Sit) (last : Int) : Array Value := #[.int .u64 x.1.done, .int .i64 x.1.kind, .int .i64 x.1.late, .int .i64 x.2, .int .i64 last]

/-- What lies in memory while 'run' runs. -/
structure KeepRun (w : World) (M : Mend) (p : List Nat) (wb : Nat) (k : Nat) (last : Int) (v : Value) (W : World) : Prop where
  bel : Below w.heap.size w W
  ge : w.heap.size ≤ wb
  cell : W.heap[wb]? = some (.cells (workCells (sitOf M (p.take k)) last) 74 (0, 0))
  row : workK.own (wb + 1) W v (worksL M Sit.begin (p.take k))
theorem below_low {B : Nat} {a X Y : World} (h : Below B X Y) (ha : Below a.heap.size a X) (hB : a.heap.size ≤ B) : Below a.heap.size a Y := ha.trans (h.mono hB)
/-- The cells of a work are laid anew. -/
theorem KeepRun.next {w : World} {M : Mend} {p : List Nat} {wb k i : Nat} {last : Int} {v : Value} {W W' : World} (h : KeepRun w M p wb k last v W) (hb : Below W.heap.size W W') (hk : k < p.length) (hi : p.getD k 0 = i) :
    Below w.heap.size w (((((W'.setCell ⟨wb, 0, none⟩ (.int .u64 (M.nextS (sitOf M (p.take k)) i).1.done)).setCell ⟨wb, 1, none⟩ (.int .i64 (M.nextS (sitOf M (p.take k)) i).1.kind)).setCell ⟨wb, 2, none⟩ (.int .i64 (M.nextS (sitOf M (p.take k)) i).1.late)).setCell ⟨wb, 3, none⟩ (.int .i64 (M.nextS (sitOf M (p.take k)) i).2)).setCell ⟨wb, 4, none⟩ (.int .i64 i)) ∧
    (((((W'.setCell ⟨wb, 0, none⟩ (.int .u64 (M.nextS (sitOf M (p.take k)) i).1.done)).setCell ⟨wb, 1, none⟩ (.int .i64 (M.nextS (sitOf M (p.take k)) i).1.kind)).setCell ⟨wb, 2, none⟩ (.int .i64 (M.nextS (sitOf M (p.take k)) i).1.late)).setCell ⟨wb, 3, none⟩ (.int .i64 (M.nextS (sitOf M (p.take k)) i).2)).setCell ⟨wb, 4, none⟩ (.int .i64 i)).heap[wb]? = some (.cells (workCells (sitOf M (p.take (k + 1))) i) 74 (0, 0)) ∧
    workK.own (wb + 1) (((((W'.setCell ⟨wb, 0, none⟩ (.int .u64 (M.nextS (sitOf M (p.take k)) i).1.done)).setCell ⟨wb, 1, none⟩ (.int .i64 (M.nextS (sitOf M (p.take k)) i).1.kind)).setCell ⟨wb, 2, none⟩ (.int .i64 (M.nextS (sitOf M (p.take k)) i).1.late)).setCell ⟨wb, 3, none⟩ (.int .i64 (M.nextS (sitOf M (p.take k)) i).2)).setCell ⟨wb, 4, none⟩ (.int .i64 i)) v (worksL M Sit.begin (p.take k)) ∧
    wb < (((((W'.setCell ⟨wb, 0, none⟩ (.int .u64 (M.nextS (sitOf M (p.take k)) i).1.done)).setCell ⟨wb, 1, none⟩ (.int .i64 (M.nextS (sitOf M (p.take k)) i).1.kind)).setCell ⟨wb, 2, none⟩ (.int .i64 (M.nextS (sitOf M (p.take k)) i).1.late)).setCell ⟨wb, 3, none⟩ (.int .i64 (M.nextS (sitOf M (p.take k)) i).2)).setCell ⟨wb, 4, none⟩ (.int .i64 i)).heap.size := by
  have hc := (hb.block _ (cells_of h.cell).1).trans h.cell
  have hb2 := below_via hb h.bel
  have h5 := heap_set_same (o := 4) (v := .int .i64 i) (heap_set_same (o := 3) (v := .int .i64 (M.nextS (sitOf M (p.take k)) i).2) (heap_set_same (o := 2) (v := .int .i64 (M.nextS (sitOf M (p.take k)) i).1.late) (heap_set_same (o := 1) (v := .int .i64 (M.nextS (sitOf M (p.take k)) i).1.kind) (heap_set_same (o := 0) (v := .int .u64 (M.nextS (sitOf M (p.take k)) i).1.done) hc))))
  refine ⟨below_set (below_set (below_set (below_set (below_set hb2 _ h.ge) _ h.ge) _ h.ge) _ h.ge) _ h.ge, ?_, ((((h.row.below hb).set (by omega)).set (by omega)).set (by omega)).set (by omega) |>.set (by omega), (cells_of h5).1⟩
  rw [h5, sitOf_succ M hk, hi]
  simp

set_option maxRecDepth 100000 in
set_option maxHeartbeats 4000000 in
theorem run_any (M : Mend) (hM : M.Ok) (left : Nat) (hl : left < 18446744073709551616) (sb : Nat) (lv : Value) (p : List Nat) (hp : ∀ i, i ∈ p → i < M.jobs.length) (hpl : p.length ≤ 50) (w : World) (hs : ShopAt w sb M left) (hlv : IntsAt w lv (ints p)) :
    Calls Try.prog 49 #[.pointer (some ⟨sb, 0, none⟩), lv] w fun e w' => ∃ v, e = .returned (.tuple #[v, .int .i64 (badOf M left p).1, .int .i64 (badOf M left p).2]) ∧ workK.own w.heap.size w' v (worksL M Sit.begin p) ∧ Below w.heap.size w w' := by
  have hp' := hid hp
  have hs' := hid hs
  have hlv0 := hid hlv
  obtain ⟨la, lcap, rfl, _⟩ := hlv
  have hli : (ints p).length = p.length := by simp [ints]
  rw [hli]
  rw [hli] at hlv0
  clear hp hs hli
  go_enter Try.func49, Try.ntmps49
  go_wp2_with (go_at_call 58; with_reducible refine (begin_sit _).mono ?_; rintro e w1 ⟨rfl, hb1⟩)
  have hk : KeepRun w M p w1.heap.size 0 (-1) (.slice none 0 0) _ := ⟨below_alloc hb1 (.cells (workCells Sit.begin (-1)) 74), hb1.size, alloc_at rfl, workK.own_nil _ _⟩
  generalize w1.alloc (.cells (workCells Sit.begin (-1)) 74) = w2 at hk ⊢
  have hge := hk.ge
  generalize w1.heap.size = wb at hk hge ⊢
  clear hb1
  go_loopw [4, 5, 6, 9, 10, 14] (fun v j r _ _ i wr => ∃ (k : Nat) (last : Int), k ≤ p.length ∧ i = .int .i64 k ∧ j = .int .i64 (badOf M left (p.take k)).1 ∧ r = .int .i64 (badOf M left (p.take k)).2 ∧ KeepRun w M p wb k last v wr) (fun _ _ _ _ _ i _ => p.length - (intOf i).toNat)
  case atStart => exact ⟨0, -1, by omega, rfl, rfl, rfl, hk⟩
  case round =>
    obtain ⟨k, last, hkk, rfl, rfl, rfl, hk⟩ := hrel
    obtain ⟨lx, cx⟩ := cells_of hk.cell
    have zx := free_of hk.cell
    by_cases hlt : k < p.length
    · obtain ⟨b1, bo, rfl, lb, hc⟩ := ints_cell hlv0.out hlt
      have hck := (hk.bel.cell (p := ⟨b1, bo + k, none⟩) lb).trans hc
      have lb1 := Nat.lt_of_lt_of_le lb hk.bel.size
      clear hc
      have hmem : p.getD k 0 ∈ p := by
        rw [List.getD_eq_getElem?_getD, List.getElem?_eq_getElem hlt]
        exact List.getElem_mem _
      have hi := hp'.out _ hmem
      have hin := hid (sit_take hM hp'.out k hkk)
      have hbad := badOf_snoc M left (p.getD k 0) (p.take k)
      rw [← take_snoc hlt, ← benchOf_sit] at hbad
      have hrow := hid hk.row
      obtain ⟨i, hi0⟩ : ∃ i, p.getD k 0 = i := ⟨_, rfl⟩
      rw [hi0] at hi hck hbad
      have hi0' := hid hi0
      have hnx := hid (fun W' (hb : Below wr.heap.size wr W') => hk.next hb hlt hi0)
      clear hi0 hmem
      have hwl : Hid (worksL M Sit.begin (p.take (k + 1)) = worksL M Sit.begin (p.take k) ++ [(M.nextS (sitOf M (p.take k)) i, i)]) := hid (by rw [take_snoc hlt, worksL_snoc, hi0'.out])
      obtain ⟨x, hx⟩ : ∃ x, sitOf M (p.take k) = x := ⟨_, rfl⟩
      rw [hx] at hin cx hnx hwl hbad
      have hin2 := hid (sit_take hM hp'.out (k + 1) (by omega))
      have hy1 := sitOf_succ M hlt
      rw [hi0'.out, hx] at hy1
      obtain ⟨y, hy⟩ : ∃ y, M.nextS x i = y := ⟨_, rfl⟩
      rw [hy] at hy1
      have hy1' := hid hy1
      rw [hy1] at hin2
      clear hy1
      obtain ⟨bj, hbj⟩ : ∃ z, (badOf M left (p.take k)).1 = z := ⟨_, rfl⟩
      obtain ⟨br, hbr⟩ : ∃ z, (badOf M left (p.take k)).2 = z := ⟨_, rfl⟩
      obtain ⟨zb, hzb⟩ : ∃ z, M.broken left y.1 i = z := ⟨_, rfl⟩
      have hbad2 : badOf M left (p.take (k + 1)) = if ((zb != 0) && (br == 0)) = true then ((i : Int), zb) else (bj, br) := by
        rw [hbad, hbr, show M.next x.1 i = (M.nextS x i).1 from rfl, hy, hzb, show badOf M left (p.take k) = (bj, br) from Prod.ext hbj hbr]
        by_cases h1 : br = 0 <;> by_cases h2 : zb = 0 <;> simp [h1, h2]
      rw [hbj, hbr]
      have hzb' := hid hzb
      have hk' := hid hk
      have hi' := hid hi
      have hnext := hid (fun w hs => next_sit (sb := sb) (left := left) hM hin.out (by omega) last hi'.out w hs)
      rw [hy] at hnx hwl hnext
      clear hx hy hbj hbr hzb hbad hk hi
      cases hbz : (zb != 0) <;> cases hbr0 : (br == 0)
      all_goals
        rw [hbz, hbr0] at hbad2
        simp only [Bool.and_true, Bool.and_false, Bool.false_eq_true, if_true, if_false] at hbad2
        have hbad' := hid hbad2
        clear hbad2
        have hki : (k : Int) < (p.length : Int) := by omega
        go_upto_region 6 with (go_at_call 78; with_reducible refine (hnext.out _ (hs'.out.below hk'.out.bel)).mono ?_; rintro e w3 ⟨rfl, hb3⟩; have lx3 := Nat.lt_of_lt_of_le lx hb3.size; have cx3 := (cells_of ((hb3.block _ lx).trans hk'.out.cell)).2; have zx3 := free_of ((hb3.block _ lx).trans hk'.out.cell))
        obtain ⟨hbel4, hcell4, hrow4, hlt4⟩ := hnx.out _ hb3
        rw [hy1'.out] at hcell4
        clear lx3 cx3 zx3 hb3 cx zx
        generalize ((((w3.setCell ⟨wb, 0, none⟩ (.int .u64 y.1.done)).setCell ⟨wb, 1, none⟩ (.int .i64 y.1.kind)).setCell ⟨wb, 2, none⟩ (.int .i64 y.1.late)).setCell ⟨wb, 3, none⟩ (.int .i64 y.2)).setCell ⟨wb, 4, none⟩ (.int .i64 i) = w4 at hbel4 hcell4 hrow4 hlt4 ⊢
        obtain ⟨lx, cx⟩ := cells_of hcell4
        go_wp2_with (first
          | (at_builtin; refine wpList_append_row workK rfl _ _ rfl (wb + 1) u4 (worksL M Sit.begin (p.take k)) [(y, i)] rfl (hrow4.below (below_alloc (Below.refl _ _) _)) w4.heap.size 0 1 1 rfl rfl (row_one workK w4 (y, i) _ _ rfl) (by rw [worksL_length, List.length_take, List.length_singleton]; omega) (by simp; omega) ?_; intro v' w5 hown5 hb5 _; rw [← hwl.out] at hown5; have hk5 : KeepRun w M p wb (k + 1) i v' w5 := ⟨below_low hb5 (below_alloc hbel4 _) (by omega), hge, by rw [hy1'.out]; exact (hb5.block wb (by omega)).trans (alloc_old lx hcell4), hown5⟩; clear cx; obtain ⟨lx5, cx5⟩ := cells_of hk5.cell; rw [hy1'.out] at cx5)
          | (go_at_call 79; with_reducible refine (broken_sit hM hl hin2.out hi'.out _ (hs'.out.below hk5.bel)).mono ?_; rw [hzb'.out]; rintro e w6 ⟨rfl, hb6⟩))
        have hk6 : KeepRun w M p wb (k + 1) i v' w6 := ⟨below_via hb6 hk5.bel, hge, (hb6.block _ lx5).trans hk5.cell, hk5.row.below hb6⟩
        go_roundw
        case rel => exact ⟨k + 1, i, by omega, by go_num, by rw [hbad'.out], by rw [hbad'.out], hk6⟩
        case measure => simp [intOf]; omega
    · obtain rfl : k = p.length := by omega
      have hrow := hk.row
      have hbel := hk.bel
      have hge2 := hk.ge
      rw [List.take_length] at hrow ⊢
      clear hk cx zx
      go_wp2
      exact bodyPost_ret (v := .tuple #[u4, .int .i64 (badOf M left p).1, .int .i64 (badOf M left p).2]) (by simp [results, Try.results49, go_sem]) rfl ⟨u4, rfl, hrow.low (by omega), hbel⟩

end Go.Proofs.Ytcgkglonnmkfcaa
