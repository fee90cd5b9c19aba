/- The walks of the reference's 'Hours'. The walk of the reference's 'Must'. The walk of the reference's 'Free'. The walk of 'RestLooks'. -/
import Derived.Test.YtkgdejhooghknaaMC
import Derived.Test.YtkgdejhooghknaaP2
import Derived.Test.YtkgdejhooghknaaP3
import Derived.Test.YtkgdejhooghknaaMV
namespace Go.Proofs.Ytkgdejhooghknaa
open Go.RowKit Go.Lap Go.Shelf

/-- The rest's block, and the result's behind it. -/
structure KeepC (w : World) (R : Rest) (a b : Int) (W : World) : Prop where
  bel : Below w.heap.size w W
  x : W.heap[w.heap.size]? = some (.cells #[.int .i64 R.hours, .int .i64 R.r0.out, .int .i64 R.r0.total, .int .i64 R.r0.run, .int .i64 R.r0.off, .int .i64 R.r1.out, .int .i64 R.r1.total, .int .i64 R.r1.run, .int .i64 R.r1.off] 26 (0, 0))
  y : W.heap[w.heap.size + 1]? = some (.cells #[.int .i64 a, .int .i64 b] 41 (0, 0))
theorem KeepC.below {w : World} {R : Rest} {a b : Int} {W W' : World} (h : KeepC w R a b W) (hb : Below W.heap.size W W') : KeepC w R a b W' :=
  ⟨below_via hb h.bel, (hb.block _ (cells_of h.x).1).trans h.x, (hb.block _ (cells_of h.y).1).trans h.y⟩
theorem KeepC.start (w : World) (R : Rest) : KeepC w R 0 0 ((w.alloc (.cells #[.int .i64 R.hours, .int .i64 R.r0.out, .int .i64 R.r0.total, .int .i64 R.r0.run, .int .i64 R.r0.off, .int .i64 R.r1.out, .int .i64 R.r1.total, .int .i64 R.r1.run, .int .i64 R.r1.off] 26)).alloc (.cells #[.int .i64 0, .int .i64 0] 41)) := ⟨below_alloc (below_alloc (Below.refl _ _) _) _, alloc_old (by simp) (alloc_at rfl), alloc_at (by simp)⟩

theorem below_gb {n gb : Nat} {w W : World} (h : n = gb) (hb : Below n w W) : Below gb w W := h ▸ hb
def loF (r a : Int) (L : List (List Int)) : Int := L.foldl (fun a x => min a (rid r x)) a
def hiF (r a : Int) (L : List (List Int)) : Int := L.foldl (fun a x => max a (rid r x)) a
theorem loF_snoc (r a : Int) (L : List (List Int)) (x : List Int) : loF r a (L ++ [x]) = min (loF r a L) (rid r x) := by unfold loF; rw [List.foldl_append]; rfl
theorem hiF_snoc (r a : Int) (L : List (List Int)) (x : List Int) : hiF r a (L ++ [x]) = max (hiF r a L) (rid r x) := by unfold hiF; rw [List.foldl_append]; rfl
theorem loF_le (r : Int) : ∀ (L : List (List Int)) (a : Int), loF r a L ≤ a ∧ (∀ x, x ∈ L → loF r a L ≤ rid r x) ∧ (loF r a L = a ∨ ∃ x, x ∈ L ∧ rid r x = loF r a L)
  | [], a => ⟨Int.le_refl _, by simp, .inl rfl⟩
  | y :: L, a => by
    obtain ⟨h1, h2, h3⟩ := loF_le r L (min a (rid r y))
    have e : loF r a (y :: L) = loF r (min a (rid r y)) L := rfl
    rw [e]
    refine ⟨by omega, fun x hx => ?_, ?_⟩
    · rcases List.mem_cons.1 hx with rfl | h
      · omega
      · exact h2 x h
    · rcases h3 with h | ⟨x, hx, h⟩
      · by_cases hle : a ≤ rid r y
        · exact .inl (by omega)
        · exact .inr ⟨y, by simp, by omega⟩
      · exact .inr ⟨x, by simp [hx], h⟩
theorem hiF_le (r : Int) : ∀ (L : List (List Int)) (a : Int), a ≤ hiF r a L ∧ (∀ x, x ∈ L → rid r x ≤ hiF r a L) ∧ (hiF r a L = a ∨ ∃ x, x ∈ L ∧ rid r x = hiF r a L)
  | [], a => ⟨Int.le_refl _, by simp, .inl rfl⟩
  | y :: L, a => by
    obtain ⟨h1, h2, h3⟩ := hiF_le r L (max a (rid r y))
    have e : hiF r a (y :: L) = hiF r (max a (rid r y)) L := rfl
    rw [e]
    refine ⟨by omega, fun x hx => ?_, ?_⟩
    · rcases List.mem_cons.1 hx with rfl | h
      · omega
      · exact h2 x h
    · rcases h3 with h | ⟨x, hx, h⟩
      · by_cases hle : rid r y ≤ a
        · exact .inl (by omega)
        · exact .inr ⟨y, by simp, by omega⟩
      · exact .inr ⟨x, by simp [hx], h⟩
theorem span_is {R : Rest} (hv : R.valid = true) {r : Int} (hr : r = 0 ∨ r = 1) {L : List (List Int)} (hL : plansL R = L) {x0 : List Int} {L0 : List (List Int)} (hx : L = x0 :: L0) :
    hoursR R r = ((loF r (rid r x0) L, hiF r (rid r x0) L), 0) := by
  obtain ⟨lo, hi, h1, ⟨p, hp, hp2⟩, ⟨q, hq, hq2⟩, h2⟩ := (span_told hv hr).2 (by rw [hL, hx]; simp)
  rw [hL] at hp hq h2
  obtain ⟨a1, a2, a3⟩ := loF_le r L (rid r x0)
  obtain ⟨b1, b2, b3⟩ := hiF_le r L (rid r x0)
  have hx0 : x0 ∈ L := by rw [hx]; simp
  have h3 := a2 p hp
  have h4 := b2 q hq
  have h5 := h2 x0 hx0
  have elo : lo = loF r (rid r x0) L := by
    rcases a3 with h | ⟨x, hx, h⟩
    · omega
    · have := h2 x hx; omega
  have ehi : hi = hiF r (rid r x0) L := by
    rcases b3 with h | ⟨x, hx, h⟩
    · omega
    · have := h2 x hx; omega
  rw [h1, elo, ehi]

set_option maxRecDepth 100000 in
set_option maxHeartbeats 4000000 in
theorem refHours_bad (R : Rest) (r : Int) (hv : R.valid = false) (w : World) : Calls Try.prog 27 #[restV R, .int .i64 r] w fun e w' => e = .returned (.tuple #[.agg #[.int .i64 0, .int .i64 0], .int .i64 1]) ∧ Below w.heap.size w w' := by
  have c32 := hid (fun w => valid_as hv w)
  clear hv
  have hk := KeepC.start w R
  go_enter Try.func27, Try.ntmps27
  go_wp2_with (first | (go_at_call 32; with_reducible refine (c32.out _).mono ?_; rintro e w1 ⟨rfl, hb1⟩; have hk := hk.below hb1; obtain ⟨lx, cx⟩ := cells_of hk.x; obtain ⟨ly, cy⟩ := cells_of hk.y; have zy := free_of hk.y))
  have hy := heap_setCell_same (o := 1) (v := .int .i64 0) (heap_setCell_same (o := 0) (v := .int .i64 0) hk.y)
  obtain ⟨l9, c9⟩ := cells_of hy
  have c90 := c9 0
  have c91 := c9 1
  refine bodyPost_ret (v := .tuple #[.agg #[.int .i64 0, .int .i64 0], .int .i64 1]) (by simp [results, Try.results27, go_sem, c90, c91]) rfl ⟨rfl, below_set (below_set hk.bel _ (by simp)) _ (by simp)⟩

set_option maxRecDepth 100000 in
set_option maxHeartbeats 4000000 in
theorem refHours_range (R : Rest) (r : Int) (hv : R.valid = true) (hr : inB r 0 1 = false) (w : World) : Calls Try.prog 27 #[restV R, .int .i64 r] w fun e w' => e = .returned (.tuple #[.agg #[.int .i64 0, .int .i64 0], .int .i64 2]) ∧ Below w.heap.size w w' := by
  have c32 := hid (fun w => valid_as hv w)
  have c73 := hid (fun w => in_as hr w)
  clear hv hr
  have hk := KeepC.start w R
  go_enter Try.func27, Try.ntmps27
  go_wp2_with (first | (go_at_call 32; with_reducible refine (c32.out _).mono ?_; rintro e w1 ⟨rfl, hb1⟩; have hk := hk.below hb1; obtain ⟨lx, cx⟩ := cells_of hk.x; obtain ⟨ly, cy⟩ := cells_of hk.y; have zy := free_of hk.y) | (go_at_call 73; with_reducible refine (c73.out _).mono ?_; rintro e w1 ⟨rfl, rfl⟩; skip))
  have hy := heap_setCell_same (o := 1) (v := .int .i64 0) (heap_setCell_same (o := 0) (v := .int .i64 0) hk.y)
  obtain ⟨l9, c9⟩ := cells_of hy
  have c90 := c9 0
  have c91 := c9 1
  refine bodyPost_ret (v := .tuple #[.agg #[.int .i64 0, .int .i64 0], .int .i64 2]) (by simp [results, Try.results27, go_sem, c90, c91]) rfl ⟨rfl, below_set (below_set hk.bel _ (by simp)) _ (by simp)⟩

set_option maxRecDepth 100000 in
set_option maxHeartbeats 4000000 in
theorem refHours_none (R : Rest) (r : Int) (hv : R.valid = true) (hr : inB r 0 1 = true) (hn : plansL R = []) (w : World) : Calls Try.prog 27 #[restV R, .int .i64 r] w fun e w' => e = .returned (.tuple #[.agg #[.int .i64 0, .int .i64 0], .int .i64 4]) ∧ Below w.heap.size w w' := by
  have c32 := hid (fun w => valid_as hv w)
  have c73 := hid (fun w => in_as hr w)
  have c62 := hid (fun w => plans_none R hv hn w)
  clear hv hr hn
  have hk := KeepC.start w R
  go_enter Try.func27, Try.ntmps27
  go_wp2_with (first | (go_at_call 32; with_reducible refine (c32.out _).mono ?_; rintro e w1 ⟨rfl, hb1⟩; have hk := hk.below hb1; obtain ⟨lx, cx⟩ := cells_of hk.x; obtain ⟨ly, cy⟩ := cells_of hk.y; have zy := free_of hk.y) | (go_at_call 73; with_reducible refine (c73.out _).mono ?_; rintro e w1 ⟨rfl, rfl⟩; skip) | (go_at_call 62; with_reducible refine (c62.out _).mono ?_; rintro e w1 ⟨rfl, hb1⟩; have hk := hk.below hb1; obtain ⟨lx, cx⟩ := cells_of hk.x; obtain ⟨ly, cy⟩ := cells_of hk.y; have zy := free_of hk.y))
  have hy := heap_setCell_same (o := 1) (v := .int .i64 0) (heap_setCell_same (o := 0) (v := .int .i64 0) hk.y)
  obtain ⟨l9, c9⟩ := cells_of hy
  have c90 := c9 0
  have c91 := c9 1
  refine bodyPost_ret (v := .tuple #[.agg #[.int .i64 0, .int .i64 0], .int .i64 4]) (by simp [results, Try.results27, go_sem, c90, c91]) rfl ⟨rfl, below_set (below_set hk.bel _ (by simp)) _ (by simp)⟩

set_option maxRecDepth 100000 in
set_option maxHeartbeats 4000000 in
theorem refHours_some (R : Rest) (r : Int) (hv : R.valid = true) (hr : inB r 0 1 = true) (x0 : List Int) (L0 L : List (List Int)) (hL : plansL R = L) (hLd : L = x0 :: L0) (w : World) : Calls Try.prog 27 #[restV R, .int .i64 r] w fun e w' => e = .returned (.tuple #[.agg #[.int .i64 (loF r (rid r x0) L), .int .i64 (hiF r (rid r x0) L)], .int .i64 0]) ∧ Below w.heap.size w w' := by
  have h16 := valid_16 hv
  have hlens : ∀ q, q ∈ L → q.length ≤ 1000 := fun q hq => by rw [← hL] at hq; rw [(mem_plans hq).1]; omega
  have hne : L ≠ [] := by rw [hLd]; simp
  have hpos : 0 < L.length := List.length_pos_iff.2 hne
  have hmax : L.length ≤ 65536 := by
    have h9 := length_rightL R R.hours.toNat St.begin
    have h8 : (plansL R).length ≤ 2 ^ R.hours.toNat := h9
    rw [hL] at h8
    have := Nat.pow_le_pow_right (n := 2) (by decide) h16
    omega
  have hx0 : L.getD 0 [] = x0 := by rw [hLd]; rfl
  have hlx : x0.length ≤ 1000 := hlens x0 (by rw [hLd]; simp)
  have c32 := hid (fun w => valid_as hv w)
  have c73 := hid (fun w => in_as hr w)
  have c62 := hid (fun w => plans_some R hv L hL hne w)
  obtain ⟨n0, hn0⟩ : ∃ n0, rid r x0 = n0 := ⟨_, rfl⟩
  have c39x := hid (fun (v : Value) w h => rides_as (v := v) (xs := x0) hn0 hlx w h)
  rw [hn0]
  have hlens' := hid hlens
  have hx0' := hid hx0
  clear hv hr hL hlens hne hx0 hlx hn0 hLd
  have hk := KeepC.start w R
  go_enter Try.func27, Try.ntmps27
  go_upto_region 8 with (first | (go_at_call 32; with_reducible refine (c32.out _).mono ?_; rintro e w1 ⟨rfl, hb1⟩; have hk := hk.below hb1; obtain ⟨lx, cx⟩ := cells_of hk.x; obtain ⟨ly, cy⟩ := cells_of hk.y; have zy := free_of hk.y) | (go_at_call 73; with_reducible refine (c73.out _).mono ?_; rintro e w1 ⟨rfl, rfl⟩; skip) | (go_at_call 62; with_reducible refine (c62.out _).mono ?_; rintro e w1 ⟨la, lc, rfl, hr0, hb1⟩; have hk := hk.below hb1; obtain ⟨lx, cx⟩ := cells_of hk.x; obtain ⟨ly, cy⟩ := cells_of hk.y; have zy := free_of hk.y; have hr := hid hr0; clear hr0))
  obtain ⟨g, u0, rfl, hcg, hu0⟩ := rows_at hr.out hpos
  rw [hx0'.out] at hu0
  have hu0' := hid hu0
  clear hu0
  have hpos2 : (0 : Int) < (L.length : Int) := by omega
  go_upto_region 10 with (first | (go_at_call 39; with_reducible refine (c39x.out _ _ (OwnRow.ints hu0'.out)).mono ?_; rintro e w2 ⟨rfl, hb1⟩; have hk := hk.below hb1; obtain ⟨lx, cx⟩ := cells_of hk.x; obtain ⟨ly, cy⟩ := cells_of hk.y; have zy := free_of hk.y; have hr := hid (PlanRows.below hr.out hb1); clear hu0' hcg))
  clear c39x
  go_wp2
  generalize hwg : w2.heap.size = gb at *
  go_loopw [8, 10] (fun m i wr => ∃ k : Nat, k ≤ L.length ∧ i = .int .i64 k ∧ (∃ mv, m = .int .i64 mv) ∧ Below gb w2 wr ∧ wr.heap[gb]? = some (.cells #[.int .i64 (loF r n0 (L.take k)), .int .i64 (hiF r n0 (L.take k))] 41 (0, 0))) (fun _ i _ => L.length - (intOf i).toNat)
  case atStart =>
    exact ⟨0, by omega, rfl, ⟨n0, rfl⟩, hwg ▸ below_alloc (Below.refl _ _) _, alloc_at hwg.symm⟩
  case round =>
    obtain ⟨k, hkk, rfl, ⟨mv, rfl⟩, hbw, hgc⟩ := hrel
    have hbw2 : Below w2.heap.size w2 wr := by rw [hwg]; exact hbw
    have hk := hk.below hbw2
    have hr := hid (PlanRows.below hr.out hbw2)
    obtain ⟨lx, cx⟩ := cells_of hk.x
    obtain ⟨ly, cy⟩ := cells_of hk.y
    have zy := free_of hk.y
    obtain ⟨lg, cg⟩ := cells_of hgc
    have zg := free_of hgc
    by_cases hlt : k < L.length
    · obtain ⟨g', u, hg, hcg, hu0⟩ := rows_at hr.out hlt
      cases hg
      have hu := hid hu0
      have htk : L.take (k + 1) = L.take k ++ [L.getD k []] := by rw [List.take_add_one]; simp [hlt]
      have hmem : L.getD k [] ∈ L := by
        have e : L.getD k [] = L[k] := by simp [hlt]
        rw [e]
        exact List.getElem_mem hlt
      have hly : (L.getD k []).length ≤ 1000 := hlens'.out _ hmem
      have hs1 := loF_snoc r n0 (L.take k) (L.getD k [])
      have hs2 := hiF_snoc r n0 (L.take k) (L.getD k [])
      rw [← htk] at hs1 hs2
      clear hu0 htk hmem
      generalize L.getD k [] = y at *
      generalize loF r n0 (L.take k) = lo at *
      generalize hiF r n0 (L.take k) = hi at *
      generalize hny : rid r y = ny at *
      have c39y := hid (fun (v : Value) w h => rides_as (v := v) (xs := y) hny hly w h)
      have hs1' := hid hs1
      have hs2' := hid hs2
      clear hs1 hs2 hly hny
      have he1 := hid (show min lo ny = if ny < lo then ny else lo by split <;> omega)
      have he2 := hid (show max hi ny = if hi < ny then ny else hi by split <;> omega)
      have hk2 : (k : Int) < (L.length : Int) := by omega
      go_wp2_with (first | (go_at_call 39; with_reducible refine (c39y.out _ _ (OwnRow.ints hu.out)).mono ?_; rintro e w3 ⟨rfl, hb1⟩; have hgc3 := (hb1.block _ (cells_of hgc).1).trans hgc; obtain ⟨lg3, cg3⟩ := cells_of hgc3; have zg3 := free_of hgc3; have hbw3 := below_via hb1 hbw2))
      go_roundw
      case rel => exact ⟨k + 1, by omega, by go_num, ⟨_, rfl⟩, below_gb hwg <| below_set (p := ⟨gb, 1, none⟩) (below_set (p := ⟨gb, 0, none⟩) hbw3 _ (Nat.le_of_eq hwg)) _ (Nat.le_of_eq hwg), by rw [hs1'.out, hs2'.out, he1.out, he2.out]; exact heap_setCell_same (o := 1) (heap_setCell_same (o := 0) hgc3)⟩
      case measure => simp [intOf]; omega
    · obtain rfl : k = L.length := by omega
      rw [List.take_length] at hgc
      clear lg cg zg
      obtain ⟨lg, cg⟩ := cells_of hgc
      have zg := free_of hgc
      go_wp2
      have hy := heap_setCell_same (o := 1) (v := .int .i64 (hiF r n0 L)) (heap_setCell_same (o := 0) (v := .int .i64 (loF r n0 L)) hk.y)
      obtain ⟨l9, c9⟩ := cells_of hy
      have c90 := c9 0
      have c91 := c9 1
      refine bodyPost_ret (v := .tuple #[.agg #[.int .i64 (loF r n0 L), .int .i64 (hiF r n0 L)], .int .i64 0]) (by simp [results, Try.results27, go_sem, c90, c91]) rfl ⟨rfl, below_set (below_set hk.bel _ (by simp)) _ (by simp)⟩

theorem refHours_any (R : Rest) (r : Int) (w : World) : Calls Try.prog 27 #[restV R, .int .i64 r] w fun e w' => e = .returned (.tuple #[pV (hoursR R r).1, .int .i64 (hoursR R r).2]) ∧ Below w.heap.size w w' := by
  cases hv : R.valid
  · have e : hoursR R r = ((0, 0), 1) := by simp [hoursR, hv]
    rw [e]; exact refHours_bad R r hv w
  · cases hr : inB r 0 1
    · have e : hoursR R r = ((0, 0), 2) := by simp [hoursR, hv, hr]
      rw [e]; exact refHours_range R r hv hr w
    · have hr2 : r = 0 ∨ r = 1 := by simp [inB] at hr; omega
      cases hL : plansL R with
      | nil => rw [(span_told hv hr2).1 hL]; exact refHours_none R r hv hr hL w
      | cons x0 L0 => rw [span_is hv hr2 hL rfl]; exact refHours_some R r hv hr x0 L0 _ hL rfl w

end Go.Proofs.Ytkgdejhooghknaa

namespace Go.Proofs.Ytkgdejhooghknaa
open Go.RowKit Go.Lap Go.Shelf

/-- The set of the numbers below a bound of which something holds. -/
def msk (P : Nat → Bool) : Nat → Nat
  | 0 => 0
  | k + 1 => msk P k + if P k then 2 ^ k else 0
theorem msk_lt (P : Nat → Bool) : ∀ k, msk P k < 2 ^ k
  | 0 => by simp [msk]
  | k + 1 => by
    have := msk_lt P k
    rw [msk, Nat.pow_succ]
    split <;> omega
theorem msk_bit (P : Nat → Bool) : ∀ k j, (msk P k).testBit j = (decide (j < k) && P j)
  | 0, j => by simp [msk]
  | k + 1, j => by
    rw [msk]
    cases h : P k
    · rw [if_neg (by simp), Nat.add_zero, msk_bit P k j]
      by_cases hj : j = k
      · subst hj; simp [h]
      · have e : decide (j < k + 1) = decide (j < k) := by congr 1; exact propext (by omega)
        rw [e]
    · rw [if_pos rfl]
      have e := Nat.two_pow_add_eq_or_of_lt (msk_lt P k) 1
      rw [Nat.mul_one, Nat.add_comm] at e
      rw [e, Nat.testBit_or, Nat.testBit_two_pow, msk_bit P k j]
      by_cases hj : j = k
      · subst hj; simp [h]
      · have e1 : decide (j < k + 1) = decide (j < k) := by congr 1; exact propext (by omega)
        have e2 : decide (k = j) = false := by simp; omega
        rw [e1, e2]; simp

/-- In how many of some plans the second one rides in an hour. -/
def cnt (L : List (List Int)) (j : Nat) : Nat := L.countP fun p => decide (p[j]? = some 1)
theorem cnt_snoc (L : List (List Int)) (j : Nat) (x : List Int) : cnt (L ++ [x]) j = cnt L j + if x[j]? = some 1 then 1 else 0 := by
  unfold cnt
  rw [List.countP_append, List.countP_singleton]
  simp
theorem cnt_le (L : List (List Int)) (j : Nat) : cnt L j ≤ L.length := List.countP_le_length
theorem cnt_none {L : List (List Int)} {j H : Nat} (hj : j < H) (hl : ∀ p, p ∈ L → p.length = H) (h01 : ∀ p, p ∈ L → ∀ x, x ∈ p → x = 0 ∨ x = 1) : decide (cnt L j = 0) = L.all fun p => decide (p[j]? = some 0) := by
  rw [Bool.eq_iff_iff, decide_eq_true_iff, cnt, List.countP_eq_zero, List.all_eq_true]
  constructor
  · intro h p hp
    have h1 := h p hp
    have hlp := hl p hp
    have hjp : j < p.length := by omega
    have h2 := h01 p hp p[j] (List.getElem_mem hjp)
    rw [List.getElem?_eq_getElem hjp] at h1 ⊢
    rcases h2 with h2 | h2
    · simp [h2]
    · simp [h2] at h1
  · intro h p hp
    have h1 := h p hp
    simp only [decide_eq_true_eq] at h1
    simp [h1]
theorem cnt_all {L : List (List Int)} {j : Nat} : decide (cnt L j = L.length) = L.all fun p => decide (p[j]? = some 1) := by
  rw [Bool.eq_iff_iff, decide_eq_true_iff, cnt, List.countP_eq_length, List.all_eq_true]

theorem mustN_msk {R : Rest} {L : List (List Int)} (hL : plansL R = L) (hne : L ≠ []) {H : Nat} (hl : ∀ p, p ∈ L → p.length = H) (r : Int) (P : Nat → Bool) (hP : ∀ j, j < H → P j = L.all fun p => decide (p[j]? = some r)) : mustN r R = msk P H := by
  apply Nat.eq_of_testBit_eq
  intro j
  rw [mustN_bit (by rw [hL]; exact hne), msk_bit, hL]
  by_cases hj : j < H
  · rw [hP j hj]; simp [hj]
  · obtain ⟨p, hp⟩ := List.exists_mem_of_ne_nil L hne
    have h1 : decide (j < H) = false := by simp; omega
    rw [h1, Bool.false_and, List.all_eq_false]
    have := hl p hp
    exact ⟨p, hp, by rw [List.getElem?_eq_none (by omega)]; simp⟩

theorem own_at {w : World} {u : Value} {xs : List Int} {n : Nat} (h : OwnRow 0 w u xs) (hn : xs.length = n) {j : Nat} (hj : j < n) :
    ∃ b off cap, u = .slice (some ⟨b, off, none⟩) n cap ∧ w.cell? ⟨b, off + j, none⟩ = some (.int .i64 (xs.getD j 0)) := by
  subst hn
  obtain ⟨a, cap, rfl, hi⟩ := intsAt_dest (OwnRow.ints h)
  obtain ⟨b, off, rfl, _, hc⟩ := intsAt_cell hi hj
  exact ⟨b, off, cap, rfl, hc j hj⟩

theorem bit_at {xs : List Int} {k : Nat} (h : k < xs.length) (h01 : ∀ x, x ∈ xs → x = 0 ∨ x = 1) : (if xs[k]? = some 1 then 1 else 0 : Nat) = (xs.getD k 0).toNat ∧ 0 ≤ xs.getD k 0 ∧ xs.getD k 0 ≤ 1 := by
  have h1 : xs.getD k 0 = xs[k] := by simp [h]
  have h2 := h01 _ (List.getElem_mem h)
  rw [h1, List.getElem?_eq_getElem h]
  rcases h2 with h2 | h2 <;> rw [h2] <;> decide

theorem power_nat (k : Nat) (h : k ≤ 62) (w : World) : Calls Try.prog 78 #[.int .i64 k] w fun e w' => e = .returned (.int .i64 ((2 ^ k : Nat) : Int)) ∧ w' = w := by
  have := power_any k (by omega) (by omega) w
  have e : ((2 ^ k : Nat) : Int) = (2 : Int) ^ (k : Int).toNat := by simp
  rw [e]; exact this

set_option maxRecDepth 100000 in
set_option maxHeartbeats 4000000 in
theorem refMust_bad (R : Rest) (hv : R.valid = false) (w : World) : Calls Try.prog 29 #[restV R] w fun e w' => e = .returned (.tuple #[.int .i64 0, .int .i64 0, .int .i64 1]) ∧ Below w.heap.size w w' := by
  have c62 := hid (fun w => plans_bad R hv w)
  clear hv
  have hk := KeepR.start w R
  go_enter Try.func29, Try.ntmps29
  go_wp2_with (first | (go_at_call 62; with_reducible refine (c62.out _).mono ?_; rintro e w1 ⟨rfl, hb1⟩; have hk := hk.below hb1; obtain ⟨lx, cx⟩ := cells_of hk.x))
  go_ret3
  exact ⟨rfl, hk.bel⟩

set_option maxRecDepth 100000 in
set_option maxHeartbeats 4000000 in
theorem refMust_none (R : Rest) (hv : R.valid = true) (hn : plansL R = []) (w : World) : Calls Try.prog 29 #[restV R] w fun e w' => e = .returned (.tuple #[.int .i64 0, .int .i64 0, .int .i64 4]) ∧ Below w.heap.size w w' := by
  have c62 := hid (fun w => plans_none R hv hn w)
  clear hv hn
  have hk := KeepR.start w R
  go_enter Try.func29, Try.ntmps29
  go_wp2_with (first | (go_at_call 62; with_reducible refine (c62.out _).mono ?_; rintro e w1 ⟨rfl, hb1⟩; have hk := hk.below hb1; obtain ⟨lx, cx⟩ := cells_of hk.x))
  go_ret3
  exact ⟨rfl, hk.bel⟩

set_option maxRecDepth 100000 in
set_option maxHeartbeats 4000000 in
theorem refMust_some (R : Rest) (hv : R.valid = true) (L : List (List Int)) (hL : plansL R = L) (hne : L ≠ []) (P0 P1 : Nat → Bool) (hP0 : ∀ j, P0 j = decide (cnt L j = 0)) (hP1 : ∀ j, P1 j = decide (cnt L j = L.length)) (w : World) :
    Calls Try.prog 29 #[restV R] w fun e w' => e = .returned (.tuple #[.int .i64 (msk P0 R.hours.toNat : Nat), .int .i64 (msk P1 R.hours.toNat : Nat), .int .i64 0]) ∧ Below w.heap.size w w' := by
  have h16 := valid_16 hv
  have hh := (Rest.valid_hours hv).1
  have hlens : ∀ q, q ∈ L → q.length = R.hours.toNat := fun q hq => by rw [← hL] at hq; exact (mem_plans hq).1
  have h01 : ∀ q, q ∈ L → ∀ x, x ∈ q → x = 0 ∨ x = 1 := fun q hq => by rw [← hL] at hq; exact plan_two hq
  have hpos : 0 < L.length := List.length_pos_iff.2 hne
  have hmax : L.length ≤ 65536 := by
    have h9 := length_rightL R R.hours.toNat St.begin
    have h8 : (plansL R).length ≤ 2 ^ R.hours.toNat := h9
    rw [hL] at h8
    have := Nat.pow_le_pow_right (n := 2) (by decide) h16
    omega
  obtain ⟨H, hHH⟩ : ∃ H : Nat, R.hours = H := ⟨R.hours.toNat, by omega⟩
  rw [hHH, Int.toNat_natCast] at h16 hlens ⊢
  have c62 := hid (fun w => plans_some R hv L hL hne w)
  have hlens' := hid hlens
  have h01' := hid h01
  have hP0' := hid hP0
  have hP1' := hid hP1
  have hHH' := hid hHH
  clear hv hL hlens hne h01 hP0 hP1 hh hHH
  have hk := KeepR.start w R
  go_enter Try.func29, Try.ntmps29
  go_upto_region 4 with (first | (go_at_call 62; with_reducible refine (c62.out _).mono ?_; rintro e w1 ⟨la, lc, rfl, hr0, hb1⟩; have hk := hk.below hb1; obtain ⟨lx, cx⟩ := cells_of hk.x; have hr := hid hr0; clear hr0))
  rw [hHH'.out] at cx
  go_wp2
  go_loopw [7, 8, 9, 10, 11] (fun z o h n i wr => ∃ k : Nat, k ≤ H ∧ h = .int .i64 k ∧ z = .int .i64 (msk P0 k : Nat) ∧ o = .int .i64 (msk P1 k : Nat) ∧ wr = w1) (fun _ _ h _ _ _ => H - (intOf h).toNat)
  case atStart => exact ⟨0, by omega, rfl, rfl, rfl, rfl⟩
  case round =>
    obtain ⟨k, hkk, rfl, rfl, rfl, rfl⟩ := hrel
    by_cases hlt : k < H
    · have hk2 : (k : Int) < (H : Int) := by omega
      have c78 := hid (fun w => power_nat k (by omega) w)
      have hz := msk_lt P0 k
      have ho := msk_lt P1 k
      have hp16 := Nat.pow_le_pow_right (n := 2) (by decide) (show k ≤ 15 by omega)
      have hz1 := hid (show msk P0 (k + 1) = msk P0 k + if P0 k then 2 ^ k else 0 from rfl)
      have ho1 := hid (show msk P1 (k + 1) = msk P1 k + if P1 k then 2 ^ k else 0 from rfl)
      generalize hzz : msk P0 k = z at *
      generalize hoo : msk P1 k = o at *
      generalize hpw : 2 ^ k = pw at *
      go_wp2
      go_loopw [10, 11] (fun n i wr2 => ∃ j : Nat, j ≤ L.length ∧ i = .int .i64 j ∧ n = .int .i64 (cnt (L.take j) k : Nat) ∧ wr2 = wr) (fun _ i _ => L.length - (intOf i).toNat)
      case atStart => exact ⟨0, by omega, rfl, rfl, rfl⟩
      case round =>
        obtain ⟨j, hjj, rfl, rfl, rfl⟩ := hrel
        by_cases hlj : j < L.length
        · obtain ⟨g, u, rfl, hcg, hu0⟩ := rows_at hr.out hlj
          have hmem : L.getD j [] ∈ L := by
            have e : L.getD j [] = L[j] := by simp [hlj]
            rw [e]
            exact List.getElem_mem hlj
          have hky : k < (L.getD j []).length := by rw [hlens'.out _ hmem]; exact hlt
          obtain ⟨b, off, cap, rfl, hcy⟩ := own_at hu0 (hlens'.out _ hmem) hlt
          have htk : L.take (j + 1) = L.take j ++ [L.getD j []] := by rw [List.take_add_one]; simp [hlj]
          have hs := cnt_snoc (L.take j) k (L.getD j [])
          rw [← htk] at hs
          have hb := cnt_le (L.take j) k
          rw [List.length_take] at hb
          have hv01 := bit_at hky (h01'.out _ hmem)
          rw [hv01.1] at hs
          obtain ⟨_, hv0, hv1⟩ := hv01
          clear hu0 hmem htk hky
          generalize hyy : (L.getD j []).getD k 0 = y at *
          generalize hcc : cnt (L.take j) k = c at *
          have hs' := hid hs
          clear hs hyy hcc
          have hj2 : (j : Int) < (L.length : Int) := by omega
          go_wp2
          go_roundw
          case rel => exact ⟨j + 1, by omega, by go_num, by rw [hs'.out]; go_num, by first | rfl | trivial⟩
          case measure => simp [intOf]; omega
        · obtain rfl : j = L.length := by omega
          rw [List.take_length] at *
          have hb := cnt_le L k
          have hp0 := hP0'.out k
          have hp1 := hP1'.out k
          generalize hcc : cnt L k = c at *
          have hc00 : c = 0 → ¬ c = L.length := by omega
          by_cases hc0 : c = 0
          · have hc1 := hc00 hc0
            have d0 : decide (c = 0) = true := by simpa using hc0
            have d1 : decide (c = L.length) = false := by simpa using hc1
            have hz2 := hid (show msk P0 (k + 1) = z + pw by rw [hz1.out, hp0, d0]; rfl)
            have ho2 := hid (show msk P1 (k + 1) = o by rw [ho1.out, hp1, d1]; rfl)
            clear hp0 hp1 d0 d1
            have hc2 : ((c : Nat) : Int) = 0 := by omega
            have hc3 : ¬ ((c : Nat) : Int) = (L.length : Int) := by omega
            clear hc0 hc1 hc00
            go_wp2_with (first | (go_at_call 78; with_reducible refine (c78.out _).mono ?_; rintro e w2 ⟨rfl, rfl⟩))
            go_roundw
            case rel => exact ⟨k + 1, by omega, by go_num, by rw [hz2.out]; go_num, by rw [ho2.out], by first | rfl | trivial⟩
            case measure => simp [intOf]; omega
          · by_cases hc1 : c = L.length
            · have d0 : decide (c = 0) = false := by simpa using hc0
              have d1 : decide (c = L.length) = true := by simpa using hc1
              have hz2 := hid (show msk P0 (k + 1) = z by rw [hz1.out, hp0, d0]; rfl)
              have ho2 := hid (show msk P1 (k + 1) = o + pw by rw [ho1.out, hp1, d1]; rfl)
              clear hp0 hp1 d0 d1
              have hc2 : ¬ ((c : Nat) : Int) = 0 := by omega
              have hc3 : ((c : Nat) : Int) = (L.length : Int) := by omega
              clear hc0 hc1 hc00
              go_wp2_with (first | (go_at_call 78; with_reducible refine (c78.out _).mono ?_; rintro e w2 ⟨rfl, rfl⟩))
              go_roundw
              case rel => exact ⟨k + 1, by omega, by go_num, by rw [hz2.out], by rw [ho2.out]; go_num, by first | rfl | trivial⟩
              case measure => simp [intOf]; omega
            · have d0 : decide (c = 0) = false := by simpa using hc0
              have d1 : decide (c = L.length) = false := by simpa using hc1
              have hz2 := hid (show msk P0 (k + 1) = z by rw [hz1.out, hp0, d0]; rfl)
              have ho2 := hid (show msk P1 (k + 1) = o by rw [ho1.out, hp1, d1]; rfl)
              clear hp0 hp1 d0 d1
              have hc2 : ¬ ((c : Nat) : Int) = 0 := by omega
              have hc3 : ¬ ((c : Nat) : Int) = (L.length : Int) := by omega
              clear hc0 hc1 hc00
              go_wp2_with (first | (go_at_call 78; with_reducible refine (c78.out _).mono ?_; rintro e w2 ⟨rfl, rfl⟩))
              go_roundw
              case rel => exact ⟨k + 1, by omega, by go_num, by rw [hz2.out], by rw [ho2.out], by first | rfl | trivial⟩
              case measure => simp [intOf]; omega
    · obtain rfl : k = H := by omega
      go_wp2
      go_ret3
      exact ⟨by rw [hHH'.out]; rfl, hk.bel⟩

theorem refMust_any (R : Rest) (w : World) : Calls Try.prog 29 #[restV R] w fun e w' => e = .returned (.tuple #[.int .i64 (mustR R).1, .int .i64 (mustR R).2.1, .int .i64 (mustR R).2.2]) ∧ Below w.heap.size w w' := by
  cases hv : R.valid
  · have e : mustR R = (0, 0, 1) := by simp [mustR, hv]
    rw [e]; exact refMust_bad R hv w
  · rw [mustR_eq hv]
    by_cases hn : plansL R = []
    · rw [if_pos hn]; exact refMust_none R hv hn w
    · rw [if_neg hn]
      have hl : ∀ p, p ∈ plansL R → p.length = R.hours.toNat := fun p hp => (mem_plans hp).1
      rw [mustN_msk rfl hn hl 0 (fun j => decide (cnt (plansL R) j = 0)) (fun j hj => cnt_none hj hl (fun p hp => plan_two hp)), mustN_msk rfl hn hl 1 (fun j => decide (cnt (plansL R) j = (plansL R).length)) (fun j _ => cnt_all)]
      exact refMust_some R hv _ rfl hn _ _ (fun _ => rfl) (fun _ => rfl) w

end Go.Proofs.Ytkgdejhooghknaa

namespace Go.Proofs.Ytkgdejhooghknaa
open Go.RowKit Go.Lap Go.Shelf

theorem plans_code {R : Rest} {c : Int} (hc : (if R.valid then if canB R R.hours then 0 else 4 else 1 : Int) = c) (w : World) : Calls Try.prog 62 #[restV R] w fun e w' => ∃ sv, e = .returned (.tuple #[sv, .int .i64 c]) ∧ Below w.heap.size w w' := by
  subst hc
  cases hv : R.valid
  · exact (plans_bad R hv w).mono fun e w' ⟨h1, h2⟩ => ⟨_, h1, h2⟩
  · have hb := canB_eq (R := R) (til := R.hours) (valid_16 hv)
    by_cases hn : plansL R = []
    · have e : canB R R.hours = false := by rw [hb]; simpa [plansL] using hn
      rw [e]
      exact (plans_none R hv hn w).mono fun e w' ⟨h1, h2⟩ => ⟨_, h1, h2⟩
    · have e : canB R R.hours = true := by rw [hb]; simpa [plansL] using hn
      rw [e]
      exact (plans_some R hv _ rfl hn w).mono fun e w' ⟨a, cap, h1, _, h2⟩ => ⟨_, h1, h2⟩

theorem free_is {R : Rest} (hh : 0 ≤ R.hours) {i h : Int} (hi : i = 0 ∨ i = 1) (h0 : 0 ≤ h) (h1 : h < R.hours) (hp : i = 1 → ∀ j, 0 ≤ j → j < R.hours → frees R 0 j = false) (hq : ∀ j, 0 ≤ j → j < h → frees R i j = false) (hf : frees R i h = true) : freeOf R = (i, h, 0) := by
  rcases freeOf_cases hh with ⟨_, a0, a1⟩ | ⟨k, e, k0, k1, b1, b2⟩ | ⟨k, e, k0, k1, b0, b1, b2⟩
  · rcases hi with rfl | rfl
    · rw [a0 h h0 h1] at hf; cases hf
    · rw [a1 h h0 h1] at hf; cases hf
  · rcases hi with rfl | rfl
    · rcases Int.lt_trichotomy k h with hl | rfl | hl
      · rw [hq k k0 hl] at b1; cases b1
      · exact e
      · rw [b2 h h0 hl] at hf; cases hf
    · rw [hp rfl k k0 k1] at b1; cases b1
  · rcases hi with rfl | rfl
    · rw [b0 h h0 h1] at hf; cases hf
    · rcases Int.lt_trichotomy k h with hl | rfl | hl
      · rw [hq k k0 hl] at b1; cases b1
      · exact e
      · rw [b2 h h0 hl] at hf; cases hf
theorem free_not {R : Rest} (hh : 0 ≤ R.hours) (h0 : ∀ j, 0 ≤ j → j < R.hours → frees R 0 j = false) (h1 : ∀ j, 0 ≤ j → j < R.hours → frees R 1 j = false) : freeOf R = (0, 0, 4) := by
  rcases freeOf_cases hh with ⟨e, _⟩ | ⟨k, e, k0, k1, b1, b2⟩ | ⟨k, e, k0, k1, b0, b1, b2⟩
  · exact e
  · rw [h0 k k0 k1] at b1; cases b1
  · rw [h1 k k0 k1] at b1; cases b1
theorem wrap_small {x : Int} (h0 : 0 ≤ x) (h1 : x ≤ 65535) : IntKind.i64.wrap x = x := IntWalk.i64_in x (by omega)
theorem till_next {R : Rest} {i : Int} {j : Nat} (h : ∀ l : Int, 0 ≤ l → l < j → frees R i l = false) (hj : frees R i j = false) : ∀ l : Int, 0 ≤ l → l < ((j + 1 : Nat) : Int) → frees R i l = false := by
  intro l h0 h1
  by_cases e : l = j
  · rw [e]; exact hj
  · exact h l h0 (by omega)

set_option maxRecDepth 100000 in
set_option maxHeartbeats 4000000 in
theorem refFree_early (R : Rest) (c d : Int) (hc : (if R.valid then if canB R R.hours then 0 else 4 else 1 : Int) = c) (hd : (c = 0 ∧ d = 11) ∨ (c = 1 ∧ d = 1)) (w : World) : Calls Try.prog 31 #[restV R] w fun e w' => e = .returned (.tuple #[.int .i64 0, .int .i64 0, .int .i64 d]) ∧ Below w.heap.size w w' := by
  have c62 := hid (fun w => plans_code hc w)
  clear hc
  have hk := KeepR.start w R
  obtain ⟨rfl, rfl⟩ | ⟨rfl, rfl⟩ := hd
  · go_enter Try.func31, Try.ntmps31
    go_wp2_with (first | (go_at_call 62; with_reducible refine (c62.out _).mono ?_; rintro e w1 ⟨sv, rfl, hb1⟩; have hk := hk.below hb1; obtain ⟨lx, cx⟩ := cells_of hk.x))
    go_ret3
    exact ⟨rfl, hk.bel⟩
  · go_enter Try.func31, Try.ntmps31
    go_wp2_with (first | (go_at_call 62; with_reducible refine (c62.out _).mono ?_; rintro e w1 ⟨sv, rfl, hb1⟩; have hk := hk.below hb1; obtain ⟨lx, cx⟩ := cells_of hk.x))
    go_ret3
    exact ⟨rfl, hk.bel⟩

set_option maxRecDepth 100000 in
set_option maxHeartbeats 4000000 in
theorem refFree_all (R : Rest) (hv : R.valid = true) (hc : canB R R.hours = false) (v0 v1 v2 : Int) (hres : freeOf R = (v0, v1, v2)) (w : World) : Calls Try.prog 31 #[restV R] w fun e w' => e = .returned (.tuple #[.int .i64 v0, .int .i64 v1, .int .i64 v2]) ∧ Below w.heap.size w w' := by
  have h16 := valid_16 hv
  have hh := (Rest.valid_hours hv).1
  have ho0 := (Rest.valid_ok hv).1
  have ho1 := (Rest.valid_ok hv).2
  obtain ⟨H, hHH⟩ : ∃ H : Nat, R.hours.toNat = H := ⟨_, rfl⟩
  have c62 := hid (fun w => plans_code (R := R) (c := 4) (by simp [hv, hc]) w)
  have hv' := hid hv
  have hres' := hid hres
  clear hv hc hres
  have hk := KeepR.start w R
  go_enter Try.func31, Try.ntmps31
  go_upto_region 6 with (first | (go_at_call 62; with_reducible refine (c62.out _).mono ?_; rintro e w1 ⟨sv, rfl, hb1⟩; have hk := hk.below hb1; obtain ⟨lx, cx⟩ := cells_of hk.x))
  go_wp2
  go_loopw [2, 3, 4, 7, 8, 9, 10, 11] (fun _ _ _ i _ _ _ _ wr => ∃ k : Int, i = .int .i64 k ∧ (k = 0 ∨ (k = 1 ∧ Hid (∀ l : Int, 0 ≤ l → l < R.hours → frees R 0 l = false)) ∨ (k = 2 ∧ Hid (∀ l : Int, 0 ≤ l → l < R.hours → frees R 0 l = false) ∧ Hid (∀ l : Int, 0 ≤ l → l < R.hours → frees R 1 l = false))) ∧ KeepR w R wr) (fun _ _ _ i _ _ _ _ _ => 2 - (intOf i).toNat)
  case atStart => exact ⟨0, rfl, .inl rfl, hk⟩
  case round =>
    obtain ⟨k, rfl, hcase, hk⟩ := hrel
    obtain ⟨lx, cx⟩ := cells_of hk.x
    obtain ⟨wo, rfl⟩ : ∃ wo : World, wo = wr := ⟨_, rfl⟩
    obtain rfl | ⟨rfl, hno0⟩ | ⟨rfl, hno0, hno1⟩ := hcase
    · go_wp2
      go_loopw [2, 3, 4, 8, 9, 10, 11] (fun _ _ _ h _ _ _ wr2 => ∃ j : Nat, j ≤ H ∧ h = .int .i64 j ∧ Hid (∀ l : Int, 0 ≤ l → l < j → frees R 0 l = false) ∧ KeepR w R wr2) (fun _ _ _ h _ _ _ _ => H - (intOf h).toNat)
      case atStart => exact ⟨0, by omega, rfl, hid (fun l h0 h1 => by omega), hk⟩
      case round =>
        obtain ⟨j, hjj, rfl, htill, hk⟩ := hrel
        obtain ⟨lx, cx⟩ := cells_of hk.x
        by_cases hlt : j < H
        · have hlt2 : (j : Int) < R.hours := by omega
          have c78 := hid (fun w => power_nat j (by omega) w)
          cases hbit : hasBit R.r0.out j
          · have c79 := hid (fun w => has_as hbit ho0.out0 ho0.out1 (by omega) (by omega) w)
            have hn := hid (till_next htill.out (show frees R 0 j = false by simp [frees, Rest.rider, hbit]))
            clear hbit
            go_wp2_with (first | (go_at_call 79; with_reducible refine (c79.out _).mono ?_; rintro e w1 ⟨rfl, rfl⟩; skip))
            go_roundw
            case rel => exact ⟨j + 1, by omega, by go_num, hn, hk⟩
            case measure => simp [intOf]; omega
          · have c79 := hid (fun w => has_as hbit ho0.out0 ho0.out1 (by omega) (by omega) w)
            have hclr : R.r0.out - ((2 ^ j : Nat) : Int) = clr R.r0.out j := by simp [clr, hbit]
            have hclb := clr_le (set := R.r0.out) (k := (j : Int)) ho0.out0 (by omega)
            have hX : frees R 0 j = canB (R.clear 0 j) R.hours := by simp [frees, Rest.rider, hbit]
            obtain ⟨hv2, hh2⟩ := Rest.clear_valid (i := 0) (h := j) hv'.out (by omega)
            have hQ : R.clear 0 j = (⟨R.hours, ⟨clr R.r0.out j, R.r0.total, R.r0.run, R.r0.off⟩, R.r1⟩ : Rest) := by simp [Rest.clear]
            rw [hQ] at hX hv2 hh2
            have hhv2 := hh2
            have hoX := Rest.valid_ok hv2
            cases hcb : canB (⟨R.hours, ⟨clr R.r0.out j, R.r0.total, R.r0.run, R.r0.off⟩, R.r1⟩ : Rest) R.hours
            · have c62x := hid (fun w => (show Calls Try.prog 62 #[.agg #[.int .i64 R.hours, .int .i64 (clr R.r0.out j), .int .i64 R.r0.total, .int .i64 R.r0.run, .int .i64 R.r0.off, .int .i64 R.r1.out, .int .i64 R.r1.total, .int .i64 R.r1.run, .int .i64 R.r1.off]] w fun e w' => ∃ sv, e = .returned (.tuple #[sv, .int .i64 4]) ∧ Below w.heap.size w w' from plans_code (R := (⟨R.hours, ⟨clr R.r0.out j, R.r0.total, R.r0.run, R.r0.off⟩, R.r1⟩ : Rest)) (c := 4) (by simp only [hv2, hcb, if_true]; rfl) w))
              have hn := hid (till_next htill.out (show frees R 0 j = false by rw [hX, hcb]))
              have hw : IntKind.i64.wrap (R.r0.out - 2 ^ j) = clr R.r0.out j := by
                have e : R.r0.out - 2 ^ j = clr R.r0.out j := by simpa using hclr
                have h9 := ho0.out1
                have h8 := hclb.1
                have h7 := hclb.2.1
                rw [e]
                exact wrap_small h8 (by omega)
              have hw' := hid hw
              have hQc := hid hQ
              clear hbit hclr hX hv2 hh2 hhv2 hoX hcb hQ hw
              go_upto_region 14 with (first | (go_at_call 79; with_reducible refine (c79.out _).mono ?_; rintro e w1 ⟨rfl, rfl⟩; skip))
              have hbc := below_alloc (Below.refl w1.heap.size w1) (.cells #[.int .i64 R.hours, .int .i64 R.r0.out, .int .i64 R.r0.total, .int .i64 R.r0.run, .int .i64 R.r0.off, .int .i64 R.r1.out, .int .i64 R.r1.total, .int .i64 R.r1.run, .int .i64 R.r1.off] 26)
              have hOc : (w1.alloc (.cells #[.int .i64 R.hours, .int .i64 R.r0.out, .int .i64 R.r0.total, .int .i64 R.r0.run, .int .i64 R.r0.off, .int .i64 R.r1.out, .int .i64 R.r1.total, .int .i64 R.r1.run, .int .i64 R.r1.off] 26)).heap[w1.heap.size]? = some (.cells #[.int .i64 R.hours, .int .i64 R.r0.out, .int .i64 R.r0.total, .int .i64 R.r0.run, .int .i64 R.r0.off, .int .i64 R.r1.out, .int .i64 R.r1.total, .int .i64 R.r1.run, .int .i64 R.r1.off] 26 (0, 0)) := alloc_at rfl
              have hO2 : ((w1.alloc (.cells #[.int .i64 R.hours, .int .i64 R.r0.out, .int .i64 R.r0.total, .int .i64 R.r0.run, .int .i64 R.r0.off, .int .i64 R.r1.out, .int .i64 R.r1.total, .int .i64 R.r1.run, .int .i64 R.r1.off] 26)).setCell ⟨w1.heap.size, 1, none⟩ (.int .i64 (clr R.r0.out j))).drew.heap[w1.heap.size]? = some (.cells #[.int .i64 R.hours, .int .i64 (clr R.r0.out j), .int .i64 R.r0.total, .int .i64 R.r0.run, .int .i64 R.r0.off, .int .i64 R.r1.out, .int .i64 R.r1.total, .int .i64 R.r1.run, .int .i64 R.r1.off] 26 (0, 0)) := heap_setCell_same hOc
              have hk2 : KeepR w R ((w1.alloc (.cells #[.int .i64 R.hours, .int .i64 R.r0.out, .int .i64 R.r0.total, .int .i64 R.r0.run, .int .i64 R.r0.off, .int .i64 R.r1.out, .int .i64 R.r1.total, .int .i64 R.r1.run, .int .i64 R.r1.off] 26)).setCell ⟨w1.heap.size, 1, none⟩ (.int .i64 (clr R.r0.out j))).drew := hk.below (below_set hbc (p := ⟨w1.heap.size, 1, none⟩) (.int .i64 (clr R.r0.out j)) (Nat.le_refl _)).drew
              have hkc := hk.below hbc
              generalize (w1.alloc (.cells #[.int .i64 R.hours, .int .i64 R.r0.out, .int .i64 R.r0.total, .int .i64 R.r0.run, .int .i64 R.r0.off, .int .i64 R.r1.out, .int .i64 R.r1.total, .int .i64 R.r1.run, .int .i64 R.r1.off] 26)) = Wc at *
              generalize w1.heap.size = gx at *
              have hO2' := hid hO2
              have hk2' := hid hk2
              clear lx cx hO2 hk2 hbc hk
              obtain ⟨lx, cx⟩ := cells_of hkc.x
              obtain ⟨lc, cc⟩ := cells_of hOc
              have zc := free_of hOc
              go_region_with (first | (go_at_call 78; with_reducible refine (c78.out _).mono ?_; rintro e w2 ⟨rfl, rfl⟩; skip))
              all_goals
                rw [hw'.out]
                have hO3 := hO2'.out
                have hk3 := hk2'.out
                generalize (Wc.setCell ⟨gx, 1, none⟩ (.int .i64 (clr R.r0.out j))).drew = W2 at *
                clear lx cx lc cc zc
                obtain ⟨lx, cx⟩ := cells_of hk3.x
                obtain ⟨l2, c2⟩ := cells_of hO3
                go_wp2_with (first | (go_at_call 62; with_reducible refine (c62x.out _).mono ?_; rintro e w3 ⟨sv2, rfl, hb1⟩; have hk4 := hk3.below hb1; obtain ⟨lx4, cx4⟩ := cells_of hk4.x))
                go_roundw
                case rel => exact ⟨j + 1, by omega, by go_num, hn, hk4⟩
                case measure => simp [intOf]; omega
            · have c62x := hid (fun w => (show Calls Try.prog 62 #[.agg #[.int .i64 R.hours, .int .i64 (clr R.r0.out j), .int .i64 R.r0.total, .int .i64 R.r0.run, .int .i64 R.r0.off, .int .i64 R.r1.out, .int .i64 R.r1.total, .int .i64 R.r1.run, .int .i64 R.r1.off]] w fun e w' => ∃ sv, e = .returned (.tuple #[sv, .int .i64 0]) ∧ Below w.heap.size w w' from plans_code (R := (⟨R.hours, ⟨clr R.r0.out j, R.r0.total, R.r0.run, R.r0.off⟩, R.r1⟩ : Rest)) (c := 0) (by simp only [hv2, hcb, if_true]) w))
              have hfin := hid (free_is hh (i := 0) (.inl rfl) (by omega) hlt2 (fun h => by cases h) htill.out (by rw [hX, hcb]))
              have hw : IntKind.i64.wrap (R.r0.out - 2 ^ j) = clr R.r0.out j := by
                have e : R.r0.out - 2 ^ j = clr R.r0.out j := by simpa using hclr
                have h9 := ho0.out1
                have h8 := hclb.1
                have h7 := hclb.2.1
                rw [e]
                exact wrap_small h8 (by omega)
              have hw' := hid hw
              have hQc := hid hQ
              clear hbit hclr hX hv2 hh2 hhv2 hoX hcb hQ hw
              go_upto_region 14 with (first | (go_at_call 79; with_reducible refine (c79.out _).mono ?_; rintro e w1 ⟨rfl, rfl⟩; skip))
              have hbc := below_alloc (Below.refl w1.heap.size w1) (.cells #[.int .i64 R.hours, .int .i64 R.r0.out, .int .i64 R.r0.total, .int .i64 R.r0.run, .int .i64 R.r0.off, .int .i64 R.r1.out, .int .i64 R.r1.total, .int .i64 R.r1.run, .int .i64 R.r1.off] 26)
              have hOc : (w1.alloc (.cells #[.int .i64 R.hours, .int .i64 R.r0.out, .int .i64 R.r0.total, .int .i64 R.r0.run, .int .i64 R.r0.off, .int .i64 R.r1.out, .int .i64 R.r1.total, .int .i64 R.r1.run, .int .i64 R.r1.off] 26)).heap[w1.heap.size]? = some (.cells #[.int .i64 R.hours, .int .i64 R.r0.out, .int .i64 R.r0.total, .int .i64 R.r0.run, .int .i64 R.r0.off, .int .i64 R.r1.out, .int .i64 R.r1.total, .int .i64 R.r1.run, .int .i64 R.r1.off] 26 (0, 0)) := alloc_at rfl
              have hO2 : ((w1.alloc (.cells #[.int .i64 R.hours, .int .i64 R.r0.out, .int .i64 R.r0.total, .int .i64 R.r0.run, .int .i64 R.r0.off, .int .i64 R.r1.out, .int .i64 R.r1.total, .int .i64 R.r1.run, .int .i64 R.r1.off] 26)).setCell ⟨w1.heap.size, 1, none⟩ (.int .i64 (clr R.r0.out j))).drew.heap[w1.heap.size]? = some (.cells #[.int .i64 R.hours, .int .i64 (clr R.r0.out j), .int .i64 R.r0.total, .int .i64 R.r0.run, .int .i64 R.r0.off, .int .i64 R.r1.out, .int .i64 R.r1.total, .int .i64 R.r1.run, .int .i64 R.r1.off] 26 (0, 0)) := heap_setCell_same hOc
              have hk2 : KeepR w R ((w1.alloc (.cells #[.int .i64 R.hours, .int .i64 R.r0.out, .int .i64 R.r0.total, .int .i64 R.r0.run, .int .i64 R.r0.off, .int .i64 R.r1.out, .int .i64 R.r1.total, .int .i64 R.r1.run, .int .i64 R.r1.off] 26)).setCell ⟨w1.heap.size, 1, none⟩ (.int .i64 (clr R.r0.out j))).drew := hk.below (below_set hbc (p := ⟨w1.heap.size, 1, none⟩) (.int .i64 (clr R.r0.out j)) (Nat.le_refl _)).drew
              have hkc := hk.below hbc
              generalize (w1.alloc (.cells #[.int .i64 R.hours, .int .i64 R.r0.out, .int .i64 R.r0.total, .int .i64 R.r0.run, .int .i64 R.r0.off, .int .i64 R.r1.out, .int .i64 R.r1.total, .int .i64 R.r1.run, .int .i64 R.r1.off] 26)) = Wc at *
              generalize w1.heap.size = gx at *
              have hO2' := hid hO2
              have hk2' := hid hk2
              clear lx cx hO2 hk2 hbc hk
              obtain ⟨lx, cx⟩ := cells_of hkc.x
              obtain ⟨lc, cc⟩ := cells_of hOc
              have zc := free_of hOc
              go_region_with (first | (go_at_call 78; with_reducible refine (c78.out _).mono ?_; rintro e w2 ⟨rfl, rfl⟩; skip))
              all_goals
                rw [hw'.out]
                have hO3 := hO2'.out
                have hk3 := hk2'.out
                generalize (Wc.setCell ⟨gx, 1, none⟩ (.int .i64 (clr R.r0.out j))).drew = W2 at *
                clear lx cx lc cc zc
                obtain ⟨lx, cx⟩ := cells_of hk3.x
                obtain ⟨l2, c2⟩ := cells_of hO3
                go_wp2_with (first | (go_at_call 62; with_reducible refine (c62x.out _).mono ?_; rintro e w3 ⟨sv2, rfl, hb1⟩; have hk4 := hk3.below hb1; obtain ⟨lx4, cx4⟩ := cells_of hk4.x))
                go_ret3
                cases hres'.out.symm.trans hfin.out
                exact ⟨rfl, hk4.bel⟩
        · obtain rfl : j = H := by omega
          have hall : Hid (∀ l : Int, 0 ≤ l → l < R.hours → frees R 0 l = false) := hid (fun l h0 h1 => htill.out l h0 (by omega))
          go_wp2
          go_roundw
          case rel => exact ⟨1, rfl, .inr (.inl ⟨rfl, hall⟩), hk⟩
          case measure => simp [intOf]
    · go_wp2
      go_loopw [2, 3, 4, 8, 9, 10, 11] (fun _ _ _ h _ _ _ wr2 => ∃ j : Nat, j ≤ H ∧ h = .int .i64 j ∧ Hid (∀ l : Int, 0 ≤ l → l < j → frees R 1 l = false) ∧ KeepR w R wr2) (fun _ _ _ h _ _ _ _ => H - (intOf h).toNat)
      case atStart => exact ⟨0, by omega, rfl, hid (fun l h0 h1 => by omega), hk⟩
      case round =>
        obtain ⟨j, hjj, rfl, htill, hk⟩ := hrel
        obtain ⟨lx, cx⟩ := cells_of hk.x
        by_cases hlt : j < H
        · have hlt2 : (j : Int) < R.hours := by omega
          have c78 := hid (fun w => power_nat j (by omega) w)
          cases hbit : hasBit R.r1.out j
          · have c79 := hid (fun w => has_as hbit ho1.out0 ho1.out1 (by omega) (by omega) w)
            have hn := hid (till_next htill.out (show frees R 1 j = false by simp [frees, Rest.rider, hbit]))
            clear hbit
            go_wp2_with (first | (go_at_call 79; with_reducible refine (c79.out _).mono ?_; rintro e w1 ⟨rfl, rfl⟩; skip))
            go_roundw
            case rel => exact ⟨j + 1, by omega, by go_num, hn, hk⟩
            case measure => simp [intOf]; omega
          · have c79 := hid (fun w => has_as hbit ho1.out0 ho1.out1 (by omega) (by omega) w)
            have hclr : R.r1.out - ((2 ^ j : Nat) : Int) = clr R.r1.out j := by simp [clr, hbit]
            have hclb := clr_le (set := R.r1.out) (k := (j : Int)) ho1.out0 (by omega)
            have hX : frees R 1 j = canB (R.clear 1 j) R.hours := by simp [frees, Rest.rider, hbit]
            obtain ⟨hv2, hh2⟩ := Rest.clear_valid (i := 1) (h := j) hv'.out (by omega)
            have hQ : R.clear 1 j = (⟨R.hours, R.r0, ⟨clr R.r1.out j, R.r1.total, R.r1.run, R.r1.off⟩⟩ : Rest) := by simp [Rest.clear]
            rw [hQ] at hX hv2 hh2
            have hhv2 := hh2
            have hoX := Rest.valid_ok hv2
            cases hcb : canB (⟨R.hours, R.r0, ⟨clr R.r1.out j, R.r1.total, R.r1.run, R.r1.off⟩⟩ : Rest) R.hours
            · have c62x := hid (fun w => (show Calls Try.prog 62 #[.agg #[.int .i64 R.hours, .int .i64 R.r0.out, .int .i64 R.r0.total, .int .i64 R.r0.run, .int .i64 R.r0.off, .int .i64 (clr R.r1.out j), .int .i64 R.r1.total, .int .i64 R.r1.run, .int .i64 R.r1.off]] w fun e w' => ∃ sv, e = .returned (.tuple #[sv, .int .i64 4]) ∧ Below w.heap.size w w' from plans_code (R := (⟨R.hours, R.r0, ⟨clr R.r1.out j, R.r1.total, R.r1.run, R.r1.off⟩⟩ : Rest)) (c := 4) (by simp only [hv2, hcb, if_true]; rfl) w))
              have hn := hid (till_next htill.out (show frees R 1 j = false by rw [hX, hcb]))
              have hw : IntKind.i64.wrap (R.r1.out - 2 ^ j) = clr R.r1.out j := by
                have e : R.r1.out - 2 ^ j = clr R.r1.out j := by simpa using hclr
                have h9 := ho1.out1
                have h8 := hclb.1
                have h7 := hclb.2.1
                rw [e]
                exact wrap_small h8 (by omega)
              have hw' := hid hw
              have hQc := hid hQ
              clear hbit hclr hX hv2 hh2 hhv2 hoX hcb hQ hw
              go_upto_region 14 with (first | (go_at_call 79; with_reducible refine (c79.out _).mono ?_; rintro e w1 ⟨rfl, rfl⟩; skip))
              have hbc := below_alloc (Below.refl w1.heap.size w1) (.cells #[.int .i64 R.hours, .int .i64 R.r0.out, .int .i64 R.r0.total, .int .i64 R.r0.run, .int .i64 R.r0.off, .int .i64 R.r1.out, .int .i64 R.r1.total, .int .i64 R.r1.run, .int .i64 R.r1.off] 26)
              have hOc : (w1.alloc (.cells #[.int .i64 R.hours, .int .i64 R.r0.out, .int .i64 R.r0.total, .int .i64 R.r0.run, .int .i64 R.r0.off, .int .i64 R.r1.out, .int .i64 R.r1.total, .int .i64 R.r1.run, .int .i64 R.r1.off] 26)).heap[w1.heap.size]? = some (.cells #[.int .i64 R.hours, .int .i64 R.r0.out, .int .i64 R.r0.total, .int .i64 R.r0.run, .int .i64 R.r0.off, .int .i64 R.r1.out, .int .i64 R.r1.total, .int .i64 R.r1.run, .int .i64 R.r1.off] 26 (0, 0)) := alloc_at rfl
              have hO2 : ((w1.alloc (.cells #[.int .i64 R.hours, .int .i64 R.r0.out, .int .i64 R.r0.total, .int .i64 R.r0.run, .int .i64 R.r0.off, .int .i64 R.r1.out, .int .i64 R.r1.total, .int .i64 R.r1.run, .int .i64 R.r1.off] 26)).setCell ⟨w1.heap.size, 5, none⟩ (.int .i64 (clr R.r1.out j))).drew.heap[w1.heap.size]? = some (.cells #[.int .i64 R.hours, .int .i64 R.r0.out, .int .i64 R.r0.total, .int .i64 R.r0.run, .int .i64 R.r0.off, .int .i64 (clr R.r1.out j), .int .i64 R.r1.total, .int .i64 R.r1.run, .int .i64 R.r1.off] 26 (0, 0)) := heap_setCell_same hOc
              have hk2 : KeepR w R ((w1.alloc (.cells #[.int .i64 R.hours, .int .i64 R.r0.out, .int .i64 R.r0.total, .int .i64 R.r0.run, .int .i64 R.r0.off, .int .i64 R.r1.out, .int .i64 R.r1.total, .int .i64 R.r1.run, .int .i64 R.r1.off] 26)).setCell ⟨w1.heap.size, 5, none⟩ (.int .i64 (clr R.r1.out j))).drew := hk.below (below_set hbc (p := ⟨w1.heap.size, 5, none⟩) (.int .i64 (clr R.r1.out j)) (Nat.le_refl _)).drew
              have hkc := hk.below hbc
              generalize (w1.alloc (.cells #[.int .i64 R.hours, .int .i64 R.r0.out, .int .i64 R.r0.total, .int .i64 R.r0.run, .int .i64 R.r0.off, .int .i64 R.r1.out, .int .i64 R.r1.total, .int .i64 R.r1.run, .int .i64 R.r1.off] 26)) = Wc at *
              generalize w1.heap.size = gx at *
              have hO2' := hid hO2
              have hk2' := hid hk2
              clear lx cx hO2 hk2 hbc hk
              obtain ⟨lx, cx⟩ := cells_of hkc.x
              obtain ⟨lc, cc⟩ := cells_of hOc
              have zc := free_of hOc
              go_region_with (first | (go_at_call 78; with_reducible refine (c78.out _).mono ?_; rintro e w2 ⟨rfl, rfl⟩; skip))
              all_goals
                rw [hw'.out]
                have hO3 := hO2'.out
                have hk3 := hk2'.out
                generalize (Wc.setCell ⟨gx, 5, none⟩ (.int .i64 (clr R.r1.out j))).drew = W2 at *
                clear lx cx lc cc zc
                obtain ⟨lx, cx⟩ := cells_of hk3.x
                obtain ⟨l2, c2⟩ := cells_of hO3
                go_wp2_with (first | (go_at_call 62; with_reducible refine (c62x.out _).mono ?_; rintro e w3 ⟨sv2, rfl, hb1⟩; have hk4 := hk3.below hb1; obtain ⟨lx4, cx4⟩ := cells_of hk4.x))
                go_roundw
                case rel => exact ⟨j + 1, by omega, by go_num, hn, hk4⟩
                case measure => simp [intOf]; omega
            · have c62x := hid (fun w => (show Calls Try.prog 62 #[.agg #[.int .i64 R.hours, .int .i64 R.r0.out, .int .i64 R.r0.total, .int .i64 R.r0.run, .int .i64 R.r0.off, .int .i64 (clr R.r1.out j), .int .i64 R.r1.total, .int .i64 R.r1.run, .int .i64 R.r1.off]] w fun e w' => ∃ sv, e = .returned (.tuple #[sv, .int .i64 0]) ∧ Below w.heap.size w w' from plans_code (R := (⟨R.hours, R.r0, ⟨clr R.r1.out j, R.r1.total, R.r1.run, R.r1.off⟩⟩ : Rest)) (c := 0) (by simp only [hv2, hcb, if_true]) w))
              have hfin := hid (free_is hh (i := 1) (.inr rfl) (by omega) hlt2 (fun _ => hno0.out) htill.out (by rw [hX, hcb]))
              have hw : IntKind.i64.wrap (R.r1.out - 2 ^ j) = clr R.r1.out j := by
                have e : R.r1.out - 2 ^ j = clr R.r1.out j := by simpa using hclr
                have h9 := ho1.out1
                have h8 := hclb.1
                have h7 := hclb.2.1
                rw [e]
                exact wrap_small h8 (by omega)
              have hw' := hid hw
              have hQc := hid hQ
              clear hbit hclr hX hv2 hh2 hhv2 hoX hcb hQ hw
              go_upto_region 14 with (first | (go_at_call 79; with_reducible refine (c79.out _).mono ?_; rintro e w1 ⟨rfl, rfl⟩; skip))
              have hbc := below_alloc (Below.refl w1.heap.size w1) (.cells #[.int .i64 R.hours, .int .i64 R.r0.out, .int .i64 R.r0.total, .int .i64 R.r0.run, .int .i64 R.r0.off, .int .i64 R.r1.out, .int .i64 R.r1.total, .int .i64 R.r1.run, .int .i64 R.r1.off] 26)
              have hOc : (w1.alloc (.cells #[.int .i64 R.hours, .int .i64 R.r0.out, .int .i64 R.r0.total, .int .i64 R.r0.run, .int .i64 R.r0.off, .int .i64 R.r1.out, .int .i64 R.r1.total, .int .i64 R.r1.run, .int .i64 R.r1.off] 26)).heap[w1.heap.size]? = some (.cells #[.int .i64 R.hours, .int .i64 R.r0.out, .int .i64 R.r0.total, .int .i64 R.r0.run, .int .i64 R.r0.off, .int .i64 R.r1.out, .int .i64 R.r1.total, .int .i64 R.r1.run, .int .i64 R.r1.off] 26 (0, 0)) := alloc_at rfl
              have hO2 : ((w1.alloc (.cells #[.int .i64 R.hours, .int .i64 R.r0.out, .int .i64 R.r0.total, .int .i64 R.r0.run, .int .i64 R.r0.off, .int .i64 R.r1.out, .int .i64 R.r1.total, .int .i64 R.r1.run, .int .i64 R.r1.off] 26)).setCell ⟨w1.heap.size, 5, none⟩ (.int .i64 (clr R.r1.out j))).drew.heap[w1.heap.size]? = some (.cells #[.int .i64 R.hours, .int .i64 R.r0.out, .int .i64 R.r0.total, .int .i64 R.r0.run, .int .i64 R.r0.off, .int .i64 (clr R.r1.out j), .int .i64 R.r1.total, .int .i64 R.r1.run, .int .i64 R.r1.off] 26 (0, 0)) := heap_setCell_same hOc
              have hk2 : KeepR w R ((w1.alloc (.cells #[.int .i64 R.hours, .int .i64 R.r0.out, .int .i64 R.r0.total, .int .i64 R.r0.run, .int .i64 R.r0.off, .int .i64 R.r1.out, .int .i64 R.r1.total, .int .i64 R.r1.run, .int .i64 R.r1.off] 26)).setCell ⟨w1.heap.size, 5, none⟩ (.int .i64 (clr R.r1.out j))).drew := hk.below (below_set hbc (p := ⟨w1.heap.size, 5, none⟩) (.int .i64 (clr R.r1.out j)) (Nat.le_refl _)).drew
              have hkc := hk.below hbc
              generalize (w1.alloc (.cells #[.int .i64 R.hours, .int .i64 R.r0.out, .int .i64 R.r0.total, .int .i64 R.r0.run, .int .i64 R.r0.off, .int .i64 R.r1.out, .int .i64 R.r1.total, .int .i64 R.r1.run, .int .i64 R.r1.off] 26)) = Wc at *
              generalize w1.heap.size = gx at *
              have hO2' := hid hO2
              have hk2' := hid hk2
              clear lx cx hO2 hk2 hbc hk
              obtain ⟨lx, cx⟩ := cells_of hkc.x
              obtain ⟨lc, cc⟩ := cells_of hOc
              have zc := free_of hOc
              go_region_with (first | (go_at_call 78; with_reducible refine (c78.out _).mono ?_; rintro e w2 ⟨rfl, rfl⟩; skip))
              all_goals
                rw [hw'.out]
                have hO3 := hO2'.out
                have hk3 := hk2'.out
                generalize (Wc.setCell ⟨gx, 5, none⟩ (.int .i64 (clr R.r1.out j))).drew = W2 at *
                clear lx cx lc cc zc
                obtain ⟨lx, cx⟩ := cells_of hk3.x
                obtain ⟨l2, c2⟩ := cells_of hO3
                go_wp2_with (first | (go_at_call 62; with_reducible refine (c62x.out _).mono ?_; rintro e w3 ⟨sv2, rfl, hb1⟩; have hk4 := hk3.below hb1; obtain ⟨lx4, cx4⟩ := cells_of hk4.x))
                go_ret3
                cases hres'.out.symm.trans hfin.out
                exact ⟨rfl, hk4.bel⟩
        · obtain rfl : j = H := by omega
          have hall : Hid (∀ l : Int, 0 ≤ l → l < R.hours → frees R 1 l = false) := hid (fun l h0 h1 => htill.out l h0 (by omega))
          go_wp2
          go_roundw
          case rel => exact ⟨2, rfl, .inr (.inr ⟨rfl, hno0, hall⟩), hk⟩
          case measure => simp [intOf]
    · have hfin := hid (free_not hh hno0.out hno1.out)
      go_wp2
      go_ret3
      have := hres'.out.symm.trans hfin.out
      cases this
      exact ⟨rfl, hk.bel⟩

theorem refFree_any (R : Rest) (w : World) : Calls Try.prog 31 #[restV R] w fun e w' => e = .returned (.tuple #[.int .i64 (freeR R).1, .int .i64 (freeR R).2.1, .int .i64 (freeR R).2.2]) ∧ Below w.heap.size w w' := by
  cases hv : R.valid
  · have e : freeR R = (0, 0, 1) := by simp [freeR, hv]
    rw [e]; exact refFree_early R 1 1 (by simp [hv]) (.inr ⟨rfl, rfl⟩) w
  · cases hc : canB R R.hours
    · have e : freeR R = freeOf R := by simp [freeR, hv, hc]
      rw [e]; exact refFree_all R hv hc _ _ _ rfl w
    · have e : freeR R = (0, 0, 11) := by simp [freeR, hv, hc]
      rw [e]; exact refFree_early R 0 11 (by simp [hv, hc]) (.inl ⟨rfl, rfl⟩) w

end Go.Proofs.Ytkgdejhooghknaa

namespace Go.Proofs.Ytkgdejhooghknaa
open Go.RowKit Go.Lap Go.Shelf

theorem refHours_as {R : Rest} {r a b e : Int} (h : hoursR R r = ((a, b), e)) (w : World) : Calls Try.prog 27 #[restV R, .int .i64 r] w fun e' w' => e' = .returned (.tuple #[.agg #[.int .i64 a, .int .i64 b], .int .i64 e]) ∧ Below w.heap.size w w' := by
  have := refHours_any R r w
  rw [h] at this; exact this
theorem refMust_as {R : Rest} {a b e : Int} (h : mustR R = (a, b, e)) (w : World) : Calls Try.prog 29 #[restV R] w fun e' w' => e' = .returned (.tuple #[.int .i64 a, .int .i64 b, .int .i64 e]) ∧ Below w.heap.size w w' := by
  have := refMust_any R w
  rw [h] at this; exact this
theorem free_as {R : Rest} {a b e : Int} (h : freeR R = (a, b, e)) (w : World) : Calls Try.prog 30 #[restV R] w fun e' w' => e' = .returned (.tuple #[.int .i64 a, .int .i64 b, .int .i64 e]) ∧ Below w.heap.size w w' := by
  have := Free_any R w
  rw [h] at this; exact this
theorem refFree_as {R : Rest} {a b e : Int} (h : freeR R = (a, b, e)) (w : World) : Calls Try.prog 31 #[restV R] w fun e' w' => e' = .returned (.tuple #[.int .i64 a, .int .i64 b, .int .i64 e]) ∧ Below w.heap.size w w' := by
  have := refFree_any R w
  rw [h] at this; exact this

set_option maxRecDepth 100000 in
set_option maxHeartbeats 4000000 in
theorem restLooks_any (R : Rest) (r : Int) (w : World) : Calls Try.prog 5 #[restV R, .int .i64 r] w fun e w' => e = .returned (.bool true) ∧ Below w.heap.size w w' := by
  have hk := KeepR.start w R
  have c14 := hid awake_any
  have c13 := hid (fun w => long_any R 9 w)
  cases hb : (decide (9 < R.hours) && R.valid)
  · rw [hb] at c13
    obtain ⟨a0, a1, a2, ha⟩ : ∃ a0 a1 a2, hoursR R r = ((a0, a1), a2) := ⟨_, _, _, rfl⟩
    obtain ⟨m0, m1, m2, hm⟩ : ∃ m0 m1 m2, mustR R = (m0, m1, m2) := ⟨_, _, _, rfl⟩
    obtain ⟨f0, f1, f2, hf⟩ : ∃ f0 f1 f2, freeR R = (f0, f1, f2) := ⟨_, _, _, rfl⟩
    have c26 := hid (fun w => hours_as ha w)
    have c27 := hid (fun w => refHours_as ha w)
    have c28 := hid (fun w => must_as hm w)
    have c29 := hid (fun w => refMust_as hm w)
    have c30 := hid (fun w => free_as hf w)
    have c31 := hid (fun w => refFree_as hf w)
    clear ha hm hf
    have hsp := eq_span_true a0 a1
    clear hb
    go_enter Try.func5, Try.ntmps5
    go_wp2_with (first | (go_at_call 13; with_reducible refine (c13.out _).mono ?_; rintro e w1 ⟨rfl, hb1⟩; have hk := hk.below hb1; obtain ⟨lx, cx⟩ := cells_of hk.x) | (go_at_call 26; with_reducible refine (c26.out _).mono ?_; rintro e wa ⟨rfl, hb1⟩; have hk := hk.below hb1; obtain ⟨lx, cx⟩ := cells_of hk.x) | (go_at_call 27; with_reducible refine (c27.out _).mono ?_; rintro e wb ⟨rfl, hb1⟩; have hA0 := alloc_at (w := wa) (o := .cells #[.int .i64 a0, .int .i64 a1] 41) rfl; have hk := (hk.below (below_alloc (Below.refl wa.heap.size wa) (.cells #[.int .i64 a0, .int .i64 a1] 41))).below hb1; have hA := (hb1.block _ (cells_of hA0).1).trans hA0; obtain ⟨lA, cA⟩ := cells_of hA; obtain ⟨lx, cx⟩ := cells_of hk.x; clear hA0) | (go_at_call 28; with_reducible refine (c28.out _).mono ?_; rintro e wc ⟨rfl, hb1⟩; have hB0 := alloc_at (w := wb) (o := .cells #[.int .i64 a0, .int .i64 a1] 41) rfl; have hA0 := alloc_old (o := .cells #[.int .i64 a0, .int .i64 a1] 41) lA hA; have hk := (hk.below (below_alloc (Below.refl wb.heap.size wb) (.cells #[.int .i64 a0, .int .i64 a1] 41))).below hb1; have hB := (hb1.block _ (cells_of hB0).1).trans hB0; have hA := (hb1.block _ (cells_of hA0).1).trans hA0; obtain ⟨lA, cA⟩ := cells_of hA; obtain ⟨lB, cB⟩ := cells_of hB; obtain ⟨lx, cx⟩ := cells_of hk.x; clear hA0 hB0) | (go_at_call 29; with_reducible refine (c29.out _).mono ?_; rintro e w1 ⟨rfl, hb1⟩; have hk := hk.below hb1; obtain ⟨lx, cx⟩ := cells_of hk.x; have hA := (hb1.block _ (cells_of hA).1).trans hA; have hB := (hb1.block _ (cells_of hB).1).trans hB; obtain ⟨lA, cA⟩ := cells_of hA; obtain ⟨lB, cB⟩ := cells_of hB) | (go_at_call 30; with_reducible refine (c30.out _).mono ?_; rintro e w1 ⟨rfl, hb1⟩; have hk := hk.below hb1; obtain ⟨lx, cx⟩ := cells_of hk.x; have hA := (hb1.block _ (cells_of hA).1).trans hA; have hB := (hb1.block _ (cells_of hB).1).trans hB; obtain ⟨lA, cA⟩ := cells_of hA; obtain ⟨lB, cB⟩ := cells_of hB) | (go_at_call 31; with_reducible refine (c31.out _).mono ?_; rintro e w1 ⟨rfl, hb1⟩; have hk := hk.below hb1; obtain ⟨lx, cx⟩ := cells_of hk.x; have hA := (hb1.block _ (cells_of hA).1).trans hA; have hB := (hb1.block _ (cells_of hB).1).trans hB; obtain ⟨lA, cA⟩ := cells_of hA; obtain ⟨lB, cB⟩ := cells_of hB) | (go_at_call 14; with_reducible refine (c14.out _).mono ?_; rintro e w1 ⟨rfl, hb1⟩; have hk := hk.below hb1; obtain ⟨lx, cx⟩ := cells_of hk.x; have hA := (hb1.block _ (cells_of hA).1).trans hA; have hB := (hb1.block _ (cells_of hB).1).trans hB; obtain ⟨lA, cA⟩ := cells_of hA; obtain ⟨lB, cB⟩ := cells_of hB))
    go_ret
    exact ⟨rfl, hk.bel⟩
  · rw [hb] at c13
    clear hb
    go_enter Try.func5, Try.ntmps5
    go_wp2_with (first | (go_at_call 13; with_reducible refine (c13.out _).mono ?_; rintro e w1 ⟨rfl, hb1⟩; have hk := hk.below hb1; obtain ⟨lx, cx⟩ := cells_of hk.x) | (go_at_call 14; with_reducible refine (c14.out _).mono ?_; rintro e w1 ⟨rfl, hb1⟩; have hk := hk.below hb1; obtain ⟨lx, cx⟩ := cells_of hk.x))
    go_ret
    exact ⟨rfl, hk.bel⟩

end Go.Proofs.Ytkgdejhooghknaa
