/- The walk of 'made'. -/
import Derived.Test.YtcgkglonnmkfcaaR4
import Derived.BigRegion
import Derived.Deep.CutBlock
namespace Go.Proofs.Ytcgkglonnmkfcaa
open Go.RowKit Go.Lap Go.Shelf

/-- Rows of bytes. -/
def byteK : RowKind Try.prog Int where
  t := 42
  e := 5
  size := 1
  bytes := 1
  z := .int .u8 0
  enc := fun x => [.int .u8 x]
  ht := Try.underlying42
  hi := by kernel_rfl
  hzs := rfl
  hsz := by decide
  hb := by decide
  henc := fun _ => rfl
  hone := fun x u hu => by
    simp only [List.mem_cons, List.not_mem_nil, or_false] at hu
    rcases hu with rfl; rfl
/-- A slice of bytes lies so. -/
def BytesAt (w : World) (v : Value) (xs : List Int) : Prop := byteK.at w v xs ∧ (∀ x, x ∈ xs → 0 ≤ x ∧ x ≤ 255) ∧ xs.length ≤ 9223372036854775807
theorem BytesAt.below {w w' : World} {v : Value} {xs : List Int} (h : BytesAt w v xs) (hb : Below w.heap.size w w') : BytesAt w' v xs := ⟨h.1.below hb, h.2⟩
theorem bytes_cell {w : World} {a : Option Addr} {n cap : Nat} {xs : List Int} (h : BytesAt w (.slice a n cap) xs) {k : Nat} (hk : k < xs.length) : ∃ b off, a = some ⟨b, off, none⟩ ∧ w.cell? ⟨b, off + k, none⟩ = some (.int .u8 (xs.getD k 0)) := by
  obtain ⟨⟨a', cap', e, hc⟩, _⟩ := h
  injection e with e1 e2 e3
  subst e1
  obtain ⟨b, off, rfl, hq⟩ := hc (fun e => by rw [e] at hk; simp at hk)
  refine ⟨b, off, rfl, ?_⟩
  have h1 := hq k _ (List.getElem?_eq_getElem hk) 0 _ rfl
  have e1 : xs.getD k 0 = xs[k] := by rw [List.getD_eq_getElem?_getD, List.getElem?_eq_getElem hk]; rfl
  rw [e1]
  simpa [byteK] using h1

theorem get_someI {l : List Int} {q : Nat} (h : q < l.length) : l[q]? = some (l.getD q 0) := by rw [List.getD_eq_getElem?_getD, List.getElem?_eq_getElem h]; rfl
/-- Two elements change places. -/
def swapL (l : List Int) (i k : Nat) : List Int := (l.set i (l.getD k 0)).set k (l.getD i 0)
theorem swapL_length (l : List Int) (i k : Nat) : (swapL l i k).length = l.length := by simp [swapL]
theorem swapL_mem {l : List Int} {i k : Nat} (hi : i < l.length) (hk : k < l.length) {x : Int} (hx : x ∈ l) : x ∈ swapL l i k := by
  obtain ⟨j, hj, rfl⟩ := List.getElem_of_mem hx
  have ei : l.getD i 0 = l[i] := by simp [hi]
  have ek : l.getD k 0 = l[k] := by simp [hk]
  unfold swapL
  rw [ei, ek]
  by_cases h1 : j = i
  · subst h1
    exact List.mem_iff_getElem.2 ⟨k, by simpa using hk, by simp⟩
  · by_cases h2 : j = k
    · subst h2
      refine List.mem_iff_getElem.2 ⟨i, by simpa using hi, ?_⟩
      rw [List.getElem_set_ne (fun e => h1 e)]
      simp
    · refine List.mem_iff_getElem.2 ⟨j, by simpa using hj, ?_⟩
      rw [List.getElem_set_ne (fun e => h2 e.symm), List.getElem_set_ne (fun e => h1 e.symm)]
theorem swapL_ord {n : Nat} {l : List Int} {i k : Nat} (h : ordB n l = true) (hi : i < n) (hk : k < n) : ordB n (swapL l i k) = true := by
  obtain ⟨h1, h2⟩ := ordB_all.1 h
  exact ordB_all.2 ⟨fun j hj => swapL_mem (by omega) (by omega) (h1 j hj), by rw [swapL_length, h2]⟩
theorem range_ord (n : Nat) : ordB n (ints (List.range n)) = true := ordB_all.2 ⟨fun i hi => List.mem_map.2 ⟨i, List.mem_range.2 hi, rfl⟩, by simp [ints]⟩

set_option maxRecDepth 100000 in
set_option maxHeartbeats 4000000 in
theorem made_any (M : Mend) (hM : M.valid = true) (sv jv bv : Value) (bs : List Int) (w : World) (hS : IntsAt w sv M.setup) (hJ : JobsAt w jv M.jobs) (hB : BytesAt w bv bs) :
    Calls Try.prog 34 #[.agg #[sv, jv], bv] w fun e w' => ∃ v l, e = .returned v ∧ ordB M.jobs.length l = true ∧ intK.own w.heap.size w' v l ∧ Below w.heap.size w w' := by
  have hlen : M.jobs.length ≤ 6 := (Mend.valid_ok hM).len
  clear hM
  obtain ⟨sa, scap, rfl, _⟩ := hS
  obtain ⟨ja, jcap, rfl, _⟩ := hJ
  have hB' := hid hB
  obtain ⟨⟨ba, bcap, rfl, _⟩, _, hbl⟩ := hB
  have hbl' := hid hbl
  clear hbl
  have hm0 : (w.alloc (.cells #[.slice sa M.setup.length scap, .slice ja M.jobs.length jcap] 25)).heap[w.heap.size]? = some (.cells #[.slice sa M.setup.length scap, .slice ja M.jobs.length jcap] 25 (0, 0)) := alloc_at rfl
  have hb0 := below_alloc (Below.refl w.heap.size w) (.cells #[.slice sa M.setup.length scap, .slice ja M.jobs.length jcap] 25)
  have hz0 : w.heap.size ≤ (w.alloc (.cells #[.slice sa M.setup.length scap, .slice ja M.jobs.length jcap] 25)).heap.size := by simp
  go_enter Try.func34, Try.ntmps34
  go_upto_block 0 with fail
  generalize w.alloc (.cells #[.slice sa M.setup.length scap, .slice ja M.jobs.length jcap] 25) = w1 at hm0 hb0 hz0 ⊢
  obtain ⟨l0, c0⟩ := cells_of hm0
  have hlen' := hid hlen
  go_cut [5] from 6 to 19 (fun v wx => ∃ a cap, v = .slice a M.jobs.length cap ∧ intK.own w1.heap.size wx (.slice a M.jobs.length cap) (ints (List.range M.jobs.length)) ∧ Below w1.heap.size w1 wx)
  case first =>
    go_wp2
    go_loopw [5, 6, 12] (fun v _ i wr => ∃ k : Nat, k ≤ M.jobs.length ∧ i = .int .i64 k ∧ intK.own w1.heap.size wr v (ints (List.range k)) ∧ Below w1.heap.size w1 wr) (fun _ _ i _ => M.jobs.length - (intOf i).toNat)
    case atStart => exact ⟨0, by omega, rfl, intK.own_nil _ _, Below.refl _ _⟩
    case round =>
      obtain ⟨k, hkk, rfl, hrow, hbr⟩ := hrel
      have hrow' := hid hrow
      have hbr' := hid hbr
      by_cases hlt : k < M.jobs.length
      · have hki : (k : Int) < (M.jobs.length : Int) := by omega
        clear hrow hbr
        go_wp2_with (at_builtin; refine wpList_append_row intK rfl _ _ rfl w1.heap.size u5 (ints (List.range k)) [(k : Int)] rfl (hrow'.out.below (below_alloc (Below.refl _ _) _)) wr.heap.size 0 1 1 rfl rfl (row_one intK wr (k : Int) _ _ rfl) (by simp; omega) (by have := hbr'.out.size; simp; omega) ?_; intro v' w6 hown6 hb6 _)
        go_roundw
        case rel =>
          refine ⟨k + 1, by omega, by go_num, ?_, below_low hb6 (below_alloc hbr'.out _) (Nat.le_refl _)⟩
          rw [List.range_succ]
          simpa [ints] using hown6
        case measure => simp [intOf]; omega
      · obtain rfl : k = M.jobs.length := by omega
        clear hrow hbr
        go_wp2
        obtain ⟨a, cap, rfl, _⟩ := hrow'.out.at
        go_meet
        refine ⟨a, cap, by simp, by simpa using hrow'.out, hbr'.out⟩
  case rest =>
    obtain ⟨a, cap, rfl, hrow, hbr⟩ := hcut
    have hbw := hid (below_low hbr hb0 hz0)
    have hrow' := hid hrow
    clear hrow
    have hbr0 := hid hbr
    clear hbr
    go_wp2
    go_loopw [7, 8, 22] (fun _ _ i wr => ∃ k : Nat, k ≤ M.jobs.length ∧ i = .int .i64 k ∧ Hid (∃ l, ordB M.jobs.length l = true ∧ intK.own w1.heap.size wr (.slice a M.jobs.length cap) l) ∧ Below w1.heap.size w1 wr) (fun _ _ i _ => M.jobs.length - (intOf i).toNat)
    case atStart => exact ⟨0, by omega, rfl, hid ⟨_, range_ord _, hrow'.out⟩, hbr0.out⟩
    case round =>
      obtain ⟨k, hkk, rfl, hl, hbr⟩ := hrel
      by_cases hlt : k < M.jobs.length
      · have hki : (k : Int) < (M.jobs.length : Int) := by omega
        by_cases hb : bs.length = 0
        · have hbi : (bs.length : Int) = 0 := by omega
          have hb' := hid hb
          clear hb
          go_wp2
          go_roundw
          case rel => exact ⟨k + 1, by omega, by go_num, hl, hbr⟩
          case measure => simp [intOf]; omega
        · have hbi : ¬ (bs.length : Int) = 0 := by omega
          have hbp : (0 : Int) < (bs.length : Int) := by omega
          obtain ⟨bb, bo, rfl, hbc⟩ := bytes_cell (hB'.out.below (below_low hbr hb0 hz0)) (k := k % bs.length) (Nat.mod_lt _ (by omega))
          obtain ⟨y, hy⟩ : ∃ y, bs.getD (k % bs.length) 0 = y := ⟨_, rfl⟩
          have hyb : 0 ≤ y ∧ y ≤ 255 := by
            rw [← hy]
            have hm : k % bs.length < bs.length := Nat.mod_lt _ (by omega)
            have : bs.getD (k % bs.length) 0 ∈ bs := by
              rw [List.getD_eq_getElem?_getD, List.getElem?_eq_getElem hm]
              exact List.getElem_mem _
            exact hB'.out.2.1 _ this
          rw [hy] at hbc
          have hy' := hid hy
          clear hy
          have hlen6 := hlen'.out
          obtain ⟨r, hr⟩ : ∃ r : Nat, k % bs.length = r := ⟨_, rfl⟩
          have hrl : (r : Int) < (bs.length : Int) := by have := Nat.mod_lt k (show 0 < bs.length by omega); omega
          have ht1 : (k : Int).tmod (bs.length : Int) = (r : Int) := by rw [← hr, Int.tmod_eq_emod_of_nonneg (by omega)]; omega
          rw [hr] at hbc
          have ht2 : y.tmod ((M.jobs.length : Int) - k) = y % ((M.jobs.length : Int) - k) := Int.tmod_eq_emod_of_nonneg hyb.1
          have ht3 := Int.emod_nonneg y (show (M.jobs.length : Int) - k ≠ 0 by omega)
          have ht4 := Int.emod_lt_of_pos y (show (0 : Int) < (M.jobs.length : Int) - k by omega)
          obtain ⟨z, hz⟩ : ∃ z, y % ((M.jobs.length : Int) - k) = z := ⟨_, rfl⟩
          rw [hz] at ht2 ht3 ht4
          obtain ⟨q, hq⟩ : ∃ q : Nat, (k : Int) + z = q := ⟨((k : Int) + z).toNat, by omega⟩
          have hqn : q < M.jobs.length := by omega
          have hqi : (q : Int) < (M.jobs.length : Int) := by omega
          have hw1 : IntKind.i64.wrap ((M.jobs.length : Int) - k) = (M.jobs.length : Int) - k := IntWalk.i64_in _ (by omega)
          have hw2 : IntKind.i64.wrap ((k : Int) + z) = (q : Int) := by rw [hq]; exact IntWalk.i64_in _ (by omega)
          have hw3 : IntKind.i64.wrap y = y := IntWalk.i64_in _ (by omega)
          have hnk : ¬ (M.jobs.length : Int) - k = 0 := by omega
          clear hr hz hy'
          go_upto_region 12 with fail
          obtain ⟨l, hl1, hl2⟩ := hl.out
          have hll : l.length = M.jobs.length := (ordB_all.1 hl1).2
          obtain ⟨g, cap', cur, e, hBg, hg, hc⟩ := hl2.block (fun e => by rw [e] at hll; simp at hll; omega)
          injection e with e1 e2 e3
          subst e1
          clear e2 e3
          have hk' : l[k]? = some (l.getD k 0) := by rw [List.getD_eq_getElem?_getD, List.getElem?_eq_getElem (by omega)]; rfl
          have hq' : l[q]? = some (l.getD q 0) := by rw [List.getD_eq_getElem?_getD, List.getElem?_eq_getElem (by omega)]; rfl
          have hck : wr.cell? ⟨g, k, none⟩ = some (.int .i64 (l.getD k 0)) := by simpa [intK] using hc k _ hk' 0 _ rfl
          have hcq : wr.cell? ⟨g, q, none⟩ = some (.int .i64 (l.getD q 0)) := by simpa [intK] using hc q _ hq' 0 _ rfl
          have lg := (cells_of hg).1
          have zg := free_of hg
          have hgs : ∀ x, ∃ u, (wr.setCell ⟨g, k, none⟩ x).cell? ⟨g, q, none⟩ = some u := fun x => by
            have h1 := (cells_of (heap_set_at (o := k) (v := x) hg)).2 q
            have h2 := (cells_of hg).2 q
            rw [hcq] at h2
            obtain ⟨hlt2, _⟩ := Array.getElem?_eq_some_iff.1 h2.symm
            exact ⟨_, h1.trans (Array.getElem?_eq_getElem (by simpa using hlt2))⟩
          have hown := hid hl2
          have hord := hid hl1
          have hbr' := hid hbr
          have hBg' := hid hBg
          have hkk' := hid hk'
          have hqq' := hid hq'
          have hhl := hid hll
          have hqq := hid hq
          clear hc hl hl2 hl1 hbr hBg hg hk' hq' hll hbc hyb hq ht1 ht2 ht3 ht4 hw1 hw2 hw3 hnk
          obtain ⟨xk, hxk⟩ : ∃ x, l.getD k 0 = x := ⟨_, rfl⟩
          obtain ⟨xq, hxq⟩ : ∃ x, l.getD q 0 = x := ⟨_, rfl⟩
          rw [hxk] at hck
          rw [hxq] at hcq
          have hxk' := hid hxk
          have hxq' := hid hxq
          clear hxk hxq
          have hkn : (k : Int).toNat = k := by omega
          have hqn2 : (q : Int).toNat = q := by omega
          obtain ⟨uq, huq⟩ := hgs (.int .i64 xq)
          clear hgs
          go_region
          go_wp2
          go_roundw
          case rel =>
            have h1 := hown.out.put (k := k) (f := 0) (x := l.getD k 0) (x' := l.getD q 0) (u := .int .i64 xq) hkk'.out (show 0 < 1 by decide) (by rw [hxq'.out]; rfl)
            have h2 := h1.put (k := q) (f := 0) (x := (l.set k (l.getD q 0)).getD q 0) (x' := l.getD k 0) (u := .int .i64 xk) (get_someI (by have := hhl.out; simp; omega)) (show 0 < 1 by decide) (by rw [hxk'.out]; rfl)
            refine ⟨k + 1, by omega, by go_num, hid ⟨swapL l k q, swapL_ord hord.out (by omega) (by omega), ?_⟩, ?_⟩
            · have e1 : k * intK.size + 0 = k := by simp [intK]
              have e2 : q * intK.size + 0 = q := by simp [intK]
              rw [e1, e2] at h2
              exact h2
            · exact ((hbr'.out.setCell hBg'.out _).setCell hBg'.out _).drew
          case measure => simp [intOf]; omega
      · obtain rfl : k = M.jobs.length := by omega
        go_wp2
        go_ret
        obtain ⟨l, hl1, hl2⟩ := hl.out
        exact ⟨_, l, rfl, hl1, hl2.low hz0, below_low hbr hb0 hz0⟩

end Go.Proofs.Ytcgkglonnmkfcaa
