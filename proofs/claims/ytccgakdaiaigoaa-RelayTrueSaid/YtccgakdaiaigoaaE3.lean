/- The law's free, walked. -/
import Derived.Test.YtccgakdaiaigoaaKS
import Derived.Test.YtccgakdaiaigoaaPS
import Derived.Test.YtccgakdaiaigoaaGG
import Derived.Test.YtccgakdaiaigoaaGK
import Derived.Test.YtccgakdaiaigoaaGR
namespace Go.Proofs.Ytccgakdaiaigoaa
open Go.RowKit Go.Lap Go.Shelf

theorem enc_put_lo (s : Stint) {q : Nat} (hq : q < 4) (x : Int) : stK.enc (s.put q (x, (s.said q).2)) = (stK.enc s).set (1 + 2 * q) (.int .i64 x) := by
  rcases (by omega : q = 0 ∨ q = 1 ∨ q = 2 ∨ q = 3) with rfl | rfl | rfl | rfl <;> rfl
theorem enc_put_hi (s : Stint) {q : Nat} (hq : q < 4) (x z y : Int) : stK.enc (s.put q (x, y)) = (stK.enc (s.put q (x, z))).set (2 + 2 * q) (.int .i64 y) := by
  rcases (by omega : q = 0 ∨ q = 1 ∨ q = 2 ∨ q = 3) with rfl | rfl | rfl | rfl <;> rfl
theorem st_get {r : Rel} {k : Nat} (hk : k < r.n) : r.stints[k]? = some (r.st k) := by
  simp only [Rel.st, List.getD_eq_getElem?_getD, List.getElem?_eq_getElem hk]; rfl
/-- One entry written in memory. -/
theorem own_put {B g n cap : Nat} {W : World} {r : Rel} (h : stK.own B W (.slice (some ⟨g, 0, none⟩) n cap) r.stints) {e : Nat} (he : e < 4 * r.n) (x y : Int) :
    stK.own B ((W.setCell ⟨g, e / 4 * 9 + (1 + 2 * (e % 4)), none⟩ (.int .i64 x)).setCell ⟨g, e / 4 * 9 + (2 + 2 * (e % 4)), none⟩ (.int .i64 y)) (.slice (some ⟨g, 0, none⟩) n cap) (r.put e (x, y)).stints := by
  have hq : e % 4 < 4 := Nat.mod_lt _ (by decide)
  have hk : e / 4 < r.n := by omega
  have h1 := h.put (st_get hk) (f := 1 + 2 * (e % 4)) (by show _ < 9; omega) (enc_put_lo (r.st (e / 4)) hq x)
  have h2 := h1.put (k := e / 4) (x := (r.st (e / 4)).put (e % 4) (x, ((r.st (e / 4)).said (e % 4)).2)) (by rw [List.getElem?_set_self (by exact hk)]) (f := 2 + 2 * (e % 4)) (by show _ < 9; omega) (enc_put_hi (r.st (e / 4)) hq x _ y)
  rw [List.set_set] at h2
  exact h2
theorem own_lt {B g n cap : Nat} {W : World} {xs : List Stint} (h : stK.own B W (.slice (some ⟨g, 0, none⟩) n cap) xs) (hne : xs ≠ []) : B ≤ g ∧ g < W.heap.size := by
  obtain ⟨g', e, hB, hg, _⟩ := own_cells h hne
  cases e
  exact ⟨hB, hg⟩

theorem three_kept {w W : World} {c0 c1 c2 : Array Value} {t0 t1 t2 : TypeId} {a b c : Nat} (h : w.heap[a]? = some (.cells c0 t0 (0, 0)) ∧ w.heap[b]? = some (.cells c1 t1 (0, 0)) ∧ w.heap[c]? = some (.cells c2 t2 (0, 0))) (hb : Below w.heap.size w W) : W.heap[a]? = some (.cells c0 t0 (0, 0)) ∧ W.heap[b]? = some (.cells c1 t1 (0, 0)) ∧ W.heap[c]? = some (.cells c2 t2 (0, 0)) :=
  ⟨(hb.block _ (cells_of h.1).1).trans h.1, (hb.block _ (cells_of h.2.1).1).trans h.2.1, (hb.block _ (cells_of h.2.2).1).trans h.2.2⟩
theorem own_two {B g n cap : Nat} {W : World} {r : Rel} (h : stK.own B W (.slice (some ⟨g, 0, none⟩) n cap) r.stints) {e : Nat} (he : e < 4 * r.n) : g < W.heap.size ∧ (∀ o, W.frozen? ⟨g, o, none⟩ = false) ∧ ∃ x y, W.cell? ⟨g, e / 4 * 9 + (1 + 2 * (e % 4)), none⟩ = some x ∧ W.cell? ⟨g, e / 4 * 9 + (2 + 2 * (e % 4)), none⟩ = some y := by
  have hk : e / 4 < r.n := by omega
  obtain ⟨g', e', hB, hg, hz, hc⟩ := own_cells h (fun e2 => by have : r.stints.length = r.n := rfl; rw [e2] at this; simp at this; omega)
  cases e'
  have hq : e % 4 < 4 := Nat.mod_lt _ (by decide)
  refine ⟨hg, hz, _, _, hc (e / 4) _ (st_get hk) (1 + 2 * (e % 4)) _ (stK_get _ (by omega)), hc (e / 4) _ (st_get hk) (2 + 2 * (e % 4)) _ (stK_get _ (by omega))⟩
theorem three_far {W : World} {c0 c1 c2 : Array Value} {t0 t1 t2 : TypeId} {b B g o : Nat} {v : Value} (h : W.heap[b]? = some (.cells c0 t0 (0, 0)) ∧ W.heap[b + 1]? = some (.cells c1 t1 (0, 0)) ∧ W.heap[b + 2]? = some (.cells c2 t2 (0, 0))) (hB : b + 2 < B) (hg : B ≤ g) : (W.setCell ⟨g, o, none⟩ v).heap[b]? = some (.cells c0 t0 (0, 0)) ∧ (W.setCell ⟨g, o, none⟩ v).heap[b + 1]? = some (.cells c1 t1 (0, 0)) ∧ (W.setCell ⟨g, o, none⟩ v).heap[b + 2]? = some (.cells c2 t2 (0, 0)) :=
  ⟨(Below.heap_setCell W ⟨g, o, none⟩ v _ (show b ≠ g by omega)).trans h.1, (Below.heap_setCell W ⟨g, o, none⟩ v _ (show b + 1 ≠ g by omega)).trans h.2.1, (Below.heap_setCell W ⟨g, o, none⟩ v _ (show b + 2 ≠ g by omega)).trans h.2.2⟩
theorem set_second {W : World} {c0 c1 c2 : Array Value} {t0 t1 t2 : TypeId} {a b c o : Nat} {v : Value} (h : W.heap[a]? = some (.cells c0 t0 (0, 0)) ∧ W.heap[b]? = some (.cells c1 t1 (0, 0)) ∧ W.heap[c]? = some (.cells c2 t2 (0, 0))) : (W.setCell ⟨b, o, none⟩ v).heap[b]? = some (.cells (c1.setIfInBounds o v) t1 (0, 0)) := heap_set_same h.2.1
theorem bit_int (S k : Nat) : ((S : Int) / 2 ^ k % 2 == 0) = !S.testBit k := by
  have h := shr_bit2 (x := (S : Int)) (by omega) k
  rw [Int.toNat_natCast] at h
  rw [h]
  cases S.testBit k <;> rfl
theorem set_third {W : World} {c0 c1 c2 : Array Value} {t0 t1 t2 : TypeId} {a b c o : Nat} {v : Value} (h : W.heap[a]? = some (.cells c0 t0 (0, 0)) ∧ W.heap[b]? = some (.cells c1 t1 (0, 0)) ∧ W.heap[c]? = some (.cells c2 t2 (0, 0))) (ha : a ≠ c) (hb : b ≠ c) : (W.setCell ⟨c, o, none⟩ v).heap[a]? = some (.cells c0 t0 (0, 0)) ∧ (W.setCell ⟨c, o, none⟩ v).heap[b]? = some (.cells c1 t1 (0, 0)) ∧ (W.setCell ⟨c, o, none⟩ v).heap[c]? = some (.cells (c2.setIfInBounds o v) t2 (0, 0)) :=
  ⟨(Below.heap_setCell W ⟨c, o, none⟩ v a ha).trans h.1, (Below.heap_setCell W ⟨c, o, none⟩ v b hb).trans h.2.1, heap_set_same h.2.2⟩
set_option maxRecDepth 100000 in
set_option maxHeartbeats 4000000 in
theorem wide_any (r : Rel) (hn : r.n ≤ 5) (S : Nat) (_hS64 : S < 2 ^ 62) (sv : Value) (hN : NilOk sv) (w : World) (hS : StintsAt w sv r.stints) : Calls Try.prog 38 #[relV r sv, .int .i64 S] w fun e w' => ∃ sv', e = .returned (relV (r.wide S) sv') ∧ StintsAt w' sv' (r.wide S).stints ∧ NilOk sv' ∧ Below w.heap.size w w' := by
  obtain ⟨sa, scap, rfl, hs0⟩ := id hS
  clear hs0
  have hS' := hid (stints_at.2 hS)
  have hN' := hid hN
  have hn' := hid hn
  clear hS hN hn
  have hlen0 := hid (show ([] : List Stint).length + r.stints.length ≤ 1000 by have := hn'.out; have : r.stints.length = r.n := rfl; simp; omega)
  go_enter Try.func38, Try.ntmps38
  go_upto_region 2 with fail
  have hm : (((w.alloc (.cells #[.int .i64 r.rest, .slice sa r.stints.length scap] 24)).alloc (.cells #[.int .i64 0, .slice none 0 0] 24)).alloc (.cells #[.int .i64 r.rest, .slice sa r.stints.length scap] 24)).heap[w.heap.size]? = some (.cells #[.int .i64 r.rest, .slice sa r.stints.length scap] 24 (0, 0)) ∧ (((w.alloc (.cells #[.int .i64 r.rest, .slice sa r.stints.length scap] 24)).alloc (.cells #[.int .i64 0, .slice none 0 0] 24)).alloc (.cells #[.int .i64 r.rest, .slice sa r.stints.length scap] 24)).heap[w.heap.size + 1]? = some (.cells #[.int .i64 0, .slice none 0 0] 24 (0, 0)) ∧ (((w.alloc (.cells #[.int .i64 r.rest, .slice sa r.stints.length scap] 24)).alloc (.cells #[.int .i64 0, .slice none 0 0] 24)).alloc (.cells #[.int .i64 r.rest, .slice sa r.stints.length scap] 24)).heap[w.heap.size + 2]? = some (.cells #[.int .i64 r.rest, .slice sa r.stints.length scap] 24 (0, 0)) := ⟨alloc_old (by simp <;> omega) (alloc_old (by simp) (alloc_at rfl)), alloc_old (by simp) (alloc_at (by simp)), alloc_at (by simp)⟩
  have hb0 := hid (below_alloc (below_alloc (below_alloc (Below.refl _ w) (.cells #[.int .i64 r.rest, .slice sa r.stints.length scap] 24)) (.cells #[.int .i64 0, .slice none 0 0] 24)) (.cells #[.int .i64 r.rest, .slice sa r.stints.length scap] 24))
  generalize ((w.alloc (.cells #[.int .i64 r.rest, .slice sa r.stints.length scap] 24)).alloc (.cells #[.int .i64 0, .slice none 0 0] 24)).alloc (.cells #[.int .i64 r.rest, .slice sa r.stints.length scap] 24) = w1 at hm hb0 ⊢
  replace hm := hid hm
  have l1 := (cells_of hm.out.1).1
  have c1 := (cells_of hm.out.1).2
  have l2 := (cells_of hm.out.2.2).1
  have c2 := (cells_of hm.out.2.2).2
  go_upto_region 3 with (at_builtin; go_loud (refine wpList_append_row_arg stK rfl _ _ rfl w1.heap.size (.slice (some ⟨w1.heap.size, 0, none⟩) 0 0) [] r.stints rfl (stK.own_made (Nat.le_refl _)) (.slice sa r.stints.length scap) rfl (hS'.out.below (below_alloc hb0.out _)) hN'.out hlen0.out (by simp) ?_); intro v1 w2 hown1 hb1; rw [List.nil_append] at hown1; obtain ⟨a1, cap1, rfl, _⟩ := id hown1.at; replace hown1 := hid hown1; have hbk := (below_alloc (Below.refl _ w1) _).trans hb1; replace hm := hid (three_kept hm.out hbk); have l3 := (cells_of hm.out.1).1; have c3 := (cells_of hm.out.1).2; have l4 := (cells_of hm.out.2.2).1; have c4 := (cells_of hm.out.2.2).2; have z4 := free_of hm.out.2.2)
  have hset := hid (show _ ∧ _ ∧ _ from set_third hm.out (o := 1) (v := .slice a1 r.stints.length cap1) (show w.heap.size ≠ w.heap.size + 2 by omega) (show w.heap.size + 1 ≠ w.heap.size + 2 by omega))
  simp only [List.setIfInBounds_toArray, List.set_cons_succ, List.set_cons_zero] at hset
  replace hown1 := hid (hown1.out.set (b := w.heap.size + 2) (o := 1) (u := .slice a1 r.stints.length cap1) l2)
  have hlow := hid (show w.heap.size ≤ w1.heap.size from hb0.out.size)
  replace hb0 := hid (below_set (p := ⟨w.heap.size + 2, 1, none⟩) (hb0.out.trans (hbk.mono hb0.out.size)) (.slice a1 r.stints.length cap1) (show w.heap.size ≤ w.heap.size + 2 by omega))
  clear hbk hb1 l1 c1 c2 l3 c3 l4 c4 z4 hm
  generalize w2.setCell ⟨w.heap.size + 2, 1, none⟩ (.slice a1 r.stints.length cap1) = w3 at hset hown1 hb0 ⊢
  have hB1 := hid l2
  generalize w1.heap.size = B at hown1 hlow hB1 ⊢
  have l1 := (cells_of hset.out.1).1
  have c1 := (cells_of hset.out.1).2
  have hni : (r.stints.length : Int) ≤ 5 := by have := hn'.out; have : r.stints.length = r.n := rfl; omega
  go_wp2
  clear l1 c1
  go_loopw [6, 7, 18] (fun _ _ i wr => ∃ k : Nat, k ≤ 4 * r.stints.length ∧ i = .int .i64 k ∧ Hid (stK.own B wr (.slice a1 r.stints.length cap1) (r.wideTo S k).stints) ∧ Hid (Below w.heap.size w wr) ∧ Hid (wr.heap[w.heap.size]? = some (.cells #[.int .i64 r.rest, .slice sa r.stints.length scap] 24 (0, 0)) ∧ wr.heap[w.heap.size + 1]? = some (.cells #[.int .i64 0, .slice none 0 0] 24 (0, 0)) ∧ wr.heap[w.heap.size + 2]? = some (.cells #[.int .i64 r.rest, .slice a1 r.stints.length cap1] 24 (0, 0)))) (fun _ _ i _ => 4 * r.stints.length - (intOf i).toNat)
  case atStart => exact ⟨0, by omega, rfl, hown1, hb0, hset⟩
  case round =>
    obtain ⟨k, hk, rfl, hown, hb, hm⟩ := hrel
    clear hown1 hb0 hset
    have l1 := (cells_of hm.out.1).1
    have c1 := (cells_of hm.out.1).2
    have l2 := (cells_of hm.out.2.2).1
    have c2 := (cells_of hm.out.2.2).2
    have z1 := free_of hm.out.2.1
    have l5 := (cells_of hm.out.2.1).1
    have c5 := (cells_of hm.out.2.1).2
    by_cases hlt : k < 4 * r.stints.length
    · have hki : (k : Int) < 4 * (r.stints.length : Int) := by omega
      have hk6 : (k : Int) < 20 := by omega
      have hkn := hid (show k < 20 by omega)
      cases hbt : S.testBit k
      · have hbz := bit_int S k
        rw [hbt] at hbz
        simp only [Bool.not_false] at hbz
        go_wp2
        clear hbz
        go_roundw
        case rel => exact ⟨k + 1, by omega, by go_num, hid (by rw [Rel.wideTo, hbt]; exact hown.out), hb, hm⟩
        case measure => simp [intOf]; omega
      · have hbz := bit_int S k
        rw [hbt] at hbz
        simp only [Bool.not_true] at hbz
        replace hbt := hid hbt
        have hnn := hid (show (r.wideTo S k).n = r.n from (wideTo_spec r S k (by have : r.stints.length = r.n := rfl; omega)).1.n)
        obtain ⟨g, rfl, hBg, hgl, hfz, hcl⟩ := own_cells hown.out (fun e => by have h2 := hnn.out; have : (r.wideTo S k).stints.length = (r.wideTo S k).n := rfl; rw [e] at this; simp at this; have : r.stints.length = r.n := rfl; omega)
        replace hfz := hid hfz
        replace hcl := hid hcl
        by_cases hev : k / 2 % 2 = 0
        · have hevi : ((k : Int) / 2 % 2 == 0) = true := by rw [beq_iff_eq]; omega
          go_upto_region 9 with fail
          refine wp_region_held_at (S := fun _ => True) (by kernel_rfl) ?_
          intro w4 hw4 hw4e
          replace hm := hid (three_kept hm.out hw4)
          replace hb := hid (below_via hw4 hb.out)
          replace hown := hid (hown.out.below hw4)
          clear l1 c1 l2 c2 z1 l5 c5 hfz hcl hgl
          clear hw4 hw4e
          have htm : (k : Int).tmod 2 = (k : Int) % 2 := Int.tmod_eq_emod_of_nonneg (by omega)
          have ht1 : 0 ≤ (k : Int) % 2 := by omega
          have ht2 : (k : Int) % 2 < 2 := by omega
          have ht3 : ((k : Int) % 2).toNat = k % 2 := by omega
          try simp only [Array.replicate]
          refine wpAnyH_quiet (i := 0) (v := .pointer (some ⟨g, k / 4 * 9, none⟩)) rfl (by kernel_rfl) (by kernel_rfl) (by kernel_rfl) (fun _ _ _ h => h) rfl (fun W hW => by go_simp) trivial ?_
          refine wpAnyH_quiet (i := 1) (v := .int .i64 k) rfl (by kernel_rfl) (by kernel_rfl) (by kernel_rfl) (fun _ _ _ h => h) rfl (fun W hW => by go_simp) trivial ?_
          refine wpAnyH_quiet (i := 2) (v := .int .i64 ((k : Int) % 2)) rfl (by kernel_rfl) (by kernel_rfl) (by kernel_rfl) (fun _ _ _ h => h) rfl (fun W hW => by go_simp) trivial ?_
          refine wpAnyH_quiet (i := 4) (v := .pointer (some ⟨g, k / 4 * 9, none⟩)) rfl (by kernel_rfl) (by kernel_rfl) (by kernel_rfl) (fun _ _ _ h => h) rfl (fun W hW => by go_simp) trivial ?_
          refine wpAnyH_quiet (i := 5) (v := .pointer (some ⟨g, k / 4 * 9 + 1, none⟩)) rfl (by kernel_rfl) (by kernel_rfl) (by kernel_rfl) (fun _ _ _ h => h) rfl (fun W hW => by go_simp) trivial ?_
          try simp only [Act.put, List.setIfInBounds_toArray]
          refine wpAnyH_step (i := 3) (by kernel_rfl) rfl ?_
          go_wp2_with (go_at_call 34; with_reducible refine (lspan_any _ _ _).mono ?_; rintro e w5 ⟨rfl, hb5⟩; replace hm := hid (three_kept hm.out hb5); replace hb := hid (below_via hb5 hb.out); replace hown := hid (hown.out.below hb5); clear hb5)
          refine ⟨trivial, ?_⟩
          refine wpAnyH_quiet (i := 6) (v := .pointer (some ⟨g, k / 4 * 9 + 1 + k % 2 * 2, none⟩)) rfl (by kernel_rfl) (by kernel_rfl) (by kernel_rfl) (fun _ _ _ h => h) rfl (fun W hW => by go_simp) trivial ?_
          obtain ⟨hgl, hfz, x1, x2, h1, h2⟩ := own_two hown.out (e := k) (by rw [hnn.out]; exact hlt)
          rw [show k / 4 * 9 + (1 + 2 * (k % 4)) = k / 4 * 9 + 1 + k % 2 * 2 by omega] at h1
          rw [show k / 4 * 9 + (2 + 2 * (k % 4)) = k / 4 * 9 + 1 + k % 2 * 2 + 1 by omega] at h2
          have hfz1 := hfz (k / 4 * 9 + 1 + k % 2 * 2)
          have hfz2 := hfz (k / 4 * 9 + 1 + k % 2 * 2 + 1)
          have hput := hid (own_put hown.out (e := k) (by rw [hnn.out]; exact hlt) 0 600)
          rw [show k / 4 * 9 + (1 + 2 * (k % 4)) = k / 4 * 9 + 1 + k % 2 * 2 by omega, show k / 4 * 9 + (2 + 2 * (k % 4)) = k / 4 * 9 + 1 + k % 2 * 2 + 1 by omega] at hput
          have hgw := hid (show w.heap.size ≤ g from Nat.le_trans hlow.out hBg)
          have hb6 := hid (below_set (p := ⟨g, k / 4 * 9 + 1 + k % 2 * 2 + 1, none⟩) (below_set (p := ⟨g, k / 4 * 9 + 1 + k % 2 * 2, none⟩) hb.out (.int .i64 0) hgw.out) (.int .i64 600) hgw.out)
          have hm6 := hid (three_far (o := k / 4 * 9 + 1 + k % 2 * 2 + 1) (v := .int .i64 600) (three_far (o := k / 4 * 9 + 1 + k % 2 * 2) (v := .int .i64 0) hm.out hB1.out hBg) hB1.out hBg)
          clear hfz
          refine wpAnyH_step (i := 7) (by kernel_rfl) rfl ?_
          go_wp2
          refine ⟨trivial, ?_⟩
          refine wpAnyH_done (by kernel_rfl) ?_ _
          try simp only [Act.put, List.setIfInBounds_toArray]
          generalize (w5.setCell ⟨g, k / 4 * 9 + 1 + k % 2 * 2, none⟩ (.int .i64 0)).setCell ⟨g, k / 4 * 9 + 1 + k % 2 * 2 + 1, none⟩ (.int .i64 600) = w6 at hput hb6 hm6 ⊢
          clear hgl h1 h2 hfz1 hfz2 htm ht1 ht2 ht3 hevi hbz hown hb hm
          go_wp2
          go_roundw
          case rel => exact ⟨k + 1, by omega, by go_num, hid (by rw [Rel.wideTo, hbt.out]; exact hput.out), hb6, hm6⟩
          case measure => simp [intOf]; omega
        · have hevi : ((k : Int) / 2 % 2 == 0) = false := by rw [beq_eq_false_iff_ne]; omega
          go_upto_region 10 with fail
          refine wp_region_held_at (S := fun _ => True) (by kernel_rfl) ?_
          intro w4 hw4 hw4e
          replace hm := hid (three_kept hm.out hw4)
          replace hb := hid (below_via hw4 hb.out)
          replace hown := hid (hown.out.below hw4)
          clear l1 c1 l2 c2 z1 l5 c5 hfz hcl hgl
          clear hw4 hw4e
          have htm : (k : Int).tmod 2 = (k : Int) % 2 := Int.tmod_eq_emod_of_nonneg (by omega)
          have ht1 : 0 ≤ (k : Int) % 2 := by omega
          have ht2 : (k : Int) % 2 < 2 := by omega
          have ht3 : ((k : Int) % 2).toNat = k % 2 := by omega
          try simp only [Array.replicate]
          refine wpAnyH_quiet (i := 0) (v := .pointer (some ⟨g, k / 4 * 9, none⟩)) rfl (by kernel_rfl) (by kernel_rfl) (by kernel_rfl) (fun _ _ _ h => h) rfl (fun W hW => by go_simp) trivial ?_
          refine wpAnyH_quiet (i := 1) (v := .int .i64 k) rfl (by kernel_rfl) (by kernel_rfl) (by kernel_rfl) (fun _ _ _ h => h) rfl (fun W hW => by go_simp) trivial ?_
          refine wpAnyH_quiet (i := 2) (v := .int .i64 ((k : Int) % 2)) rfl (by kernel_rfl) (by kernel_rfl) (by kernel_rfl) (fun _ _ _ h => h) rfl (fun W hW => by go_simp) trivial ?_
          refine wpAnyH_quiet (i := 4) (v := .pointer (some ⟨g, k / 4 * 9, none⟩)) rfl (by kernel_rfl) (by kernel_rfl) (by kernel_rfl) (fun _ _ _ h => h) rfl (fun W hW => by go_simp) trivial ?_
          refine wpAnyH_quiet (i := 5) (v := .pointer (some ⟨g, k / 4 * 9 + 5, none⟩)) rfl (by kernel_rfl) (by kernel_rfl) (by kernel_rfl) (fun _ _ _ h => h) rfl (fun W hW => by go_simp) trivial ?_
          try simp only [Act.put, List.setIfInBounds_toArray]
          refine wpAnyH_step (i := 3) (by kernel_rfl) rfl ?_
          go_wp2_with (go_at_call 34; with_reducible refine (lspan_any _ _ _).mono ?_; rintro e w5 ⟨rfl, hb5⟩; replace hm := hid (three_kept hm.out hb5); replace hb := hid (below_via hb5 hb.out); replace hown := hid (hown.out.below hb5); clear hb5)
          refine ⟨trivial, ?_⟩
          refine wpAnyH_quiet (i := 6) (v := .pointer (some ⟨g, k / 4 * 9 + 5 + k % 2 * 2, none⟩)) rfl (by kernel_rfl) (by kernel_rfl) (by kernel_rfl) (fun _ _ _ h => h) rfl (fun W hW => by go_simp) trivial ?_
          obtain ⟨hgl, hfz, x1, x2, h1, h2⟩ := own_two hown.out (e := k) (by rw [hnn.out]; exact hlt)
          rw [show k / 4 * 9 + (1 + 2 * (k % 4)) = k / 4 * 9 + 5 + k % 2 * 2 by omega] at h1
          rw [show k / 4 * 9 + (2 + 2 * (k % 4)) = k / 4 * 9 + 5 + k % 2 * 2 + 1 by omega] at h2
          have hfz1 := hfz (k / 4 * 9 + 5 + k % 2 * 2)
          have hfz2 := hfz (k / 4 * 9 + 5 + k % 2 * 2 + 1)
          have hput := hid (own_put hown.out (e := k) (by rw [hnn.out]; exact hlt) 0 600)
          rw [show k / 4 * 9 + (1 + 2 * (k % 4)) = k / 4 * 9 + 5 + k % 2 * 2 by omega, show k / 4 * 9 + (2 + 2 * (k % 4)) = k / 4 * 9 + 5 + k % 2 * 2 + 1 by omega] at hput
          have hgw := hid (show w.heap.size ≤ g from Nat.le_trans hlow.out hBg)
          have hb6 := hid (below_set (p := ⟨g, k / 4 * 9 + 5 + k % 2 * 2 + 1, none⟩) (below_set (p := ⟨g, k / 4 * 9 + 5 + k % 2 * 2, none⟩) hb.out (.int .i64 0) hgw.out) (.int .i64 600) hgw.out)
          have hm6 := hid (three_far (o := k / 4 * 9 + 5 + k % 2 * 2 + 1) (v := .int .i64 600) (three_far (o := k / 4 * 9 + 5 + k % 2 * 2) (v := .int .i64 0) hm.out hB1.out hBg) hB1.out hBg)
          clear hfz
          refine wpAnyH_step (i := 7) (by kernel_rfl) rfl ?_
          go_wp2
          refine ⟨trivial, ?_⟩
          refine wpAnyH_done (by kernel_rfl) ?_ _
          try simp only [Act.put, List.setIfInBounds_toArray]
          generalize (w5.setCell ⟨g, k / 4 * 9 + 5 + k % 2 * 2, none⟩ (.int .i64 0)).setCell ⟨g, k / 4 * 9 + 5 + k % 2 * 2 + 1, none⟩ (.int .i64 600) = w6 at hput hb6 hm6 ⊢
          clear hgl h1 h2 hfz1 hfz2 htm ht1 ht2 ht3 hevi hbz hown hb hm
          go_wp2
          go_roundw
          case rel => exact ⟨k + 1, by omega, by go_num, hid (by rw [Rel.wideTo, hbt.out]; exact hput.out), hb6, hm6⟩
          case measure => simp [intOf]; omega
    · obtain rfl : k = 4 * r.stints.length := by omega
      have hs := heap_set_same (o := 1) (v := .slice a1 r.stints.length cap1) (set_second (o := 0) (v := .int .i64 r.rest) hm.out)
      simp only [List.setIfInBounds_toArray, List.set_cons_succ, List.set_cons_zero] at hs
      have r0 := (cells_of hs).2 0
      have r1 := (cells_of hs).2 1
      have hown2 := hid ((hown.out.set (b := w.heap.size + 1) (o := 0) (u := .int .i64 r.rest) (Nat.lt_trans (Nat.lt_succ_self _) hB1.out)).set (b := w.heap.size + 1) (o := 1) (u := .slice a1 r.stints.length cap1) (Nat.lt_trans (Nat.lt_succ_self _) hB1.out))
      have hb6 := hid (below_set (p := ⟨w.heap.size + 1, 1, none⟩) (below_set (p := ⟨w.heap.size + 1, 0, none⟩) hb.out (.int .i64 r.rest) (Nat.le_succ _)) (.slice a1 r.stints.length cap1) (Nat.le_succ _))
      clear hs
      go_wp2
      refine bodyPost_ret (v := .agg #[.int .i64 r.rest, .slice a1 r.stints.length cap1]) (by simp [results, Try.results38, go_sem, r0, r1]) rfl ⟨.slice a1 r.stints.length cap1, ?_, stints_at.1 hown2.out.at, own_nilOk hown2.out, hb6.out⟩
      rw [relV, (r.wide_sim S).rest]
end Go.Proofs.Ytccgakdaiaigoaa
