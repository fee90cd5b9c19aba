/- The law's exact, walked. -/
import Derived.Test.YtccgakdaiaigoaaE3
namespace Go.Proofs.Ytccgakdaiaigoaa
open Go.RowKit Go.Lap Go.Shelf

set_option maxRecDepth 100000 in
set_option maxHeartbeats 4000000 in
theorem exact_any (r : Rel) (hn : r.n ≤ 5) (k : Nat) (hk : k < 4 * r.n) (m : Int) (sv : Value) (hN : NilOk sv) (w : World) (hS : StintsAt w sv r.stints) : Calls Try.prog 33 #[relV r sv, .int .i64 k, .int .i64 m] w fun e w' => ∃ sv', e = .returned (relV (r.put k (m, m)) sv') ∧ StintsAt w' sv' (r.put k (m, m)).stints ∧ NilOk sv' ∧ Below w.heap.size w w' := by
  obtain ⟨sa, scap, rfl, hs0⟩ := id hS
  clear hs0
  have hS' := hid (stints_at.2 hS)
  have hN' := hid hN
  have hn' := hid hn
  have hk' := hid hk
  have hk6 : (k : Int) < 20 := by omega
  have hki : (k : Int) < 4 * (r.stints.length : Int) := by have : r.stints.length = r.n := rfl; omega
  clear hS hN hn hk
  have hlen0 := hid (show ([] : List Stint).length + r.stints.length ≤ 1000 by have := hn'.out; have : r.stints.length = r.n := rfl; simp; omega)
  go_enter Try.func33, Try.ntmps33
  go_upto_region 2 with fail
  have hm : (((w.alloc (.cells #[.int .i64 r.rest, .slice sa r.stints.length scap] 24)).alloc (.cells #[.int .i64 0, .slice none 0 0] 24)).alloc (.cells #[.int .i64 r.rest, .slice sa r.stints.length scap] 24)).heap[w.heap.size]? = some (.cells #[.int .i64 r.rest, .slice sa r.stints.length scap] 24 (0, 0)) ∧ (((w.alloc (.cells #[.int .i64 r.rest, .slice sa r.stints.length scap] 24)).alloc (.cells #[.int .i64 0, .slice none 0 0] 24)).alloc (.cells #[.int .i64 r.rest, .slice sa r.stints.length scap] 24)).heap[w.heap.size + 1]? = some (.cells #[.int .i64 0, .slice none 0 0] 24 (0, 0)) ∧ (((w.alloc (.cells #[.int .i64 r.rest, .slice sa r.stints.length scap] 24)).alloc (.cells #[.int .i64 0, .slice none 0 0] 24)).alloc (.cells #[.int .i64 r.rest, .slice sa r.stints.length scap] 24)).heap[w.heap.size + 2]? = some (.cells #[.int .i64 r.rest, .slice sa r.stints.length scap] 24 (0, 0)) := ⟨alloc_old (by simp <;> omega) (alloc_old (by simp) (alloc_at rfl)), alloc_old (by simp) (alloc_at (by simp)), alloc_at (by simp)⟩
  have hb0 := hid (below_alloc (below_alloc (below_alloc (Below.refl _ w) (.cells #[.int .i64 r.rest, .slice sa r.stints.length scap] 24)) (.cells #[.int .i64 0, .slice none 0 0] 24)) (.cells #[.int .i64 r.rest, .slice sa r.stints.length scap] 24))
  generalize ((w.alloc (.cells #[.int .i64 r.rest, .slice sa r.stints.length scap] 24)).alloc (.cells #[.int .i64 0, .slice none 0 0] 24)).alloc (.cells #[.int .i64 r.rest, .slice sa r.stints.length scap] 24) = w1 at hm hb0 ⊢
  replace hm := hid hm
  have l1 := (cells_of hm.out.1).1
  have c1 := (cells_of hm.out.1).2
  have l2 := (cells_of hm.out.2.2).1
  have c2 := (cells_of hm.out.2.2).2
  go_upto_region 3 with (at_builtin; go_loud (refine wpList_append_row_arg stK rfl _ _ rfl w1.heap.size (.slice (some ⟨w1.heap.size, 0, none⟩) 0 0) [] r.stints rfl (stK.own_made (Nat.le_refl _)) (.slice sa r.stints.length scap) rfl (hS'.out.below (below_alloc hb0.out _)) hN'.out hlen0.out (by simp) ?_); intro v1 w2 hown1 hb1; rw [List.nil_append] at hown1; obtain ⟨a1, cap1, rfl, _⟩ := id hown1.at; replace hown1 := hid hown1; have hbk := (below_alloc (Below.refl _ w1) _).trans hb1; replace hm := hid (three_kept hm.out hbk); have l3 := (cells_of hm.out.1).1; have c3 := (cells_of hm.out.1).2; have l4 := (cells_of hm.out.2.2).1; have c4 := (cells_of hm.out.2.2).2; have z4 := free_of hm.out.2.2)
  have hset := hid (show _ ∧ _ ∧ _ from set_third hm.out (o := 1) (v := .slice a1 r.stints.length cap1) (show w.heap.size ≠ w.heap.size + 2 by omega) (show w.heap.size + 1 ≠ w.heap.size + 2 by omega))
  simp only [List.setIfInBounds_toArray, List.set_cons_succ, List.set_cons_zero] at hset
  replace hown1 := hid (hown1.out.set (b := w.heap.size + 2) (o := 1) (u := .slice a1 r.stints.length cap1) l2)
  have hlow := hid (show w.heap.size ≤ w1.heap.size from hb0.out.size)
  replace hb0 := hid (below_set (p := ⟨w.heap.size + 2, 1, none⟩) (hb0.out.trans (hbk.mono hb0.out.size)) (.slice a1 r.stints.length cap1) (show w.heap.size ≤ w.heap.size + 2 by omega))
  clear hbk hb1 l1 c1 c2 l3 c3 l4 c4 z4 hm
  generalize w2.setCell ⟨w.heap.size + 2, 1, none⟩ (.slice a1 r.stints.length cap1) = w3 at hset hown1 hb0 ⊢
  have hB1 := hid l2
  generalize w1.heap.size = B at hown1 hlow hB1 ⊢
  have hni : (r.stints.length : Int) ≤ 5 := by have := hn'.out; have : r.stints.length = r.n := rfl; omega
  have l1 := (cells_of hset.out.2.2).1
  have c1 := (cells_of hset.out.2.2).2
  obtain ⟨g, rfl, hBg, _⟩ := own_cells hown1.out (fun e => by have := hk'.out; have h2 : r.stints.length = r.n := rfl; rw [e] at h2; simp at h2; omega)
  clear l2
  by_cases hev : k / 2 % 2 = 0
  · have hevi : ((k : Int) / 2 % 2 == 0) = true := by rw [beq_iff_eq]; omega
    go_upto_region 5 with fail
    refine wp_region_held_at (S := fun _ => True) (by kernel_rfl) ?_
    intro w4 hw4 hw4e
    have hm := hid (three_kept hset.out hw4)
    have hb := hid (below_via hw4 hb0.out)
    have hown := hid (hown1.out.below hw4)
    clear l1 c1 hset hb0 hown1
    clear hw4 hw4e
    have htm : (k : Int).tmod 2 = (k : Int) % 2 := Int.tmod_eq_emod_of_nonneg (by omega)
    have ht1 : 0 ≤ (k : Int) % 2 := by omega
    have ht2 : (k : Int) % 2 < 2 := by omega
    have ht3 : ((k : Int) % 2).toNat = k % 2 := by omega
    try simp only [Array.replicate]
    refine wpAnyH_quiet (i := 0) (v := .pointer (some ⟨g, k / 4 * 9, none⟩)) rfl (by kernel_rfl) (by kernel_rfl) (by kernel_rfl) (fun _ _ _ h => h) rfl (fun W hW => by go_simp) trivial ?_
    refine wpAnyH_quiet (i := 1) (v := .int .i64 k) rfl (by kernel_rfl) (by kernel_rfl) (by kernel_rfl) (fun _ _ _ h => h) rfl (fun W hW => by go_simp) trivial ?_
    refine wpAnyH_quiet (i := 2) (v := .int .i64 ((k : Int) % 2)) rfl (by kernel_rfl) (by kernel_rfl) (by kernel_rfl) (fun _ _ _ h => h) rfl (fun W hW => by go_simp) trivial ?_
    refine wpAnyH_quiet (i := 3) (v := .int .i64 m) rfl (by kernel_rfl) (by kernel_rfl) (by kernel_rfl) (fun _ _ _ h => h) rfl (fun W hW => by go_simp) trivial ?_
    refine wpAnyH_quiet (i := 4) (v := .int .i64 m) rfl (by kernel_rfl) (by kernel_rfl) (by kernel_rfl) (fun _ _ _ h => h) rfl (fun W hW => by go_simp) trivial ?_
    refine wpAnyH_quiet (i := 6) (v := .pointer (some ⟨g, k / 4 * 9, none⟩)) rfl (by kernel_rfl) (by kernel_rfl) (by kernel_rfl) (fun _ _ _ h => h) rfl (fun W hW => by go_simp) trivial ?_
    refine wpAnyH_quiet (i := 7) (v := .pointer (some ⟨g, k / 4 * 9 + 1, none⟩)) rfl (by kernel_rfl) (by kernel_rfl) (by kernel_rfl) (fun _ _ _ h => h) rfl (fun W hW => by go_simp) trivial ?_
    try simp only [Act.put, List.setIfInBounds_toArray]
    refine wpAnyH_step (i := 5) (by kernel_rfl) rfl ?_
    go_wp2_with (go_at_call 34; with_reducible refine (lspan_any _ _ _).mono ?_; rintro e w5 ⟨rfl, hb5⟩; replace hm := hid (three_kept hm.out hb5); replace hb := hid (below_via hb5 hb.out); replace hown := hid (hown.out.below hb5); clear hb5)
    refine ⟨trivial, ?_⟩
    refine wpAnyH_quiet (i := 8) (v := .pointer (some ⟨g, k / 4 * 9 + 1 + k % 2 * 2, none⟩)) rfl (by kernel_rfl) (by kernel_rfl) (by kernel_rfl) (fun _ _ _ h => h) rfl (fun W hW => by go_simp) trivial ?_
    obtain ⟨hgl, hfz, x1, x2, h1, h2⟩ := own_two hown.out (e := k) hk'.out
    rw [show k / 4 * 9 + (1 + 2 * (k % 4)) = k / 4 * 9 + 1 + k % 2 * 2 by omega] at h1
    rw [show k / 4 * 9 + (2 + 2 * (k % 4)) = k / 4 * 9 + 1 + k % 2 * 2 + 1 by omega] at h2
    have hfz1 := hfz (k / 4 * 9 + 1 + k % 2 * 2)
    have hfz2 := hfz (k / 4 * 9 + 1 + k % 2 * 2 + 1)
    have hput := hid (own_put hown.out (e := k) hk'.out m m)
    rw [show k / 4 * 9 + (1 + 2 * (k % 4)) = k / 4 * 9 + 1 + k % 2 * 2 by omega, show k / 4 * 9 + (2 + 2 * (k % 4)) = k / 4 * 9 + 1 + k % 2 * 2 + 1 by omega] at hput
    have hgw := hid (show w.heap.size ≤ g from Nat.le_trans hlow.out hBg)
    have hb6 := hid (below_set (p := ⟨g, k / 4 * 9 + 1 + k % 2 * 2 + 1, none⟩) (below_set (p := ⟨g, k / 4 * 9 + 1 + k % 2 * 2, none⟩) hb.out (.int .i64 m) hgw.out) (.int .i64 m) hgw.out)
    have hm6 := hid (three_far (o := k / 4 * 9 + 1 + k % 2 * 2 + 1) (v := .int .i64 m) (three_far (o := k / 4 * 9 + 1 + k % 2 * 2) (v := .int .i64 m) hm.out hB1.out hBg) hB1.out hBg)
    clear hfz
    refine wpAnyH_step (i := 9) (by kernel_rfl) rfl ?_
    go_wp2
    refine ⟨trivial, ?_⟩
    refine wpAnyH_done (by kernel_rfl) ?_ _
    try simp only [Act.put, List.setIfInBounds_toArray]
    generalize (w5.setCell ⟨g, k / 4 * 9 + 1 + k % 2 * 2, none⟩ (.int .i64 m)).setCell ⟨g, k / 4 * 9 + 1 + k % 2 * 2 + 1, none⟩ (.int .i64 m) = w6 at hput hb6 hm6 ⊢
    clear hgl h1 h2 hfz1 hfz2 htm ht1 ht2 ht3 hevi hown hb hm
    have hs := heap_set_same (o := 1) (v := .slice (some ⟨g, 0, none⟩) r.stints.length cap1) (set_second (o := 0) (v := .int .i64 r.rest) hm6.out)
    simp only [List.setIfInBounds_toArray, List.set_cons_succ, List.set_cons_zero] at hs
    have r0 := (cells_of hs).2 0
    have r1 := (cells_of hs).2 1
    have hown2 := hid ((hput.out.set (b := w.heap.size + 1) (o := 0) (u := .int .i64 r.rest) (Nat.lt_trans (Nat.lt_succ_self _) hB1.out)).set (b := w.heap.size + 1) (o := 1) (u := .slice (some ⟨g, 0, none⟩) r.stints.length cap1) (Nat.lt_trans (Nat.lt_succ_self _) hB1.out))
    have hb7 := hid (below_set (p := ⟨w.heap.size + 1, 1, none⟩) (below_set (p := ⟨w.heap.size + 1, 0, none⟩) hb6.out (.int .i64 r.rest) (Nat.le_succ _)) (.slice (some ⟨g, 0, none⟩) r.stints.length cap1) (Nat.le_succ _))
    clear hs
    have l1 := (cells_of hm6.out.2.2).1
    have c1 := (cells_of hm6.out.2.2).2
    have l2 := (cells_of hm6.out.2.1).1
    have c2 := (cells_of hm6.out.2.1).2
    have z2 := free_of hm6.out.2.1
    go_wp2
    refine bodyPost_ret (v := .agg #[.int .i64 r.rest, .slice (some ⟨g, 0, none⟩) r.stints.length cap1]) (by simp [results, Try.results33, go_sem, r0, r1]) rfl ⟨.slice (some ⟨g, 0, none⟩) r.stints.length cap1, ?_, stints_at.1 hown2.out.at, own_nilOk hown2.out, hb7.out⟩
    rw [relV, (r.put_sim hk'.out (m, m)).rest]
  · have hevi : ((k : Int) / 2 % 2 == 0) = false := by rw [beq_eq_false_iff_ne]; omega
    go_upto_region 6 with fail
    refine wp_region_held_at (S := fun _ => True) (by kernel_rfl) ?_
    intro w4 hw4 hw4e
    have hm := hid (three_kept hset.out hw4)
    have hb := hid (below_via hw4 hb0.out)
    have hown := hid (hown1.out.below hw4)
    clear l1 c1 hset hb0 hown1
    clear hw4 hw4e
    have htm : (k : Int).tmod 2 = (k : Int) % 2 := Int.tmod_eq_emod_of_nonneg (by omega)
    have ht1 : 0 ≤ (k : Int) % 2 := by omega
    have ht2 : (k : Int) % 2 < 2 := by omega
    have ht3 : ((k : Int) % 2).toNat = k % 2 := by omega
    try simp only [Array.replicate]
    refine wpAnyH_quiet (i := 0) (v := .pointer (some ⟨g, k / 4 * 9, none⟩)) rfl (by kernel_rfl) (by kernel_rfl) (by kernel_rfl) (fun _ _ _ h => h) rfl (fun W hW => by go_simp) trivial ?_
    refine wpAnyH_quiet (i := 1) (v := .int .i64 k) rfl (by kernel_rfl) (by kernel_rfl) (by kernel_rfl) (fun _ _ _ h => h) rfl (fun W hW => by go_simp) trivial ?_
    refine wpAnyH_quiet (i := 2) (v := .int .i64 ((k : Int) % 2)) rfl (by kernel_rfl) (by kernel_rfl) (by kernel_rfl) (fun _ _ _ h => h) rfl (fun W hW => by go_simp) trivial ?_
    refine wpAnyH_quiet (i := 3) (v := .int .i64 m) rfl (by kernel_rfl) (by kernel_rfl) (by kernel_rfl) (fun _ _ _ h => h) rfl (fun W hW => by go_simp) trivial ?_
    refine wpAnyH_quiet (i := 4) (v := .int .i64 m) rfl (by kernel_rfl) (by kernel_rfl) (by kernel_rfl) (fun _ _ _ h => h) rfl (fun W hW => by go_simp) trivial ?_
    refine wpAnyH_quiet (i := 6) (v := .pointer (some ⟨g, k / 4 * 9, none⟩)) rfl (by kernel_rfl) (by kernel_rfl) (by kernel_rfl) (fun _ _ _ h => h) rfl (fun W hW => by go_simp) trivial ?_
    refine wpAnyH_quiet (i := 7) (v := .pointer (some ⟨g, k / 4 * 9 + 5, none⟩)) rfl (by kernel_rfl) (by kernel_rfl) (by kernel_rfl) (fun _ _ _ h => h) rfl (fun W hW => by go_simp) trivial ?_
    try simp only [Act.put, List.setIfInBounds_toArray]
    refine wpAnyH_step (i := 5) (by kernel_rfl) rfl ?_
    go_wp2_with (go_at_call 34; with_reducible refine (lspan_any _ _ _).mono ?_; rintro e w5 ⟨rfl, hb5⟩; replace hm := hid (three_kept hm.out hb5); replace hb := hid (below_via hb5 hb.out); replace hown := hid (hown.out.below hb5); clear hb5)
    refine ⟨trivial, ?_⟩
    refine wpAnyH_quiet (i := 8) (v := .pointer (some ⟨g, k / 4 * 9 + 5 + k % 2 * 2, none⟩)) rfl (by kernel_rfl) (by kernel_rfl) (by kernel_rfl) (fun _ _ _ h => h) rfl (fun W hW => by go_simp) trivial ?_
    obtain ⟨hgl, hfz, x1, x2, h1, h2⟩ := own_two hown.out (e := k) hk'.out
    rw [show k / 4 * 9 + (1 + 2 * (k % 4)) = k / 4 * 9 + 5 + k % 2 * 2 by omega] at h1
    rw [show k / 4 * 9 + (2 + 2 * (k % 4)) = k / 4 * 9 + 5 + k % 2 * 2 + 1 by omega] at h2
    have hfz1 := hfz (k / 4 * 9 + 5 + k % 2 * 2)
    have hfz2 := hfz (k / 4 * 9 + 5 + k % 2 * 2 + 1)
    have hput := hid (own_put hown.out (e := k) hk'.out m m)
    rw [show k / 4 * 9 + (1 + 2 * (k % 4)) = k / 4 * 9 + 5 + k % 2 * 2 by omega, show k / 4 * 9 + (2 + 2 * (k % 4)) = k / 4 * 9 + 5 + k % 2 * 2 + 1 by omega] at hput
    have hgw := hid (show w.heap.size ≤ g from Nat.le_trans hlow.out hBg)
    have hb6 := hid (below_set (p := ⟨g, k / 4 * 9 + 5 + k % 2 * 2 + 1, none⟩) (below_set (p := ⟨g, k / 4 * 9 + 5 + k % 2 * 2, none⟩) hb.out (.int .i64 m) hgw.out) (.int .i64 m) hgw.out)
    have hm6 := hid (three_far (o := k / 4 * 9 + 5 + k % 2 * 2 + 1) (v := .int .i64 m) (three_far (o := k / 4 * 9 + 5 + k % 2 * 2) (v := .int .i64 m) hm.out hB1.out hBg) hB1.out hBg)
    clear hfz
    refine wpAnyH_step (i := 9) (by kernel_rfl) rfl ?_
    go_wp2
    refine ⟨trivial, ?_⟩
    refine wpAnyH_done (by kernel_rfl) ?_ _
    try simp only [Act.put, List.setIfInBounds_toArray]
    generalize (w5.setCell ⟨g, k / 4 * 9 + 5 + k % 2 * 2, none⟩ (.int .i64 m)).setCell ⟨g, k / 4 * 9 + 5 + k % 2 * 2 + 1, none⟩ (.int .i64 m) = w6 at hput hb6 hm6 ⊢
    clear hgl h1 h2 hfz1 hfz2 htm ht1 ht2 ht3 hevi hown hb hm
    have hs := heap_set_same (o := 1) (v := .slice (some ⟨g, 0, none⟩) r.stints.length cap1) (set_second (o := 0) (v := .int .i64 r.rest) hm6.out)
    simp only [List.setIfInBounds_toArray, List.set_cons_succ, List.set_cons_zero] at hs
    have r0 := (cells_of hs).2 0
    have r1 := (cells_of hs).2 1
    have hown2 := hid ((hput.out.set (b := w.heap.size + 1) (o := 0) (u := .int .i64 r.rest) (Nat.lt_trans (Nat.lt_succ_self _) hB1.out)).set (b := w.heap.size + 1) (o := 1) (u := .slice (some ⟨g, 0, none⟩) r.stints.length cap1) (Nat.lt_trans (Nat.lt_succ_self _) hB1.out))
    have hb7 := hid (below_set (p := ⟨w.heap.size + 1, 1, none⟩) (below_set (p := ⟨w.heap.size + 1, 0, none⟩) hb6.out (.int .i64 r.rest) (Nat.le_succ _)) (.slice (some ⟨g, 0, none⟩) r.stints.length cap1) (Nat.le_succ _))
    clear hs
    have l1 := (cells_of hm6.out.2.2).1
    have c1 := (cells_of hm6.out.2.2).2
    have l2 := (cells_of hm6.out.2.1).1
    have c2 := (cells_of hm6.out.2.1).2
    have z2 := free_of hm6.out.2.1
    go_wp2
    refine bodyPost_ret (v := .agg #[.int .i64 r.rest, .slice (some ⟨g, 0, none⟩) r.stints.length cap1]) (by simp [results, Try.results33, go_sem, r0, r1]) rfl ⟨.slice (some ⟨g, 0, none⟩) r.stints.length cap1, ?_, stints_at.1 hown2.out.at, own_nilOk hown2.out, hb7.out⟩
    rw [relV, (r.put_sim hk'.out (m, m)).rest]
end Go.Proofs.Ytccgakdaiaigoaa
