/- The reference's with, walked. The reference's On and Off, walked. The reference's at, walked. The reference's Free, walked. The reference's Busy, walked. -/
import Derived.Test.YtccgakdaiaigoaaGS
import Derived.Test.YtccgakdaiaigoaaBH
import Derived.Test.YtccgakdaiaigoaaGK
import Derived.Test.YtccgakdaiaigoaaGE
namespace Go.Proofs.Ytccgakdaiaigoaa
open Go.RowKit Go.Lap Go.Shelf

theorem lit_cells {P : Program} {α : Type} {K : RowKind P α} {w : World} {lb : Nat} {ys : List α} {c : Array Value} (h : w.heap[lb]? = some (.cells c K.e (0, 0))) (hc : c = (ys.flatMap K.enc).toArray) : ∀ k y', ys[k]? = some y' → ∀ f u, (K.enc y')[f]? = some u → w.cell? ⟨lb, 0 + k * K.size + f, none⟩ = some u := by
  subst hc
  intro k y' hk f u hu
  rw [Nat.zero_add, (cells_of h).2]
  simpa using flat_get K ys k y' hk f u hu
/-- A rule more. -/
theorem narrowed_more {r : Rel} (hv : r.valid = true) (set : Nat) {x : Ru} (hx : x.a < 2 * r.n ∧ x.b < 2 * r.n ∧ -1000 ≤ x.least ∧ x.least ≤ 1000) (lv bv : Value) (w : World) (hl : boxK.own 0 w lv (r.first set)) (hr : ruK.own 0 w bv (r.rulesR ++ [x])) : Calls Try.prog 75 #[lv, bv] w (NarPost (r.first set) (r.rulesR ++ [x]) w) :=
  narrowed_any (r.first set) (r.rulesR ++ [x]) (by rw [r.first_length]; have := (r.ok_of hv).2.2.1; omega) (by have := Rel.rulesR_len (r.ok_of hv).2.2.1; simp; omega) (Rel.first_bnd hv set)
    (fun y hy => by
      rcases List.mem_append.1 hy with h | h
      · exact Rel.rulesR_ok hv set y h
      · obtain rfl : y = x := by simpa using h
        rw [r.first_length]; exact hx) lv bv w hl.at (own_nilOk hl) hr.at

set_option maxRecDepth 100000 in
set_option maxHeartbeats 4000000 in
theorem with_any (r : Rel) (hv : r.valid = true) (x : Ru) (hx : x.a < 2 * r.n ∧ x.b < 2 * r.n ∧ -1000 ≤ x.least ∧ x.least ≤ 1000) (sv : Value) (w : World) (hS : StintsAt w sv r.stints) : Calls Try.prog 50 #[relV r sv, .int .i64 x.a, .int .i64 x.b, .int .i64 x.least] w fun e w' => ∃ b : Bool, e = .returned (.bool b) ∧ (b = true ↔ ∃ s, Truth r r.every s ∧ x.ok s) ∧ Below w.heap.size w w' := by
  obtain ⟨sa, scap, rfl, hs0⟩ := id hS
  clear hs0
  have hb0 := hid (below_alloc (Below.refl _ w) (.cells #[.int .i64 r.rest, .slice sa r.stints.length scap] 24))
  have hm := alloc_at (w := w) (o := .cells #[.int .i64 r.rest, .slice sa r.stints.length scap] 24) rfl
  replace hS := hid hS
  have hv' := hid hv
  have hx' := hid hx
  have hn5 := hid (r.ok_of hv).2.2.1
  have hlenx := hid (show r.rulesR.length + [x].length ≤ 1000 by have := Rel.rulesR_len (r.ok_of hv).2.2.1; simp; omega)
  clear hv hx
  go_enter Try.func50, Try.ntmps50
  go_upto_region 1 with fail
  generalize w.alloc (.cells #[.int .i64 r.rest, .slice sa r.stints.length scap] 24) = w0 at hm hb0 ⊢
  obtain ⟨bx, hbx⟩ : ∃ b, b = w.heap.size := ⟨_, rfl⟩
  rw [← hbx] at hm ⊢
  clear hbx
  refine wp_region_held_at (S := fun W => W.heap[bx]? = some (.cells #[.int .i64 r.rest, .slice sa r.stints.length scap] 24 (0, 0))) (by kernel_rfl) ?_
  intro w1 hw1 _
  have hz : w1.heap[bx]? = some (.cells #[.int .i64 r.rest, .slice sa r.stints.length scap] 24 (0, 0)) := (hw1.block _ (cells_of hm).1).trans hm
  replace hb0 := hid (below_via hw1 hb0.out)
  clear hm hw1
  try simp only [Array.replicate]
  refine wpAnyH_quiet (i := 0) (v := relV r (.slice sa r.stints.length scap)) rfl (by kernel_rfl) (by kernel_rfl) (by kernel_rfl) (fun _ _ _ h => h) rfl (fun W hW => by obtain ⟨lq, cq⟩ := cells_of hW; go_simp) hz ?_
  refine wpAnyH_quiet (i := 1) (v := relV r (.slice sa r.stints.length scap)) rfl (by kernel_rfl) (by kernel_rfl) (by kernel_rfl) (fun _ _ _ h => h) rfl (fun W hW => by obtain ⟨lq, cq⟩ := cells_of hW; go_simp) hz ?_
  refine wpAnyH_quiet (i := 4) (v := relV r (.slice sa r.stints.length scap)) rfl (by kernel_rfl) (by kernel_rfl) (by kernel_rfl) (fun _ _ _ h => h) rfl (fun W hW => by obtain ⟨lq, cq⟩ := cells_of hW; go_simp) hz ?_
  refine wpAnyH_quiet (i := 6) (v := .int .i64 x.a) rfl (by kernel_rfl) (by kernel_rfl) (by kernel_rfl) (fun _ _ _ h => h) rfl (fun W hW => by go_simp) hz ?_
  refine wpAnyH_quiet (i := 7) (v := .int .i64 x.b) rfl (by kernel_rfl) (by kernel_rfl) (by kernel_rfl) (fun _ _ _ h => h) rfl (fun W hW => by go_simp) hz ?_
  refine wpAnyH_quiet (i := 8) (v := .int .i64 x.least) rfl (by kernel_rfl) (by kernel_rfl) (by kernel_rfl) (fun _ _ _ h => h) rfl (fun W hW => by go_simp) hz ?_
  refine wpAnyH_quiet (i := 9) (v := .agg #[.int .i64 x.a, .int .i64 x.b, .int .i64 x.least]) rfl (by kernel_rfl) (by kernel_rfl) (by kernel_rfl) (fun _ _ _ h => h) rfl (fun W hW => by go_simp) hz ?_
  try simp only [Act.put, List.setIfInBounds_toArray]
  have hf := hid (refEvery_any r hn5.out sa scap w1)
  refine wpAnyH_step2 (i := 2) (j := 10) (by kernel_rfl) rfl rfl ?_ ?_
  · skip
    go_wp2_with (go_at_call 36; with_reducible refine hf.out.mono ?_; rintro e w2 ⟨rfl, hbw2⟩; replace hz := (hbw2.block _ (cells_of hz).1).trans hz; replace hb0 := hid (below_via hbw2 hb0.out); clear hf hbw2)
    refine ⟨hz, ?_⟩
    have hf := hid (rfirst_any r hn5.out r.every (Rel.every_le hn5.out) (.slice sa r.stints.length scap) w2 (hS.out.below hb0.out))
    refine wpAnyH_step2 (i := 3) (j := 10) (by kernel_rfl) rfl rfl ?_ ?_
    · skip
      go_wp2_with (go_at_call 76; with_reducible refine hf.out.mono ?_; rintro e w3 ⟨v1, rfl, hv1, hbw3⟩; replace hv1 := hid (hv1.low (Nat.zero_le _)); replace hz := (hbw3.block _ (cells_of hz).1).trans hz; replace hb0 := hid (below_via hbw3 hb0.out); clear hf hbw3)
      refine ⟨hz, ?_⟩
      have hf := hid (rules_any r hn5.out (.slice sa r.stints.length scap) w3 (hS.out.below hb0.out))
      refine wpAnyH_step2 (i := 5) (j := 10) (by kernel_rfl) rfl rfl ?_ ?_
      · skip
        go_wp2_with (go_at_call 77; with_reducible refine hf.out.mono ?_; rintro e w4 ⟨v2, rfl, hv2, hbw4⟩; replace hv2 := hid (hv2.low hb0.out.size); replace hz := (hbw4.block _ (cells_of hz).1).trans hz; replace hv1 := hid (hv1.out.below hbw4); replace hb0 := hid (below_via hbw4 hb0.out); clear hf hbw4)
        refine ⟨hz, ?_⟩
        refine wpAnyH_step (i := 10) (by kernel_rfl) rfl ?_
        go_wp2
        have hl := alloc_at (w := w4) (o := .cells #[.int .i64 x.a, .int .i64 x.b, .int .i64 x.least] 111) rfl
        have hbl := below_alloc (Below.refl _ w4) (.cells #[.int .i64 x.a, .int .i64 x.b, .int .i64 x.least] 111)
        generalize w4.alloc (.cells #[.int .i64 x.a, .int .i64 x.b, .int .i64 x.least] 111) = w5 at hl hbl ⊢
        obtain ⟨lb, hlb⟩ : ∃ b, b = w4.heap.size := ⟨_, rfl⟩
        rw [← hlb] at hl ⊢
        clear hlb
        replace hl := hid hl
        replace hz := (hbl.block _ (cells_of hz).1).trans hz
        replace hv1 := hid (hv1.out.below hbl)
        replace hv2 := hid (hv2.out.below hbl)
        replace hb0 := hid (below_via hbl hb0.out)
        clear hbl
        refine ⟨hz, ?_⟩
        refine wpAnyH_step (i := 11) (by kernel_rfl) rfl ?_
        refine wpList_append_row ruK rfl (.tmp 17) (.tmp 22) rfl w.heap.size v2 r.rulesR [x] rfl hv2.out lb 0 1 1 rfl rfl (lit_cells hl.out rfl) hlenx.out hb0.out.size ?_
        intro v3 w6 hv3 hb3 hg3
        have hk := hid (grown_kept hv2.out hg3)
        replace hz := hk.out.blk bx _ hz (by intro c f e; cases e)
        replace hv1 := hid (hv1.out.kept hk.out (by decide))
        replace hb0 := hid (below_low hb3 hb0.out (Nat.le_refl _))
        replace hv3 := hid hv3
        clear hv2 hl hk hb3 hg3
        go_wp2
        refine ⟨hz, ?_⟩
        have hf := hid (narrowed_more hv'.out r.every hx'.out v1 v3 w6 hv1.out (hv3.out.low (Nat.zero_le _)))
        refine wpAnyH_step (i := 12) (by kernel_rfl) rfl ?_
        go_wp2_with (go_at_call 75; with_reducible refine hf.out.mono ?_; rintro e w7 hP; obtain ⟨o, v, hN, rfl, hO, hb4⟩ := hP.out; clear hP hO; replace hz := (hb4.block _ (cells_of hz).1).trans hz; replace hb0 := hid (below_via hb4 hb0.out); replace hN := hid hN; clear hf hb4)
        refine ⟨hz, ?_⟩
        refine wpAnyH_quiet (i := 13) (v := .tuple #[v, .bool o.isSome]) rfl (by kernel_rfl) (by kernel_rfl) (by kernel_rfl) (fun _ _ _ h => h) rfl (fun W hW => by go_simp) hz ?_
        refine wpAnyH_quiet (i := 14) (v := v) rfl (by kernel_rfl) (by kernel_rfl) (by kernel_rfl) (fun _ _ _ h => h) rfl (fun W hW => by go_simp) hz ?_
        refine wpAnyH_quiet (i := 15) (v := .bool o.isSome) rfl (by kernel_rfl) (by kernel_rfl) (by kernel_rfl) (fun _ _ _ h => h) rfl (fun W hW => by go_simp) hz ?_
        refine wpAnyH_step (i := 16) (by kernel_rfl) rfl ?_
        go_wp2
        refine ⟨hz, ?_⟩
        refine wpAnyH_step (i := 17) (by kernel_rfl) rfl ?_
        go_wp2
        refine ⟨hz, ?_⟩
        refine wpAnyH_done (by kernel_rfl) ?_ _
        try simp only [Act.put, List.setIfInBounds_toArray]
        go_wp2
        go_ret
        exact ⟨o.isSome, rfl, Rel.with_iff hN.out, hb0.out⟩
      · clear hf
        go_wp2
        have hl := alloc_at (w := w3) (o := .cells #[.int .i64 x.a, .int .i64 x.b, .int .i64 x.least] 111) rfl
        have hbl := below_alloc (Below.refl _ w3) (.cells #[.int .i64 x.a, .int .i64 x.b, .int .i64 x.least] 111)
        generalize w3.alloc (.cells #[.int .i64 x.a, .int .i64 x.b, .int .i64 x.least] 111) = w8 at hl hbl ⊢
        generalize w3.heap.size = lb at hl ⊢
        replace hl := hid hl
        replace hz := (hbl.block _ (cells_of hz).1).trans hz
        replace hv1 := hid (hv1.out.below hbl)
        replace hb0 := hid (below_via hbl hb0.out)
        clear hbl
        refine ⟨hz, ?_⟩
        have hf := hid (rules_any r hn5.out (.slice sa r.stints.length scap) w8 (hS.out.below hb0.out))
        refine wpAnyH_step (i := 5) (by kernel_rfl) rfl ?_
        go_wp2_with (go_at_call 77; with_reducible refine hf.out.mono ?_; rintro e w9 ⟨v2, rfl, hv2, hbw9⟩; replace hv2 := hid (hv2.low hb0.out.size); replace hz := (hbw9.block _ (cells_of hz).1).trans hz; replace hl := hid ((hbw9.block _ (cells_of hl.out).1).trans hl.out); replace hv1 := hid (hv1.out.below hbw9); replace hb0 := hid (below_via hbw9 hb0.out); clear hf hbw9)
        refine ⟨hz, ?_⟩
        refine wpAnyH_step (i := 11) (by kernel_rfl) rfl ?_
        refine wpList_append_row ruK rfl (.tmp 17) (.tmp 22) rfl w.heap.size v2 r.rulesR [x] rfl hv2.out lb 0 1 1 rfl rfl (lit_cells hl.out rfl) hlenx.out hb0.out.size ?_
        intro v3 w10 hv3 hb3 hg3
        have hk := hid (grown_kept hv2.out hg3)
        replace hz := hk.out.blk bx _ hz (by intro c f e; cases e)
        replace hv1 := hid (hv1.out.kept hk.out (by decide))
        replace hb0 := hid (below_low hb3 hb0.out (Nat.le_refl _))
        replace hv3 := hid hv3
        clear hv2 hl hk hb3 hg3
        go_wp2
        refine ⟨hz, ?_⟩
        have hf := hid (narrowed_more hv'.out r.every hx'.out v1 v3 w10 hv1.out (hv3.out.low (Nat.zero_le _)))
        refine wpAnyH_step (i := 12) (by kernel_rfl) rfl ?_
        go_wp2_with (go_at_call 75; with_reducible refine hf.out.mono ?_; rintro e w11 hP; obtain ⟨o, v, hN, rfl, hO, hb4⟩ := hP.out; clear hP hO; replace hz := (hb4.block _ (cells_of hz).1).trans hz; replace hb0 := hid (below_via hb4 hb0.out); replace hN := hid hN; clear hf hb4)
        refine ⟨hz, ?_⟩
        refine wpAnyH_quiet (i := 13) (v := .tuple #[v, .bool o.isSome]) rfl (by kernel_rfl) (by kernel_rfl) (by kernel_rfl) (fun _ _ _ h => h) rfl (fun W hW => by go_simp) hz ?_
        refine wpAnyH_quiet (i := 14) (v := v) rfl (by kernel_rfl) (by kernel_rfl) (by kernel_rfl) (fun _ _ _ h => h) rfl (fun W hW => by go_simp) hz ?_
        refine wpAnyH_quiet (i := 15) (v := .bool o.isSome) rfl (by kernel_rfl) (by kernel_rfl) (by kernel_rfl) (fun _ _ _ h => h) rfl (fun W hW => by go_simp) hz ?_
        refine wpAnyH_step (i := 16) (by kernel_rfl) rfl ?_
        go_wp2
        refine ⟨hz, ?_⟩
        refine wpAnyH_step (i := 17) (by kernel_rfl) rfl ?_
        go_wp2
        refine ⟨hz, ?_⟩
        refine wpAnyH_done (by kernel_rfl) ?_ _
        try simp only [Act.put, List.setIfInBounds_toArray]
        go_wp2
        go_ret
        exact ⟨o.isSome, rfl, Rel.with_iff hN.out, hb0.out⟩
    · clear hf
      go_wp2
      have hl := alloc_at (w := w2) (o := .cells #[.int .i64 x.a, .int .i64 x.b, .int .i64 x.least] 111) rfl
      have hbl := below_alloc (Below.refl _ w2) (.cells #[.int .i64 x.a, .int .i64 x.b, .int .i64 x.least] 111)
      generalize w2.alloc (.cells #[.int .i64 x.a, .int .i64 x.b, .int .i64 x.least] 111) = w12 at hl hbl ⊢
      generalize w2.heap.size = lb at hl ⊢
      replace hl := hid hl
      replace hz := (hbl.block _ (cells_of hz).1).trans hz
      replace hb0 := hid (below_via hbl hb0.out)
      clear hbl
      refine ⟨hz, ?_⟩
      have hf := hid (rfirst_any r hn5.out r.every (Rel.every_le hn5.out) (.slice sa r.stints.length scap) w12 (hS.out.below hb0.out))
      refine wpAnyH_step (i := 3) (by kernel_rfl) rfl ?_
      go_wp2_with (go_at_call 76; with_reducible refine hf.out.mono ?_; rintro e w13 ⟨v1, rfl, hv1, hbw13⟩; replace hv1 := hid (hv1.low (Nat.zero_le _)); replace hz := (hbw13.block _ (cells_of hz).1).trans hz; replace hl := hid ((hbw13.block _ (cells_of hl.out).1).trans hl.out); replace hb0 := hid (below_via hbw13 hb0.out); clear hf hbw13)
      refine ⟨hz, ?_⟩
      have hf := hid (rules_any r hn5.out (.slice sa r.stints.length scap) w13 (hS.out.below hb0.out))
      refine wpAnyH_step (i := 5) (by kernel_rfl) rfl ?_
      go_wp2_with (go_at_call 77; with_reducible refine hf.out.mono ?_; rintro e w14 ⟨v2, rfl, hv2, hbw14⟩; replace hv2 := hid (hv2.low hb0.out.size); replace hz := (hbw14.block _ (cells_of hz).1).trans hz; replace hl := hid ((hbw14.block _ (cells_of hl.out).1).trans hl.out); replace hv1 := hid (hv1.out.below hbw14); replace hb0 := hid (below_via hbw14 hb0.out); clear hf hbw14)
      refine ⟨hz, ?_⟩
      refine wpAnyH_step (i := 11) (by kernel_rfl) rfl ?_
      refine wpList_append_row ruK rfl (.tmp 17) (.tmp 22) rfl w.heap.size v2 r.rulesR [x] rfl hv2.out lb 0 1 1 rfl rfl (lit_cells hl.out rfl) hlenx.out hb0.out.size ?_
      intro v3 w15 hv3 hb3 hg3
      have hk := hid (grown_kept hv2.out hg3)
      replace hz := hk.out.blk bx _ hz (by intro c f e; cases e)
      replace hv1 := hid (hv1.out.kept hk.out (by decide))
      replace hb0 := hid (below_low hb3 hb0.out (Nat.le_refl _))
      replace hv3 := hid hv3
      clear hv2 hl hk hb3 hg3
      go_wp2
      refine ⟨hz, ?_⟩
      have hf := hid (narrowed_more hv'.out r.every hx'.out v1 v3 w15 hv1.out (hv3.out.low (Nat.zero_le _)))
      refine wpAnyH_step (i := 12) (by kernel_rfl) rfl ?_
      go_wp2_with (go_at_call 75; with_reducible refine hf.out.mono ?_; rintro e w16 hP; obtain ⟨o, v, hN, rfl, hO, hb4⟩ := hP.out; clear hP hO; replace hz := (hb4.block _ (cells_of hz).1).trans hz; replace hb0 := hid (below_via hb4 hb0.out); replace hN := hid hN; clear hf hb4)
      refine ⟨hz, ?_⟩
      refine wpAnyH_quiet (i := 13) (v := .tuple #[v, .bool o.isSome]) rfl (by kernel_rfl) (by kernel_rfl) (by kernel_rfl) (fun _ _ _ h => h) rfl (fun W hW => by go_simp) hz ?_
      refine wpAnyH_quiet (i := 14) (v := v) rfl (by kernel_rfl) (by kernel_rfl) (by kernel_rfl) (fun _ _ _ h => h) rfl (fun W hW => by go_simp) hz ?_
      refine wpAnyH_quiet (i := 15) (v := .bool o.isSome) rfl (by kernel_rfl) (by kernel_rfl) (by kernel_rfl) (fun _ _ _ h => h) rfl (fun W hW => by go_simp) hz ?_
      refine wpAnyH_step (i := 16) (by kernel_rfl) rfl ?_
      go_wp2
      refine ⟨hz, ?_⟩
      refine wpAnyH_step (i := 17) (by kernel_rfl) rfl ?_
      go_wp2
      refine ⟨hz, ?_⟩
      refine wpAnyH_done (by kernel_rfl) ?_ _
      try simp only [Act.put, List.setIfInBounds_toArray]
      go_wp2
      go_ret
      exact ⟨o.isSome, rfl, Rel.with_iff hN.out, hb0.out⟩
  · clear hf
    go_wp2
    have hl := alloc_at (w := w1) (o := .cells #[.int .i64 x.a, .int .i64 x.b, .int .i64 x.least] 111) rfl
    have hbl := below_alloc (Below.refl _ w1) (.cells #[.int .i64 x.a, .int .i64 x.b, .int .i64 x.least] 111)
    generalize w1.alloc (.cells #[.int .i64 x.a, .int .i64 x.b, .int .i64 x.least] 111) = w17 at hl hbl ⊢
    generalize w1.heap.size = lb at hl ⊢
    replace hl := hid hl
    replace hz := (hbl.block _ (cells_of hz).1).trans hz
    replace hb0 := hid (below_via hbl hb0.out)
    clear hbl
    refine ⟨hz, ?_⟩
    have hf := hid (refEvery_any r hn5.out sa scap w17)
    refine wpAnyH_step (i := 2) (by kernel_rfl) rfl ?_
    go_wp2_with (go_at_call 36; with_reducible refine hf.out.mono ?_; rintro e w18 ⟨rfl, hbw18⟩; replace hz := (hbw18.block _ (cells_of hz).1).trans hz; replace hl := hid ((hbw18.block _ (cells_of hl.out).1).trans hl.out); replace hb0 := hid (below_via hbw18 hb0.out); clear hf hbw18)
    refine ⟨hz, ?_⟩
    have hf := hid (rfirst_any r hn5.out r.every (Rel.every_le hn5.out) (.slice sa r.stints.length scap) w18 (hS.out.below hb0.out))
    refine wpAnyH_step (i := 3) (by kernel_rfl) rfl ?_
    go_wp2_with (go_at_call 76; with_reducible refine hf.out.mono ?_; rintro e w19 ⟨v1, rfl, hv1, hbw19⟩; replace hv1 := hid (hv1.low (Nat.zero_le _)); replace hz := (hbw19.block _ (cells_of hz).1).trans hz; replace hl := hid ((hbw19.block _ (cells_of hl.out).1).trans hl.out); replace hb0 := hid (below_via hbw19 hb0.out); clear hf hbw19)
    refine ⟨hz, ?_⟩
    have hf := hid (rules_any r hn5.out (.slice sa r.stints.length scap) w19 (hS.out.below hb0.out))
    refine wpAnyH_step (i := 5) (by kernel_rfl) rfl ?_
    go_wp2_with (go_at_call 77; with_reducible refine hf.out.mono ?_; rintro e w20 ⟨v2, rfl, hv2, hbw20⟩; replace hv2 := hid (hv2.low hb0.out.size); replace hz := (hbw20.block _ (cells_of hz).1).trans hz; replace hl := hid ((hbw20.block _ (cells_of hl.out).1).trans hl.out); replace hv1 := hid (hv1.out.below hbw20); replace hb0 := hid (below_via hbw20 hb0.out); clear hf hbw20)
    refine ⟨hz, ?_⟩
    refine wpAnyH_step (i := 11) (by kernel_rfl) rfl ?_
    refine wpList_append_row ruK rfl (.tmp 17) (.tmp 22) rfl w.heap.size v2 r.rulesR [x] rfl hv2.out lb 0 1 1 rfl rfl (lit_cells hl.out rfl) hlenx.out hb0.out.size ?_
    intro v3 w21 hv3 hb3 hg3
    have hk := hid (grown_kept hv2.out hg3)
    replace hz := hk.out.blk bx _ hz (by intro c f e; cases e)
    replace hv1 := hid (hv1.out.kept hk.out (by decide))
    replace hb0 := hid (below_low hb3 hb0.out (Nat.le_refl _))
    replace hv3 := hid hv3
    clear hv2 hl hk hb3 hg3
    go_wp2
    refine ⟨hz, ?_⟩
    have hf := hid (narrowed_more hv'.out r.every hx'.out v1 v3 w21 hv1.out (hv3.out.low (Nat.zero_le _)))
    refine wpAnyH_step (i := 12) (by kernel_rfl) rfl ?_
    go_wp2_with (go_at_call 75; with_reducible refine hf.out.mono ?_; rintro e w22 hP; obtain ⟨o, v, hN, rfl, hO, hb4⟩ := hP.out; clear hP hO; replace hz := (hb4.block _ (cells_of hz).1).trans hz; replace hb0 := hid (below_via hb4 hb0.out); replace hN := hid hN; clear hf hb4)
    refine ⟨hz, ?_⟩
    refine wpAnyH_quiet (i := 13) (v := .tuple #[v, .bool o.isSome]) rfl (by kernel_rfl) (by kernel_rfl) (by kernel_rfl) (fun _ _ _ h => h) rfl (fun W hW => by go_simp) hz ?_
    refine wpAnyH_quiet (i := 14) (v := v) rfl (by kernel_rfl) (by kernel_rfl) (by kernel_rfl) (fun _ _ _ h => h) rfl (fun W hW => by go_simp) hz ?_
    refine wpAnyH_quiet (i := 15) (v := .bool o.isSome) rfl (by kernel_rfl) (by kernel_rfl) (by kernel_rfl) (fun _ _ _ h => h) rfl (fun W hW => by go_simp) hz ?_
    refine wpAnyH_step (i := 16) (by kernel_rfl) rfl ?_
    go_wp2
    refine ⟨hz, ?_⟩
    refine wpAnyH_step (i := 17) (by kernel_rfl) rfl ?_
    go_wp2
    refine ⟨hz, ?_⟩
    refine wpAnyH_done (by kernel_rfl) ?_ _
    try simp only [Act.put, List.setIfInBounds_toArray]
    go_wp2
    go_ret
    exact ⟨o.isSome, rfl, Rel.with_iff hN.out, hb0.out⟩
end Go.Proofs.Ytccgakdaiaigoaa

namespace Go.Proofs.Ytccgakdaiaigoaa
open Go.RowKit Go.Lap Go.Shelf

theorem Rel.tab_truth {r : Rel} (hv : r.valid = true) (set : Nat) : (r.tab set).isSome = true ↔ ∃ s, Truth r set s := by
  have h := Rel.also hv set (l := []) (fun x hx => by cases hx)
  simpa [know] using h
theorem told_some {α : Type} {r : Rel} {z : α} {f : Tab → α} {O : Box} (hv : r.valid = true) (hN : Narrow (r.first r.every) r.rulesR (some O)) : ∃ T, r.tab r.every = some T ∧ r.told true z f = (f T, 0) := by
  have h1 := (Rel.tab_truth hv r.every).2 ((Rel.narrow_can hN).1 rfl)
  obtain ⟨T, hT⟩ := Option.isSome_iff_exists.1 h1
  exact ⟨T, hT, by simp [Rel.told, hv, hT]⟩
theorem told_none {α : Type} {r : Rel} {z : α} {f : Tab → α} (hv : r.valid = true) (hN : Narrow (r.first r.every) r.rulesR none) : r.told true z f = (z, 10) := by
  have h1 : ¬ (r.tab r.every).isSome = true := fun h => by
    have := (Rel.narrow_can hN).2 ((Rel.tab_truth hv r.every).1 h)
    cases this
  have h2 : r.tab r.every = none := by
    cases h : r.tab r.every with
    | none => rfl
    | some T => rw [h] at h1; simp at h1
  simp [Rel.told, hv, h2]
/-- What 'open' gives, in the table's words. -/
theorem OpenR.out {r : Rel} {b : Bool} {w w' : World} {e : Ending} (h : OpenR r b w e w') : Below w.heap.size w w' ∧ ∃ (v : Value) (c : Int), e = .returned (.tuple #[v, .int .i64 c]) ∧ ((c ≠ 0 ∧ ∀ {α : Type} (z : α) (f : Tab → α), r.told b z f = (z, c)) ∨ (c = 0 ∧ r.valid = true ∧ b = true ∧ ∃ O, Narrow (r.first r.every) r.rulesR (some O) ∧ boxK.own w.heap.size w' v O)) := by
  obtain ⟨hb, v, c, rfl, h⟩ := h
  refine ⟨hb, v, c, rfl, ?_⟩
  rcases h with ⟨hv, rfl⟩ | ⟨hv, rfl, rfl⟩ | ⟨hv, rfl, hN, rfl⟩ | ⟨hv, rfl, O, hN, rfl, ho⟩
  · exact .inl ⟨by decide, fun z f => by simp [Rel.told, hv]⟩
  · exact .inl ⟨by decide, fun z f => by simp [Rel.told, hv]⟩
  · exact .inl ⟨by decide, fun z f => told_none hv hN⟩
  · exact .inr ⟨rfl, hv, rfl, O, hN, ho⟩
theorem on_of_box {r : Rel} (hv : r.valid = true) {O : Box} (hN : Narrow (r.first r.every) r.rulesR (some O)) {k : Nat} (hk : k < 2 * r.n) : r.told true (0, 0) (fun T => T.span 10 k) = ((O.lo k, O.hi k), 0) := by
  obtain ⟨T, hT, e⟩ := told_some (z := ((0, 0) : Int × Int)) (f := fun T => T.span 10 k) hv hN
  obtain ⟨h1, h2⟩ := r.ends_eq hv hT hN hk
  rw [e, Tab.span, h1, h2]

set_option maxRecDepth 100000 in
set_option maxHeartbeats 4000000 in
theorem refOn_any (r : Rel) (hn : r.n ≤ 1000000) (i : Int) (sv : Value) (w : World) (hS : StintsAt w sv r.stints) : Calls Try.prog 15 #[relV r sv, .int .i64 i] w fun e w' => e = .returned (.tuple #[spanV (onOf r i).1, .int .i64 (onOf r i).2]) ∧ Below w.heap.size w w' := by
  obtain ⟨sa, scap, rfl, hs0⟩ := id hS
  clear hs0
  replace hS := hid hS
  have hn' := hid hn
  clear hn
  have hb0 := hid (below_alloc (below_alloc (Below.refl _ w) (.cells #[.int .i64 r.rest, .slice sa r.stints.length scap] 24)) (.cells #[.int .i64 0, .int .i64 0] 28))
  have hm : ((w.alloc (.cells #[.int .i64 r.rest, .slice sa r.stints.length scap] 24)).alloc (.cells #[.int .i64 0, .int .i64 0] 28)).heap[w.heap.size]? = some (.cells #[.int .i64 r.rest, .slice sa r.stints.length scap] 24 (0, 0)) ∧ ((w.alloc (.cells #[.int .i64 r.rest, .slice sa r.stints.length scap] 24)).alloc (.cells #[.int .i64 0, .int .i64 0] 28)).heap[w.heap.size + 1]? = some (.cells #[.int .i64 0, .int .i64 0] 28 (0, 0)) := ⟨alloc_old (by simp) (alloc_at rfl), alloc_at (by simp)⟩
  go_enter Try.func15, Try.ntmps15
  go_upto_region 1 with fail
  generalize (w.alloc (.cells #[.int .i64 r.rest, .slice sa r.stints.length scap] 24)).alloc (.cells #[.int .i64 0, .int .i64 0] 28) = w0 at hm hb0 ⊢
  have hbx := hid (Nat.le_refl w.heap.size)
  refine wp_region_held_at (S := fun W => W.heap[w.heap.size]? = some (.cells #[.int .i64 r.rest, .slice sa r.stints.length scap] 24 (0, 0)) ∧ W.heap[w.heap.size + 1]? = some (.cells #[.int .i64 0, .int .i64 0] 28 (0, 0))) (by kernel_rfl) ?_
  intro w1 hw1 _
  have hz : w1.heap[w.heap.size]? = some (.cells #[.int .i64 r.rest, .slice sa r.stints.length scap] 24 (0, 0)) ∧ w1.heap[w.heap.size + 1]? = some (.cells #[.int .i64 0, .int .i64 0] 28 (0, 0)) := ⟨(hw1.block _ (cells_of hm.1).1).trans hm.1, (hw1.block _ (cells_of hm.2).1).trans hm.2⟩
  replace hb0 := hid (below_via hw1 hb0.out)
  clear hm hw1
  try simp only [Array.replicate]
  refine wpAnyH_quiet (i := 0) (v := relV r (.slice sa r.stints.length scap)) rfl (by kernel_rfl) (by kernel_rfl) (by kernel_rfl) (fun _ _ _ h => h) rfl (fun W hW => by obtain ⟨lq, cq⟩ := cells_of hW.1; go_simp) hz ?_
  refine wpAnyH_quiet (i := 1) (v := relV r (.slice sa r.stints.length scap)) rfl (by kernel_rfl) (by kernel_rfl) (by kernel_rfl) (fun _ _ _ h => h) rfl (fun W hW => by obtain ⟨lq, cq⟩ := cells_of hW.1; go_simp) hz ?_
  refine wpAnyH_quiet (i := 2) (v := .int .i64 i) rfl (by kernel_rfl) (by kernel_rfl) (by kernel_rfl) (fun _ _ _ h => h) rfl (fun W hW => by go_simp) hz ?_
  try simp only [Act.put, List.setIfInBounds_toArray]
  have hf := hid (refStint_any r hn'.out i sa scap w1)
  refine wpAnyH_step (i := 3) (by kernel_rfl) rfl ?_
  go_wp2_with (go_at_call 49; with_reducible refine hf.out.mono ?_; rintro e w2 ⟨rfl, hb2⟩; replace hz := And.intro ((hb2.block _ (cells_of hz.1).1).trans hz.1) ((hb2.block _ (cells_of hz.2).1).trans hz.2); replace hb0 := hid (below_via hb2 hb0.out); clear hf hb2)
  refine ⟨hz, ?_⟩
  have hf := hid (refOpen_any r hn'.out (r.isStint i) (.slice sa r.stints.length scap) w2 (hS.out.below hb0.out))
  refine wpAnyH_step (i := 4) (by kernel_rfl) rfl ?_
  go_wp2_with (go_at_call 48; with_reducible refine hf.out.mono ?_; rintro e w3 hP; obtain ⟨hb3, v, c, rfl, hO⟩ := hP.out; clear hP; replace hz := And.intro ((hb3.block _ (cells_of hz.1).1).trans hz.1) ((hb3.block _ (cells_of hz.2).1).trans hz.2); replace hb0 := hid (below_via hb3 hb0.out); replace hO := hid hO; clear hf hb3)
  refine ⟨hz, ?_⟩
  refine wpAnyH_quiet (i := 5) (v := .tuple #[v, .int .i64 c]) rfl (by kernel_rfl) (by kernel_rfl) (by kernel_rfl) (fun _ _ _ h => h) rfl (fun W hW => by go_simp) hz ?_
  refine wpAnyH_quiet (i := 6) (v := v) rfl (by kernel_rfl) (by kernel_rfl) (by kernel_rfl) (fun _ _ _ h => h) rfl (fun W hW => by go_simp) hz ?_
  refine wpAnyH_quiet (i := 7) (v := .int .i64 c) rfl (by kernel_rfl) (by kernel_rfl) (by kernel_rfl) (fun _ _ _ h => h) rfl (fun W hW => by go_simp) hz ?_
  refine wpAnyH_step (i := 8) (by kernel_rfl) rfl ?_
  go_wp2
  refine ⟨hz, ?_⟩
  refine wpAnyH_step (i := 9) (by kernel_rfl) rfl ?_
  go_wp2
  refine ⟨hz, ?_⟩
  refine wpAnyH_done (by kernel_rfl) ?_ _
  try simp only [Act.put, List.setIfInBounds_toArray]
  rcases hO.out with ⟨hc, ht⟩ | ⟨rfl, hv, hb, O, hN, hown⟩
  · have hof := hid (show onOf r i = ((0, 0), c) from ht _ _)
    clear ht hO
    replace hz := hid hz
    have lz := (cells_of hz.out.2).1
    have cz := (cells_of hz.out.2).2
    have zz := free_of hz.out.2
    go_wp2
    have hs := heap_set_same (o := 1) (v := .int .i64 0) (heap_set_same (o := 0) (v := .int .i64 0) hz.out.2)
    have r0 := (cells_of hs).2 0
    have r1 := (cells_of hs).2 1
    refine bodyPost_ret (v := .tuple #[.agg #[.int .i64 0, .int .i64 0], .int .i64 c]) (by simp [results, Try.results15, go_sem, r0, r1]) rfl ⟨by rw [hof.out], below_set (below_set hb0.out _ (by simp)) _ (by simp)⟩
  · have hi := hb
    simp only [Rel.isStint, Bool.and_eq_true, decide_eq_true_eq] at hi
    obtain ⟨q, rfl⟩ := Int.eq_ofNat_of_zero_le hi.1
    have hq : q < r.n := by omega
    have hn5 := (r.ok_of hv).2.2.1
    have hof := hid (show onOf r (q : Int) = ((O.lo (2 * q), O.hi (2 * q)), 0) by rw [onOf, hb]; exact on_of_box hv hN (by omega))
    have hOl : O.length = 2 * r.n := by rw [hN.1, r.first_length]
    obtain ⟨a, cap, rfl, _⟩ := id hown.at
    obtain ⟨g, rfl, _, lg, _, hc⟩ := box_cells hown (k := 2 * q) (by omega)
    obtain ⟨q1, q2⟩ := hc (2 * q) (by omega)
    have hki : ((2 * q : Nat) : Int) < (O.length : Int) := by omega
    have hq5 : (q : Int) < 5 := by omega
    generalize O.lo (2 * q) = x at q1 hof
    generalize O.hi (2 * q) = y at q2 hof
    clear hc hown hO hN hb hi hv hOl hn5 hq
    simp only [Int.natCast_mul, Int.cast_ofNat_Int] at hki
    replace hz := hid hz
    have lz := (cells_of hz.out.2).1
    have cz := (cells_of hz.out.2).2
    have zz := free_of hz.out.2
    go_wp2
    have hs := heap_set_same (o := 1) (v := .int .i64 y) (heap_set_same (o := 0) (v := .int .i64 x) hz.out.2)
    have r0 := (cells_of hs).2 0
    have r1 := (cells_of hs).2 1
    refine bodyPost_ret (v := .tuple #[.agg #[.int .i64 x, .int .i64 y], .int .i64 0]) (by simp [results, Try.results15, go_sem, r0, r1]) rfl ⟨by rw [hof.out], below_set (below_set hb0.out _ (by simp)) _ (by simp)⟩

set_option maxRecDepth 100000 in
set_option maxHeartbeats 4000000 in
theorem refOff_any (r : Rel) (hn : r.n ≤ 1000000) (i : Int) (sv : Value) (w : World) (hS : StintsAt w sv r.stints) : Calls Try.prog 17 #[relV r sv, .int .i64 i] w fun e w' => e = .returned (.tuple #[spanV (offOf r i).1, .int .i64 (offOf r i).2]) ∧ Below w.heap.size w w' := by
  obtain ⟨sa, scap, rfl, hs0⟩ := id hS
  clear hs0
  replace hS := hid hS
  have hn' := hid hn
  clear hn
  have hb0 := hid (below_alloc (below_alloc (Below.refl _ w) (.cells #[.int .i64 r.rest, .slice sa r.stints.length scap] 24)) (.cells #[.int .i64 0, .int .i64 0] 28))
  have hm : ((w.alloc (.cells #[.int .i64 r.rest, .slice sa r.stints.length scap] 24)).alloc (.cells #[.int .i64 0, .int .i64 0] 28)).heap[w.heap.size]? = some (.cells #[.int .i64 r.rest, .slice sa r.stints.length scap] 24 (0, 0)) ∧ ((w.alloc (.cells #[.int .i64 r.rest, .slice sa r.stints.length scap] 24)).alloc (.cells #[.int .i64 0, .int .i64 0] 28)).heap[w.heap.size + 1]? = some (.cells #[.int .i64 0, .int .i64 0] 28 (0, 0)) := ⟨alloc_old (by simp) (alloc_at rfl), alloc_at (by simp)⟩
  go_enter Try.func17, Try.ntmps17
  go_upto_region 1 with fail
  generalize (w.alloc (.cells #[.int .i64 r.rest, .slice sa r.stints.length scap] 24)).alloc (.cells #[.int .i64 0, .int .i64 0] 28) = w0 at hm hb0 ⊢
  have hbx := hid (Nat.le_refl w.heap.size)
  refine wp_region_held_at (S := fun W => W.heap[w.heap.size]? = some (.cells #[.int .i64 r.rest, .slice sa r.stints.length scap] 24 (0, 0)) ∧ W.heap[w.heap.size + 1]? = some (.cells #[.int .i64 0, .int .i64 0] 28 (0, 0))) (by kernel_rfl) ?_
  intro w1 hw1 _
  have hz : w1.heap[w.heap.size]? = some (.cells #[.int .i64 r.rest, .slice sa r.stints.length scap] 24 (0, 0)) ∧ w1.heap[w.heap.size + 1]? = some (.cells #[.int .i64 0, .int .i64 0] 28 (0, 0)) := ⟨(hw1.block _ (cells_of hm.1).1).trans hm.1, (hw1.block _ (cells_of hm.2).1).trans hm.2⟩
  replace hb0 := hid (below_via hw1 hb0.out)
  clear hm hw1
  try simp only [Array.replicate]
  refine wpAnyH_quiet (i := 0) (v := relV r (.slice sa r.stints.length scap)) rfl (by kernel_rfl) (by kernel_rfl) (by kernel_rfl) (fun _ _ _ h => h) rfl (fun W hW => by obtain ⟨lq, cq⟩ := cells_of hW.1; go_simp) hz ?_
  refine wpAnyH_quiet (i := 1) (v := relV r (.slice sa r.stints.length scap)) rfl (by kernel_rfl) (by kernel_rfl) (by kernel_rfl) (fun _ _ _ h => h) rfl (fun W hW => by obtain ⟨lq, cq⟩ := cells_of hW.1; go_simp) hz ?_
  refine wpAnyH_quiet (i := 2) (v := .int .i64 i) rfl (by kernel_rfl) (by kernel_rfl) (by kernel_rfl) (fun _ _ _ h => h) rfl (fun W hW => by go_simp) hz ?_
  try simp only [Act.put, List.setIfInBounds_toArray]
  have hf := hid (refStint_any r hn'.out i sa scap w1)
  refine wpAnyH_step (i := 3) (by kernel_rfl) rfl ?_
  go_wp2_with (go_at_call 49; with_reducible refine hf.out.mono ?_; rintro e w2 ⟨rfl, hb2⟩; replace hz := And.intro ((hb2.block _ (cells_of hz.1).1).trans hz.1) ((hb2.block _ (cells_of hz.2).1).trans hz.2); replace hb0 := hid (below_via hb2 hb0.out); clear hf hb2)
  refine ⟨hz, ?_⟩
  have hf := hid (refOpen_any r hn'.out (r.isStint i) (.slice sa r.stints.length scap) w2 (hS.out.below hb0.out))
  refine wpAnyH_step (i := 4) (by kernel_rfl) rfl ?_
  go_wp2_with (go_at_call 48; with_reducible refine hf.out.mono ?_; rintro e w3 hP; obtain ⟨hb3, v, c, rfl, hO⟩ := hP.out; clear hP; replace hz := And.intro ((hb3.block _ (cells_of hz.1).1).trans hz.1) ((hb3.block _ (cells_of hz.2).1).trans hz.2); replace hb0 := hid (below_via hb3 hb0.out); replace hO := hid hO; clear hf hb3)
  refine ⟨hz, ?_⟩
  refine wpAnyH_quiet (i := 5) (v := .tuple #[v, .int .i64 c]) rfl (by kernel_rfl) (by kernel_rfl) (by kernel_rfl) (fun _ _ _ h => h) rfl (fun W hW => by go_simp) hz ?_
  refine wpAnyH_quiet (i := 6) (v := v) rfl (by kernel_rfl) (by kernel_rfl) (by kernel_rfl) (fun _ _ _ h => h) rfl (fun W hW => by go_simp) hz ?_
  refine wpAnyH_quiet (i := 7) (v := .int .i64 c) rfl (by kernel_rfl) (by kernel_rfl) (by kernel_rfl) (fun _ _ _ h => h) rfl (fun W hW => by go_simp) hz ?_
  refine wpAnyH_step (i := 8) (by kernel_rfl) rfl ?_
  go_wp2
  refine ⟨hz, ?_⟩
  refine wpAnyH_step (i := 9) (by kernel_rfl) rfl ?_
  go_wp2
  refine ⟨hz, ?_⟩
  refine wpAnyH_done (by kernel_rfl) ?_ _
  try simp only [Act.put, List.setIfInBounds_toArray]
  rcases hO.out with ⟨hc, ht⟩ | ⟨rfl, hv, hb, O, hN, hown⟩
  · have hof := hid (show offOf r i = ((0, 0), c) from ht _ _)
    clear ht hO
    replace hz := hid hz
    have lz := (cells_of hz.out.2).1
    have cz := (cells_of hz.out.2).2
    have zz := free_of hz.out.2
    go_wp2
    have hs := heap_set_same (o := 1) (v := .int .i64 0) (heap_set_same (o := 0) (v := .int .i64 0) hz.out.2)
    have r0 := (cells_of hs).2 0
    have r1 := (cells_of hs).2 1
    refine bodyPost_ret (v := .tuple #[.agg #[.int .i64 0, .int .i64 0], .int .i64 c]) (by simp [results, Try.results17, go_sem, r0, r1]) rfl ⟨by rw [hof.out], below_set (below_set hb0.out _ (by simp)) _ (by simp)⟩
  · have hi := hb
    simp only [Rel.isStint, Bool.and_eq_true, decide_eq_true_eq] at hi
    obtain ⟨q, rfl⟩ := Int.eq_ofNat_of_zero_le hi.1
    have hq : q < r.n := by omega
    have hn5 := (r.ok_of hv).2.2.1
    have hof := hid (show offOf r (q : Int) = ((O.lo (2 * q + 1), O.hi (2 * q + 1)), 0) by rw [offOf, hb]; exact on_of_box hv hN (by omega))
    have hOl : O.length = 2 * r.n := by rw [hN.1, r.first_length]
    obtain ⟨a, cap, rfl, _⟩ := id hown.at
    obtain ⟨g, rfl, _, lg, _, hc⟩ := box_cells hown (k := 2 * q + 1) (by omega)
    obtain ⟨q1, q2⟩ := hc (2 * q + 1) (by omega)
    have hki : ((2 * q + 1 : Nat) : Int) < (O.length : Int) := by omega
    have hq5 : (q : Int) < 5 := by omega
    generalize O.lo (2 * q + 1) = x at q1 hof
    generalize O.hi (2 * q + 1) = y at q2 hof
    clear hc hown hO hN hb hi hv hOl hn5 hq
    simp only [Int.natCast_add, Int.natCast_mul, Int.cast_ofNat_Int] at hki
    replace hz := hid hz
    have lz := (cells_of hz.out.2).1
    have cz := (cells_of hz.out.2).2
    have zz := free_of hz.out.2
    go_wp2
    have hs := heap_set_same (o := 1) (v := .int .i64 y) (heap_set_same (o := 0) (v := .int .i64 x) hz.out.2)
    have r0 := (cells_of hs).2 0
    have r1 := (cells_of hs).2 1
    refine bodyPost_ret (v := .tuple #[.agg #[.int .i64 x, .int .i64 y], .int .i64 0]) (by simp [results, Try.results17, go_sem, r0, r1]) rfl ⟨by rw [hof.out], below_set (below_set hb0.out _ (by simp)) _ (by simp)⟩

end Go.Proofs.Ytccgakdaiaigoaa

namespace Go.Proofs.Ytccgakdaiaigoaa
open Go.RowKit Go.Lap Go.Shelf

theorem box_put {w W : World} {g n cap : Nat} {O : Box} (h : boxK.own w.heap.size W (.slice (some ⟨g, 0, none⟩) n cap) O) (hb : Below w.heap.size w W) {k f : Nat} (hk : k < O.length) (hf : f < 2) {s : Int × Int} {u : Value} (he : boxK.enc s = (boxK.enc (O.lo k, O.hi k)).set f u) :
    boxK.own w.heap.size (W.setCell ⟨g, k * 2 + f, none⟩ u) (.slice (some ⟨g, 0, none⟩) n cap) (O.set k s) ∧ Below w.heap.size w (W.setCell ⟨g, k * 2 + f, none⟩ u) := by
  obtain ⟨g', e, hB, hg, hz, hc⟩ := own_cells h (fun e => by rw [e] at hk; simp at hk)
  cases e
  exact ⟨h.put (Box.get hk) hf he, below_set hb _ hB⟩
theorem box_setlo {w W : World} {g n cap : Nat} {O : Box} (h : boxK.own w.heap.size W (.slice (some ⟨g, 0, none⟩) n cap) O) (hb : Below w.heap.size w W) {k : Nat} (hk : k < O.length) (z : Int) :
    boxK.own w.heap.size (W.setCell ⟨g, k * 2, none⟩ (.int .i64 z)) (.slice (some ⟨g, 0, none⟩) n cap) (O.set k (z, O.hi k)) ∧ Below w.heap.size w (W.setCell ⟨g, k * 2, none⟩ (.int .i64 z)) := box_put (f := 0) h hb hk (by decide) rfl
theorem box_sethi {w W : World} {g n cap : Nat} {O : Box} (h : boxK.own w.heap.size W (.slice (some ⟨g, 0, none⟩) n cap) O) (hb : Below w.heap.size w W) {k : Nat} (hk : k < O.length) (z : Int) :
    boxK.own w.heap.size (W.setCell ⟨g, k * 2 + 1, none⟩ (.int .i64 z)) (.slice (some ⟨g, 0, none⟩) n cap) (O.set k (O.lo k, z)) ∧ Below w.heap.size w (W.setCell ⟨g, k * 2 + 1, none⟩ (.int .i64 z)) := box_put (f := 1) h hb hk (by decide) rfl
theorem box_other {B n cap g o bx k : Nat} {W : World} {O : Box} {c : Array Value} (h : boxK.own B W (.slice (some ⟨g, 0, none⟩) n cap) O) (hk : k < O.length) (hb : W.heap[bx]? = some (.cells c 24 (0, 0))) (u : Value) : (W.setCell ⟨g, o, none⟩ u).heap[bx]? = some (.cells c 24 (0, 0)) := by
  have hne : bx ≠ g := by
    intro e
    subst e
    obtain ⟨g2, cap', cur, e, _, hg2, _⟩ := h.block (fun e => by rw [e] at hk; simp at hk)
    cases e
    rw [hb] at hg2
    cases hg2
  simp only [World.setCell, Array.getElem?_modify]
  rw [if_neg (fun e => hne e.symm)]; exact hb
/-- Spans in which the stints before one have ended in a minute, and no other one has begun. -/
def atBox (L : Box) (m : Int) (st : Nat) : Nat → Box
  | 0 => L
  | k + 1 => if k < st then (atBox L m st k).set (2 * k + 1) ((atBox L m st k).lo (2 * k + 1), min ((atBox L m st k).hi (2 * k + 1)) m) else (atBox L m st k).set (2 * k) (max ((atBox L m st k).lo (2 * k)) (m + 1), (atBox L m st k).hi (2 * k))
theorem atBox_len (L : Box) (m : Int) (st : Nat) : ∀ k, (atBox L m st k).length = L.length
  | 0 => rfl
  | k + 1 => by simp only [atBox]; split <;> simp [atBox_len L m st k]
theorem fits_sethi {O : Box} {j : Nat} {m : Int} (hj : j < O.length) (s : Nat → Int) : Box.fits (O.set j (O.lo j, min (O.hi j) m)) s ↔ O.fits s ∧ s j ≤ m := by
  constructor
  · intro h
    refine ⟨fun k hk => ?_, ?_⟩
    · have := h k (by rw [List.length_set]; exact hk)
      rw [Box.lo_set hj, Box.hi_set hj] at this
      by_cases e : k = j
      · subst e; rw [if_pos rfl, if_pos rfl] at this; simp only at this; omega
      · rwa [if_neg e, if_neg e] at this
    · have := h j (by rw [List.length_set]; exact hj)
      rw [Box.lo_set hj, Box.hi_set hj, if_pos rfl, if_pos rfl] at this; simp only at this; omega
  · rintro ⟨h, hm⟩ k hk
    rw [List.length_set] at hk
    have := h k hk
    rw [Box.lo_set hj, Box.hi_set hj]
    by_cases e : k = j
    · subst e; rw [if_pos rfl, if_pos rfl]; simp only; omega
    · rwa [if_neg e, if_neg e]
theorem fits_setlo {O : Box} {j : Nat} {m : Int} (hj : j < O.length) (s : Nat → Int) : Box.fits (O.set j (max (O.lo j) m, O.hi j)) s ↔ O.fits s ∧ m ≤ s j := by
  constructor
  · intro h
    refine ⟨fun k hk => ?_, ?_⟩
    · have := h k (by rw [List.length_set]; exact hk)
      rw [Box.lo_set hj, Box.hi_set hj] at this
      by_cases e : k = j
      · subst e; rw [if_pos rfl, if_pos rfl] at this; simp only at this; omega
      · rwa [if_neg e, if_neg e] at this
    · have := h j (by rw [List.length_set]; exact hj)
      rw [Box.lo_set hj, Box.hi_set hj, if_pos rfl, if_pos rfl] at this; simp only at this; omega
  · rintro ⟨h, hm⟩ k hk
    rw [List.length_set] at hk
    have := h k hk
    rw [Box.lo_set hj, Box.hi_set hj]
    by_cases e : k = j
    · subst e; rw [if_pos rfl, if_pos rfl]; simp only; omega
    · rwa [if_neg e, if_neg e]
theorem atBox_fits {L : Box} {m : Int} {st n : Nat} (hL : L.length = 2 * n) (s : Nat → Int) : ∀ k, k ≤ n → ((atBox L m st k).fits s ↔ L.fits s ∧ ∀ i, i < k → if i < st then s (2 * i + 1) ≤ m else m + 1 ≤ s (2 * i))
  | 0, _ => by simp [atBox]
  | k + 1, hk => by
    have ih := atBox_fits (m := m) (st := st) hL s k (by omega)
    have hlen := atBox_len L m st k
    have key : (atBox L m st (k + 1)).fits s ↔ (atBox L m st k).fits s ∧ (if k < st then s (2 * k + 1) ≤ m else m + 1 ≤ s (2 * k)) := by
      simp only [atBox]
      by_cases h : k < st
      · rw [if_pos h, if_pos h]; exact fits_sethi (by rw [hlen, hL]; omega) s
      · rw [if_neg h, if_neg h]; exact fits_setlo (by rw [hlen, hL]; omega) s
    rw [key, ih]
    constructor
    · rintro ⟨⟨h1, h2⟩, h3⟩
      refine ⟨h1, fun i hi => ?_⟩
      by_cases e : i < k
      · exact h2 i e
      · obtain rfl : i = k := by omega
        exact h3
    · rintro ⟨h1, h2⟩
      exact ⟨⟨h1, fun i hi => h2 i (by omega)⟩, h2 k (by omega)⟩

def Box.near (O : Box) : Prop := ∀ k, k < O.length → -1000 ≤ O.lo k ∧ O.lo k ≤ 1000 ∧ -1000 ≤ O.hi k ∧ O.hi k ≤ 1000
theorem Box.near_set {O : Box} (h : O.near) {j : Nat} (hj : j < O.length) {v : Int × Int} (hv : -1000 ≤ v.1 ∧ v.1 ≤ 1000 ∧ -1000 ≤ v.2 ∧ v.2 ≤ 1000) : Box.near (O.set j v) := fun k hk => by
  rw [List.length_set] at hk
  have := h k hk
  rw [Box.lo_set hj, Box.hi_set hj]
  by_cases e : k = j
  · rw [if_pos e, if_pos e]; exact hv
  · rw [if_neg e, if_neg e]; exact this
theorem atBox_near {L : Box} {m : Int} (hm : 0 ≤ m ∧ m ≤ 600) {n : Nat} (hL : L.length = 2 * n) (h : L.near) (st : Nat) : ∀ q, q ≤ n → (atBox L m st q).near
  | 0, _ => h
  | q + 1, hq => by
    have ih := atBox_near hm hL h st q (by omega)
    have hlen := atBox_len L m st q
    have h1 := ih (2 * q + 1) (by rw [hlen, hL]; omega)
    have h2 := ih (2 * q) (by rw [hlen, hL]; omega)
    simp only [atBox]
    split
    · exact Box.near_set ih (by rw [hlen, hL]; omega) (by simp only; omega)
    · exact Box.near_set ih (by rw [hlen, hL]; omega) (by simp only; omega)
theorem narrowed_near {r : Rel} (hv : r.valid = true) {L : Box} (hL : L.length = 2 * r.n) (hN : L.near) (lv bv : Value) (w : World) (hl : boxK.own 0 w lv L) (hr : ruK.own 0 w bv r.rulesR) : Calls Try.prog 75 #[lv, bv] w (NarPost L r.rulesR w) :=
  narrowed_any L r.rulesR (by rw [hL]; have := (r.ok_of hv).2.2.1; omega) (by have := Rel.rulesR_len (r.ok_of hv).2.2.1; omega) hN (fun x hx => by have := Rel.rulesR_ok hv 0 x hx; rw [r.first_length] at this; rw [hL]; exact this) lv bv w hl.at (own_nilOk hl) hr.at

set_option maxRecDepth 100000 in
set_option maxHeartbeats 4000000 in
theorem at_any (r : Rel) (hv : r.valid = true) (m : Int) (hm : 0 ≤ m ∧ m ≤ 600) (st : Nat) (sv : Value) (w : World) (hS : StintsAt w sv r.stints) : Calls Try.prog 79 #[relV r sv, .int .i64 m, .int .i64 st] w fun e w' => ∃ b : Bool, e = .returned (.bool b) ∧ (b = true ↔ ∃ s, Truth r r.every s ∧ ∀ i, i < r.n → if i < st then s (2 * i + 1) ≤ m else m + 1 ≤ s (2 * i)) ∧ Below w.heap.size w w' := by
  obtain ⟨sa, scap, rfl, hs0⟩ := id hS
  clear hs0
  replace hS := hid hS
  have hv' := hid hv
  have hn5 := hid (r.ok_of hv).2.2.1
  have hn5i : (r.stints.length : Int) ≤ 5 := by have : r.stints.length ≤ 5 := (r.ok_of hv).2.2.1; omega
  obtain ⟨hm0, hm6⟩ := hm
  clear hv
  have hb0 := hid (below_alloc (Below.refl _ w) (.cells #[.int .i64 r.rest, .slice sa r.stints.length scap] 24))
  have hx := alloc_at (w := w) (o := .cells #[.int .i64 r.rest, .slice sa r.stints.length scap] 24) rfl
  go_enter Try.func79, Try.ntmps79
  go_upto_region 1 with fail
  generalize w.alloc (.cells #[.int .i64 r.rest, .slice sa r.stints.length scap] 24) = w0 at hx hb0 ⊢
  refine wp_region_held_at (S := fun W => W.heap[w.heap.size]? = some (.cells #[.int .i64 r.rest, .slice sa r.stints.length scap] 24 (0, 0))) (by kernel_rfl) ?_
  intro w1 hw1 _
  have hz : w1.heap[w.heap.size]? = some (.cells #[.int .i64 r.rest, .slice sa r.stints.length scap] 24 (0, 0)) := (hw1.block _ (cells_of hx).1).trans hx
  replace hb0 := hid (below_via hw1 hb0.out)
  clear hx hw1
  try simp only [Array.replicate]
  refine wpAnyH_quiet (i := 0) (v := relV r (.slice sa r.stints.length scap)) rfl (by kernel_rfl) (by kernel_rfl) (by kernel_rfl) (fun _ _ _ h => h) rfl (fun W hW => by obtain ⟨lq, cq⟩ := cells_of hW; go_simp) hz ?_
  refine wpAnyH_quiet (i := 1) (v := relV r (.slice sa r.stints.length scap)) rfl (by kernel_rfl) (by kernel_rfl) (by kernel_rfl) (fun _ _ _ h => h) rfl (fun W hW => by obtain ⟨lq, cq⟩ := cells_of hW; go_simp) hz ?_
  try simp only [Act.put, List.setIfInBounds_toArray]
  have hf := hid (refEvery_any r hn5.out sa scap w1)
  refine wpAnyH_step (i := 2) (by kernel_rfl) rfl ?_
  go_wp2_with (go_at_call 36; with_reducible refine hf.out.mono ?_; rintro e w2 ⟨rfl, hb2⟩; replace hz := (hb2.block _ (cells_of hz).1).trans hz; replace hb0 := hid (below_via hb2 hb0.out); clear hf hb2)
  refine ⟨hz, ?_⟩
  have hf := hid (rfirst_any r hn5.out r.every (Rel.every_le hn5.out) (.slice sa r.stints.length scap) w2 (hS.out.below hb0.out))
  refine wpAnyH_step (i := 3) (by kernel_rfl) rfl ?_
  go_wp2_with (go_at_call 76; with_reducible refine hf.out.mono ?_; rintro e w3 ⟨v, rfl, hown, hb3⟩; replace hz := (hb3.block _ (cells_of hz).1).trans hz; replace hown := hid (hown.low hb0.out.size); replace hb0 := hid (below_via hb3 hb0.out); clear hf hb3)
  refine ⟨hz, ?_⟩
  refine wpAnyH_step (i := 4) (by kernel_rfl) rfl ?_
  go_wp2
  refine ⟨hz, ?_⟩
  refine wpAnyH_done (by kernel_rfl) ?_ _
  try simp only [Act.put, List.setIfInBounds_toArray]
  have hL := hid (show (r.first r.every).length = 2 * r.stints.length from r.first_length r.every)
  obtain ⟨a, cap, rfl, _⟩ := id hown.out.at
  replace hz := hid hz
  go_wp2
  go_loopw [8] (fun i wr => ∃ k : Nat, k ≤ r.stints.length ∧ i = .int .i64 k ∧ Hid (boxK.own w.heap.size wr (.slice a (List.length (r.first r.every)) cap) (atBox (r.first r.every) m st k)) ∧ Hid (Below w.heap.size w wr) ∧ Hid (wr.heap[w.heap.size]? = some (.cells #[.int .i64 r.rest, .slice sa r.stints.length scap] 24 (0, 0)))) (fun i _ => r.stints.length - (intOf i).toNat)
  case atStart => exact ⟨0, by omega, rfl, hown, hb0, hz⟩
  case round =>
    obtain ⟨k, hk, rfl, ho, hb, hzz⟩ := hrel
    have lt := (cells_of hzz.out).1
    have ct := (cells_of hzz.out).2
    clear hown hb0 hz
    have hLk := hid (show (atBox (r.first r.every) m st k).length = 2 * r.stints.length by rw [atBox_len, hL.out])
    have hLL : ((List.length (r.first r.every) : Nat) : Int) = 2 * (r.stints.length : Int) := by rw [hL.out]; omega
    by_cases hlt : k < r.stints.length
    · have hki : (k : Int) < (r.stints.length : Int) := by omega
      have i1 : 2 * (k : Int) + 1 < ((List.length (r.first r.every) : Nat) : Int) := by omega
      have i2 : 2 * (k : Int) < ((List.length (r.first r.every) : Nat) : Int) := by omega
      replace hLL := hid hLL
      by_cases hst : k < st
      · have hsti : (k : Int) < (st : Int) := by omega
        have l1 := hid (show 2 * k + 1 < (atBox (r.first r.every) m st k).length by rw [hLk.out]; omega)
        have hA := hid (show atBox (r.first r.every) m st (k + 1) = (atBox (r.first r.every) m st k).set (2 * k + 1) ((atBox (r.first r.every) m st k).lo (2 * k + 1), min ((atBox (r.first r.every) m st k).hi (2 * k + 1)) m) by rw [atBox, if_pos hst])
        obtain ⟨g, rfl, _, lg, zg, hc⟩ := box_cells ho.out (k := 2 * k + 1) l1.out
        obtain ⟨q1, q2⟩ := hc (2 * k + 1) l1.out
        clear hc q1
        obtain ⟨y, hy⟩ : ∃ y, (atBox (r.first r.every) m st k).hi (2 * k + 1) = y := ⟨_, rfl⟩
        rw [hy] at q2
        replace hy := hid hy
        by_cases hmy : m < y
        · have hS1 := hid (box_sethi ho.out hb.out l1.out m)
          have hA2 := hid (show (atBox (r.first r.every) m st k).set (2 * k + 1) ((atBox (r.first r.every) m st k).lo (2 * k + 1), m) = atBox (r.first r.every) m st (k + 1) by rw [hA.out, hy.out, show min y m = m by omega])
          go_wp2
          go_roundw
          case rel => exact ⟨k + 1, by omega, by go_num, hid (by rw [← hA2.out]; exact hS1.out.1), hid hS1.out.2, hid (box_other ho.out l1.out hzz.out _)⟩
          case measure => simp [intOf]; omega
        · have hS1 := hid (box_sethi ho.out hb.out l1.out y)
          have hA2 := hid (show (atBox (r.first r.every) m st k).set (2 * k + 1) ((atBox (r.first r.every) m st k).lo (2 * k + 1), y) = atBox (r.first r.every) m st (k + 1) by rw [hA.out, hy.out, show min y m = y by omega])
          go_wp2
          go_roundw
          case rel => exact ⟨k + 1, by omega, by go_num, hid (by rw [← hA2.out]; exact hS1.out.1), hid hS1.out.2, hid (box_other ho.out l1.out hzz.out _)⟩
          case measure => simp [intOf]; omega
      · have hsti : ¬ (k : Int) < (st : Int) := by omega
        have l1 := hid (show 2 * k < (atBox (r.first r.every) m st k).length by rw [hLk.out]; omega)
        have hA := hid (show atBox (r.first r.every) m st (k + 1) = (atBox (r.first r.every) m st k).set (2 * k) (max ((atBox (r.first r.every) m st k).lo (2 * k)) (m + 1), (atBox (r.first r.every) m st k).hi (2 * k)) by rw [atBox, if_neg hst])
        obtain ⟨g, rfl, _, lg, zg, hc⟩ := box_cells ho.out (k := 2 * k) l1.out
        obtain ⟨q1, q2⟩ := hc (2 * k) l1.out
        clear hc q2
        obtain ⟨y, hy⟩ : ∃ y, (atBox (r.first r.every) m st k).lo (2 * k) = y := ⟨_, rfl⟩
        rw [hy] at q1
        replace hy := hid hy
        by_cases hmy : y < m + 1
        · have hS1 := hid (box_setlo ho.out hb.out l1.out (m + 1))
          have hA2 := hid (show (atBox (r.first r.every) m st k).set (2 * k) (m + 1, (atBox (r.first r.every) m st k).hi (2 * k)) = atBox (r.first r.every) m st (k + 1) by rw [hA.out, hy.out, show max y (m + 1) = m + 1 by omega])
          go_wp2
          go_roundw
          case rel => exact ⟨k + 1, by omega, by go_num, hid (by rw [← hA2.out]; exact hS1.out.1), hid hS1.out.2, hid (box_other ho.out l1.out hzz.out _)⟩
          case measure => simp [intOf]; omega
        · have hS1 := hid (box_setlo ho.out hb.out l1.out y)
          have hA2 := hid (show (atBox (r.first r.every) m st k).set (2 * k) (y, (atBox (r.first r.every) m st k).hi (2 * k)) = atBox (r.first r.every) m st (k + 1) by rw [hA.out, hy.out, show max y (m + 1) = y by omega])
          go_wp2
          go_roundw
          case rel => exact ⟨k + 1, by omega, by go_num, hid (by rw [← hA2.out]; exact hS1.out.1), hid hS1.out.2, hid (box_other ho.out l1.out hzz.out _)⟩
          case measure => simp [intOf]; omega
    · obtain rfl : k = r.stints.length := by omega
      have hnear := hid (atBox_near ⟨hm0, hm6⟩ hL.out (Rel.first_bnd hv'.out r.every) st r.stints.length (Nat.le_refl _))
      have hfit := hid (fun s => atBox_fits (m := m) (st := st) hL.out s r.stints.length (Nat.le_refl _))
      replace hLL := hid hLL
      have hf := hid (rules_any r hn5.out (.slice sa r.stints.length scap) wr (hS.out.below hb.out))
      go_upto_region 8 with fail
      go_wp2_with (first | (go_at_call 77; with_reducible refine hf.out.mono ?_; rintro e w4 ⟨v2, rfl, hv2, hb4⟩; replace ho := hid (ho.out.below hb4); replace hb := hid (below_via hb4 hb.out); replace hv2 := hid hv2; replace hf := hid (narrowed_near hv'.out hLk.out hnear.out _ v2 w4 (ho.out.low (Nat.zero_le _)) (hv2.out.low (Nat.zero_le _))); clear hb4) | (go_at_call 75; with_reducible refine hf.out.mono ?_; rintro e w5 hP; obtain ⟨o, v, hN, rfl, hO, hb5⟩ := hP.out; clear hP hO; replace hb := hid (below_via hb5 hb.out); replace hN := hid hN; clear hf hb5))
      go_ret
      exact ⟨o.isSome, rfl, Rel.less_iff hfit.out hN.out, hb.out⟩
  end Go.Proofs.Ytccgakdaiaigoaa

namespace Go.Proofs.Ytccgakdaiaigoaa
open Go.RowKit Go.Lap Go.Shelf

set_option maxRecDepth 100000 in
set_option maxHeartbeats 4000000 in
theorem free_any (r : Rel) (hv : r.valid = true) (m : Int) (hm : 0 ≤ m ∧ m ≤ 600) (sv : Value) (w : World) (hS : StintsAt w sv r.stints) : Calls Try.prog 57 #[relV r sv, .int .i64 m] w fun e w' => ∃ b : Bool, e = .returned (.bool b) ∧ (b = true ↔ ∃ k, k ≤ r.n ∧ AtT r m k) ∧ Below w.heap.size w w' := by
  obtain ⟨sa, scap, rfl, hs0⟩ := id hS
  clear hs0
  replace hS := hid hS
  have hv' := hid hv
  have hm' := hid hm
  have hn5i : (r.stints.length : Int) ≤ 5 := by have : r.stints.length ≤ 5 := (r.ok_of hv).2.2.1; omega
  clear hv hm
  have hb0 := hid (below_alloc (Below.refl _ w) (.cells #[.int .i64 r.rest, .slice sa r.stints.length scap] 24))
  have hx := alloc_at (w := w) (o := .cells #[.int .i64 r.rest, .slice sa r.stints.length scap] 24) rfl
  go_enter Try.func57, Try.ntmps57
  go_wp2
  generalize w.alloc (.cells #[.int .i64 r.rest, .slice sa r.stints.length scap] 24) = w0 at hx hb0 ⊢
  replace hx := hid hx
  go_loopw [5] (fun i wr => ∃ k : Nat, k ≤ r.stints.length + 1 ∧ i = .int .i64 k ∧ Hid (∀ j, j < k → ¬ AtT r m j) ∧ Hid (Below w.heap.size w wr) ∧ Hid (wr.heap[w.heap.size]? = some (.cells #[.int .i64 r.rest, .slice sa r.stints.length scap] 24 (0, 0)))) (fun i _ => r.stints.length + 1 - (intOf i).toNat)
  case atStart => exact ⟨0, by omega, rfl, hid (by omega), hb0, hx⟩
  case round =>
    obtain ⟨k, hk, rfl, hno, hb, hzz⟩ := hrel
    have lt := (cells_of hzz.out).1
    have ct := (cells_of hzz.out).2
    clear hb0 hx
    by_cases hlt : k ≤ r.stints.length
    · have hki : (k : Int) ≤ (r.stints.length : Int) := by omega
      have hf := hid (at_any r hv'.out m hm'.out k (.slice sa r.stints.length scap) wr (hS.out.below hb.out))
      go_upto_region 4 with fail
      go_wp2_with (go_at_call 79; with_reducible refine hf.out.mono ?_; rintro e w4 ⟨b, rfl, hbi, hb4⟩; replace hzz := hid ((hb4.block _ (cells_of hzz.out).1).trans hzz.out); replace hb := hid (below_via hb4 hb.out); replace hbi := hid hbi; clear hf hb4; cases b)
      · go_roundw
        case rel => exact ⟨k + 1, by omega, by go_num, hid (fun j hj => by
          by_cases e : j < k
          · exact hno.out j e
          · obtain rfl : j = k := by omega
            exact fun h => by have := hbi.out.2 h; cases this), hb, hzz⟩
        case measure => simp [intOf]; omega
      · go_ret
        exact ⟨true, rfl, ⟨fun _ => ⟨k, hlt, by have h := hbi.out; simp only [true_iff] at h; exact h⟩, fun _ => rfl⟩, hb.out⟩
    · obtain rfl : k = r.stints.length + 1 := by omega
      go_wp2
      go_ret
      exact ⟨false, rfl, ⟨(fun h => by cases h), fun ⟨j, hj, h⟩ => absurd h (hno.out j (by have : j ≤ r.stints.length := hj; omega))⟩, hb.out⟩
end Go.Proofs.Ytccgakdaiaigoaa

namespace Go.Proofs.Ytccgakdaiaigoaa
open Go.RowKit Go.Lap Go.Shelf

def onBox1 (L : Box) (m : Int) (i : Nat) : Box := L.set (2 * i) (L.lo (2 * i), min (L.hi (2 * i)) m)
def onBox (L : Box) (m : Int) (i : Nat) : Box := (onBox1 L m i).set (2 * i + 1) (max ((onBox1 L m i).lo (2 * i + 1)) (m + 1), (onBox1 L m i).hi (2 * i + 1))
theorem onBox1_len (L : Box) (m : Int) (i : Nat) : (onBox1 L m i).length = L.length := by simp [onBox1]
theorem onBox_len (L : Box) (m : Int) (i : Nat) : (onBox L m i).length = L.length := by simp [onBox, onBox1]
theorem onBox_near {L : Box} {m : Int} (hm : 0 ≤ m ∧ m ≤ 600) (h : L.near) {i : Nat} (hi : 2 * i + 1 < L.length) : (onBox L m i).near := by
  have h1 := h (2 * i) (by omega)
  have hA : (onBox1 L m i).near := Box.near_set h (by omega) (by simp only; omega)
  have h2 := hA (2 * i + 1) (by rw [onBox1_len]; exact hi)
  exact Box.near_set hA (by rw [onBox1_len]; exact hi) (by simp only; omega)
theorem onBox_fits {L : Box} {m : Int} {i : Nat} (hi : 2 * i + 1 < L.length) (s : Nat → Int) : (onBox L m i).fits s ↔ L.fits s ∧ (s (2 * i) ≤ m ∧ m + 1 ≤ s (2 * i + 1)) := by
  rw [onBox, fits_setlo (by rw [onBox1_len]; exact hi), onBox1, fits_sethi (by omega), and_assoc]

set_option maxRecDepth 100000 in
set_option maxHeartbeats 4000000 in
theorem busy_any (r : Rel) (hv : r.valid = true) (m : Int) (hm : 0 ≤ m ∧ m ≤ 600) (sv : Value) (w : World) (hS : StintsAt w sv r.stints) : Calls Try.prog 55 #[relV r sv, .int .i64 m] w fun e w' => ∃ b : Bool, e = .returned (.bool b) ∧ (b = true ↔ ∃ k, k < r.n ∧ OnT r m k) ∧ Below w.heap.size w w' := by
  obtain ⟨sa, scap, rfl, hs0⟩ := id hS
  clear hs0
  replace hS := hid hS
  have hv' := hid hv
  have hm' := hid hm
  have hn5 := hid (r.ok_of hv).2.2.1
  have hn5i : (r.stints.length : Int) ≤ 5 := by have : r.stints.length ≤ 5 := (r.ok_of hv).2.2.1; omega
  obtain ⟨hm0, hm6⟩ := hm
  clear hv
  have hb0 := hid (below_alloc (Below.refl _ w) (.cells #[.int .i64 r.rest, .slice sa r.stints.length scap] 24))
  have hx := alloc_at (w := w) (o := .cells #[.int .i64 r.rest, .slice sa r.stints.length scap] 24) rfl
  go_enter Try.func55, Try.ntmps55
  go_wp2
  generalize w.alloc (.cells #[.int .i64 r.rest, .slice sa r.stints.length scap] 24) = w0 at hx hb0 ⊢
  replace hx := hid hx
  go_loopw [5, 6, 7, 8] (fun i _ _ _ wr => ∃ k : Nat, k ≤ r.stints.length ∧ i = .int .i64 k ∧ Hid (∀ j, j < k → ¬ OnT r m j) ∧ Hid (Below w.heap.size w wr) ∧ Hid (wr.heap[w.heap.size]? = some (.cells #[.int .i64 r.rest, .slice sa r.stints.length scap] 24 (0, 0)))) (fun i _ _ _ _ => r.stints.length - (intOf i).toNat)
  case atStart => exact ⟨0, by omega, rfl, hid (by omega), hb0, hx⟩
  case round =>
    obtain ⟨k, hk, rfl, hno, hb, hzz⟩ := hrel
    have lt := (cells_of hzz.out).1
    have ct := (cells_of hzz.out).2
    clear hb0 hx
    by_cases hlt : k < r.stints.length
    · have hki : (k : Int) < (r.stints.length : Int) := by omega
      go_upto_region 4 with fail
      refine wp_region_held_at (S := fun W => W.heap[w.heap.size]? = some (.cells #[.int .i64 r.rest, .slice sa r.stints.length scap] 24 (0, 0))) (by kernel_rfl) ?_
      intro w1 hw1 _
      have hz : w1.heap[w.heap.size]? = some (.cells #[.int .i64 r.rest, .slice sa r.stints.length scap] 24 (0, 0)) := (hw1.block _ (cells_of hzz.out).1).trans hzz.out
      replace hb := hid (below_via hw1 hb.out)
      clear lt ct hzz hw1
      try simp only [Array.replicate]
      refine wpAnyH_quiet (i := 0) (v := relV r (.slice sa r.stints.length scap)) rfl (by kernel_rfl) (by kernel_rfl) (by kernel_rfl) (fun _ _ _ h => h) rfl (fun W hW => by obtain ⟨lq, cq⟩ := cells_of hW; go_simp) hz ?_
      refine wpAnyH_quiet (i := 1) (v := relV r (.slice sa r.stints.length scap)) rfl (by kernel_rfl) (by kernel_rfl) (by kernel_rfl) (fun _ _ _ h => h) rfl (fun W hW => by obtain ⟨lq, cq⟩ := cells_of hW; go_simp) hz ?_
      try simp only [Act.put, List.setIfInBounds_toArray]
      have hf := hid (refEvery_any r hn5.out sa scap w1)
      refine wpAnyH_step (i := 2) (by kernel_rfl) rfl ?_
      go_wp2_with (go_at_call 36; with_reducible refine hf.out.mono ?_; rintro e w2 ⟨rfl, hb2⟩; replace hz := (hb2.block _ (cells_of hz).1).trans hz; replace hb := hid (below_via hb2 hb.out); clear hf hb2)
      refine ⟨hz, ?_⟩
      have hf := hid (rfirst_any r hn5.out r.every (Rel.every_le hn5.out) (.slice sa r.stints.length scap) w2 (hS.out.below hb.out))
      refine wpAnyH_step (i := 3) (by kernel_rfl) rfl ?_
      go_wp2_with (go_at_call 76; with_reducible refine hf.out.mono ?_; rintro e w3 ⟨v, rfl, hown, hb3⟩; replace hz := (hb3.block _ (cells_of hz).1).trans hz; replace hown := hid (hown.low hb.out.size); replace hb := hid (below_via hb3 hb.out); clear hf hb3)
      refine ⟨hz, ?_⟩
      refine wpAnyH_step (i := 4) (by kernel_rfl) rfl ?_
      go_wp2
      refine ⟨hz, ?_⟩
      refine wpAnyH_done (by kernel_rfl) ?_ _
      try simp only [Act.put, List.setIfInBounds_toArray]
      obtain ⟨L, hLd⟩ : ∃ L, L = r.first r.every := ⟨_, rfl⟩
      have hLn := hid (show L.near by rw [hLd]; exact Rel.first_bnd hv'.out r.every)
      have hL : L.length = 2 * r.stints.length := by rw [hLd]; exact r.first_length r.every
      rw [← hLd] at hown
      replace hLd := hid hLd
      obtain ⟨a, cap, rfl, _⟩ := id hown.out.at
      have i1 : 2 * (k : Int) + 1 < ((List.length L : Nat) : Int) := by omega
      have i2 : 2 * (k : Int) < ((List.length L : Nat) : Int) := by omega
      have l1 := hid (show 2 * k < L.length by omega)
      have l2 := hid (show 2 * k + 1 < L.length by omega)
      have l3 := hid (show 2 * k + 1 < (onBox1 L m k).length by rw [onBox1_len]; exact l2.out)
      replace hL := hid hL
      obtain ⟨g, rfl, _, lg, zg, hc⟩ := box_cells hown.out (k := 2 * k) l1.out
      obtain ⟨q1, q2⟩ := hc (2 * k) l1.out
      clear hc q1
      obtain ⟨y, hy⟩ : ∃ y, L.hi (2 * k) = y := ⟨_, rfl⟩
      rw [hy] at q2
      replace hy := hid hy
      have hlg := hid lg
      by_cases hmy : m < y
      · skip
        have hA := hid (show L.set (2 * k) (L.lo (2 * k), m) = onBox1 L m k by rw [onBox1, hy.out, show min y m = m by omega])
        have hS1 := hid (box_sethi hown.out hb.out l1.out m)
        have hK1 := hid (box_other (o := 2 * k * 2 + 1) hown.out l1.out hz (.int .i64 m))
        go_upto_region 6 with fail
        rw [hA.out] at hS1
        generalize w3.setCell ⟨g, 2 * k * 2 + 1, none⟩ (.int .i64 m) = w4 at hS1 hK1 ⊢
        clear q2 lg zg
        obtain ⟨g2, eg, _, lg, zg, hc⟩ := box_cells hS1.out.1 (k := 2 * k + 1) l3.out
        injection eg with eg
        injection eg with eg
        subst eg
        obtain ⟨q3, q4⟩ := hc (2 * k + 1) l3.out
        clear hc q4
        obtain ⟨y2, hy2⟩ : ∃ y, (onBox1 L m k).lo (2 * k + 1) = y := ⟨_, rfl⟩
        rw [hy2] at q3
        replace hy2 := hid hy2
        by_cases hmz : y2 < m + 1
        · have hB := hid (show (onBox1 L m k).set (2 * k + 1) (m + 1, (onBox1 L m k).hi (2 * k + 1)) = onBox L m k by rw [onBox, hy2.out, show max y2 (m + 1) = m + 1 by omega])
          have hS2 := hid (box_setlo hS1.out.1 hS1.out.2 l3.out (m + 1))
          have hK2 := hid (box_other (o := (2 * k + 1) * 2) hS1.out.1 l3.out hK1.out (.int .i64 (m + 1)))
          rw [hB.out] at hS2
          go_upto_region 7 with fail
          generalize w4.setCell ⟨g, (2 * k + 1) * 2, none⟩ (.int .i64 (m + 1)) = w5 at hS2 hK2 ⊢
          clear q3 lg zg
          have lt := (cells_of hK2.out).1
          have ct := (cells_of hK2.out).2
          have hL5 := hid (show (onBox L m k).length = 2 * r.n by rw [onBox_len]; exact hL.out)
          have hf := hid (rules_any r hn5.out (.slice sa r.stints.length scap) w5 (hS.out.below hS2.out.2))
          replace hb := hid hS2.out.2
          replace hS2 := hid hS2.out.1
          go_wp2_with (first | (go_at_call 77; with_reducible refine hf.out.mono ?_; rintro e w6 ⟨v2, rfl, hv2, hb6⟩; replace hS2 := hid (hS2.out.below hb6); replace hb := hid (below_via hb6 hb.out); replace hv2 := hid hv2; replace hK2 := hid ((hb6.block _ (cells_of hK2.out).1).trans hK2.out); replace hf := hid (narrowed_near hv'.out hL5.out (onBox_near hm'.out hLn.out l2.out) _ v2 w6 (hS2.out.low (Nat.zero_le _)) (hv2.out.low (Nat.zero_le _))); clear hb6) | (go_at_call 75; with_reducible refine hf.out.mono ?_; rintro e w7 hP; obtain ⟨o, v, hN, rfl, hO, hb7⟩ := hP.out; clear hP hO; replace hb := hid (below_via hb7 hb.out); replace hN := hid hN; replace hK2 := hid ((hb7.block _ (cells_of hK2.out).1).trans hK2.out); clear hf hb7; have hI := hid (Rel.less_iff (P := fun s => s (2 * k) ≤ m ∧ m + 1 ≤ s (2 * k + 1)) (fun s => by rw [← hLd.out]; exact onBox_fits l2.out s) hN.out); generalize o.isSome = b at hI ⊢; cases b))
          · go_roundw
            case rel => exact ⟨k + 1, by omega, by go_num, hid (fun j hj => by
              by_cases e : j < k
              · exact hno.out j e
              · obtain rfl : j = k := by omega
                exact fun h => by have h2 := hI.out; simp only [Bool.false_eq_true, false_iff] at h2; exact h2 h), hb, hK2⟩
            case measure => simp [intOf]; omega
          · go_ret
            exact ⟨true, rfl, ⟨fun _ => ⟨k, hlt, by have h2 := hI.out; simp only [true_iff] at h2; exact h2⟩, fun _ => rfl⟩, hb.out⟩
        · have hB := hid (show (onBox1 L m k).set (2 * k + 1) (y2, (onBox1 L m k).hi (2 * k + 1)) = onBox L m k by rw [onBox, hy2.out, show max y2 (m + 1) = y2 by omega])
          have hS2 := hid (box_setlo hS1.out.1 hS1.out.2 l3.out (y2))
          have hK2 := hid (box_other (o := (2 * k + 1) * 2) hS1.out.1 l3.out hK1.out (.int .i64 (y2)))
          rw [hB.out] at hS2
          go_upto_region 7 with fail
          generalize w4.setCell ⟨g, (2 * k + 1) * 2, none⟩ (.int .i64 (y2)) = w5 at hS2 hK2 ⊢
          clear q3 lg zg
          have lt := (cells_of hK2.out).1
          have ct := (cells_of hK2.out).2
          have hL5 := hid (show (onBox L m k).length = 2 * r.n by rw [onBox_len]; exact hL.out)
          have hf := hid (rules_any r hn5.out (.slice sa r.stints.length scap) w5 (hS.out.below hS2.out.2))
          replace hb := hid hS2.out.2
          replace hS2 := hid hS2.out.1
          go_wp2_with (first | (go_at_call 77; with_reducible refine hf.out.mono ?_; rintro e w6 ⟨v2, rfl, hv2, hb6⟩; replace hS2 := hid (hS2.out.below hb6); replace hb := hid (below_via hb6 hb.out); replace hv2 := hid hv2; replace hK2 := hid ((hb6.block _ (cells_of hK2.out).1).trans hK2.out); replace hf := hid (narrowed_near hv'.out hL5.out (onBox_near hm'.out hLn.out l2.out) _ v2 w6 (hS2.out.low (Nat.zero_le _)) (hv2.out.low (Nat.zero_le _))); clear hb6) | (go_at_call 75; with_reducible refine hf.out.mono ?_; rintro e w7 hP; obtain ⟨o, v, hN, rfl, hO, hb7⟩ := hP.out; clear hP hO; replace hb := hid (below_via hb7 hb.out); replace hN := hid hN; replace hK2 := hid ((hb7.block _ (cells_of hK2.out).1).trans hK2.out); clear hf hb7; have hI := hid (Rel.less_iff (P := fun s => s (2 * k) ≤ m ∧ m + 1 ≤ s (2 * k + 1)) (fun s => by rw [← hLd.out]; exact onBox_fits l2.out s) hN.out); generalize o.isSome = b at hI ⊢; cases b))
          · go_roundw
            case rel => exact ⟨k + 1, by omega, by go_num, hid (fun j hj => by
              by_cases e : j < k
              · exact hno.out j e
              · obtain rfl : j = k := by omega
                exact fun h => by have h2 := hI.out; simp only [Bool.false_eq_true, false_iff] at h2; exact h2 h), hb, hK2⟩
            case measure => simp [intOf]; omega
          · go_ret
            exact ⟨true, rfl, ⟨fun _ => ⟨k, hlt, by have h2 := hI.out; simp only [true_iff] at h2; exact h2⟩, fun _ => rfl⟩, hb.out⟩
      · skip
        have hA := hid (show L.set (2 * k) (L.lo (2 * k), y) = onBox1 L m k by rw [onBox1, hy.out, show min y m = y by omega])
        have hS1 := hid (box_sethi hown.out hb.out l1.out y)
        have hK1 := hid (box_other (o := 2 * k * 2 + 1) hown.out l1.out hz (.int .i64 y))
        go_upto_region 6 with fail
        rw [hA.out] at hS1
        generalize w3.setCell ⟨g, 2 * k * 2 + 1, none⟩ (.int .i64 y) = w4 at hS1 hK1 ⊢
        clear q2 lg zg
        obtain ⟨g2, eg, _, lg, zg, hc⟩ := box_cells hS1.out.1 (k := 2 * k + 1) l3.out
        injection eg with eg
        injection eg with eg
        subst eg
        obtain ⟨q3, q4⟩ := hc (2 * k + 1) l3.out
        clear hc q4
        obtain ⟨y2, hy2⟩ : ∃ y, (onBox1 L m k).lo (2 * k + 1) = y := ⟨_, rfl⟩
        rw [hy2] at q3
        replace hy2 := hid hy2
        by_cases hmz : y2 < m + 1
        · have hB := hid (show (onBox1 L m k).set (2 * k + 1) (m + 1, (onBox1 L m k).hi (2 * k + 1)) = onBox L m k by rw [onBox, hy2.out, show max y2 (m + 1) = m + 1 by omega])
          have hS2 := hid (box_setlo hS1.out.1 hS1.out.2 l3.out (m + 1))
          have hK2 := hid (box_other (o := (2 * k + 1) * 2) hS1.out.1 l3.out hK1.out (.int .i64 (m + 1)))
          rw [hB.out] at hS2
          go_upto_region 7 with fail
          generalize w4.setCell ⟨g, (2 * k + 1) * 2, none⟩ (.int .i64 (m + 1)) = w5 at hS2 hK2 ⊢
          clear q3 lg zg
          have lt := (cells_of hK2.out).1
          have ct := (cells_of hK2.out).2
          have hL5 := hid (show (onBox L m k).length = 2 * r.n by rw [onBox_len]; exact hL.out)
          have hf := hid (rules_any r hn5.out (.slice sa r.stints.length scap) w5 (hS.out.below hS2.out.2))
          replace hb := hid hS2.out.2
          replace hS2 := hid hS2.out.1
          go_wp2_with (first | (go_at_call 77; with_reducible refine hf.out.mono ?_; rintro e w6 ⟨v2, rfl, hv2, hb6⟩; replace hS2 := hid (hS2.out.below hb6); replace hb := hid (below_via hb6 hb.out); replace hv2 := hid hv2; replace hK2 := hid ((hb6.block _ (cells_of hK2.out).1).trans hK2.out); replace hf := hid (narrowed_near hv'.out hL5.out (onBox_near hm'.out hLn.out l2.out) _ v2 w6 (hS2.out.low (Nat.zero_le _)) (hv2.out.low (Nat.zero_le _))); clear hb6) | (go_at_call 75; with_reducible refine hf.out.mono ?_; rintro e w7 hP; obtain ⟨o, v, hN, rfl, hO, hb7⟩ := hP.out; clear hP hO; replace hb := hid (below_via hb7 hb.out); replace hN := hid hN; replace hK2 := hid ((hb7.block _ (cells_of hK2.out).1).trans hK2.out); clear hf hb7; have hI := hid (Rel.less_iff (P := fun s => s (2 * k) ≤ m ∧ m + 1 ≤ s (2 * k + 1)) (fun s => by rw [← hLd.out]; exact onBox_fits l2.out s) hN.out); generalize o.isSome = b at hI ⊢; cases b))
          · go_roundw
            case rel => exact ⟨k + 1, by omega, by go_num, hid (fun j hj => by
              by_cases e : j < k
              · exact hno.out j e
              · obtain rfl : j = k := by omega
                exact fun h => by have h2 := hI.out; simp only [Bool.false_eq_true, false_iff] at h2; exact h2 h), hb, hK2⟩
            case measure => simp [intOf]; omega
          · go_ret
            exact ⟨true, rfl, ⟨fun _ => ⟨k, hlt, by have h2 := hI.out; simp only [true_iff] at h2; exact h2⟩, fun _ => rfl⟩, hb.out⟩
        · have hB := hid (show (onBox1 L m k).set (2 * k + 1) (y2, (onBox1 L m k).hi (2 * k + 1)) = onBox L m k by rw [onBox, hy2.out, show max y2 (m + 1) = y2 by omega])
          have hS2 := hid (box_setlo hS1.out.1 hS1.out.2 l3.out (y2))
          have hK2 := hid (box_other (o := (2 * k + 1) * 2) hS1.out.1 l3.out hK1.out (.int .i64 (y2)))
          rw [hB.out] at hS2
          go_upto_region 7 with fail
          generalize w4.setCell ⟨g, (2 * k + 1) * 2, none⟩ (.int .i64 (y2)) = w5 at hS2 hK2 ⊢
          clear q3 lg zg
          have lt := (cells_of hK2.out).1
          have ct := (cells_of hK2.out).2
          have hL5 := hid (show (onBox L m k).length = 2 * r.n by rw [onBox_len]; exact hL.out)
          have hf := hid (rules_any r hn5.out (.slice sa r.stints.length scap) w5 (hS.out.below hS2.out.2))
          replace hb := hid hS2.out.2
          replace hS2 := hid hS2.out.1
          go_wp2_with (first | (go_at_call 77; with_reducible refine hf.out.mono ?_; rintro e w6 ⟨v2, rfl, hv2, hb6⟩; replace hS2 := hid (hS2.out.below hb6); replace hb := hid (below_via hb6 hb.out); replace hv2 := hid hv2; replace hK2 := hid ((hb6.block _ (cells_of hK2.out).1).trans hK2.out); replace hf := hid (narrowed_near hv'.out hL5.out (onBox_near hm'.out hLn.out l2.out) _ v2 w6 (hS2.out.low (Nat.zero_le _)) (hv2.out.low (Nat.zero_le _))); clear hb6) | (go_at_call 75; with_reducible refine hf.out.mono ?_; rintro e w7 hP; obtain ⟨o, v, hN, rfl, hO, hb7⟩ := hP.out; clear hP hO; replace hb := hid (below_via hb7 hb.out); replace hN := hid hN; replace hK2 := hid ((hb7.block _ (cells_of hK2.out).1).trans hK2.out); clear hf hb7; have hI := hid (Rel.less_iff (P := fun s => s (2 * k) ≤ m ∧ m + 1 ≤ s (2 * k + 1)) (fun s => by rw [← hLd.out]; exact onBox_fits l2.out s) hN.out); generalize o.isSome = b at hI ⊢; cases b))
          · go_roundw
            case rel => exact ⟨k + 1, by omega, by go_num, hid (fun j hj => by
              by_cases e : j < k
              · exact hno.out j e
              · obtain rfl : j = k := by omega
                exact fun h => by have h2 := hI.out; simp only [Bool.false_eq_true, false_iff] at h2; exact h2 h), hb, hK2⟩
            case measure => simp [intOf]; omega
          · go_ret
            exact ⟨true, rfl, ⟨fun _ => ⟨k, hlt, by have h2 := hI.out; simp only [true_iff] at h2; exact h2⟩, fun _ => rfl⟩, hb.out⟩
    · obtain rfl : k = r.stints.length := by omega
      go_wp2
      go_ret
      exact ⟨false, rfl, ⟨(fun h => by cases h), fun ⟨j, hj, h⟩ => absurd h (hno.out j hj)⟩, hb.out⟩
end Go.Proofs.Ytccgakdaiaigoaa
