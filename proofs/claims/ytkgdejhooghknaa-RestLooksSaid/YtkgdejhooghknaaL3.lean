/- The walk of 'Free' of package rest, where it refuses. -/
import Derived.Test.YtkgdejhooghknaaL1
import Derived.Test.YtkgdejhooghknaaI1
import Derived.Deep.RegionHeld3
import Derived.Deep.CutRange
namespace Go.Proofs.Ytkgdejhooghknaa
open Go.RowKit Go.Lap Go.Shelf

set_option maxRecDepth 100000 in
set_option maxHeartbeats 2000000 in
theorem Free_refuse (R : Rest) (hv : R.valid = true) (hc : canB R R.hours = true) (w : World) : Calls Try.prog 30 #[restV R] w fun e w' => e = .returned (.tuple #[.int .i64 0, .int .i64 0, .int .i64 11]) ∧ Below w.heap.size w w' := by
  have hh := Rest.valid_hours hv
  have ho := Rest.valid_ok hv
  have hv' := hid hv
  have hc' := hid hc
  clear hv hc
  have hA : ((w.alloc (.cells #[.int .i64 R.hours, .int .i64 R.r0.out, .int .i64 R.r0.total, .int .i64 R.r0.run, .int .i64 R.r0.off, .int .i64 R.r1.out, .int .i64 R.r1.total, .int .i64 R.r1.run, .int .i64 R.r1.off] 26)).alloc (.cells #[.int .i64 0] 30)).heap[w.heap.size + 1]? = some (.cells #[.int .i64 0] 30 (0, 0)) := alloc_at (by simp)
  have hX : ((w.alloc (.cells #[.int .i64 R.hours, .int .i64 R.r0.out, .int .i64 R.r0.total, .int .i64 R.r0.run, .int .i64 R.r0.off, .int .i64 R.r1.out, .int .i64 R.r1.total, .int .i64 R.r1.run, .int .i64 R.r1.off] 26)).alloc (.cells #[.int .i64 0] 30)).heap[w.heap.size]? = some (.cells #[.int .i64 R.hours, .int .i64 R.r0.out, .int .i64 R.r0.total, .int .i64 R.r0.run, .int .i64 R.r0.off, .int .i64 R.r1.out, .int .i64 R.r1.total, .int .i64 R.r1.run, .int .i64 R.r1.off] 26 (0, 0)) := alloc_old (by simp) (alloc_at rfl)
  have hAw : Below w.heap.size w ((w.alloc (.cells #[.int .i64 R.hours, .int .i64 R.r0.out, .int .i64 R.r0.total, .int .i64 R.r0.run, .int .i64 R.r0.off, .int .i64 R.r1.out, .int .i64 R.r1.total, .int .i64 R.r1.run, .int .i64 R.r1.off] 26)).alloc (.cells #[.int .i64 0] 30)) := below_alloc (below_alloc (Below.refl _ _) _) _
  have hA' := hid hA
  have hX' := hid hX
  have hAw' := hid hAw
  clear hA hAw hX
  go_enter_defers Try.func30, Try.ntmps30
  go_upto_region 2 with fail
  refine wp_region_any (by kernel_rfl) ?_
  change wpAny _ _ _ _ _ _ _ (World.drew _)
  refine wpAny_ready (rs := [0, 2]) (by kernel_rfl) (by simp) ?_
  refine AllReady.cons rfl (fun K hK => ?_) ?_
  · go_simp
    refine hK _ _ ?_
    clear hK K
    refine wpAny_ready (rs := [1, 2]) (by kernel_rfl) (by simp) ?_
    refine AllReady.cons rfl (fun K hK => ?_) ?_
    · go_simp
      go_wp2_with (go_at_call 47; refine (open_always _ _).mono ?_; intro e w1 hp; obtain ⟨rb, he, hrb, hrc, hb⟩ := openPost_valid hv'.out hp; subst he; clear hp; have hrc' := hid hrc; clear hrc; have hX1 := (hb.block _ (cells_of hX'.out).1).trans hX'.out; obtain ⟨lx, cx⟩ := cells_of hX1)
      refine wpAny_ready (rs := [2]) (by kernel_rfl) (by simp) ?_
      refine AllReady.cons rfl (fun K hK => ?_) ?_
      · go_simp
        refine hK _ _ ?_
        clear hK K
        refine wpAny_ready (rs := [3]) (by kernel_rfl) (by simp) ?_
        refine AllReady.cons rfl (fun K hK => ?_) ?_
        · go_simp
          refine hK _ _ ?_
          clear hK K
          refine wpAny_ready (rs := [4]) (by kernel_rfl) (by simp) ?_
          refine AllReady.cons rfl (fun K hK => ?_) ?_
          · go_simp
            go_wp2_with (go_at_call 58; refine (can_any rb R R.hours hh.1 hh.2 ho.1 ho.2 _ hrc'.out).mono ?_; rintro e w2 ⟨rfl, hb2⟩; rw [hc'.out]; have hbA2 := below_via hb2 hb; have hA2 := (hbA2.block _ (cells_of hA'.out).1).trans hA'.out)
            refine wpAny_ready (rs := [5]) (by kernel_rfl) (by simp) ?_
            refine AllReady.cons rfl (fun K hK => ?_) ?_
            · go_simp
              refine hK _ _ ?_
              clear hK K
              refine wpAny_ready (rs := [6]) (by kernel_rfl) (by simp) ?_
              refine AllReady.cons rfl (fun K hK => ?_) ?_
              · go_simp
                go_wp2_with (go_at_call 72; refine (must_no _ _).mono ?_; rintro e w' ⟨rfl, rfl⟩)
                obtain ⟨l8, c8⟩ := cells_of hA2
                have z8 := free_of hA2
                refine leaves_cons (f := 44) (args := #[.pointer (some ⟨w.heap.size + 1, 0, none⟩)]) (by simp) (by simp [go_sem]) ?_
                refine (told_panicking (w.heap.size + 1) 11 0 _ l8 (by rw [c8]; rfl) (z8 0)).mono ?_
                rintro e u' w'' ⟨rfl, rfl, rfl⟩
                have hc0 := (cells_of (alloc_old (o := .cells #[.int .i64 11] 117) (by simpa [World.setCell] using l8) (heap_setCell_same (o := 0) (v := .int .i64 11) hA2))).2 0
                have hfin : Below w.heap.size w ((w2.setCell ⟨w.heap.size + 1, 0, none⟩ (.int .i64 11)).alloc (.cells #[.int .i64 11] 117)) := below_alloc (below_set (below_via hbA2 (hAw'.out).drew) _ (by simp)) _
                simp [Leaves, settle, results, Try.results30, go_sem, hfin, hc0]
              exact AllReady.nil
            exact AllReady.nil
          exact AllReady.nil
        exact AllReady.nil
      exact AllReady.nil
    refine AllReady.cons rfl (fun K hK => ?_) ?_
    · go_simp
      refine hK _ _ ?_
      clear hK K
      refine wpAny_ready (rs := [1, 3]) (by kernel_rfl) (by simp) ?_
      refine AllReady.cons rfl (fun K hK => ?_) ?_
      · go_simp
        go_wp2_with (go_at_call 47; refine (open_always _ _).mono ?_; intro e w1 hp; obtain ⟨rb, he, hrb, hrc, hb⟩ := openPost_valid hv'.out hp; subst he; clear hp; have hrc' := hid hrc; clear hrc; have hX1 := (hb.block _ (cells_of hX'.out).1).trans hX'.out; obtain ⟨lx, cx⟩ := cells_of hX1)
        refine wpAny_ready (rs := [3]) (by kernel_rfl) (by simp) ?_
        refine AllReady.cons rfl (fun K hK => ?_) ?_
        · go_simp
          refine hK _ _ ?_
          clear hK K
          refine wpAny_ready (rs := [4]) (by kernel_rfl) (by simp) ?_
          refine AllReady.cons rfl (fun K hK => ?_) ?_
          · go_simp
            go_wp2_with (go_at_call 58; refine (can_any rb R R.hours hh.1 hh.2 ho.1 ho.2 _ hrc'.out).mono ?_; rintro e w2 ⟨rfl, hb2⟩; rw [hc'.out]; have hbA2 := below_via hb2 hb; have hA2 := (hbA2.block _ (cells_of hA'.out).1).trans hA'.out)
            refine wpAny_ready (rs := [5]) (by kernel_rfl) (by simp) ?_
            refine AllReady.cons rfl (fun K hK => ?_) ?_
            · go_simp
              refine hK _ _ ?_
              clear hK K
              refine wpAny_ready (rs := [6]) (by kernel_rfl) (by simp) ?_
              refine AllReady.cons rfl (fun K hK => ?_) ?_
              · go_simp
                go_wp2_with (go_at_call 72; refine (must_no _ _).mono ?_; rintro e w' ⟨rfl, rfl⟩)
                obtain ⟨l8, c8⟩ := cells_of hA2
                have z8 := free_of hA2
                refine leaves_cons (f := 44) (args := #[.pointer (some ⟨w.heap.size + 1, 0, none⟩)]) (by simp) (by simp [go_sem]) ?_
                refine (told_panicking (w.heap.size + 1) 11 0 _ l8 (by rw [c8]; rfl) (z8 0)).mono ?_
                rintro e u' w'' ⟨rfl, rfl, rfl⟩
                have hc0 := (cells_of (alloc_old (o := .cells #[.int .i64 11] 117) (by simpa [World.setCell] using l8) (heap_setCell_same (o := 0) (v := .int .i64 11) hA2))).2 0
                have hfin : Below w.heap.size w ((w2.setCell ⟨w.heap.size + 1, 0, none⟩ (.int .i64 11)).alloc (.cells #[.int .i64 11] 117)) := below_alloc (below_set (below_via hbA2 (hAw'.out).drew) _ (by simp)) _
                simp [Leaves, settle, results, Try.results30, go_sem, hfin, hc0]
              exact AllReady.nil
            exact AllReady.nil
          exact AllReady.nil
        exact AllReady.nil
      refine AllReady.cons rfl (fun K hK => ?_) ?_
      · go_simp
        refine hK _ _ ?_
        clear hK K
        refine wpAny_ready (rs := [1]) (by kernel_rfl) (by simp) ?_
        refine AllReady.cons rfl (fun K hK => ?_) ?_
        · go_simp
          go_wp2_with (go_at_call 47; refine (open_always _ _).mono ?_; intro e w1 hp; obtain ⟨rb, he, hrb, hrc, hb⟩ := openPost_valid hv'.out hp; subst he; clear hp; have hrc' := hid hrc; clear hrc; have hX1 := (hb.block _ (cells_of hX'.out).1).trans hX'.out; obtain ⟨lx, cx⟩ := cells_of hX1)
          refine wpAny_ready (rs := [4]) (by kernel_rfl) (by simp) ?_
          refine AllReady.cons rfl (fun K hK => ?_) ?_
          · go_simp
            go_wp2_with (go_at_call 58; refine (can_any rb R R.hours hh.1 hh.2 ho.1 ho.2 _ hrc'.out).mono ?_; rintro e w2 ⟨rfl, hb2⟩; rw [hc'.out]; have hbA2 := below_via hb2 hb; have hA2 := (hbA2.block _ (cells_of hA'.out).1).trans hA'.out)
            refine wpAny_ready (rs := [5]) (by kernel_rfl) (by simp) ?_
            refine AllReady.cons rfl (fun K hK => ?_) ?_
            · go_simp
              refine hK _ _ ?_
              clear hK K
              refine wpAny_ready (rs := [6]) (by kernel_rfl) (by simp) ?_
              refine AllReady.cons rfl (fun K hK => ?_) ?_
              · go_simp
                go_wp2_with (go_at_call 72; refine (must_no _ _).mono ?_; rintro e w' ⟨rfl, rfl⟩)
                obtain ⟨l8, c8⟩ := cells_of hA2
                have z8 := free_of hA2
                refine leaves_cons (f := 44) (args := #[.pointer (some ⟨w.heap.size + 1, 0, none⟩)]) (by simp) (by simp [go_sem]) ?_
                refine (told_panicking (w.heap.size + 1) 11 0 _ l8 (by rw [c8]; rfl) (z8 0)).mono ?_
                rintro e u' w'' ⟨rfl, rfl, rfl⟩
                have hc0 := (cells_of (alloc_old (o := .cells #[.int .i64 11] 117) (by simpa [World.setCell] using l8) (heap_setCell_same (o := 0) (v := .int .i64 11) hA2))).2 0
                have hfin : Below w.heap.size w ((w2.setCell ⟨w.heap.size + 1, 0, none⟩ (.int .i64 11)).alloc (.cells #[.int .i64 11] 117)) := below_alloc (below_set (below_via hbA2 (hAw'.out).drew) _ (by simp)) _
                simp [Leaves, settle, results, Try.results30, go_sem, hfin, hc0]
              exact AllReady.nil
            exact AllReady.nil
          exact AllReady.nil
        exact AllReady.nil
      exact AllReady.nil
    exact AllReady.nil
  refine AllReady.cons rfl (fun K hK => ?_) ?_
  · go_simp
    refine hK _ _ ?_
    clear hK K
    refine wpAny_ready (rs := [0, 3]) (by kernel_rfl) (by simp) ?_
    refine AllReady.cons rfl (fun K hK => ?_) ?_
    · go_simp
      refine hK _ _ ?_
      clear hK K
      refine wpAny_ready (rs := [1, 3]) (by kernel_rfl) (by simp) ?_
      refine AllReady.cons rfl (fun K hK => ?_) ?_
      · go_simp
        go_wp2_with (go_at_call 47; refine (open_always _ _).mono ?_; intro e w1 hp; obtain ⟨rb, he, hrb, hrc, hb⟩ := openPost_valid hv'.out hp; subst he; clear hp; have hrc' := hid hrc; clear hrc; have hX1 := (hb.block _ (cells_of hX'.out).1).trans hX'.out; obtain ⟨lx, cx⟩ := cells_of hX1)
        refine wpAny_ready (rs := [3]) (by kernel_rfl) (by simp) ?_
        refine AllReady.cons rfl (fun K hK => ?_) ?_
        · go_simp
          refine hK _ _ ?_
          clear hK K
          refine wpAny_ready (rs := [4]) (by kernel_rfl) (by simp) ?_
          refine AllReady.cons rfl (fun K hK => ?_) ?_
          · go_simp
            go_wp2_with (go_at_call 58; refine (can_any rb R R.hours hh.1 hh.2 ho.1 ho.2 _ hrc'.out).mono ?_; rintro e w2 ⟨rfl, hb2⟩; rw [hc'.out]; have hbA2 := below_via hb2 hb; have hA2 := (hbA2.block _ (cells_of hA'.out).1).trans hA'.out)
            refine wpAny_ready (rs := [5]) (by kernel_rfl) (by simp) ?_
            refine AllReady.cons rfl (fun K hK => ?_) ?_
            · go_simp
              refine hK _ _ ?_
              clear hK K
              refine wpAny_ready (rs := [6]) (by kernel_rfl) (by simp) ?_
              refine AllReady.cons rfl (fun K hK => ?_) ?_
              · go_simp
                go_wp2_with (go_at_call 72; refine (must_no _ _).mono ?_; rintro e w' ⟨rfl, rfl⟩)
                obtain ⟨l8, c8⟩ := cells_of hA2
                have z8 := free_of hA2
                refine leaves_cons (f := 44) (args := #[.pointer (some ⟨w.heap.size + 1, 0, none⟩)]) (by simp) (by simp [go_sem]) ?_
                refine (told_panicking (w.heap.size + 1) 11 0 _ l8 (by rw [c8]; rfl) (z8 0)).mono ?_
                rintro e u' w'' ⟨rfl, rfl, rfl⟩
                have hc0 := (cells_of (alloc_old (o := .cells #[.int .i64 11] 117) (by simpa [World.setCell] using l8) (heap_setCell_same (o := 0) (v := .int .i64 11) hA2))).2 0
                have hfin : Below w.heap.size w ((w2.setCell ⟨w.heap.size + 1, 0, none⟩ (.int .i64 11)).alloc (.cells #[.int .i64 11] 117)) := below_alloc (below_set (below_via hbA2 (hAw'.out).drew) _ (by simp)) _
                simp [Leaves, settle, results, Try.results30, go_sem, hfin, hc0]
              exact AllReady.nil
            exact AllReady.nil
          exact AllReady.nil
        exact AllReady.nil
      refine AllReady.cons rfl (fun K hK => ?_) ?_
      · go_simp
        refine hK _ _ ?_
        clear hK K
        refine wpAny_ready (rs := [1]) (by kernel_rfl) (by simp) ?_
        refine AllReady.cons rfl (fun K hK => ?_) ?_
        · go_simp
          go_wp2_with (go_at_call 47; refine (open_always _ _).mono ?_; intro e w1 hp; obtain ⟨rb, he, hrb, hrc, hb⟩ := openPost_valid hv'.out hp; subst he; clear hp; have hrc' := hid hrc; clear hrc; have hX1 := (hb.block _ (cells_of hX'.out).1).trans hX'.out; obtain ⟨lx, cx⟩ := cells_of hX1)
          refine wpAny_ready (rs := [4]) (by kernel_rfl) (by simp) ?_
          refine AllReady.cons rfl (fun K hK => ?_) ?_
          · go_simp
            go_wp2_with (go_at_call 58; refine (can_any rb R R.hours hh.1 hh.2 ho.1 ho.2 _ hrc'.out).mono ?_; rintro e w2 ⟨rfl, hb2⟩; rw [hc'.out]; have hbA2 := below_via hb2 hb; have hA2 := (hbA2.block _ (cells_of hA'.out).1).trans hA'.out)
            refine wpAny_ready (rs := [5]) (by kernel_rfl) (by simp) ?_
            refine AllReady.cons rfl (fun K hK => ?_) ?_
            · go_simp
              refine hK _ _ ?_
              clear hK K
              refine wpAny_ready (rs := [6]) (by kernel_rfl) (by simp) ?_
              refine AllReady.cons rfl (fun K hK => ?_) ?_
              · go_simp
                go_wp2_with (go_at_call 72; refine (must_no _ _).mono ?_; rintro e w' ⟨rfl, rfl⟩)
                obtain ⟨l8, c8⟩ := cells_of hA2
                have z8 := free_of hA2
                refine leaves_cons (f := 44) (args := #[.pointer (some ⟨w.heap.size + 1, 0, none⟩)]) (by simp) (by simp [go_sem]) ?_
                refine (told_panicking (w.heap.size + 1) 11 0 _ l8 (by rw [c8]; rfl) (z8 0)).mono ?_
                rintro e u' w'' ⟨rfl, rfl, rfl⟩
                have hc0 := (cells_of (alloc_old (o := .cells #[.int .i64 11] 117) (by simpa [World.setCell] using l8) (heap_setCell_same (o := 0) (v := .int .i64 11) hA2))).2 0
                have hfin : Below w.heap.size w ((w2.setCell ⟨w.heap.size + 1, 0, none⟩ (.int .i64 11)).alloc (.cells #[.int .i64 11] 117)) := below_alloc (below_set (below_via hbA2 (hAw'.out).drew) _ (by simp)) _
                simp [Leaves, settle, results, Try.results30, go_sem, hfin, hc0]
              exact AllReady.nil
            exact AllReady.nil
          exact AllReady.nil
        exact AllReady.nil
      exact AllReady.nil
    refine AllReady.cons rfl (fun K hK => ?_) ?_
    · go_simp
      refine hK _ _ ?_
      clear hK K
      refine wpAny_ready (rs := [0]) (by kernel_rfl) (by simp) ?_
      refine AllReady.cons rfl (fun K hK => ?_) ?_
      · go_simp
        refine hK _ _ ?_
        clear hK K
        refine wpAny_ready (rs := [1]) (by kernel_rfl) (by simp) ?_
        refine AllReady.cons rfl (fun K hK => ?_) ?_
        · go_simp
          go_wp2_with (go_at_call 47; refine (open_always _ _).mono ?_; intro e w1 hp; obtain ⟨rb, he, hrb, hrc, hb⟩ := openPost_valid hv'.out hp; subst he; clear hp; have hrc' := hid hrc; clear hrc; have hX1 := (hb.block _ (cells_of hX'.out).1).trans hX'.out; obtain ⟨lx, cx⟩ := cells_of hX1)
          refine wpAny_ready (rs := [4]) (by kernel_rfl) (by simp) ?_
          refine AllReady.cons rfl (fun K hK => ?_) ?_
          · go_simp
            go_wp2_with (go_at_call 58; refine (can_any rb R R.hours hh.1 hh.2 ho.1 ho.2 _ hrc'.out).mono ?_; rintro e w2 ⟨rfl, hb2⟩; rw [hc'.out]; have hbA2 := below_via hb2 hb; have hA2 := (hbA2.block _ (cells_of hA'.out).1).trans hA'.out)
            refine wpAny_ready (rs := [5]) (by kernel_rfl) (by simp) ?_
            refine AllReady.cons rfl (fun K hK => ?_) ?_
            · go_simp
              refine hK _ _ ?_
              clear hK K
              refine wpAny_ready (rs := [6]) (by kernel_rfl) (by simp) ?_
              refine AllReady.cons rfl (fun K hK => ?_) ?_
              · go_simp
                go_wp2_with (go_at_call 72; refine (must_no _ _).mono ?_; rintro e w' ⟨rfl, rfl⟩)
                obtain ⟨l8, c8⟩ := cells_of hA2
                have z8 := free_of hA2
                refine leaves_cons (f := 44) (args := #[.pointer (some ⟨w.heap.size + 1, 0, none⟩)]) (by simp) (by simp [go_sem]) ?_
                refine (told_panicking (w.heap.size + 1) 11 0 _ l8 (by rw [c8]; rfl) (z8 0)).mono ?_
                rintro e u' w'' ⟨rfl, rfl, rfl⟩
                have hc0 := (cells_of (alloc_old (o := .cells #[.int .i64 11] 117) (by simpa [World.setCell] using l8) (heap_setCell_same (o := 0) (v := .int .i64 11) hA2))).2 0
                have hfin : Below w.heap.size w ((w2.setCell ⟨w.heap.size + 1, 0, none⟩ (.int .i64 11)).alloc (.cells #[.int .i64 11] 117)) := below_alloc (below_set (below_via hbA2 (hAw'.out).drew) _ (by simp)) _
                simp [Leaves, settle, results, Try.results30, go_sem, hfin, hc0]
              exact AllReady.nil
            exact AllReady.nil
          exact AllReady.nil
        exact AllReady.nil
      exact AllReady.nil
    exact AllReady.nil
  exact AllReady.nil

set_option maxRecDepth 100000 in
set_option maxHeartbeats 2000000 in
theorem Free_bad (R : Rest) (hv : R.valid = false) (w : World) : Calls Try.prog 30 #[restV R] w fun e w' => e = .returned (.tuple #[.int .i64 0, .int .i64 0, .int .i64 1]) ∧ Below w.heap.size w w' := by
  have hv' := hid hv
  clear hv
  have hA : ((w.alloc (.cells #[.int .i64 R.hours, .int .i64 R.r0.out, .int .i64 R.r0.total, .int .i64 R.r0.run, .int .i64 R.r0.off, .int .i64 R.r1.out, .int .i64 R.r1.total, .int .i64 R.r1.run, .int .i64 R.r1.off] 26)).alloc (.cells #[.int .i64 0] 30)).heap[w.heap.size + 1]? = some (.cells #[.int .i64 0] 30 (0, 0)) := alloc_at (by simp)
  have hX : ((w.alloc (.cells #[.int .i64 R.hours, .int .i64 R.r0.out, .int .i64 R.r0.total, .int .i64 R.r0.run, .int .i64 R.r0.off, .int .i64 R.r1.out, .int .i64 R.r1.total, .int .i64 R.r1.run, .int .i64 R.r1.off] 26)).alloc (.cells #[.int .i64 0] 30)).heap[w.heap.size]? = some (.cells #[.int .i64 R.hours, .int .i64 R.r0.out, .int .i64 R.r0.total, .int .i64 R.r0.run, .int .i64 R.r0.off, .int .i64 R.r1.out, .int .i64 R.r1.total, .int .i64 R.r1.run, .int .i64 R.r1.off] 26 (0, 0)) := alloc_old (by simp) (alloc_at rfl)
  have hAw : Below w.heap.size w ((w.alloc (.cells #[.int .i64 R.hours, .int .i64 R.r0.out, .int .i64 R.r0.total, .int .i64 R.r0.run, .int .i64 R.r0.off, .int .i64 R.r1.out, .int .i64 R.r1.total, .int .i64 R.r1.run, .int .i64 R.r1.off] 26)).alloc (.cells #[.int .i64 0] 30)) := below_alloc (below_alloc (Below.refl _ _) _) _
  have hA' := hid hA
  have hX' := hid hX
  have hAw' := hid hAw
  clear hA hAw hX
  go_enter_defers Try.func30, Try.ntmps30
  go_upto_region 2 with fail
  refine wp_region_any (by kernel_rfl) ?_
  change wpAny _ _ _ _ _ _ _ (World.drew _)
  refine wpAny_ready (rs := [0, 2]) (by kernel_rfl) (by simp) ?_
  refine AllReady.cons rfl (fun K hK => ?_) ?_
  · go_simp
    refine hK _ _ ?_
    clear hK K
    refine wpAny_ready (rs := [1, 2]) (by kernel_rfl) (by simp) ?_
    refine AllReady.cons rfl (fun K hK => ?_) ?_
    · go_simp
      go_wp2_with (go_at_call 47; refine (open_always _ _).mono ?_; intro e w1 hp; obtain ⟨he, hb⟩ := openPost_arg hv'.out hp; subst he; clear hp; have hA2 := (hb.block _ (cells_of hA'.out).1).trans hA'.out)
      obtain ⟨l8, c8⟩ := cells_of hA2
      have z8 := free_of hA2
      refine leaves_cons (f := 44) (args := #[.pointer (some ⟨w.heap.size + 1, 0, none⟩)]) (by simp) (by simp [go_sem]) ?_
      refine (told_panicking (w.heap.size + 1) 1 0 _ l8 (by rw [c8]; rfl) (z8 0)).mono ?_
      rintro e u' w'' ⟨rfl, rfl, rfl⟩
      have hc0 := (cells_of (alloc_old (o := .cells #[.int .i64 1] 117) (by simpa [World.setCell] using l8) (heap_setCell_same (o := 0) (v := .int .i64 1) hA2))).2 0
      have hfin : Below w.heap.size w ((w1.setCell ⟨w.heap.size + 1, 0, none⟩ (.int .i64 1)).alloc (.cells #[.int .i64 1] 117)) := below_alloc (below_set (below_via hb (hAw'.out).drew) _ (by simp)) _
      simp [Leaves, settle, results, Try.results30, go_sem, hfin, hc0]
    refine AllReady.cons rfl (fun K hK => ?_) ?_
    · go_simp
      refine hK _ _ ?_
      clear hK K
      refine wpAny_ready (rs := [1, 3]) (by kernel_rfl) (by simp) ?_
      refine AllReady.cons rfl (fun K hK => ?_) ?_
      · go_simp
        go_wp2_with (go_at_call 47; refine (open_always _ _).mono ?_; intro e w1 hp; obtain ⟨he, hb⟩ := openPost_arg hv'.out hp; subst he; clear hp; have hA2 := (hb.block _ (cells_of hA'.out).1).trans hA'.out)
        obtain ⟨l8, c8⟩ := cells_of hA2
        have z8 := free_of hA2
        refine leaves_cons (f := 44) (args := #[.pointer (some ⟨w.heap.size + 1, 0, none⟩)]) (by simp) (by simp [go_sem]) ?_
        refine (told_panicking (w.heap.size + 1) 1 0 _ l8 (by rw [c8]; rfl) (z8 0)).mono ?_
        rintro e u' w'' ⟨rfl, rfl, rfl⟩
        have hc0 := (cells_of (alloc_old (o := .cells #[.int .i64 1] 117) (by simpa [World.setCell] using l8) (heap_setCell_same (o := 0) (v := .int .i64 1) hA2))).2 0
        have hfin : Below w.heap.size w ((w1.setCell ⟨w.heap.size + 1, 0, none⟩ (.int .i64 1)).alloc (.cells #[.int .i64 1] 117)) := below_alloc (below_set (below_via hb (hAw'.out).drew) _ (by simp)) _
        simp [Leaves, settle, results, Try.results30, go_sem, hfin, hc0]
      refine AllReady.cons rfl (fun K hK => ?_) ?_
      · go_simp
        refine hK _ _ ?_
        clear hK K
        refine wpAny_ready (rs := [1]) (by kernel_rfl) (by simp) ?_
        refine AllReady.cons rfl (fun K hK => ?_) ?_
        · go_simp
          go_wp2_with (go_at_call 47; refine (open_always _ _).mono ?_; intro e w1 hp; obtain ⟨he, hb⟩ := openPost_arg hv'.out hp; subst he; clear hp; have hA2 := (hb.block _ (cells_of hA'.out).1).trans hA'.out)
          obtain ⟨l8, c8⟩ := cells_of hA2
          have z8 := free_of hA2
          refine leaves_cons (f := 44) (args := #[.pointer (some ⟨w.heap.size + 1, 0, none⟩)]) (by simp) (by simp [go_sem]) ?_
          refine (told_panicking (w.heap.size + 1) 1 0 _ l8 (by rw [c8]; rfl) (z8 0)).mono ?_
          rintro e u' w'' ⟨rfl, rfl, rfl⟩
          have hc0 := (cells_of (alloc_old (o := .cells #[.int .i64 1] 117) (by simpa [World.setCell] using l8) (heap_setCell_same (o := 0) (v := .int .i64 1) hA2))).2 0
          have hfin : Below w.heap.size w ((w1.setCell ⟨w.heap.size + 1, 0, none⟩ (.int .i64 1)).alloc (.cells #[.int .i64 1] 117)) := below_alloc (below_set (below_via hb (hAw'.out).drew) _ (by simp)) _
          simp [Leaves, settle, results, Try.results30, go_sem, hfin, hc0]
        exact AllReady.nil
      exact AllReady.nil
    exact AllReady.nil
  refine AllReady.cons rfl (fun K hK => ?_) ?_
  · go_simp
    refine hK _ _ ?_
    clear hK K
    refine wpAny_ready (rs := [0, 3]) (by kernel_rfl) (by simp) ?_
    refine AllReady.cons rfl (fun K hK => ?_) ?_
    · go_simp
      refine hK _ _ ?_
      clear hK K
      refine wpAny_ready (rs := [1, 3]) (by kernel_rfl) (by simp) ?_
      refine AllReady.cons rfl (fun K hK => ?_) ?_
      · go_simp
        go_wp2_with (go_at_call 47; refine (open_always _ _).mono ?_; intro e w1 hp; obtain ⟨he, hb⟩ := openPost_arg hv'.out hp; subst he; clear hp; have hA2 := (hb.block _ (cells_of hA'.out).1).trans hA'.out)
        obtain ⟨l8, c8⟩ := cells_of hA2
        have z8 := free_of hA2
        refine leaves_cons (f := 44) (args := #[.pointer (some ⟨w.heap.size + 1, 0, none⟩)]) (by simp) (by simp [go_sem]) ?_
        refine (told_panicking (w.heap.size + 1) 1 0 _ l8 (by rw [c8]; rfl) (z8 0)).mono ?_
        rintro e u' w'' ⟨rfl, rfl, rfl⟩
        have hc0 := (cells_of (alloc_old (o := .cells #[.int .i64 1] 117) (by simpa [World.setCell] using l8) (heap_setCell_same (o := 0) (v := .int .i64 1) hA2))).2 0
        have hfin : Below w.heap.size w ((w1.setCell ⟨w.heap.size + 1, 0, none⟩ (.int .i64 1)).alloc (.cells #[.int .i64 1] 117)) := below_alloc (below_set (below_via hb (hAw'.out).drew) _ (by simp)) _
        simp [Leaves, settle, results, Try.results30, go_sem, hfin, hc0]
      refine AllReady.cons rfl (fun K hK => ?_) ?_
      · go_simp
        refine hK _ _ ?_
        clear hK K
        refine wpAny_ready (rs := [1]) (by kernel_rfl) (by simp) ?_
        refine AllReady.cons rfl (fun K hK => ?_) ?_
        · go_simp
          go_wp2_with (go_at_call 47; refine (open_always _ _).mono ?_; intro e w1 hp; obtain ⟨he, hb⟩ := openPost_arg hv'.out hp; subst he; clear hp; have hA2 := (hb.block _ (cells_of hA'.out).1).trans hA'.out)
          obtain ⟨l8, c8⟩ := cells_of hA2
          have z8 := free_of hA2
          refine leaves_cons (f := 44) (args := #[.pointer (some ⟨w.heap.size + 1, 0, none⟩)]) (by simp) (by simp [go_sem]) ?_
          refine (told_panicking (w.heap.size + 1) 1 0 _ l8 (by rw [c8]; rfl) (z8 0)).mono ?_
          rintro e u' w'' ⟨rfl, rfl, rfl⟩
          have hc0 := (cells_of (alloc_old (o := .cells #[.int .i64 1] 117) (by simpa [World.setCell] using l8) (heap_setCell_same (o := 0) (v := .int .i64 1) hA2))).2 0
          have hfin : Below w.heap.size w ((w1.setCell ⟨w.heap.size + 1, 0, none⟩ (.int .i64 1)).alloc (.cells #[.int .i64 1] 117)) := below_alloc (below_set (below_via hb (hAw'.out).drew) _ (by simp)) _
          simp [Leaves, settle, results, Try.results30, go_sem, hfin, hc0]
        exact AllReady.nil
      exact AllReady.nil
    refine AllReady.cons rfl (fun K hK => ?_) ?_
    · go_simp
      refine hK _ _ ?_
      clear hK K
      refine wpAny_ready (rs := [0]) (by kernel_rfl) (by simp) ?_
      refine AllReady.cons rfl (fun K hK => ?_) ?_
      · go_simp
        refine hK _ _ ?_
        clear hK K
        refine wpAny_ready (rs := [1]) (by kernel_rfl) (by simp) ?_
        refine AllReady.cons rfl (fun K hK => ?_) ?_
        · go_simp
          go_wp2_with (go_at_call 47; refine (open_always _ _).mono ?_; intro e w1 hp; obtain ⟨he, hb⟩ := openPost_arg hv'.out hp; subst he; clear hp; have hA2 := (hb.block _ (cells_of hA'.out).1).trans hA'.out)
          obtain ⟨l8, c8⟩ := cells_of hA2
          have z8 := free_of hA2
          refine leaves_cons (f := 44) (args := #[.pointer (some ⟨w.heap.size + 1, 0, none⟩)]) (by simp) (by simp [go_sem]) ?_
          refine (told_panicking (w.heap.size + 1) 1 0 _ l8 (by rw [c8]; rfl) (z8 0)).mono ?_
          rintro e u' w'' ⟨rfl, rfl, rfl⟩
          have hc0 := (cells_of (alloc_old (o := .cells #[.int .i64 1] 117) (by simpa [World.setCell] using l8) (heap_setCell_same (o := 0) (v := .int .i64 1) hA2))).2 0
          have hfin : Below w.heap.size w ((w1.setCell ⟨w.heap.size + 1, 0, none⟩ (.int .i64 1)).alloc (.cells #[.int .i64 1] 117)) := below_alloc (below_set (below_via hb (hAw'.out).drew) _ (by simp)) _
          simp [Leaves, settle, results, Try.results30, go_sem, hfin, hc0]
        exact AllReady.nil
      exact AllReady.nil
    exact AllReady.nil
  exact AllReady.nil

end Go.Proofs.Ytkgdejhooghknaa
