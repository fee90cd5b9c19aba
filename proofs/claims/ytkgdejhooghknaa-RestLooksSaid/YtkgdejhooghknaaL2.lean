/- The walk of 'Free' of package rest. -/
import Derived.Test.YtkgdejhooghknaaL1
import Derived.Test.YtkgdejhooghknaaI1
import Derived.Deep.RegionHeld3
import Derived.Deep.CutRange
namespace Go.Proofs.Ytkgdejhooghknaa
open Go.RowKit Go.Lap Go.Shelf

set_option maxRecDepth 100000 in
set_option maxHeartbeats 2000000 in
theorem Free_ok (R : Rest) (hv : R.valid = true) (hc : canB R R.hours = false) (w : World) : Calls Try.prog 30 #[restV R] w fun e w' => e = .returned (.tuple #[.int .i64 (freeOf R).1, .int .i64 (freeOf R).2.1, .int .i64 (freeOf R).2.2]) ∧ Below w.heap.size w w' := by
  have hh := Rest.valid_hours hv
  have ho := Rest.valid_ok hv
  have hv' := hid hv
  have hc' := hid hc
  clear hv hc
  have hA : ((w.alloc (.cells #[.int .i64 R.hours, .int .i64 R.r0.out, .int .i64 R.r0.total, .int .i64 R.r0.run, .int .i64 R.r0.off, .int .i64 R.r1.out, .int .i64 R.r1.total, .int .i64 R.r1.run, .int .i64 R.r1.off] 26)).alloc (.cells #[.int .i64 0] 30)).heap[w.heap.size + 1]? = some (.cells #[.int .i64 0] 30 (0, 0)) := alloc_at (by simp)
  have hX : ((w.alloc (.cells #[.int .i64 R.hours, .int .i64 R.r0.out, .int .i64 R.r0.total, .int .i64 R.r0.run, .int .i64 R.r0.off, .int .i64 R.r1.out, .int .i64 R.r1.total, .int .i64 R.r1.run, .int .i64 R.r1.off] 26)).alloc (.cells #[.int .i64 0] 30)).heap[w.heap.size]? = some (.cells #[.int .i64 R.hours, .int .i64 R.r0.out, .int .i64 R.r0.total, .int .i64 R.r0.run, .int .i64 R.r0.off, .int .i64 R.r1.out, .int .i64 R.r1.total, .int .i64 R.r1.run, .int .i64 R.r1.off] 26 (0, 0)) := alloc_old (by simp) (alloc_at rfl)
  have hAw : Below w.heap.size w ((w.alloc (.cells #[.int .i64 R.hours, .int .i64 R.r0.out, .int .i64 R.r0.total, .int .i64 R.r0.run, .int .i64 R.r0.off, .int .i64 R.r1.out, .int .i64 R.r1.total, .int .i64 R.r1.run, .int .i64 R.r1.off] 26)).alloc (.cells #[.int .i64 0] 30)) := below_alloc (below_alloc (Below.refl _ _) _) _
  have hA' := hid hA
  have hX' := hid hX
  have hAw' := hid hAw
  clear hA hAw hX
  go_enter_defers Try.func30, Try.ntmps30
  go_upto_region 2 with fail
  go_cut [8] from 9 to 14 (fun _ wx => Below ((w.alloc (.cells #[.int .i64 R.hours, .int .i64 R.r0.out, .int .i64 R.r0.total, .int .i64 R.r0.run, .int .i64 R.r0.off, .int .i64 R.r1.out, .int .i64 R.r1.total, .int .i64 R.r1.run, .int .i64 R.r1.off] 26)).alloc (.cells #[.int .i64 0] 30)).heap.size ((w.alloc (.cells #[.int .i64 R.hours, .int .i64 R.r0.out, .int .i64 R.r0.total, .int .i64 R.r0.run, .int .i64 R.r0.off, .int .i64 R.r1.out, .int .i64 R.r1.total, .int .i64 R.r1.run, .int .i64 R.r1.off] 26)).alloc (.cells #[.int .i64 0] 30)) wx)
  case first =>
    go_region_held3 (fun w' => ∀ o, w'.cell? ⟨w.heap.size, o, none⟩ = #[.int .i64 R.hours, .int .i64 R.r0.out, .int .i64 R.r0.total, .int .i64 R.r0.run, .int .i64 R.r0.off, .int .i64 R.r1.out, .int .i64 R.r1.total, .int .i64 R.r1.run, .int .i64 R.r1.off][o]?) (simp [*]) (first
      | (go_at_call 47; refine (open_always _ _).mono ?_; intro e w1 hp; obtain ⟨rb, he, hrb, hrc, hb⟩ := openPost_valid hv'.out hp; subst he; clear hp; obtain ⟨l1, c1⟩ := cells_of hrc; have hrc' := hid hrc; clear hrc; have hX1 := (hb.block _ (cells_of hX'.out).1).trans hX'.out; obtain ⟨lx, cx⟩ := cells_of hX1)
      | (go_at_call 58; refine (can_any rb R R.hours hh.1 hh.2 ho.1 ho.2 _ hrc'.out).mono ?_; rintro e w2 ⟨rfl, hb2⟩; rw [hc'.out]; have hbA2 := below_via hb2 hb; have hX2 := (hbA2.block _ (cells_of hX'.out).1).trans hX'.out; obtain ⟨lx2, cx2⟩ := cells_of hX2)
      | (go_at_call 72; refine (must_yes _ _).mono ?_; rintro e w' ⟨rfl, rfl⟩))
    all_goals (go_wp2_with fail)
    all_goals (go_meet; exact below_via hbA2 (Below.refl _ _).drew)
  case rest =>
    have hr0 := ho.1
    have hr1 := ho.2
    have hneq := fun a b c e f g h i a' b' c' e' f' g' h' i' w => eq_riders 9997 a b c e f g h i a' b' c' e' f' g' h' i' w
    have hcut' := hid hcut
    clear hcut
    go_wp2
    go_loopw [15] (fun i wr => ∃ k : Int, i = .int .i64 k ∧ ((k = 0) ∨ (k = 1 ∧ Hid (freeIn R 0 R.hours.toNat 0 = none)) ∨ (k = 2 ∧ Hid (freeIn R 0 R.hours.toNat 0 = none) ∧ Hid (freeIn R 1 R.hours.toNat 0 = none))) ∧ Below ((w.alloc (.cells #[.int .i64 R.hours, .int .i64 R.r0.out, .int .i64 R.r0.total, .int .i64 R.r0.run, .int .i64 R.r0.off, .int .i64 R.r1.out, .int .i64 R.r1.total, .int .i64 R.r1.run, .int .i64 R.r1.off] 26)).alloc (.cells #[.int .i64 0] 30)).heap.size ((w.alloc (.cells #[.int .i64 R.hours, .int .i64 R.r0.out, .int .i64 R.r0.total, .int .i64 R.r0.run, .int .i64 R.r0.off, .int .i64 R.r1.out, .int .i64 R.r1.total, .int .i64 R.r1.run, .int .i64 R.r1.off] 26)).alloc (.cells #[.int .i64 0] 30)) wr) (fun i _ => 2 - (intOf i).toNat)
    case atStart => exact ⟨0, rfl, .inl rfl, hcut'.out⟩
    case round =>
      obtain ⟨k, rfl, hk, hbr⟩ := hrel
      have hXr := (hbr.block _ (cells_of hX'.out).1).trans hX'.out
      have hAr := (hbr.block _ (cells_of hA'.out).1).trans hA'.out
      obtain ⟨lx, cx⟩ := cells_of hXr
      obtain ⟨la, ca⟩ := cells_of hAr
      have za := free_of hAr
      have hXr' := hid hXr
      have hAr' := hid hAr
      have hbr' := hid hbr
      clear hXr hAr hbr
      obtain rfl | ⟨rfl, hn0⟩ | ⟨rfl, hn0, hn1⟩ := hk
      · go_wp2
        go_loopw [20] (fun h wr2 => ∃ k2 : Int, h = .int .i64 k2 ∧ 0 ≤ k2 ∧ k2 ≤ R.hours ∧ Hid (freeIn R 0 R.hours.toNat 0 = freeIn R 0 (R.hours - k2).toNat k2) ∧ Below ((w.alloc (.cells #[.int .i64 R.hours, .int .i64 R.r0.out, .int .i64 R.r0.total, .int .i64 R.r0.run, .int .i64 R.r0.off, .int .i64 R.r1.out, .int .i64 R.r1.total, .int .i64 R.r1.run, .int .i64 R.r1.off] 26)).alloc (.cells #[.int .i64 0] 30)).heap.size ((w.alloc (.cells #[.int .i64 R.hours, .int .i64 R.r0.out, .int .i64 R.r0.total, .int .i64 R.r0.run, .int .i64 R.r0.off, .int .i64 R.r1.out, .int .i64 R.r1.total, .int .i64 R.r1.run, .int .i64 R.r1.off] 26)).alloc (.cells #[.int .i64 0] 30)) wr2) (fun h _ => R.hours.toNat - (intOf h).toNat)
        case atStart => exact ⟨0, rfl, by omega, hh.1, hid (by simp), hbr'.out⟩
        case round =>
          obtain ⟨k2, rfl, hk0, hk1, hfi, hbq⟩ := hrel
          by_cases hlt : k2 < R.hours
          · have hout : bits .andNot .i64 R.r0.out (wrap64 (2 ^ k2.toNat)) = clr R.r0.out k2 := by
              have h2 := two_pow_le (n := k2.toNat) (m := 15) (by omega)
              have h3 : (0 : Int) < 2 ^ k2.toNat := Int.pow_pos (by decide)
              rw [IntWalk.wrap64_in _ (by omega)]
              have h4 := andNot_nat R.r0.out.toNat k2.toNat (by have := hr0.out1; omega) (by omega)
              rw [Int.toNat_of_nonneg hr0.out0, Int.toNat_of_nonneg hk0] at h4
              exact h4
            have hstep : (R.hours - k2).toNat = (R.hours - (k2 + 1)).toNat + 1 := by omega
            have hXq := (hbq.block _ (cells_of hX'.out).1).trans hX'.out
            have hAq := (hbq.block _ (cells_of hA'.out).1).trans hA'.out
            obtain ⟨lx2, cx2⟩ := cells_of hXq
            obtain ⟨la2, ca2⟩ := cells_of hAq
            have za2 := free_of hAq
            have hbq' := hid hbq
            have hfi' := hid hfi
            have hAq' := hid hAq
            have hXq' := hid hXq
            have hstep' := hid hstep
            clear hbq hfi hAq hXq cx ca za hstep
            go_wp2
            go_region
            have hbc : Below ((w.alloc (.cells #[.int .i64 R.hours, .int .i64 R.r0.out, .int .i64 R.r0.total, .int .i64 R.r0.run, .int .i64 R.r0.off, .int .i64 R.r1.out, .int .i64 R.r1.total, .int .i64 R.r1.run, .int .i64 R.r1.off] 26)).alloc (.cells #[.int .i64 0] 30)).heap.size ((w.alloc (.cells #[.int .i64 R.hours, .int .i64 R.r0.out, .int .i64 R.r0.total, .int .i64 R.r0.run, .int .i64 R.r0.off, .int .i64 R.r1.out, .int .i64 R.r1.total, .int .i64 R.r1.run, .int .i64 R.r1.off] 26)).alloc (.cells #[.int .i64 0] 30)) (wr.alloc (.cells #[.int .i64 R.hours, .int .i64 (clr R.r0.out k2), .int .i64 R.r0.total, .int .i64 R.r0.run, .int .i64 R.r0.off, .int .i64 R.r1.out, .int .i64 R.r1.total, .int .i64 R.r1.run, .int .i64 R.r1.off] 26)).drew := (below_alloc hbq'.out _).drew
            have hOc : (wr.alloc (.cells #[.int .i64 R.hours, .int .i64 (clr R.r0.out k2), .int .i64 R.r0.total, .int .i64 R.r0.run, .int .i64 R.r0.off, .int .i64 R.r1.out, .int .i64 R.r1.total, .int .i64 R.r1.run, .int .i64 R.r1.off] 26)).drew.heap[wr.heap.size]? = some (.cells #[.int .i64 R.hours, .int .i64 (clr R.r0.out k2), .int .i64 R.r0.total, .int .i64 R.r0.run, .int .i64 R.r0.off, .int .i64 R.r1.out, .int .i64 R.r1.total, .int .i64 R.r1.run, .int .i64 R.r1.off] 26 (0, 0)) := alloc_at rfl
            have hXc : (wr.alloc (.cells #[.int .i64 R.hours, .int .i64 (clr R.r0.out k2), .int .i64 R.r0.total, .int .i64 R.r0.run, .int .i64 R.r0.off, .int .i64 R.r1.out, .int .i64 R.r1.total, .int .i64 R.r1.run, .int .i64 R.r1.off] 26)).drew.heap[w.heap.size]? = some (.cells #[.int .i64 R.hours, .int .i64 R.r0.out, .int .i64 R.r0.total, .int .i64 R.r0.run, .int .i64 R.r0.off, .int .i64 R.r1.out, .int .i64 R.r1.total, .int .i64 R.r1.run, .int .i64 R.r1.off] 26 (0, 0)) := alloc_old lx2 hXq'.out
            have hAc : (wr.alloc (.cells #[.int .i64 R.hours, .int .i64 (clr R.r0.out k2), .int .i64 R.r0.total, .int .i64 R.r0.run, .int .i64 R.r0.off, .int .i64 R.r1.out, .int .i64 R.r1.total, .int .i64 R.r1.run, .int .i64 R.r1.off] 26)).drew.heap[w.heap.size + 1]? = some (.cells #[.int .i64 0] 30 (0, 0)) := alloc_old la2 hAq'.out
            have hQv := Rest.clear_valid (i := 0) (h := k2) hv'.out hk0
            have hQ : R.clear 0 k2 = ⟨R.hours, ⟨clr R.r0.out k2, R.r0.total, R.r0.run, R.r0.off⟩, R.r1⟩ := by simp [Rest.clear]
            rw [hQ] at hQv
            have hQo := Rest.valid_ok hQv.1
            generalize hWc : (wr.alloc (.cells #[.int .i64 R.hours, .int .i64 (clr R.r0.out k2), .int .i64 R.r0.total, .int .i64 R.r0.run, .int .i64 R.r0.off, .int .i64 R.r1.out, .int .i64 R.r1.total, .int .i64 R.r1.run, .int .i64 R.r1.off] 26)).drew = Wc at *
            clear hWc cx2 ca2 za2 lx2 la2
            obtain ⟨lx2, cx2⟩ := cells_of hXc
            obtain ⟨lo2, co2⟩ := cells_of hOc
            obtain ⟨la2, ca2⟩ := cells_of hAc
            have za2 := free_of hAc
            have hXc' := hid hXc
            have hOc' := hid hOc
            have hAc' := hid hAc
            have hbc' := hid hbc
            have hQv' := hid hQv
            have hQ' := hid hQ
            have hfs : frees R 0 k2 = (hasBit R.r0.out k2 && canB ⟨R.hours, ⟨clr R.r0.out k2, R.r0.total, R.r0.run, R.r0.off⟩, R.r1⟩ R.hours) := by simp [frees, Rest.rider, hQ]
            have hfs' := hid hfs
            clear hXc hOc hAc hbc hQv hQ hfs
            cases hbit : hasBit R.r0.out k2
            · have hcl : clr R.r0.out k2 = R.r0.out := by simp [clr, hbit]
              have hbit' := hid hbit
              clear hbit
              go_wp2
              go_quiet (fail)
              go_wp2
              go_roundw
              case rel =>
                refine ⟨k2 + 1, by go_num, by omega, by omega, hid ?_, below_drewN hbc'.out _⟩
                rw [hfi'.out, hstep'.out]
                simp [freeIn, hfs'.out, hbit'.out]
              case measure => simp [intOf]; omega
            · have hcl : (clr R.r0.out k2 == R.r0.out) = false := by simpa using (clr_le hr0.out0 hk0).2.2 hbit
              have hcl2 : ¬ clr R.r0.out k2 = R.r0.out := (clr_le hr0.out0 hk0).2.2 hbit
              have hbit' := hid hbit
              clear hbit
              cases hcn : canB ⟨R.hours, ⟨clr R.r0.out k2, R.r0.total, R.r0.run, R.r0.off⟩, R.r1⟩ R.hours
              all_goals have hcn' := hid hcn
              all_goals clear hcn
              all_goals go_wp2
              all_goals go_region_held3 (fun w' => (∀ o, w'.cell? ⟨w.heap.size, o, none⟩ = #[.int .i64 R.hours, .int .i64 R.r0.out, .int .i64 R.r0.total, .int .i64 R.r0.run, .int .i64 R.r0.off, .int .i64 R.r1.out, .int .i64 R.r1.total, .int .i64 R.r1.run, .int .i64 R.r1.off][o]?) ∧ (∀ o, w'.cell? ⟨wr.heap.size, o, none⟩ = #[.int .i64 R.hours, .int .i64 (clr R.r0.out k2), .int .i64 R.r0.total, .int .i64 R.r0.run, .int .i64 R.r0.off, .int .i64 R.r1.out, .int .i64 R.r1.total, .int .i64 R.r1.run, .int .i64 R.r1.off][o]?)) (simp [*]) (first
                | (go_at_call 47; refine (open_always ⟨R.hours, ⟨clr R.r0.out k2, R.r0.total, R.r0.run, R.r0.off⟩, R.r1⟩ _).mono ?_; intro e w1 hp; obtain ⟨rb, he, hrb, hrc, hb⟩ := openPost_valid hQv'.out.1 hp; subst he; clear hp; obtain ⟨l1, c1⟩ := cells_of hrc; have hrc' := hid hrc; clear hrc; have hX1 := (hb.block _ (cells_of hXc'.out).1).trans hXc'.out; obtain ⟨lx3, cx3⟩ := cells_of hX1; have hO1 := (hb.block _ (cells_of hOc'.out).1).trans hOc'.out; obtain ⟨lo3, co3⟩ := cells_of hO1)
                | (go_at_call 58; refine (can_any rb ⟨R.hours, ⟨clr R.r0.out k2, R.r0.total, R.r0.run, R.r0.off⟩, R.r1⟩ R.hours hh.1 hh.2 hQo.1 hQo.2 _ hrc'.out).mono ?_; rw [hcn'.out]; rintro e w2 ⟨rfl, hb2⟩; have hbA2 := below_via hb2 hb; have hX2 := (hbA2.block _ (cells_of hXc'.out).1).trans hXc'.out; obtain ⟨lx4, cx4⟩ := cells_of hX2; have hO2 := (hbA2.block _ (cells_of hOc'.out).1).trans hOc'.out; obtain ⟨lo4, co4⟩ := cells_of hO2; have hA2 := (hbA2.block _ (cells_of hAc'.out).1).trans hAc'.out; obtain ⟨la4, ca4⟩ := cells_of hA2; have za4 := free_of hA2))
              all_goals (go_wp2_with fail)
              · have hbq2 := below_via hbA2 hbc'.out.drew
                go_roundw
                case rel =>
                  refine ⟨k2 + 1, by go_num, by omega, by omega, hid ?_, hbq2⟩
                  rw [hfi'.out, hstep'.out]
                  simp [freeIn, hfs'.out, hbit'.out, hcn'.out]
                case measure => simp [intOf]; omega
              · have hbq2 := below_via hbA2 hbc'.out.drew
                refine leaves_cons (f := 44) (args := #[.pointer (some ⟨w.heap.size + 1, 0, none⟩)]) (by simp) (by simp [go_sem]) ?_
                refine (told_idle ⟨w.heap.size + 1, 0, none⟩ _).mono ?_
                rintro e u' w'' ⟨rfl, rfl, rfl⟩
                have hfin : Below w.heap.size w (w2.setCell ⟨w.heap.size + 1, 0, none⟩ (.int .i64 0)) := below_set (below_via hbq2 hAw'.out) _ (by simp)
                have hc0 := (cells_of (heap_setCell_same (o := 0) (v := .int .i64 0) hA2)).2 0
                have hres : freeOf R = (0, k2, 0) := by
                  have : freeIn R 0 R.hours.toNat 0 = some k2 := by
                    rw [hfi'.out, hstep'.out]
                    simp [freeIn, hfs'.out, hbit'.out, hcn'.out]
                  simp [freeOf, this]
                simp [Leaves, settle, results, Try.results30, go_sem, hc0, hfin, hres]
          · obtain rfl : k2 = R.hours := by omega
            have hn : freeIn R 0 R.hours.toNat 0 = none := by rw [hfi.out]; simp [freeIn]
            have hn' := hid hn
            have hbq' := hid hbq
            clear hn hbq
            go_wp2
            go_roundw
            case rel => exact ⟨1, rfl, .inr (.inl ⟨rfl, hn'⟩), hbq'.out⟩
            case measure => simp [intOf]
      · go_wp2
        go_loopw [20] (fun h wr2 => ∃ k2 : Int, h = .int .i64 k2 ∧ 0 ≤ k2 ∧ k2 ≤ R.hours ∧ Hid (freeIn R 1 R.hours.toNat 0 = freeIn R 1 (R.hours - k2).toNat k2) ∧ Below ((w.alloc (.cells #[.int .i64 R.hours, .int .i64 R.r0.out, .int .i64 R.r0.total, .int .i64 R.r0.run, .int .i64 R.r0.off, .int .i64 R.r1.out, .int .i64 R.r1.total, .int .i64 R.r1.run, .int .i64 R.r1.off] 26)).alloc (.cells #[.int .i64 0] 30)).heap.size ((w.alloc (.cells #[.int .i64 R.hours, .int .i64 R.r0.out, .int .i64 R.r0.total, .int .i64 R.r0.run, .int .i64 R.r0.off, .int .i64 R.r1.out, .int .i64 R.r1.total, .int .i64 R.r1.run, .int .i64 R.r1.off] 26)).alloc (.cells #[.int .i64 0] 30)) wr2) (fun h _ => R.hours.toNat - (intOf h).toNat)
        case atStart => exact ⟨0, rfl, by omega, hh.1, hid (by simp), hbr'.out⟩
        case round =>
          obtain ⟨k2, rfl, hk0, hk1, hfi, hbq⟩ := hrel
          by_cases hlt : k2 < R.hours
          · have hout : bits .andNot .i64 R.r1.out (wrap64 (2 ^ k2.toNat)) = clr R.r1.out k2 := by
              have h2 := two_pow_le (n := k2.toNat) (m := 15) (by omega)
              have h3 : (0 : Int) < 2 ^ k2.toNat := Int.pow_pos (by decide)
              rw [IntWalk.wrap64_in _ (by omega)]
              have h4 := andNot_nat R.r1.out.toNat k2.toNat (by have := hr1.out1; omega) (by omega)
              rw [Int.toNat_of_nonneg hr1.out0, Int.toNat_of_nonneg hk0] at h4
              exact h4
            have hstep : (R.hours - k2).toNat = (R.hours - (k2 + 1)).toNat + 1 := by omega
            have hXq := (hbq.block _ (cells_of hX'.out).1).trans hX'.out
            have hAq := (hbq.block _ (cells_of hA'.out).1).trans hA'.out
            obtain ⟨lx2, cx2⟩ := cells_of hXq
            obtain ⟨la2, ca2⟩ := cells_of hAq
            have za2 := free_of hAq
            have hbq' := hid hbq
            have hfi' := hid hfi
            have hAq' := hid hAq
            have hXq' := hid hXq
            have hstep' := hid hstep
            clear hbq hfi hAq hXq cx ca za hstep
            go_wp2
            go_region
            have hbc : Below ((w.alloc (.cells #[.int .i64 R.hours, .int .i64 R.r0.out, .int .i64 R.r0.total, .int .i64 R.r0.run, .int .i64 R.r0.off, .int .i64 R.r1.out, .int .i64 R.r1.total, .int .i64 R.r1.run, .int .i64 R.r1.off] 26)).alloc (.cells #[.int .i64 0] 30)).heap.size ((w.alloc (.cells #[.int .i64 R.hours, .int .i64 R.r0.out, .int .i64 R.r0.total, .int .i64 R.r0.run, .int .i64 R.r0.off, .int .i64 R.r1.out, .int .i64 R.r1.total, .int .i64 R.r1.run, .int .i64 R.r1.off] 26)).alloc (.cells #[.int .i64 0] 30)) (wr.alloc (.cells #[.int .i64 R.hours, .int .i64 R.r0.out, .int .i64 R.r0.total, .int .i64 R.r0.run, .int .i64 R.r0.off, .int .i64 (clr R.r1.out k2), .int .i64 R.r1.total, .int .i64 R.r1.run, .int .i64 R.r1.off] 26)).drew := (below_alloc hbq'.out _).drew
            have hOc : (wr.alloc (.cells #[.int .i64 R.hours, .int .i64 R.r0.out, .int .i64 R.r0.total, .int .i64 R.r0.run, .int .i64 R.r0.off, .int .i64 (clr R.r1.out k2), .int .i64 R.r1.total, .int .i64 R.r1.run, .int .i64 R.r1.off] 26)).drew.heap[wr.heap.size]? = some (.cells #[.int .i64 R.hours, .int .i64 R.r0.out, .int .i64 R.r0.total, .int .i64 R.r0.run, .int .i64 R.r0.off, .int .i64 (clr R.r1.out k2), .int .i64 R.r1.total, .int .i64 R.r1.run, .int .i64 R.r1.off] 26 (0, 0)) := alloc_at rfl
            have hXc : (wr.alloc (.cells #[.int .i64 R.hours, .int .i64 R.r0.out, .int .i64 R.r0.total, .int .i64 R.r0.run, .int .i64 R.r0.off, .int .i64 (clr R.r1.out k2), .int .i64 R.r1.total, .int .i64 R.r1.run, .int .i64 R.r1.off] 26)).drew.heap[w.heap.size]? = some (.cells #[.int .i64 R.hours, .int .i64 R.r0.out, .int .i64 R.r0.total, .int .i64 R.r0.run, .int .i64 R.r0.off, .int .i64 R.r1.out, .int .i64 R.r1.total, .int .i64 R.r1.run, .int .i64 R.r1.off] 26 (0, 0)) := alloc_old lx2 hXq'.out
            have hAc : (wr.alloc (.cells #[.int .i64 R.hours, .int .i64 R.r0.out, .int .i64 R.r0.total, .int .i64 R.r0.run, .int .i64 R.r0.off, .int .i64 (clr R.r1.out k2), .int .i64 R.r1.total, .int .i64 R.r1.run, .int .i64 R.r1.off] 26)).drew.heap[w.heap.size + 1]? = some (.cells #[.int .i64 0] 30 (0, 0)) := alloc_old la2 hAq'.out
            have hQv := Rest.clear_valid (i := 1) (h := k2) hv'.out hk0
            have hQ : R.clear 1 k2 = ⟨R.hours, R.r0, ⟨clr R.r1.out k2, R.r1.total, R.r1.run, R.r1.off⟩⟩ := by simp [Rest.clear]
            rw [hQ] at hQv
            have hQo := Rest.valid_ok hQv.1
            generalize hWc : (wr.alloc (.cells #[.int .i64 R.hours, .int .i64 R.r0.out, .int .i64 R.r0.total, .int .i64 R.r0.run, .int .i64 R.r0.off, .int .i64 (clr R.r1.out k2), .int .i64 R.r1.total, .int .i64 R.r1.run, .int .i64 R.r1.off] 26)).drew = Wc at *
            clear hWc cx2 ca2 za2 lx2 la2
            obtain ⟨lx2, cx2⟩ := cells_of hXc
            obtain ⟨lo2, co2⟩ := cells_of hOc
            obtain ⟨la2, ca2⟩ := cells_of hAc
            have za2 := free_of hAc
            have hXc' := hid hXc
            have hOc' := hid hOc
            have hAc' := hid hAc
            have hbc' := hid hbc
            have hQv' := hid hQv
            have hQ' := hid hQ
            have hfs : frees R 1 k2 = (hasBit R.r1.out k2 && canB ⟨R.hours, R.r0, ⟨clr R.r1.out k2, R.r1.total, R.r1.run, R.r1.off⟩⟩ R.hours) := by simp [frees, Rest.rider, hQ]
            have hfs' := hid hfs
            clear hXc hOc hAc hbc hQv hQ hfs
            cases hbit : hasBit R.r1.out k2
            · have hcl : clr R.r1.out k2 = R.r1.out := by simp [clr, hbit]
              have hbit' := hid hbit
              clear hbit
              go_wp2
              go_quiet (fail)
              go_wp2
              go_roundw
              case rel =>
                refine ⟨k2 + 1, by go_num, by omega, by omega, hid ?_, below_drewN hbc'.out _⟩
                rw [hfi'.out, hstep'.out]
                simp [freeIn, hfs'.out, hbit'.out]
              case measure => simp [intOf]; omega
            · have hcl : (clr R.r1.out k2 == R.r1.out) = false := by simpa using (clr_le hr1.out0 hk0).2.2 hbit
              have hcl2 : ¬ clr R.r1.out k2 = R.r1.out := (clr_le hr1.out0 hk0).2.2 hbit
              have hbit' := hid hbit
              clear hbit
              cases hcn : canB ⟨R.hours, R.r0, ⟨clr R.r1.out k2, R.r1.total, R.r1.run, R.r1.off⟩⟩ R.hours
              all_goals have hcn' := hid hcn
              all_goals clear hcn
              all_goals go_wp2
              all_goals go_region_held3 (fun w' => (∀ o, w'.cell? ⟨w.heap.size, o, none⟩ = #[.int .i64 R.hours, .int .i64 R.r0.out, .int .i64 R.r0.total, .int .i64 R.r0.run, .int .i64 R.r0.off, .int .i64 R.r1.out, .int .i64 R.r1.total, .int .i64 R.r1.run, .int .i64 R.r1.off][o]?) ∧ (∀ o, w'.cell? ⟨wr.heap.size, o, none⟩ = #[.int .i64 R.hours, .int .i64 R.r0.out, .int .i64 R.r0.total, .int .i64 R.r0.run, .int .i64 R.r0.off, .int .i64 (clr R.r1.out k2), .int .i64 R.r1.total, .int .i64 R.r1.run, .int .i64 R.r1.off][o]?)) (simp [*]) (first
                | (go_at_call 47; refine (open_always ⟨R.hours, R.r0, ⟨clr R.r1.out k2, R.r1.total, R.r1.run, R.r1.off⟩⟩ _).mono ?_; intro e w1 hp; obtain ⟨rb, he, hrb, hrc, hb⟩ := openPost_valid hQv'.out.1 hp; subst he; clear hp; obtain ⟨l1, c1⟩ := cells_of hrc; have hrc' := hid hrc; clear hrc; have hX1 := (hb.block _ (cells_of hXc'.out).1).trans hXc'.out; obtain ⟨lx3, cx3⟩ := cells_of hX1; have hO1 := (hb.block _ (cells_of hOc'.out).1).trans hOc'.out; obtain ⟨lo3, co3⟩ := cells_of hO1)
                | (go_at_call 58; refine (can_any rb ⟨R.hours, R.r0, ⟨clr R.r1.out k2, R.r1.total, R.r1.run, R.r1.off⟩⟩ R.hours hh.1 hh.2 hQo.1 hQo.2 _ hrc'.out).mono ?_; rw [hcn'.out]; rintro e w2 ⟨rfl, hb2⟩; have hbA2 := below_via hb2 hb; have hX2 := (hbA2.block _ (cells_of hXc'.out).1).trans hXc'.out; obtain ⟨lx4, cx4⟩ := cells_of hX2; have hO2 := (hbA2.block _ (cells_of hOc'.out).1).trans hOc'.out; obtain ⟨lo4, co4⟩ := cells_of hO2; have hA2 := (hbA2.block _ (cells_of hAc'.out).1).trans hAc'.out; obtain ⟨la4, ca4⟩ := cells_of hA2; have za4 := free_of hA2))
              all_goals (go_wp2_with fail)
              · have hbq2 := below_via hbA2 hbc'.out.drew
                go_roundw
                case rel =>
                  refine ⟨k2 + 1, by go_num, by omega, by omega, hid ?_, hbq2⟩
                  rw [hfi'.out, hstep'.out]
                  simp [freeIn, hfs'.out, hbit'.out, hcn'.out]
                case measure => simp [intOf]; omega
              · have hbq2 := below_via hbA2 hbc'.out.drew
                refine leaves_cons (f := 44) (args := #[.pointer (some ⟨w.heap.size + 1, 0, none⟩)]) (by simp) (by simp [go_sem]) ?_
                refine (told_idle ⟨w.heap.size + 1, 0, none⟩ _).mono ?_
                rintro e u' w'' ⟨rfl, rfl, rfl⟩
                have hfin : Below w.heap.size w (w2.setCell ⟨w.heap.size + 1, 0, none⟩ (.int .i64 0)) := below_set (below_via hbq2 hAw'.out) _ (by simp)
                have hc0 := (cells_of (heap_setCell_same (o := 0) (v := .int .i64 0) hA2)).2 0
                have hres : freeOf R = (1, k2, 0) := by
                  have : freeIn R 1 R.hours.toNat 0 = some k2 := by
                    rw [hfi'.out, hstep'.out]
                    simp [freeIn, hfs'.out, hbit'.out, hcn'.out]
                  simp [freeOf, this, hn0.out]
                simp [Leaves, settle, results, Try.results30, go_sem, hc0, hfin, hres]
          · obtain rfl : k2 = R.hours := by omega
            have hn : freeIn R 1 R.hours.toNat 0 = none := by rw [hfi.out]; simp [freeIn]
            have hn' := hid hn
            have hbq' := hid hbq
            clear hn hbq
            go_wp2
            go_roundw
            case rel => exact ⟨2, rfl, .inr (.inr ⟨rfl, hn0, hn'⟩), hbq'.out⟩
            case measure => simp [intOf]
      · go_wp2
        refine leaves_cons (f := 44) (args := #[.pointer (some ⟨w.heap.size + 1, 0, none⟩)]) (by simp) (by simp [go_sem]) ?_
        refine (told_idle ⟨w.heap.size + 1, 0, none⟩ _).mono ?_
        rintro e u' w'' ⟨rfl, rfl, rfl⟩
        have hfin : Below w.heap.size w (wr.setCell ⟨w.heap.size + 1, 0, none⟩ (.int .i64 4)) := below_set (below_via hbr'.out hAw'.out) _ (by simp)
        have hc0 := (cells_of (heap_setCell_same (o := 0) (v := .int .i64 4) hAr'.out)).2 0
        have hres : freeOf R = (0, 0, 4) := by simp [freeOf, hn0.out, hn1.out]
        simp [Leaves, settle, results, Try.results30, go_sem, hc0, hfin, hres]

end Go.Proofs.Ytkgdejhooghknaa
