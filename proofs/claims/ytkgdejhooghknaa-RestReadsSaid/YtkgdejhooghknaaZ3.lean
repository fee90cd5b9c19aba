/- The law RestReads of package lapworkslaw06 returns true for every rest and every list, and leaves its arguments as they were. No condition. -/
import Derived.Test.YtkgdejhooghknaaZ1
import Derived.Test.YtkgdejhooghknaaA8
namespace Go.Proofs.Ytkgdejhooghknaa
open Go.ChangeShapes Go.WideShapes Go.ChangeAt Go.RowKit Go.Lap

set_option maxRecDepth 100000 in
theorem restReads_lifted (os : Os) (started : os.Started) (H : Type) (enc : TypeId × Value → H) :
    ReturnsInHanded {} Try.checked os 3 .any (Rows.restReadsSpec.pre6 enc Try.prog Try.f3 Rows.restReadsRow.domain false) (Rows.restReadsSpec.post enc Try.prog Try.f3 false true false false) := by
  refine returnsInHanded_of_change (C := Try.checked) Try.own started (by kernel_rfl) Try.func3
    (ChangeSpec.witness6 (enc := enc) (C := Try.checked) false ⟨#[], #[.agg #[.int .i64 0, .int .i64 0, .int .i64 0, .int .i64 0, .int .i64 0, .int .i64 0, .int .i64 0, .int .i64 0, .int .i64 0], .slice none 0 0], []⟩ 8 (by kernel_rfl) (by kernel_rfl) (by kernel_rfl) (by kernel_rfl)) ?_
  intro W base args ds gs before hval0 hW hcnd _
  have hval : ∀ (j : Nat) t v, Try.f3.params[j]? = some t → args[j]? = some v → Value.okWide Try.prog W .any base t v := hval0
  have hW' := hW
  obtain ⟨p, q, hA0, hV, rfl, hfz, hnd⟩ := hW
  have hA : DataW.TrodAll enc Try.prog W 0 (fun _ => true) true Try.f3.params.toList args.toList ds p := hA0
  rw [Try.params3] at hA hval
  obtain ⟨v0, v1, d0, d1, p0, p1, rfl, rfl, rfl, h0, h1⟩ := trodAll_two hA
  obtain ⟨rfl, rfl⟩ := trodVars_none hV
  obtain ⟨R, rfl, rfl, rfl, wR⟩ := open_rest (hval 0 26 v0 rfl rfl) h0
  obtain ⟨a0, len, cap, rfl⟩ := okWide_slice Try.underlying27 (hval 1 27 v1 rfl rfl)
  obtain ⟨fuel, hf⟩ := h1
  clear hA0 hval0
  simp only [List.append_nil, List.nil_append] at hW'
  rcases open_ints Try.underlying27 Try.underlying3 cells_3 hf with ⟨hcs, hx⟩ | ⟨a, len', cap', zs, hcs, _, hl, hm, hz, hx, hcell, hwz⟩
  · simp [Value.cells] at hcs
    obtain ⟨rfl, rfl, rfl⟩ := hcs
    simp only [Prod.mk.injEq] at hx
    obtain ⟨rfl, rfl⟩ := hx
    refine (restReads_any R none 0 [] (Nat.zero_le _) W ⟨none, 0, rfl, fun h => (h rfl).elim⟩).mono fun e W' ⟨he, hw⟩ => ?_
    subst he
    exact ⟨_, rfl, post_of_below (pa := []) (pv := []) hW' (fun _ _ _ => trodAll_mk1 (shut_bool Try.underlying4 true)) (fun sp _ => trodAll_mk2 (shut_rest wR) (shut_slice_nil Try.underlying27)) (fun _ _ => rfl) rfl
      hw (ok_one (by kernel_rfl) rfl (okWide_bool_mk Try.underlying4 true))⟩
  · simp [Value.cells] at hcs
    obtain ⟨rfl, rfl, rfl⟩ := hcs
    simp only [Prod.mk.injEq] at hx
    obtain ⟨rfl, rfl⟩ := hx
    simp only [if_true] at hz
    have hte : (zs.take len).length = len := by simp; omega
    have hints : IntsAt W (.slice (some a) (zs.take len).length cap) (zs.take len) := by
      refine ⟨some a, cap, rfl, fun hne => ?_⟩
      have hl0 : 0 < len := by rw [← hte]; exact List.length_pos_iff.2 hne
      obtain ⟨b, off, spot⟩ := a
      have hspot : spot = none := by simpa [Addr.add] using World.cell?_spot (hcell 0 (by omega))
      subst hspot
      refine ⟨b, off, rfl, fun j hj => ?_⟩
      rw [hte] at hj
      have hjz : j < zs.length := by omega
      have h9 := hcell j hjz
      rw [add_plain] at h9
      rw [h9]
      simp [hj, hjz]
    have fin := restReads_any R (some a) cap (zs.take len) (by rw [hte]; omega) W hints
    rw [hte] at fin
    refine fin.mono fun e W' ⟨he, hw⟩ => ?_
    subst he
    have hcell2 : ∀ i, i < zs.length → W'.cell? (a.add i) = some (.int .i64 (zs.getD i 0)) := fun i hi =>
      (hw.cell (World.block_lt_of_cell? W _ (hcell i hi))).trans (hcell i hi)
    refine ⟨_, rfl, post_of_below (pa := MemPlace.row a zs.length) (pv := []) hW' (fun _ _ _ => trodAll_mk1 (shut_bool Try.underlying4 true)) (fun sp hsp => ?_) (fun _ _ => rfl) (by simp)
      hw (ok_one (by kernel_rfl) rfl (okWide_bool_mk Try.underlying4 true))⟩
    have key : DataW.Trod enc Try.prog W' 0 sp true 27 (.slice (some a) len cap) (.slice (lits .i64 (zs.take len)) (lits .i64 (zs.drop len))) (MemPlace.row a zs.length) := by
      by_cases hz0 : zs.length = 0
      · have hc0 : cap = 0 := by omega
        have hl0 : len = 0 := by omega
        subst hc0; subst hl0
        have t0 := shut_ints (enc := enc) (w := W') (base := 0) (spare := sp) (held := true) (a := a) (len := 0) (cap := 0) (zs := zs) 0 Try.underlying27 Try.underlying3 cells_3 (Nat.zero_le _) (Nat.le_refl _) hm (by simp [hz0]) hcell2 hwz
        exact ⟨2, by simpa [Value.cells] using t0⟩
      · have hspb : sp a.block = true := by
          have := hsp (.cell a.block a.off) (MemPlace.mem_row.2 ⟨0, by omega, by simp⟩)
          exact this
        have t0 := shut_ints (enc := enc) (w := W') (base := 0) (spare := sp) (held := true) (a := a) (len := len) (cap := cap) (zs := zs) 0 Try.underlying27 Try.underlying3 cells_3 (Nat.zero_le _) hl hm (by simp [hspb, hz]) hcell2 hwz
        exact ⟨2, by simpa [Value.cells] using t0⟩
    exact trodAll_mk2 (p := []) (shut_rest wR) key

theorem restReads_holds : Rows.RestReadsSaid :=
  OpenClaim.holds_of_wide 3 Try.f3 rfl rfl rfl rfl rfl rfl rfl ⟨rfl, rfl, rfl, rfl, rfl⟩ rfl rfl rfl rfl rfl (by kernel_rfl) Try.func3 (by kernel_rfl)
    (of_decide_eq_true (by kernel_rfl)) (by unfold Func.isWrapper; first | (rw [if_pos (by decide +kernel)]; kernel_rfl) | (rw [if_neg (by decide +kernel)]; exact ⟨rfl, rfl⟩))
    (fun os started H enc _ => restReads_lifted os started H enc)

end Go.Proofs.Ytkgdejhooghknaa
