/- The relays that the law RelayTrue draws, walked. -/
import Derived.Test.YtccgakdaiaigoaaGV
namespace Go.Proofs.Ytccgakdaiaigoaa
open Go.RowKit Go.Lap Go.Shelf

set_option maxRecDepth 100000 in
set_option maxHeartbeats 16000000 in
theorem made_any {bs : List Int} {bv : Value} (hne : bs ≠ []) (w : World) (hW : WordsAt w bv bs) : Calls Try.prog 30 #[bv] w fun e w' => ∃ r s rv ov fv now, e = .returned (.tuple #[relV r rv, ov, fv]) ∧ StintsAt w' rv r.stints ∧ onK.at w' ov (onsL r.n s) ∧ onK.at w' fv (offsL r.n s) ∧ Made r s now ∧ r.n ≤ 5 ∧ Below w.heap.size w w' := by
  obtain ⟨⟨sa, cap, rfl, hq0⟩, hr⟩ := id hW
  clear hq0 hr
  have hW' := hid hW
  have hne' := hid hne
  clear hW hne
  go_enter Try.func30, Try.ntmps30
  go_upto_region 2 with fail
  have hb : (((w.alloc (.cells #[(.slice sa bs.length cap)] 38)).alloc (.cells #[.int .i64 0, .slice none 0 0] 24)).alloc (.cells #[.int .i64 0] 3)).heap[w.heap.size]? = some (.cells #[(.slice sa bs.length cap)] 38 (0, 0)) := alloc_old (by simp; omega) (alloc_old (by simp) (alloc_at rfl))
  have hr : (((w.alloc (.cells #[(.slice sa bs.length cap)] 38)).alloc (.cells #[.int .i64 0, .slice none 0 0] 24)).alloc (.cells #[.int .i64 0] 3)).heap[w.heap.size + 1]? = some (.cells #[.int .i64 0, .slice none 0 0] 24 (0, 0)) := alloc_old (by simp) (alloc_at (by simp))
  have ha : (((w.alloc (.cells #[(.slice sa bs.length cap)] 38)).alloc (.cells #[.int .i64 0, .slice none 0 0] 24)).alloc (.cells #[.int .i64 0] 3)).heap[w.heap.size + 1 + 1]? = some (.cells #[.int .i64 0] 3 (0, 0)) := alloc_at (by simp)
  have hbel := hid (below_alloc (below_alloc (below_alloc (Below.refl _ w) (.cells #[(.slice sa bs.length cap)] 38)) (.cells #[.int .i64 0, .slice none 0 0] 24)) (.cells #[.int .i64 0] 3))
  have hsz : (((w.alloc (.cells #[(.slice sa bs.length cap)] 38)).alloc (.cells #[.int .i64 0, .slice none 0 0] 24)).alloc (.cells #[.int .i64 0] 3)).heap.size = w.heap.size + 3 := by simp
  generalize ((w.alloc (.cells #[(.slice sa bs.length cap)] 38)).alloc (.cells #[.int .i64 0, .slice none 0 0] 24)).alloc (.cells #[.int .i64 0] 3) = w3 at hb hr ha hbel hsz ⊢
  obtain ⟨pb, hpb⟩ : ∃ p, p = w.heap.size := ⟨_, rfl⟩
  obtain ⟨pr, hpr⟩ : ∃ p, p = w.heap.size + 1 := ⟨_, rfl⟩
  obtain ⟨pa, hpa⟩ : ∃ p, p = w.heap.size + 1 + 1 := ⟨_, rfl⟩
  obtain ⟨pf, hpf⟩ : ∃ p, p = w3.heap.size := ⟨_, rfl⟩
  rw [← hpa] at ha ⊢
  rw [← hpr] at hr ⊢
  rw [← hpb] at hb ⊢
  have hord := hid (show pb = w.heap.size ∧ pr = w.heap.size + 1 ∧ pa = w.heap.size + 2 ∧ pf = w.heap.size + 3 from by omega)
  have hn5a := alloc_at (w := w3) (o := .cells #[.nilFunc] 60) rfl
  have ln5 := (cells_of hn5a).1
  have cn5 := (cells_of hn5a).2
  have zn5 := free_of hn5a
  have hst : (store ⟨w3.heap.size, 0, none⟩ (.func (.func 66) #[] #[.pointer (some ⟨pa, 0, none⟩), .pointer (some ⟨pb, 0, none⟩)])).run Try.prog (w3.alloc (.cells #[.nilFunc] 60)) = .ok () ((w3.alloc (.cells #[.nilFunc] 60)).setCell ⟨w3.heap.size, 0, none⟩ (.func (.func 66) #[] #[.pointer (some ⟨pa, 0, none⟩), .pointer (some ⟨pb, 0, none⟩)])) := by
    rw [run_store _ _ _ _ _ rfl, cn5]
    simp [zn5]
  clear hsz hpb hpr hpa
  go_upto_region 4 with fail
  have hb1 := below_alloc (Below.refl _ w3) (.cells #[drawF pa pb] 60)
  have hx := hid (show Dr w bs (.slice sa bs.length cap) pa pb pf 0 (w3.alloc (.cells #[drawF pa pb] 60)) from ⟨below_via hb1 hbel.out, hW'.out, hne'.out, (hb1.block _ (cells_of ha).1).trans ha, (hb1.block _ (cells_of hb).1).trans hb, alloc_at hpf, by have := hord.out; omega, by have := hord.out; omega, by have := hord.out; omega⟩)
  have hR := hid ((hb1.block _ (cells_of hr).1).trans hr)
  rw [← hpf]
  clear hn5a ln5 cn5 zn5 hst hb1 hb hr ha hbel hpf
  generalize w3.alloc (.cells #[drawF pa pb] 60) = w4 at hx hR ⊢
  have lf := (cells_of hx.out.f).1
  have cf := (cells_of hx.out.f).2
  have lr := (cells_of hR.out).1
  have hd := hid (hx.out.draw (N := 12) (by omega) (by decide) (by decide))
  have hrpa := hid (show pr ≠ pa ∧ pr ≠ pb ∧ pr ≠ pf ∧ w.heap.size ≤ pr by have := hord.out; omega)
  go_upto_region 5 with (go_at_call 66; with_reducible refine hd.out.mono ?_; rintro e z_a ⟨rs, hrs0, hrs1, rfl, hx1, ho⟩; replace hx := hid hx1; replace hR := hid (only_at ho hR.out hrpa.out.1); clear lf cf lr hd hx1 ho; have lr := (cells_of hR.out).1; have cr := (cells_of hR.out).2; have zr := free_of hR.out)
  clear lr cr zr
  have hR2 := heap_set_same (o := 0) (v := .int .i64 rs) hR.out
  simp only [List.setIfInBounds_toArray, List.set_cons_zero] at hR2
  replace hR := hid hR2
  clear hR2
  replace hx := hid (hx.out.set (o := 0) (v := .int .i64 rs) hrpa.out)
  generalize z_a.setCell ⟨pr, 0, none⟩ (.int .i64 rs) = w5 at hx hR ⊢
  go_upto_region 6 with fail
  have hb1 := below_alloc (Below.refl _ w5) (.cells #[.int .i64 (-1), .int .i64 (-1)] 53)
  have hP := hid (alloc_at (w := w5) (o := .cells #[.int .i64 (-1), .int .i64 (-1)] 53) rfl)
  have hls := hid (show w5.heap.size ≠ pa ∧ w5.heap.size ≠ pb ∧ w5.heap.size ≠ pf ∧ w.heap.size ≤ w5.heap.size from by have h1 := (cells_of hx.out.a).1; have h2 := (cells_of hx.out.b).1; have h3 := (cells_of hx.out.f).1; have h4 := hx.out.lo; omega)
  have hpp := hid (show pr ≠ w5.heap.size from Nat.ne_of_lt (cells_of hR.out).1)
  replace hx := hid (hx.out.below hb1)
  replace hR := hid ((hb1.block _ (cells_of hR.out).1).trans hR.out)
  clear hb1
  generalize w5.alloc (.cells #[.int .i64 (-1), .int .i64 (-1)] 53) = w6 at hx hR hP ⊢
  generalize w5.heap.size = pl at hP hls hpp ⊢
  have lf := (cells_of hx.out.f).1
  have cf := (cells_of hx.out.f).2
  have hd := hid (hx.out.draw (N := 10) (by omega) (by decide) (by decide))
  go_upto_region 7 with (go_at_call 66; with_reducible refine hd.out.mono ?_; rintro e z_b ⟨nw, hnw0, hnw1, rfl, hx1, ho⟩; replace hx := hid hx1; replace hR := hid (only_at ho hR.out hrpa.out.1); replace hP := hid (only_at ho hP.out hls.out.1); clear lf cf hd hx1 ho)
  have lf := (cells_of hx.out.f).1
  have cf := (cells_of hx.out.f).2
  have hd := hid (hx.out.draw (N := 6) (by omega) (by decide) (by decide))
  go_wp2_with (go_at_call 66; with_reducible refine hd.out.mono ?_; rintro e z_c ⟨ct, hct0, hct1, rfl, hx1, ho⟩; replace hx := hid hx1; replace hR := hid (only_at ho hR.out hrpa.out.1); replace hP := hid (only_at ho hP.out hls.out.1); clear lf cf hd hx1 ho)
  obtain ⟨ct, rfl⟩ := Int.eq_ofNat_of_zero_le hct0
  have hM0 := hid (MD.start (rest := rs) hx.out hR.out hP.out ⟨hrpa.out, hls.out, hpp.out⟩)
  clear hx hR hP hW' hne' hrpa hls hpp hord
  have hmd0 := hid (Made.start (rest := rs) (now := nw) (by omega) (by omega) (fun _ => 0))
  obtain ⟨B, hB⟩ : ∃ B, B = z_c.heap.size := ⟨_, rfl⟩
  skip
  go_loopw [3, 4, 9, 10, 11, 22] (fun u3 u4 u9 _ _ j wr => ∃ (r : Rel) (s : Nat → Int) (now c : Int) (rv ov fv : Value), r.n ≤ ct ∧ j = .int .i64 r.n ∧ u3 = ov ∧ u4 = fv ∧ u9 = .int .i64 now ∧ Hid (Made r s now) ∧ Hid (0 ≤ c ∧ c ≤ 4 + 11 * (r.n : Int)) ∧ Hid (B ≤ wr.heap.size) ∧ Hid (MD w bs (.slice sa bs.length cap) B pa pb pf pr pl r.rest c r.stints (onsL r.n s) (offsL r.n s) #[.int .i64 (r.lastOf 0), .int .i64 (r.lastOf 1)] wr.heap.size none rv ov fv wr)) (fun _ _ _ _ _ j _ => ct - (intOf j).toNat)
  case atStart => exact ⟨⟨rs, []⟩, fun _ => 0, nw, 0 + 1 + 1 + 1, _, _, _, Nat.zero_le _, rfl, rfl, rfl, rfl, hmd0, hid (by show (0 : Int) ≤ 0 + 1 + 1 + 1 ∧ (0 : Int) + 1 + 1 + 1 ≤ 4 + 11 * ((0 : Nat) : Int); omega), hid (by rw [hB]; exact Nat.le_refl _), hid (by rw [hB]; exact hM0.out)⟩
  case round =>
    obtain ⟨r, s, now, c, rv, ov, fv, hn, rfl, rfl, rfl, rfl, hmd, hc, hBW, hM⟩ := hrel
    clear hM0 hmd0 hB
    have hn5 : (r.n : Int) ≤ 5 := by omega
    by_cases hlt : r.n < ct
    · have hki : (r.n : Int) < ct := by omega
      have lf := (cells_of hM.out.dr.f).1
      have cf := (cells_of hM.out.dr.f).2
      have hd := hid (hM.out.draw0 hBW.out (N := 2) (by have := hc.out; omega) (by decide) (by decide))
      go_upto_region 10 with (go_at_call 66; with_reducible refine hd.out.mono ?_; rintro e z1 ⟨qi, hq0, hq1, rfl, hM1⟩; clear lf cf hd)
      obtain ⟨q, rfl⟩ := Int.eq_ofNat_of_zero_le hq0
      have hq2 := hid (show q < 2 by omega)
      obtain ⟨ps, hps⟩ : ∃ p, z1.heap.size = p := ⟨_, rfl⟩
      rw [hps] at hM1 ⊢
      replace hM1 := hid (hM1.alloc hps (.cells #[.int .i64 q, .int .i64 0, .int .i64 0, .int .i64 0, .int .i64 0, .int .i64 0, .int .i64 0, .int .i64 0, .int .i64 0] 46 (0, 0)))
      clear hM hps
      have hM := hM1
      clear hM1
      generalize z1.alloc (.cells #[.int .i64 q, .int .i64 0, .int .i64 0, .int .i64 0, .int .i64 0, .int .i64 0, .int .i64 0, .int .i64 0, .int .i64 0] 46 (0, 0)) = z2 at hM ⊢
      obtain ⟨on1, hon1⟩ : ∃ x, begins r s now q = x := ⟨_, rfl⟩
      have hbg := hmd.out.begins_ge q
      rw [hon1] at hbg
      have hnw := hmd.out.now0
      have lp := (cells_of hM.out.at').1
      have cp := (cells_of hM.out.at').2
      have ll := (cells_of hM.out.las).1
      have cl := lastOf_cell hM.out.las hq2.out
      obtain ⟨lq, hlq⟩ : ∃ z, r.lastOf (q : Int) = z := ⟨_, rfl⟩
      rw [hlq] at cl
      go_upto_if 32 with fail
      clear lp cp ll cl
      go_cut [9, 11] from 32 to 41 (fun x _ wx => Hid (x = .int .i64 on1 ∧ MD w bs (.slice sa bs.length cap) B pa pb pf pr pl r.rest (c + 1) r.stints (onsL r.n s) (offsL r.n s) #[.int .i64 (r.lastOf 0), .int .i64 (r.lastOf 1)] ps (some (.cells #[.int .i64 q, .int .i64 0, .int .i64 0, .int .i64 0, .int .i64 0, .int .i64 0, .int .i64 0, .int .i64 0, .int .i64 0] 46 (0, 0))) rv u3 u4 wx))
      case first =>
        cases hpv : r.prev q r.n with
        | none =>
          obtain rfl : lq = -1 := by rw [← hlq, Rel.lastOf, hpv]
          clear hlq
          have he : on1 = now := by rw [← hon1, begins, hpv]
          clear hpv hon1 hbg
          go_wp2
          go_meet
          exact ⟨by rw [he], hM.out⟩
        | some j =>
          obtain rfl : lq = (j : Int) := by rw [← hlq, Rel.lastOf, hpv]
          clear hlq
          have hjn := (Rel.prev_some hpv).1
          have he := hid (show on1 = max now (s (2 * j + 1) + r.rest) by rw [← hon1, begins, hpv])
          have hjn2 : (j : Int) < r.n := by omega
          have hr0 := hmd.out.rest0
          have hso := hmd.out.own j hjn
          clear hpv hon1 hbg
          have lr := (cells_of hM.out.box).1
          have cr := (cells_of hM.out.box).2
          obtain ⟨g, fc, hu4, hgl, hgc⟩ := off_cell hM.out.off hjn
          subst hu4
          have hadd : IntKind.i64.wrap (s (2 * j + 1) + r.rest) = s (2 * j + 1) + r.rest := Go.IntWalk.i64_in _ (by omega)
          by_cases hmx : now < s (2 * j + 1) + r.rest
          · have he2 : on1 = s (2 * j + 1) + r.rest := by have := he.out; omega
            go_wp2
            go_quiet (fail)
            go_wp2
            go_meet
            exact ⟨by rw [he2], hM.out.below (below_drewN (Below.refl _ _) _)⟩
          · have he2 : on1 = now := by have := he.out; omega
            go_wp2
            go_quiet (fail)
            go_wp2
            go_meet
            exact ⟨by rw [he2], hM.out.below (below_drewN (Below.refl _ _) _)⟩
      case rest =>
        obtain ⟨rfl, hM1⟩ := hcut.out
        clear hM hcut
        have hM := hid hM1
        clear hM1
        have hlen1 := hid (show (onsL r.n s).length + 1 ≤ 1000 by rw [onsL_length]; omega)
        have hlen2 := hid (show (offsL r.n s).length + 1 ≤ 1000 by rw [offsL_length]; omega)
        go_upto_region 13 with fail
        refine wp_region_held_at (S := fun W => W.heap[pf]? = some (.cells #[drawF pa pb] 60 (0, 0))) (by kernel_rfl) ?_
        intro w7 hb _
        replace hM := hid (hM.out.below hb)
        have hz := hM.out.dr.f
        clear hb
        try simp only [Array.replicate]
        have hon2 : IntKind.i64.wrap (on1 + 1) = on1 + 1 := Go.IntWalk.i64_in _ (by omega)
        refine wpAnyH_quiet (i := 0) (v := u3) rfl (by kernel_rfl) (by kernel_rfl) (by kernel_rfl) (fun _ _ _ h => h) rfl (fun W hW => by go_simp) hz ?_
        refine wpAnyH_quiet (i := 1) (v := .int .i64 on1) rfl (by kernel_rfl) (by kernel_rfl) (by kernel_rfl) (fun _ _ _ h => h) rfl (fun W hW => by go_simp) hz ?_
        refine wpAnyH_quiet (i := 4) (v := u4) rfl (by kernel_rfl) (by kernel_rfl) (by kernel_rfl) (fun _ _ _ h => h) rfl (fun W hW => by go_simp) hz ?_
        refine wpAnyH_quiet (i := 5) (v := .int .i64 on1) rfl (by kernel_rfl) (by kernel_rfl) (by kernel_rfl) (fun _ _ _ h => h) rfl (fun W hW => by go_simp) hz ?_
        try simp only [Act.put, List.setIfInBounds_toArray]
        refine wpAnyH_quiet (i := 6) (v := .int .i64 (on1 + 1)) rfl (by kernel_rfl) (by kernel_rfl) (by kernel_rfl) (fun _ _ _ h => h) rfl (fun W hW => by go_simp) hz ?_
        refine wpAnyH_quiet (i := 7) (v := drawF pa pb) rfl (by kernel_rfl) (by kernel_rfl) (by kernel_rfl) (fun _ _ _ h => h) rfl (fun W hW => by obtain ⟨lq, cq⟩ := cells_of hW; go_simp) hz ?_
        try simp only [Act.put, List.setIfInBounds_toArray]
        clear hon2
        refine wpAnyH_step (i := 2) (by kernel_rfl) rfl ?_
        go_wp2
        have hb := below_alloc (Below.refl _ w7) (.cells #[.int .i64 on1] 3)
        replace hM := hid (hM.out.below hb)
        clear hb hz
        have hz := hM.out.dr.f
        have hl := hid (row_one onK w7 on1 #[.int .i64 on1] 3 rfl)
        refine ⟨hz, ?_⟩
        change wpAnyH _ _ _ _ _ _ _ _ (w7.alloc (.cells #[.int .i64 on1] 3))
        generalize w7.alloc (.cells #[.int .i64 on1] 3) = w8 at hM hz hl ⊢
        generalize w7.heap.size = lb at hl ⊢
        try simp only [Act.put, List.setIfInBounds_toArray]
        refine wpAnyH_step (i := 3) (by kernel_rfl) rfl ?_
        refine wpList_append_row2 onK rfl _ _ rfl B u3 _ [on1] rfl hM.out.on lb 0 1 1 rfl rfl (by decide) hl.out hlen1.out hM.out.le ?_
        intro v' w9 hown hlow hgr hvb
        obtain ⟨oa, on, oc, rfl, hlo⟩ : ∃ a m c, v' = .slice a m c ∧ m = r.n + 1 := by (obtain ⟨a, c, e, _⟩ := hown.at; exact ⟨a, _, c, e, by simp [onsL_length]⟩)
        have hg := hid (Grows.mk hlow hgr hvb)
        clear hlow hgr hvb hl
        have hM1 := hM.out.growOn hown hg.out
        clear hM hz hown hg
        have hM := hid hM1
        have hz := hM1.dr.f
        clear hM1
        go_wp2
        refine ⟨hz, ?_⟩
        try simp only [Act.put, List.setIfInBounds_toArray]
        have hd := hid (hM.out.draw (N := 40) (by have := hc.out; omega) (by decide) (by decide))
        refine wpAnyH_step (i := 8) (by kernel_rfl) rfl ?_
        go_wp2_with (go_at_call 66; with_reducible refine hd.out.mono ?_; rintro e z3 ⟨dd, hdd0, hdd1, rfl, hM1⟩; clear hd hM hz; have hM := hid hM1; have hz := hM1.dr.f; clear hM1)
        refine ⟨hz, ?_⟩
        try simp only [Act.put, List.setIfInBounds_toArray]
        have hon2 : IntKind.i64.wrap (on1 + 1 + dd) = on1 + 1 + dd := Go.IntWalk.i64_in _ (by omega)
        refine wpAnyH_quiet (i := 9) (v := .int .i64 (on1 + 1 + dd)) rfl (by kernel_rfl) (by kernel_rfl) (by kernel_rfl) (fun _ _ _ h => h) rfl (fun W hW => by go_simp) hz ?_
        try simp only [Act.put, List.setIfInBounds_toArray]
        clear hon2
        obtain ⟨off1, hoff⟩ : ∃ x, on1 + 1 + dd = x := ⟨_, rfl⟩
        rw [hoff]
        refine wpAnyH_step (i := 10) (by kernel_rfl) rfl ?_
        go_wp2
        have hb := below_alloc (Below.refl _ z3) (.cells #[.int .i64 off1] 3)
        replace hM := hid (hM.out.below hb)
        clear hb hz
        have hz := hM.out.dr.f
        have hl := hid (row_one onK z3 off1 #[.int .i64 off1] 3 rfl)
        refine ⟨hz, ?_⟩
        change wpAnyH _ _ _ _ _ _ _ _ (z3.alloc (.cells #[.int .i64 off1] 3))
        generalize z3.alloc (.cells #[.int .i64 off1] 3) = w10 at hM hz hl ⊢
        generalize z3.heap.size = lb at hl ⊢
        try simp only [Act.put, List.setIfInBounds_toArray]
        refine wpAnyH_step (i := 11) (by kernel_rfl) rfl ?_
        refine wpList_append_row2 onK rfl _ _ rfl B u4 _ [off1] rfl hM.out.off lb 0 1 1 rfl rfl (by decide) hl.out hlen2.out hM.out.le ?_
        intro v' w11 hown hlow hgr hvb
        obtain ⟨fa, fn, fc, rfl, hlf⟩ : ∃ a m c, v' = .slice a m c ∧ m = r.n + 1 := by (obtain ⟨a, c, e, _⟩ := hown.at; exact ⟨a, _, c, e, by simp [offsL_length]⟩)
        have hg := hid (Grows.mk hlow hgr hvb)
        clear hlow hgr hvb hl
        have hM1 := hM.out.growOff hown hg.out
        clear hM hz hown hg
        have hM := hid hM1
        have hz := hM1.dr.f
        clear hM1
        go_wp2
        refine ⟨hz, ?_⟩
        try simp only [Act.put, List.setIfInBounds_toArray]
        refine wpAnyH_step (i := 12) (by kernel_rfl) rfl ?_
        go_wp2
        refine ⟨hz, ?_⟩
        try simp only [Act.put, List.setIfInBounds_toArray]
        refine wpAnyH_step (i := 13) (by kernel_rfl) rfl ?_
        go_wp2
        refine ⟨hz, ?_⟩
        try simp only [Act.put, List.setIfInBounds_toArray]
        refine wpAnyH_done (by kernel_rfl) ?_ _
        try simp only [Act.put, List.setIfInBounds_toArray]
        clear hz
        subst hlo hlf
        have lp := (cells_of hM.out.at').1
        have cp := (cells_of hM.out.at').2
        have ll := (cells_of hM.out.las).1
        have cl := lastOf_cell hM.out.las hq2.out
        have zl := free_of hM.out.las
        have hwn : IntKind.i64.wrap (((r.n + 1 : Nat) : Int) - 1) = r.n := by rw [show ((r.n + 1 : Nat) : Int) - 1 = r.n by omega]; exact Go.IntWalk.i64_in _ (by omega)
        go_upto_region 15 with fail
        clear lp cp ll cl zl hwn
        have hM1 := hid (hM.out.setLast q (.int .i64 r.n))
        clear hM
        have hM := hM1
        clear hM1
        skip
        obtain ⟨LA, hLA⟩ : ∃ a, (#[.int .i64 (r.lastOf 0), .int .i64 (r.lastOf 1)] : Array Value).setIfInBounds q (.int .i64 r.n) = a := ⟨_, rfl⟩
        rw [hLA] at hM
        generalize w11.setCell ⟨pl, q, none⟩ (.int .i64 r.n) = w12 at hM ⊢
        have hgo := fun (W : World) (h : onK.own B W (.slice fa (r.n + 1) fc) (offsL r.n s ++ [off1])) => off_last h
        obtain ⟨go, hgo1, hgo2⟩ : ∃ g, fa = some ⟨g, 0, none⟩ ∧ ∀ W, onK.own B W (.slice fa (r.n + 1) fc) (offsL r.n s ++ [off1]) → g < W.heap.size ∧ W.cell? ⟨g, r.n, none⟩ = some (.int .i64 off1) := by
          obtain ⟨g, e, _⟩ := hgo _ hM.out.off
          exact ⟨g, e, fun W h => by obtain ⟨g2, e2, h2⟩ := hgo W h; rw [e] at e2; cases e2; exact h2⟩
        subst hgo1
        replace hgo2 := hid hgo2
        clear hgo
        have hoff2 : on1 + 1 ≤ off1 ∧ off1 ≤ on1 + 40 := by omega
        refine wp_region_held_at (S := fun W => go < W.heap.size ∧ W.cell? ⟨go, r.n, none⟩ = some (.int .i64 off1)) (by kernel_rfl) ?_
        intro w13 hb _
        replace hM := hid (hM.out.below hb)
        have hz := hgo2.out _ hM.out.off
        clear hb
        try simp only [Array.replicate]
        have hwn : IntKind.i64.wrap ((r.n : Int) + 1 - 1) = r.n := by rw [show (r.n : Int) + 1 - 1 = r.n by omega]; exact Go.IntWalk.i64_in _ (by omega)
        have hwn2 : IntKind.i64.wrap (r.n : Int) = r.n := Go.IntWalk.i64_in _ (by omega)
        have hbd : ¬ ((r.n : Int) + 1 ≤ (r.n : Int)) := by omega
        have hbd2 : (r.n : Int) < (r.n : Int) + 1 := by omega
        refine wpAnyH_quiet (i := 0) (v := .func (.func 67) #[] #[.pointer (some ⟨pf, 0, none⟩)]) rfl (by kernel_rfl) (by kernel_rfl) (by kernel_rfl) (fun _ _ _ h => h) rfl (fun W hW => by go_simp) hz ?_
        refine wpAnyH_quiet (i := 1) (v := .int .i64 on1) rfl (by kernel_rfl) (by kernel_rfl) (by kernel_rfl) (fun _ _ _ h => h) rfl (fun W hW => by go_simp) hz ?_
        refine wpAnyH_quiet (i := 3) (v := .func (.func 67) #[] #[.pointer (some ⟨pf, 0, none⟩)]) rfl (by kernel_rfl) (by kernel_rfl) (by kernel_rfl) (fun _ _ _ h => h) rfl (fun W hW => by go_simp) hz ?_
        refine wpAnyH_quiet (i := 4) (v := .slice (some ⟨go, 0, none⟩) (r.n + 1) fc) rfl (by kernel_rfl) (by kernel_rfl) (by kernel_rfl) (fun _ _ _ h => h) rfl (fun W hW => by go_simp) hz ?_
        try simp only [Act.put, List.setIfInBounds_toArray]
        refine wpAnyH_quiet (i := 5) (v := .slice (some ⟨go, 0, none⟩) (r.n + 1) fc) rfl (by kernel_rfl) (by kernel_rfl) (by kernel_rfl) (fun _ _ _ h => h) rfl (fun W hW => by go_simp) hz ?_
        refine wpAnyH_quiet (i := 6) (v := .int .i64 (r.n + 1)) rfl (by kernel_rfl) (by kernel_rfl) (by kernel_rfl) (fun _ _ _ h => h) rfl (fun W hW => by go_simp) hz ?_
        refine wpAnyH_quiet (i := 7) (v := .int .i64 r.n) rfl (by kernel_rfl) (by kernel_rfl) (by kernel_rfl) (fun _ _ _ h => h) rfl (fun W hW => by go_simp) hz ?_
        refine wpAnyH_quiet (i := 8) (v := .pointer (some ⟨go, r.n, none⟩)) rfl (by kernel_rfl) (by kernel_rfl) (by kernel_rfl) (fun _ _ _ h => h) rfl (fun W hW => by go_simp) hz ?_
        try simp only [Act.put, List.setIfInBounds_toArray]
        refine wpAnyH_quiet (i := 9) (v := .int .i64 off1) rfl (by kernel_rfl) (by kernel_rfl) (by kernel_rfl) (fun _ _ _ h => h) rfl (fun W hW => by have l1 := hW.1; have c1 := hW.2; go_simp) hz ?_
        try simp only [Act.put, List.setIfInBounds_toArray]
        clear hwn hwn2 hbd hbd2
        have hd := hid (hM.out.around (n := on1) (by omega) (by have := hc.out; omega))
        refine wpAnyH_step (i := 2) (by kernel_rfl) rfl ?_
        go_wp2_with (go_at_call 67; with_reducible refine hd.out.mono ?_; rintro e v1 ⟨x1, y1, z1, t1, hx1, hy1, hz1, ht1, rfl, hM1⟩; clear hd hM hz; have hM := hid hM1; have hz := hgo2.out _ hM1.off; clear hM1)
        refine ⟨hz, ?_⟩
        try simp only [Act.put, List.setIfInBounds_toArray]
        refine wpAnyH_quiet (i := 11) (v := .pointer (some ⟨ps, 1, none⟩)) rfl (by kernel_rfl) (by kernel_rfl) (by kernel_rfl) (fun _ _ _ h => h) rfl (fun W hW => by go_simp) hz ?_
        try simp only [Act.put, List.setIfInBounds_toArray]
        have hd := hid (hM.out.around (n := off1) (by omega) (by have := hc.out; omega))
        refine wpAnyH_step (i := 10) (by kernel_rfl) rfl ?_
        go_wp2_with (go_at_call 67; with_reducible refine hd.out.mono ?_; rintro e v2 ⟨x2, y2, z2, t2, hx2, hy2, hz2, ht2, rfl, hM1⟩; clear hd hM hz; have hM := hid hM1; have hz := hgo2.out _ hM1.off; clear hM1)
        refine ⟨hz, ?_⟩
        try simp only [Act.put, List.setIfInBounds_toArray]
        have ls := (cells_of hM.out.at').1
        have cs := (cells_of hM.out.at').2
        have zs := free_of hM.out.at'
        refine wpAnyH_step (i := 12) (by kernel_rfl) rfl ?_
        go_wp2
        clear ls cs zs hz
        have hM1 := ((((hM.out.setBox 1 (.int .i64 (max 0 (on1 - x1)))).setBox 2 (.int .i64 (min 600 (on1 + y1)))).setBox 3 (.int .i64 (max 0 (on1 - z1)))).setBox 4 (.int .i64 (min 600 (on1 + t1))))
        simp only [List.setIfInBounds_toArray, List.set_cons_zero, List.set_cons_succ] at hM1
        clear hM
        have hM := hid hM1
        have hz := hgo2.out _ hM1.off
        clear hM1
        refine ⟨hz, ?_⟩
        generalize ((((v2.setCell ⟨ps, 1, none⟩ (.int .i64 (max 0 (on1 - x1)))).setCell ⟨ps, 2, none⟩ (.int .i64 (min 600 (on1 + y1)))).setCell ⟨ps, 3, none⟩ (.int .i64 (max 0 (on1 - z1)))).setCell ⟨ps, 4, none⟩ (.int .i64 (min 600 (on1 + t1)))) = w14 at hM hz ⊢
        refine wpAnyH_step (i := 13) (by kernel_rfl) rfl ?_
        go_wp2
        refine ⟨hz, ?_⟩
        try simp only [Act.put, List.setIfInBounds_toArray]
        have ls := (cells_of hM.out.at').1
        have cs := (cells_of hM.out.at').2
        have zs := free_of hM.out.at'
        refine wpAnyH_step (i := 14) (by kernel_rfl) rfl ?_
        go_wp2
        clear ls cs zs hz
        have hM1 := ((((hM.out.setBox 5 (.int .i64 (max 0 (off1 - x2)))).setBox 6 (.int .i64 (min 600 (off1 + y2)))).setBox 7 (.int .i64 (max 0 (off1 - z2)))).setBox 8 (.int .i64 (min 600 (off1 + t2))))
        simp only [List.setIfInBounds_toArray, List.set_cons_zero, List.set_cons_succ] at hM1
        clear hM
        have hM := hid hM1
        have hz := hgo2.out _ hM1.off
        clear hM1
        refine ⟨hz, ?_⟩
        generalize ((((w14.setCell ⟨ps, 5, none⟩ (.int .i64 (max 0 (off1 - x2)))).setCell ⟨ps, 6, none⟩ (.int .i64 (min 600 (off1 + y2)))).setCell ⟨ps, 7, none⟩ (.int .i64 (max 0 (off1 - z2)))).setCell ⟨ps, 8, none⟩ (.int .i64 (min 600 (off1 + t2)))) = w15 at hM hz ⊢
        refine wpAnyH_done (by kernel_rfl) ?_ _
        try simp only [Act.put, List.setIfInBounds_toArray]
        clear hz
        obtain ⟨x, hxe⟩ : ∃ x : Stint, x = ⟨q, (max 0 (on1 - x1), min 600 (on1 + y1)), (max 0 (on1 - z1), min 600 (on1 + t1)), (max 0 (off1 - x2), min 600 (off1 + y2)), (max 0 (off1 - z2), min 600 (off1 + t2))⟩ := ⟨_, rfl⟩
        replace hM := hid (show MD w bs (.slice sa bs.length cap) B pa pb pf pr pl r.rest (c + 1 + 1 + 4 + 4) r.stints (onsL r.n s ++ [on1]) (offsL r.n s ++ [off1]) LA ps (some (.cells (stintC x) 46 (0, 0))) rv (.slice oa (r.n + 1) oc) (.slice (some ⟨go, 0, none⟩) (r.n + 1) fc) w15 from by rw [hxe]; exact hM.out)
        replace hxe := hid hxe
        have hlen3 := hid (show r.stints.length + 1 ≤ 1000 by have : r.stints.length = r.n := rfl; omega)
        have hMA := hid (hM.out.below (below_alloc (Below.refl _ w15) (.cells (stintC x) 46 (0, 0))))
        have lr := (cells_of hM.out.box).1
        have cr := (cells_of hM.out.box).2
        have lp := (cells_of hM.out.at').1
        have cp := (cells_of hM.out.at').2
        go_upto_region 17 with (at_builtin; go_loud (refine wpList_append_row2 stK rfl _ _ rfl B rv _ [x] rfl hMA.out.rows w15.heap.size 0 1 1 rfl rfl (by decide) (row_one stK w15 x _ _ rfl) hlen3.out hMA.out.le ?_); intro v' w17 hown hlow hgr hvb; obtain ⟨ga, gn, gc, rfl⟩ : ∃ a m c, v' = .slice a m c := stints_form (stints_of hown.at); obtain ⟨e1, hM1⟩ := hMA.out.growRows hown (Grows.mk hlow hgr hvb); clear hM hMA hown hlow hgr hvb lr cr lp cp; have hM := hid hM1; clear hM1; have lr := (cells_of e1).1; have cr := (cells_of e1).2; have zr := free_of e1; clear e1)
        clear lr cr zr
        generalize w17.setCell ⟨pr, 1, none⟩ (.slice ga gn gc) = w18 at hM ⊢
        have lf := (cells_of hM.out.dr.f).1
        have cf := (cells_of hM.out.dr.f).2
        have hd := hid (hM.out.draw (N := 40) (by have := hc.out; omega) (by decide) (by decide))
        have hsum : ∀ d : Int, 0 ≤ d → d < 40 → IntKind.i64.wrap (1 + d) = 1 + d ∧ IntKind.i64.wrap (on1 + (1 + d)) = on1 + (1 + d) := fun d h1 h2 => ⟨Go.IntWalk.i64_in _ (by omega), Go.IntWalk.i64_in _ (by omega)⟩
        replace hsum := hid hsum
        go_wp2_with (go_at_call 66; with_reducible refine hd.out.mono ?_; rintro e z9 ⟨d2, hd20, hd21, rfl, hM1⟩; clear hd hM lf cf; have hM := hid hM1; clear hM1; have hs1 := (hsum.out d2 hd20 hd21).1; have hs2 := (hsum.out d2 hd20 hd21).2)
        go_roundw
        case rel =>
          refine ⟨r.push x, more s r.n on1 off1, on1 + (1 + d2), c + 1 + 1 + 4 + 4 + 1, .slice ga gn gc, .slice oa (r.n + 1) oc, .slice (some ⟨go, 0, none⟩) (r.n + 1) fc, by rw [Rel.push_n]; omega, by rw [Rel.push_n]; go_num, rfl, rfl, rfl, hid ?_, hid ?_, hid hM.out.le, hid ?_⟩
          · have a1 := around_ok (n := on1) (by omega) hx1 hy1
            have a2 := around_ok (n := on1) (by omega) hz1 ht1
            have a3 := around_ok (n := off1) (by omega) hx2 hy2
            have a4 := around_ok (n := off1) (by omega) hz2 ht2
            refine hmd.out.push (d := dd) (d' := d2) ?_ (by rw [hxe.out]; exact hon1.symm) hoff.symm (by omega) (by omega) (by omega) (by rw [hxe.out]; exact a1.2) (by rw [hxe.out]; exact a2.2) (by rw [hxe.out]; exact a3.2) (by rw [hxe.out]; exact a4.2)
            rw [hxe.out]
            simp only [Stint.ok, a1.1, a2.1, a3.1, a4.1, Bool.and_true, Bool.and_eq_true, decide_eq_true_eq]
            omega
          · rw [Rel.push_n]
            have := hc.out
            omega
          · have hMd := hM.out.drop
            rw [← hLA, las_push hq2.out (x := x) (by rw [hxe.out])] at hMd
            rw [Rel.push_n, onsL_more, offsL_more]
            exact hMd
        case measure => rw [show intOf (.int .i64 ((r.n : Int) + 1)) = (r.n : Int) + 1 from rfl, show intOf (.int .i64 (r.n : Int)) = (r.n : Int) from rfl]; omega
    · have hrn : r.n = ct := by omega
      have hct2 : (ct : Int) = (r.n : Int) := by omega
      obtain ⟨ra, rn2, rc, rfl⟩ := stints_form (stints_of hM.out.rows.at)
      have lr := (cells_of hM.out.box).1
      have cr := (cells_of hM.out.box).2
      have zr := free_of hM.out.box
      go_wp2
      clear lr cr zr
      have e1 := heap_set_same (o := 1) (v := .slice ra rn2 rc) (heap_set_same (o := 0) (v := .int .i64 r.rest) hM.out.box)
      have e2 := (cells_of e1).2 0
      have e3 := (cells_of e1).2 1
      clear e1
      have hs := (hM.out.rows.set (b := pr) (o := 0) (u := .int .i64 r.rest) hM.out.lt.2.2.2.1).set (b := pr) (o := 1) (u := .slice ra rn2 rc) hM.out.lt.2.2.2.1
      have ho := (hM.out.on.set (b := pr) (o := 0) (u := .int .i64 r.rest) hM.out.lt.2.2.2.1).set (b := pr) (o := 1) (u := .slice ra rn2 rc) hM.out.lt.2.2.2.1
      have hf := (hM.out.off.set (b := pr) (o := 0) (u := .int .i64 r.rest) hM.out.lt.2.2.2.1).set (b := pr) (o := 1) (u := .slice ra rn2 rc) hM.out.lt.2.2.2.1
      have hbl := below_set (p := ⟨pr, 1, none⟩) (below_set (p := ⟨pr, 0, none⟩) hM.out.dr.base (.int .i64 r.rest) hM.out.ne.1.2.2.2) (.slice ra rn2 rc) hM.out.ne.1.2.2.2
      refine bodyPost_ret (v := .tuple #[.agg #[.int .i64 r.rest, .slice ra rn2 rc], u3, u4]) (by simp [results, Try.results30, go_sem, e2, e3]) rfl ⟨r, s, _, u3, u4, now, rfl, stints_of hs.at, ho.at, hf.at, hmd.out, by omega, hbl⟩
end Go.Proofs.Ytccgakdaiaigoaa
