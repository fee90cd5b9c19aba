/- The walk of the law MendTurned. -/
import Derived.Test.YtcgkglonnmkfcaaGY
import Derived.Test.YtcgkglonnmkfcaaR3
import Derived.Test.YtcgkglonnmkfcaaR5
import Derived.Test.YtcgkglonnmkfcaaR9
namespace Go.Proofs.Ytcgkglonnmkfcaa
open Go.RowKit Go.Lap Go.Shelf

set_option maxRecDepth 100000 in
set_option maxHeartbeats 16000000 in
theorem mendTurned_any (M : Mend) (sv jv bv : Value) (bs : List Int) (w : World) (hS : IntsAt w sv M.setup) (hJ : JobsAt w jv M.jobs) (hN : NilOk jv) (hNs : NilOk sv) (hB : BytesAt w bv bs) :
    Calls Try.prog 11 #[.agg #[sv, jv], bv] w fun e w' => e = .returned (.bool true) ∧ Below w.heap.size w w' := by
  have hS' := hid hS
  have hJ' := hid hJ
  have hB' := hid hB
  have hN' := hid hN
  have hNs' := hid hNs
  clear hB hN hNs
  obtain ⟨sa, scap, rfl, _⟩ := hS
  obtain ⟨ja, jcap, rfl, _⟩ := hJ
  have hk1 := KeepB.start w (.slice sa M.setup.length scap) (.slice ja M.jobs.length jcap)
  have HF := hid (fun W (h : KeepB w (.slice sa M.setup.length scap) (.slice ja M.jobs.length jcap) W) => fine_any M (.slice sa M.setup.length scap) (.slice ja M.jobs.length jcap) W (hS'.out.below h.bel) (hJ'.out.below h.bel))
  cases hv : M.valid
  · rw [hv] at HF
    clear hv
    go_enter Try.func11, Try.ntmps11
    go_upto_region 1 with fail
    have hx := hk1
    generalize w.alloc (.cells #[.slice sa M.setup.length scap, .slice ja M.jobs.length jcap] 25) = w1 at hx ⊢
    clear hk1
    have lm := (cells_of hx.m).1; have cm := (cells_of hx.m).2
    go_wp2_with (first
      | (go_at_call 33; with_reducible refine (HF.out _ hx).mono ?_; rintro e w2 ⟨rfl, hb2⟩; replace hx := hx.below hb2)
      | (go_at_call 13; with_reducible refine (awake_any _).mono ?_; rintro e w3 ⟨rfl, hb3⟩; replace hx := hx.below hb3))
    go_ret
    exact ⟨rfl, hx.bel⟩
  · rw [hv] at HF
    have hv' := hid hv
    have hM := Mend.valid_ok hv
    have hlen6 := hM.len
    have hks3 := hM.ks
    have hM' := hid hM
    clear hv hM
    go_enter Try.func11, Try.ntmps11
    go_upto_region 1 with fail
    have hx := hk1
    generalize w.alloc (.cells #[.slice sa M.setup.length scap, .slice ja M.jobs.length jcap] 25) = w1 at hx ⊢
    clear hk1
    have lm := (cells_of hx.m).1; have cm := (cells_of hx.m).2
    go_upto_region 5 with (go_at_call 33; with_reducible refine (HF.out _ hx).mono ?_; rintro e w2 ⟨rfl, hb2⟩; replace hx := hx.below hb2; have lm := (cells_of hx.m).1; have cm := (cells_of hx.m).2)
    have hT0 : TurnK w (.slice sa M.setup.length scap) (.slice ja M.jobs.length jcap) w2.heap.size (.slice none 0 0) (.slice none 0 0) (M.setup.reverse.take 0) [] (w2.alloc (.cells #[.slice none 0 0, .slice none 0 0] 25)) :=
      ⟨hx.below (below_alloc (Below.refl _ _) _), alloc_at rfl, intK.own_nil _ _, jobK.own_nil _ _, (cells_of hx.m).1⟩
    generalize w2.alloc (.cells #[.slice none 0 0, .slice none 0 0] 25) = w3 at hT0 ⊢
    obtain ⟨xb, hxb⟩ : ∃ xb, w2.heap.size = xb := ⟨_, rfl⟩
    rw [hxb] at hT0 ⊢
    clear lm cm hxb hx hb2
    have lm := (cells_of hT0.k.m).1
    have cm := (cells_of hT0.k.m).2
    replace hT0 := hid hT0
    go_wp2
    clear lm cm
    go_loopw [72] (fun ix wr => ∃ i : Nat, i ≤ M.setup.length ∧ ix = .int .i64 i ∧ ∃ srow, Hid (TurnK w (.slice sa M.setup.length scap) (.slice ja M.jobs.length jcap) xb srow (.slice none 0 0) (M.setup.reverse.take i) [] wr)) (fun ix _ => M.setup.length - (intOf ix).toNat)
    case atStart => exact ⟨0, by omega, rfl, _, hT0⟩
    case round =>
      obtain ⟨i, hik, rfl, srow, hT⟩ := hrel
      clear hT0
      by_cases hlt : i < M.setup.length
      · have hki : (i : Int) < (M.setup.length : Int) := by omega
        obtain ⟨sb, so, scap', e1, lsb, hsc⟩ := hS'.out.some (fun e => by rw [e] at hlt; simp at hlt)
        injection e1 with e1 e2 e3
        subst e1
        subst e3
        clear e2
        obtain ⟨q, hq⟩ : ∃ q, M.setup.length - 1 - i = q := ⟨_, rfl⟩
        replace hsc := hsc q (by omega)
        have htk := hid (rev_take hlt)
        rw [hq] at htk
        obtain ⟨x, hxx⟩ : ∃ x, M.setup.getD q 0 = x := ⟨_, rfl⟩
        rw [hxx] at hsc htk
        have hw1 : IntKind.i64.wrap ((M.setup.length : Int) - 1) = (M.setup.length : Int) - 1 := IntWalk.i64_in _ (by omega)
        have hw2 : IntKind.i64.wrap ((M.setup.length : Int) - 1 - (i : Int)) = (q : Int) := by rw [IntWalk.i64_in _ (by omega)]; omega
        have hqi : (q : Int) < (M.setup.length : Int) := by omega
        have hrl : ∃ ra rcap, srow = .slice ra i rcap := by
          obtain ⟨ra, rcap, e, _⟩ := hT.out.s.at
          exact ⟨ra, rcap, by rw [e, List.length_take, List.length_reverse]; congr 1; omega⟩
        obtain ⟨ra, rcap, rfl⟩ := hrl
        clear hxx hq
        go_upto_region 8 with fail
        refine wp_region_inv2 (fun d vals W => QJ (fun oi => match oi with | 0 => some (.pointer (some ⟨xb, 0, none⟩)) | 1 => some (.slice ra i rcap) | 2 => some (.pointer (some ⟨w.heap.size, 0, none⟩)) | 3 => some (.slice (some ⟨sb, so, none⟩) M.setup.length scap) | 4 => some (.pointer (some ⟨w.heap.size, 0, none⟩)) | 5 => some (.slice (some ⟨sb, so, none⟩) M.setup.length scap) | 6 => some (.int .i64 (M.setup.length : Int)) | 7 => some (.int .i64 ((M.setup.length : Int) - 1)) | 8 => some (.int .i64 (i : Int)) | 9 => some (.int .i64 (q : Int)) | 10 => some (.pointer (some ⟨sb, so + q, none⟩)) | 11 => some (.int .i64 x) | 14 => some (.pointer (some ⟨xb, 0, none⟩)) | _ => none) d vals ∧ RowX intK wr (xb + 1) (M.setup.reverse.take i) x 12 13 15 (fun W' => ∃ srow', TurnK w (.slice (some ⟨sb, so, none⟩) M.setup.length scap) (.slice ja M.jobs.length jcap) xb srow' (.slice none 0 0) (M.setup.reverse.take (i + 1)) [] W') d vals W) (by kernel_rfl) (by kernel_rfl) (by kernel_rfl) ⟨QJ.start _ _, RowX.start⟩ ?_ ?_
        · intro q o d vals a W ho hd hdep hcl hev hnd hold hJ
          have hi := (Array.getElem?_eq_some_iff.1 ho).1
          have c15_13 : d 15 = true → d 13 = true := fun h => hcl 15 _ rfl h { on := 13, ground := Ground.data } (by simp) rfl
          have c15_14 : d 15 = true → d 14 = true := fun h => hcl 15 _ rfl h { on := 14, ground := Ground.data } (by simp) rfl
          have c13_1 : d 13 = true → d 1 = true := fun h => hcl 13 _ rfl h { on := 1, ground := Ground.data } (by simp) rfl
          have c13_12 : d 13 = true → d 12 = true := fun h => hcl 13 _ rfl h { on := 12, ground := Ground.data } (by simp) rfl
          have c12_11 : d 12 = true → d 11 = true := fun h => hcl 12 _ rfl h { on := 11, ground := Ground.data } (by simp) rfl
          have c11_10 : d 11 = true → d 10 = true := fun h => hcl 11 _ rfl h { on := 10, ground := Ground.data } (by simp) rfl
          have c10_3 : d 10 = true → d 3 = true := fun h => hcl 10 _ rfl h { on := 3, ground := Ground.data } (by simp) rfl
          have c10_9 : d 10 = true → d 9 = true := fun h => hcl 10 _ rfl h { on := 9, ground := Ground.data } (by simp) rfl
          have c9_7 : d 9 = true → d 7 = true := fun h => hcl 9 _ rfl h { on := 7, ground := Ground.data } (by simp) rfl
          have c7_6 : d 7 = true → d 6 = true := fun h => hcl 7 _ rfl h { on := 6, ground := Ground.data } (by simp) rfl
          have c6_5 : d 6 = true → d 5 = true := fun h => hcl 6 _ rfl h { on := 5, ground := Ground.data } (by simp) rfl
          rcases q with _ | _ | _ | _ | _ | _ | _ | _ | _ | _ | _ | _ | _ | _ | _ | _ | q
          · obtain rfl := Option.some.inj ho
            have e0 : a.eval (.tmp (6 : Nat)) = .pointer (some ⟨xb, 0, none⟩) := (hold 6 (by kernel_rfl)).trans rfl
            exact wpOp_at rfl rfl (op_quiet (v := .pointer (some ⟨xb, 0, none⟩)) (by simp only [execOp, e0]; go_simp) ⟨_, rfl, hJ.1.set (by intro u hu; cases hu; rfl), hJ.2.pure (by decide)⟩)
          · obtain rfl := Option.some.inj ho
            have e0 : a.eval (.tmp (75 : Nat)) = .pointer (some ⟨xb, 0, none⟩) := (hev 0 75 rfl (hdep { on := 0, ground := Ground.data } (by simp) rfl)).trans (hJ.1.get (hdep { on := 0, ground := Ground.data } (by simp) rfl) rfl)
            have d13 : d 13 = false := not_done c13_1 hd
            have hbW := hJ.2.b d13 (not_done c15_13 d13)
            have hm2 := hkeep hT.out.x hbW
            have lm2 := (cells_of hm2).1
            have cm2 := (cells_of hm2).2
            exact wpOp_at rfl rfl (op_quiet (v := .slice ra i rcap) (by simp only [execOp, e0]; go_simp) ⟨_, rfl, hJ.1.set (by intro u hu; cases hu; rfl), hJ.2.pure (by decide)⟩)
          · obtain rfl := Option.some.inj ho
            have e0 : a.eval (.tmp (2 : Nat)) = .pointer (some ⟨w.heap.size, 0, none⟩) := (hold 2 (by kernel_rfl)).trans rfl
            exact wpOp_at rfl rfl (op_quiet (v := .pointer (some ⟨w.heap.size, 0, none⟩)) (by simp only [execOp, e0]; go_simp) ⟨_, rfl, hJ.1.set (by intro u hu; cases hu; rfl), hJ.2.pure (by decide)⟩)
          · obtain rfl := Option.some.inj ho
            have e0 : a.eval (.tmp (77 : Nat)) = .pointer (some ⟨w.heap.size, 0, none⟩) := (hev 2 77 rfl (hdep { on := 2, ground := Ground.data } (by simp) rfl)).trans (hJ.1.get (hdep { on := 2, ground := Ground.data } (by simp) rfl) rfl)
            have d13 : d 13 = false := not_done c13_12 (not_done c12_11 (not_done c11_10 (not_done c10_3 hd)))
            have hbW := hJ.2.b d13 (not_done c15_13 d13)
            have hm2 := hkeep hT.out.k.m hbW
            have lm2 := (cells_of hm2).1
            have cm2 := (cells_of hm2).2
            exact wpOp_at rfl rfl (op_quiet (v := .slice (some ⟨sb, so, none⟩) M.setup.length scap) (by simp only [execOp, e0]; go_simp) ⟨_, rfl, hJ.1.set (by intro u hu; cases hu; rfl), hJ.2.pure (by decide)⟩)
          · obtain rfl := Option.some.inj ho
            have e0 : a.eval (.tmp (2 : Nat)) = .pointer (some ⟨w.heap.size, 0, none⟩) := (hold 2 (by kernel_rfl)).trans rfl
            exact wpOp_at rfl rfl (op_quiet (v := .pointer (some ⟨w.heap.size, 0, none⟩)) (by simp only [execOp, e0]; go_simp) ⟨_, rfl, hJ.1.set (by intro u hu; cases hu; rfl), hJ.2.pure (by decide)⟩)
          · obtain rfl := Option.some.inj ho
            have e0 : a.eval (.tmp (79 : Nat)) = .pointer (some ⟨w.heap.size, 0, none⟩) := (hev 4 79 rfl (hdep { on := 4, ground := Ground.data } (by simp) rfl)).trans (hJ.1.get (hdep { on := 4, ground := Ground.data } (by simp) rfl) rfl)
            have d13 : d 13 = false := not_done c13_12 (not_done c12_11 (not_done c11_10 (not_done c10_9 (not_done c9_7 (not_done c7_6 (not_done c6_5 hd))))))
            have hbW := hJ.2.b d13 (not_done c15_13 d13)
            have hm2 := hkeep hT.out.k.m hbW
            have lm2 := (cells_of hm2).1
            have cm2 := (cells_of hm2).2
            exact wpOp_at rfl rfl (op_quiet (v := .slice (some ⟨sb, so, none⟩) M.setup.length scap) (by simp only [execOp, e0]; go_simp) ⟨_, rfl, hJ.1.set (by intro u hu; cases hu; rfl), hJ.2.pure (by decide)⟩)
          · obtain rfl := Option.some.inj ho
            have e0 : a.eval (.tmp (80 : Nat)) = .slice (some ⟨sb, so, none⟩) M.setup.length scap := (hev 5 80 rfl (hdep { on := 5, ground := Ground.data } (by simp) rfl)).trans (hJ.1.get (hdep { on := 5, ground := Ground.data } (by simp) rfl) rfl)
            exact wpOp_at rfl rfl (op_quiet (v := .int .i64 (M.setup.length : Int)) (by simp only [execOp, resolve, invoke, builtin, Sem.run_bind, Sem.run_pure, Result.andThen_ok, List.map_toArray, List.map_cons, List.map_nil, e0]; go_simp) ⟨_, rfl, hJ.1.set (by intro u hu; cases hu; rfl), hJ.2.pure (by decide)⟩)
          · obtain rfl := Option.some.inj ho
            have e0 : a.eval (.tmp (81 : Nat)) = .int .i64 (M.setup.length : Int) := (hev 6 81 rfl (hdep { on := 6, ground := Ground.data } (by simp) rfl)).trans (hJ.1.get (hdep { on := 6, ground := Ground.data } (by simp) rfl) rfl)
            exact wpOp_at rfl rfl (op_quiet (v := .int .i64 ((M.setup.length : Int) - 1)) (by simp only [execOp, e0]; go_simp) ⟨_, rfl, hJ.1.set (by intro u hu; cases hu; rfl), hJ.2.pure (by decide)⟩)
          · obtain rfl := Option.some.inj ho
            have e0 : a.eval (.tmp (7 : Nat)) = .int .i64 (i : Int) := (hold 7 (by kernel_rfl)).trans rfl
            exact wpOp_at rfl rfl (op_quiet (v := .int .i64 (i : Int)) (by simp only [execOp, e0]; go_simp) ⟨_, rfl, hJ.1.set (by intro u hu; cases hu; rfl), hJ.2.pure (by decide)⟩)
          · obtain rfl := Option.some.inj ho
            have e0 : a.eval (.tmp (82 : Nat)) = .int .i64 ((M.setup.length : Int) - 1) := (hev 7 82 rfl (hdep { on := 7, ground := Ground.data } (by simp) rfl)).trans (hJ.1.get (hdep { on := 7, ground := Ground.data } (by simp) rfl) rfl)
            have e1 : a.eval (.tmp (83 : Nat)) = .int .i64 (i : Int) := (hev 8 83 rfl (hdep { on := 8, ground := Ground.data } (by simp) rfl)).trans (hJ.1.get (hdep { on := 8, ground := Ground.data } (by simp) rfl) rfl)
            exact wpOp_at rfl rfl (op_quiet (v := .int .i64 (q : Int)) (by simp only [execOp, e0, e1]; go_simp) ⟨_, rfl, hJ.1.set (by intro u hu; cases hu; rfl), hJ.2.pure (by decide)⟩)
          · obtain rfl := Option.some.inj ho
            have e0 : a.eval (.tmp (78 : Nat)) = .slice (some ⟨sb, so, none⟩) M.setup.length scap := (hev 3 78 rfl (hdep { on := 3, ground := Ground.data } (by simp) rfl)).trans (hJ.1.get (hdep { on := 3, ground := Ground.data } (by simp) rfl) rfl)
            have e1 : a.eval (.tmp (84 : Nat)) = .int .i64 (q : Int) := (hev 9 84 rfl (hdep { on := 9, ground := Ground.data } (by simp) rfl)).trans (hJ.1.get (hdep { on := 9, ground := Ground.data } (by simp) rfl) rfl)
            exact wpOp_at rfl rfl (op_quiet (v := .pointer (some ⟨sb, so + q, none⟩)) (by simp only [execOp, e0, e1]; go_simp) ⟨_, rfl, hJ.1.set (by intro u hu; cases hu; rfl), hJ.2.pure (by decide)⟩)
          · obtain rfl := Option.some.inj ho
            have e0 : a.eval (.tmp (85 : Nat)) = .pointer (some ⟨sb, so + q, none⟩) := (hev 10 85 rfl (hdep { on := 10, ground := Ground.data } (by simp) rfl)).trans (hJ.1.get (hdep { on := 10, ground := Ground.data } (by simp) rfl) rfl)
            have d13 : d 13 = false := not_done c13_12 (not_done c12_11 hd)
            have hbW := hJ.2.b d13 (not_done c15_13 d13)
            have hbw := hT.out.k.bel.trans (hbW.mono hT.out.k.bel.size)
            have lsb2 := Nat.lt_of_lt_of_le lsb hbw.size
            have hcx := (hbw.cell (p := ⟨sb, so + q, none⟩) lsb).trans hsc
            exact wpOp_at rfl rfl (op_quiet (v := .int .i64 x) (by simp only [execOp, e0]; go_simp) ⟨_, rfl, hJ.1.set (by intro u hu; cases hu; rfl), hJ.2.pure (by decide)⟩)
          · obtain rfl := Option.some.inj ho
            have d13 : d 13 = false := not_done c13_12 hd
            have e11 : a.eval (.tmp (86 : Nat)) = .int .i64 x := (hev 11 86 rfl (hdep { on := 11, ground := Ground.data } (by simp) rfl)).trans (hJ.1.get (hdep { on := 11, ground := Ground.data } (by simp) rfl) rfl)
            exact wpOp_at rfl rfl (op_ints1 e11 ⟨_, rfl, hJ.1.set (by intro u hu; cases hu), hJ.2.made (by decide : [12, 13, 15].Nodup) d13 (not_done c15_13 d13) rfl⟩)
          · obtain rfl := Option.some.inj ho
            have d15 : d 15 = false := not_done c15_13 hd
            refine wpOp_at rfl rfl (Oper.wp_mono ?_ (hJ.2.grow (by decide : [12, 13, 15].Nodup) (hdep { on := 12, ground := Ground.data } (by simp) rfl) hd d15 hT.out.s (heap_lt hT.out.x) (by rw [List.length_take, List.length_reverse]; omega) _ _ rfl ((hev 1 76 rfl (hdep { on := 1, ground := Ground.data } (by simp) rfl)).trans (hJ.1.get (hdep { on := 1, ground := Ground.data } (by simp) rfl) rfl)) (hev 12 87 rfl (hdep { on := 12, ground := Ground.data } (by simp) rfl))))
            rintro a' W' ⟨v, rfl, hX⟩
            exact ⟨v, rfl, hJ.1.set (by intro u hu; cases hu), hX⟩
          · obtain rfl := Option.some.inj ho
            have e0 : a.eval (.tmp (6 : Nat)) = .pointer (some ⟨xb, 0, none⟩) := (hold 6 (by kernel_rfl)).trans rfl
            exact wpOp_at rfl rfl (op_quiet (v := .pointer (some ⟨xb, 0, none⟩)) (by simp only [execOp, e0]; go_simp) ⟨_, rfl, hJ.1.set (by intro u hu; cases hu; rfl), hJ.2.pure (by decide)⟩)
          · obtain rfl := Option.some.inj ho
            have d13 : d 13 = true := (hdep { on := 13, ground := Ground.data } (by simp) rfl)
            obtain ⟨hown, hbW⟩ := hJ.2.s2 d13 hd
            have e8 : a.eval (.tmp (88 : Nat)) = vals 13 := hev 13 88 rfl d13
            have e9 : a.eval (.tmp (89 : Nat)) = .pointer (some ⟨xb, 0, none⟩) := (hev 14 89 rfl (hdep { on := 14, ground := Ground.data } (by simp) rfl)).trans (hJ.1.get (hdep { on := 14, ground := Ground.data } (by simp) rfl) rfl)
            obtain ⟨va, vcap, ev8, _⟩ := hown.at
            have hown2 := hown
            rw [show (M.setup.reverse.take i ++ [x]).length = i + 1 by simp; omega] at ev8
            rw [ev8] at e8 hown2
            have hm2 := (hbW.block xb (by omega)).trans hT.out.x
            have lm2 := (cells_of hm2).1
            have cm2 := (cells_of hm2).2
            have zm2 := free_of hm2
            have hfin := hT.out.setup hbW hown2
            refine wpOp_at rfl rfl (op_store (w' := W.setCell ⟨xb, 0, none⟩ (.slice va (i + 1) vcap)) (by simp only [execOp, e8, e9]; go_simp) ⟨undef, rfl, hJ.1.set (by intro u hu; cases hu), hJ.2.end (by decide : [12, 13, 15].Nodup) d13 ⟨.slice va (i + 1) vcap, ?_⟩⟩)
            rw [htk.out]
            exact hfin
          · simp at hi
            omega
        · rintro d vals W hall hJ
          obtain ⟨srow', hfin⟩ := hJ.2.s3 (hall 15 (by simp))
          have q0 := hJ.1.get (hall 0 (by simp)) rfl
          have q1 := hJ.1.get (hall 1 (by simp)) rfl
          have q2 := hJ.1.get (hall 2 (by simp)) rfl
          have q3 := hJ.1.get (hall 3 (by simp)) rfl
          have q4 := hJ.1.get (hall 4 (by simp)) rfl
          have q5 := hJ.1.get (hall 5 (by simp)) rfl
          have q6 := hJ.1.get (hall 6 (by simp)) rfl
          have q7 := hJ.1.get (hall 7 (by simp)) rfl
          have q8 := hJ.1.get (hall 8 (by simp)) rfl
          have q9 := hJ.1.get (hall 9 (by simp)) rfl
          have q10 := hJ.1.get (hall 10 (by simp)) rfl
          have q11 := hJ.1.get (hall 11 (by simp)) rfl
          have q14 := hJ.1.get (hall 14 (by simp)) rfl
          clear hJ hall
          change Exit.inBlock _ _ Exit.normal (Act.put (Act.put (Act.put (Act.put (Act.put (Act.put (Act.put (Act.put (Act.put (Act.put (Act.put (Act.put (Act.put (Act.put (Act.put (Act.put _ (some 75) (vals 0)) (some 76) (vals 1)) (some 77) (vals 2)) (some 78) (vals 3)) (some 79) (vals 4)) (some 80) (vals 5)) (some 81) (vals 6)) (some 82) (vals 7)) (some 83) (vals 8)) (some 84) (vals 9)) (some 85) (vals 10)) (some 86) (vals 11)) (some 87) (vals 12)) (some 88) (vals 13)) (some 89) (vals 14)) none (vals 15)) W
          simp only [Act.put, List.setIfInBounds_toArray, List.set_cons_zero, List.set_cons_succ]
          clear q0
          clear q1
          clear q2
          clear q3
          clear q4
          clear q5
          clear q6
          clear q7
          clear q8
          clear q9
          clear q10
          clear q11
          clear q14
          generalize vals 0 = x0
          generalize vals 1 = x1
          generalize vals 2 = x2
          generalize vals 3 = x3
          generalize vals 4 = x4
          generalize vals 5 = x5
          generalize vals 6 = x6
          generalize vals 7 = x7
          generalize vals 8 = x8
          generalize vals 9 = x9
          generalize vals 10 = x10
          generalize vals 11 = x11
          generalize vals 12 = x12
          generalize vals 13 = x13
          generalize vals 14 = x14
          have hfin' := hid hfin
          clear hfin
          go_wp2
          go_roundw
          case rel => exact ⟨i + 1, by omega, by go_num, srow', hfin'⟩
          case measure => simp [intOf]; omega
      · obtain rfl : i = M.setup.length := by omega
        have hT := hid (show TurnK w (.slice sa M.setup.length scap) (.slice ja M.jobs.length jcap) xb srow (.slice none 0 0) M.turn.setup (M.turn.jobs.take 0) wr from by
          have h := hT.out
          rw [show M.setup.reverse.take M.setup.length = M.turn.setup from List.take_of_length_le (by simp)] at h
          exact h)
        have lm := (cells_of hT.out.k.m).1
        have cm := (cells_of hT.out.k.m).2
        go_wp2
        clear lm cm
        go_loopw [94] (fun ix wr => ∃ i : Nat, i ≤ M.jobs.length ∧ ix = .int .i64 i ∧ ∃ jrow, Hid (TurnK w (.slice sa M.setup.length scap) (.slice ja M.jobs.length jcap) xb srow jrow M.turn.setup (M.turn.jobs.take i) wr)) (fun ix _ => M.jobs.length - (intOf ix).toNat)
        case atStart => exact ⟨0, by omega, rfl, _, hT⟩
        case round =>
          obtain ⟨i, hik, rfl, jrow, hT⟩ := hrel
          by_cases hlt : i < M.jobs.length
          · have hki : (i : Int) < (M.jobs.length : Int) := by omega
            obtain ⟨a', c', e1, hjc⟩ := hJ'.out.below hT.out.k.bel
            injection e1 with e1 e2 e3
            subst e1
            subst e3
            clear e2
            obtain ⟨jb, jo, rfl, hjq⟩ := hjc (fun e => by rw [e] at hlt; simp at hlt)
            obtain ⟨q, hq⟩ : ∃ q, M.jobs.length - 1 - i = q := ⟨_, rfl⟩
            have hqn : q < M.jobs.length := by omega
            have htk := hid (turn_take M hlt)
            rw [hq] at htk
            obtain ⟨j, hj⟩ : ∃ j, M.job q = j := ⟨_, rfl⟩
            rw [hj] at htk
            have hc0 := hjq q hqn 0 (by decide)
            have hc1 := hjq q hqn 1 (by decide)
            have hc2 := hjq q hqn 2 (by decide)
            have hc3 := hjq q hqn 3 (by decide)
            have hc4 := hjq q hqn 4 (by decide)
            have hc5 := hjq q hqn 5 (by decide)
            have hc6 := hjq q hqn 6 (by decide)
            have hc7 := hjq q hqn 7 (by decide)
            rw [show M.jobs.getD q Job.none = j from hj] at hc0 hc1 hc2 hc3 hc4 hc5 hc6 hc7
            simp only [Job.cells, List.getD_cons_zero, List.getD_cons_succ, Nat.add_zero] at hc0 hc1 hc2 hc3 hc4 hc5 hc6 hc7
            have ljb := cell_lt hc0
            have hkd := hM'.out.kind q hqn
            have haf := hM'.out.after q hqn
            rw [hj] at hkd haf
            obtain ⟨af, haf0⟩ : ∃ af : Nat, j.after = (af : Int) := ⟨j.after.toNat, by omega⟩
            have haf6 : af < 64 := by
              have h2 : (2 : Int) ^ M.jobs.length ≤ 2 ^ 6 := two_pow_le hlen6
              have : (2 : Int) ^ 6 = 64 := by decide
              omega
            rw [haf0] at hc7
            obtain ⟨kd, ekd⟩ : ∃ x, j.kind = x := ⟨_, rfl⟩
            rw [ekd] at hc0 hkd
            obtain ⟨ki2, hki2⟩ : ∃ ki2, (M.setup.length : Int) - 1 - kd = ki2 := ⟨_, rfl⟩
            obtain ⟨lo, elo⟩ : ∃ x, j.lo = x := ⟨_, rfl⟩
            obtain ⟨hi', ehi⟩ : ∃ x, j.hi = x := ⟨_, rfl⟩
            obtain ⟨fr, efr⟩ : ∃ x, j.from_ = x := ⟨_, rfl⟩
            obtain ⟨so', eso⟩ : ∃ x, j.soft = x := ⟨_, rfl⟩
            obtain ⟨byy, eby⟩ : ∃ x, j.by_ = x := ⟨_, rfl⟩
            obtain ⟨co, eco⟩ : ∃ x, j.cost = x := ⟨_, rfl⟩
            rw [elo] at hc1
            rw [ehi] at hc2
            rw [efr] at hc3
            rw [eso] at hc4
            rw [eby] at hc5
            rw [eco] at hc6
            have henc := hid (show ∀ m : Nat, m = mir M.jobs.length af → jobK.enc (turnJob M.jobs.length M.setup.length j) = [.int .i64 ki2, .int .i64 lo, .int .i64 hi', .int .i64 fr, .int .i64 so', .int .i64 byy, .int .i64 co, .int .i64 (m : Int)] from by
              rintro m rfl
              have h1 : j.after.toNat = af := by rw [haf0]; simp
              simp only [jobK, turnJob, h1, ekd, hki2, elo, ehi, efr, eso, eby, eco])
            have hw1 : IntKind.i64.wrap ((M.jobs.length : Int) - 1) = (M.jobs.length : Int) - 1 := IntWalk.i64_in _ (by omega)
            have hw2 : IntKind.i64.wrap ((M.jobs.length : Int) - 1 - (i : Int)) = (q : Int) := by rw [IntWalk.i64_in _ (by omega)]; omega
            have hw3 : IntKind.i64.wrap ((M.setup.length : Int) - 1) = (M.setup.length : Int) - 1 := IntWalk.i64_in _ (by omega)
            have hw4 : IntKind.i64.wrap ((M.setup.length : Int) - 1 - kd) = ki2 := by rw [IntWalk.i64_in _ (by omega)]; omega
            have hqi : (q : Int) < (M.jobs.length : Int) := by omega
            clear hjq hjc hj haf haf0 ekd elo ehi efr eso eby eco hq
            have lm := (cells_of hT.out.k.m).1
            have cm := (cells_of hT.out.k.m).2
            go_upto_region 14 with fail
            have hbq := below_alloc (Below.refl _ wr) (.cells #[.int .i64 kd, .int .i64 lo, .int .i64 hi', .int .i64 fr, .int .i64 so', .int .i64 byy, .int .i64 co, .int .i64 (af : Int)] 48)
            have hq0 : (wr.alloc (.cells #[.int .i64 kd, .int .i64 lo, .int .i64 hi', .int .i64 fr, .int .i64 so', .int .i64 byy, .int .i64 co, .int .i64 (af : Int)] 48)).heap[wr.heap.size]? = some (.cells #[.int .i64 kd, .int .i64 lo, .int .i64 hi', .int .i64 fr, .int .i64 so', .int .i64 byy, .int .i64 co, .int .i64 (af : Int)] 48 (0, 0)) := alloc_at rfl
            have hxr := heap_lt hT.out.x
            obtain ⟨qb, hqb⟩ : ∃ qb, wr.heap.size = qb := ⟨_, rfl⟩
            have hqb' := hid hqb
            generalize wr.alloc (.cells #[.int .i64 kd, .int .i64 lo, .int .i64 hi', .int .i64 fr, .int .i64 so', .int .i64 byy, .int .i64 co, .int .i64 (af : Int)] 48) = wq at hq0 hbq ⊢
            rw [hqb] at hq0 ⊢
            clear hc0 hc1 hc2 hc3 hc4 hc5 hc6 hc7 ljb lm cm hqb
            have hT1 := hT.out.below hbq
            have lm := (cells_of hT1.k.m).1
            have cm := (cells_of hT1.k.m).2
            have lq := (cells_of hq0).1
            have cq := (cells_of hq0).2
            have zq := free_of hq0
            have hq1 := heap_set_same (o := 0) (v := .int .i64 ki2) hq0
            have hb1 := below_set hbq (p := ⟨qb, 0, none⟩) (.int .i64 ki2) (by simp only; have := hqb'.out; omega)
            go_upto_region 15 with fail
            clear lm cm lq cq zq hT1
            generalize wq.setCell ⟨qb, 0, none⟩ (.int .i64 ki2) = wq at hq1 hb1 ⊢
            replace hq1 : wq.heap[qb]? = some (.cells #[.int .i64 ki2, .int .i64 lo, .int .i64 hi', .int .i64 fr, .int .i64 so', .int .i64 byy, .int .i64 co, .int .i64 (af : Int)] 48 (0, 0)) := by simpa using hq1
            clear hq0 hbq
            have lq := (cells_of hq1).1
            have cq := (cells_of hq1).2
            have hb1' := hid hb1
            clear hb1
            go_wp2
            go_loopw [10, 114] (fun av ix wr3 => ∃ k : Nat, k ≤ M.jobs.length ∧ ix = .int .i64 k ∧ av = .int .i64 ((mirTo M.jobs.length af k : Nat) : Int) ∧ wq = wr3) (fun _ ix _ => M.jobs.length - (intOf ix).toNat)
            case atStart => exact ⟨0, by omega, rfl, rfl, rfl⟩
            case round =>
              obtain ⟨k, hkk, rfl, rfl, rfl⟩ := hrel
              have hr64 : mirTo M.jobs.length af k < 64 := by
                refine Nat.lt_pow_two_of_testBit (n := 6) _ fun j hj => ?_
                cases h : (mirTo M.jobs.length af k).testBit j
                · rfl
                · obtain ⟨q, h1, h2, h3⟩ := (mirTo_bit _ _ _ _).1 h
                  omega
              have hst := mirTo_succ M.jobs.length af k
              obtain ⟨ac, hac⟩ : ∃ ac, mirTo M.jobs.length af k = ac := ⟨_, rfl⟩
              rw [hac] at hr64 hst ⊢
              by_cases hlt3 : k < M.jobs.length
              · have hki : (k : Int) < (M.jobs.length : Int) := by omega
                have hk62 : (k : Int) ≤ 62 := by omega
                obtain ⟨f, hf⟩ : ∃ f, M.jobs.length - 1 - k = f := ⟨_, rfl⟩
                rw [hf] at hst
                have hw5 : IntKind.i64.wrap ((M.jobs.length : Int) - 1 - (k : Int)) = (f : Int) := by rw [IntWalk.i64_in _ (by omega)]; omega
                have hf6 : f < 6 := by omega
                have hf62 : (f : Int) ≤ 62 := by omega
                have hp6 : 2 ^ f < 64 := Nat.lt_of_lt_of_le (Nat.pow_lt_pow_right (by decide) hf6) (by decide)
                have hpi : (2 : Int) ^ f = ((2 ^ f : Nat) : Int) := by simp
                have hor := (Go.Lap.bits_nat ac (2 ^ f) (by omega) (by omega)).2.1
                have hor0 := (Go.Lap.bits_nat ac 0 (by omega) (by omega)).2.1
                rw [Nat.or_zero, show ((0 : Nat) : Int) = 0 from rfl] at hor0
                have hsa := shr_bit (show (0 : Int) ≤ (af : Int) by omega) k
                rw [Int.toNat_natCast] at hsa
                obtain ⟨t1, ht1⟩ : ∃ t, af.testBit k = t := ⟨_, rfl⟩
                rw [ht1] at hsa hst
                have hst' := hid hst
                clear ht1 hst hac hf
                obtain ⟨pw, hpw⟩ : ∃ pw, 2 ^ f = pw := ⟨_, rfl⟩
                rw [hpw] at hpi hor hp6 hst'
                have hwr : wrap64 ((2 : Int) ^ f) = (pw : Int) := by rw [hpi]; exact IntWalk.wrap64_in _ (by omega)
                have hwr2 : wrap64 (0 * (2 : Int) ^ f) = 0 := by rw [Int.zero_mul]; exact IntWalk.wrap64_in _ (by omega)
                obtain ⟨na, hna⟩ : ∃ na, ac ||| pw = na := ⟨_, rfl⟩
                rw [hna] at hor hst'
                clear hpi hpw hna
                cases t1
                · have hsa : (af : Int) / 2 ^ k % 2 = 0 := by simpa using hsa
                  have he := hid (show mirTo M.jobs.length af (k + 1) = ac from hst'.out)
                  go_wp2
                  go_roundw
                  case rel => exact ⟨k + 1, by omega, by go_num, by rw [he.out], by simp⟩
                  case measure => simp [intOf]; omega
                · have hsa : (af : Int) / 2 ^ k % 2 = 1 := by simpa using hsa
                  have he := hid (show mirTo M.jobs.length af (k + 1) = na from hst'.out)
                  go_wp2
                  go_roundw
                  case rel => exact ⟨k + 1, by omega, by go_num, by rw [he.out], by simp⟩
                  case measure => simp [intOf]; omega
              · obtain rfl : k = M.jobs.length := by omega
                have henc' := hid (henc.out ac hac.symm)
                have hT3 := hT.out.below hb1'.out
                have zq := free_of hq1
                have hq2 := heap_set_same (o := 7) (v := .int .i64 (ac : Int)) hq1
                have hb2 := hid (below_set hb1'.out (p := ⟨qb, 7, none⟩) (.int .i64 (ac : Int)) (by simp only; have := hqb'.out; omega))
                clear hst hac
                go_upto_region 22 with fail
                clear lq cq zq hT3
                generalize wq.setCell ⟨qb, 7, none⟩ (.int .i64 (ac : Int)) = wz at hq2 hb2 ⊢
                replace hq2 : wz.heap[qb]? = some (.cells #[.int .i64 ki2, .int .i64 lo, .int .i64 hi', .int .i64 fr, .int .i64 so', .int .i64 byy, .int .i64 co, .int .i64 (ac : Int)] 48 (0, 0)) := by simpa using hq2
                have hT4 := hid (hT.out.below hb2.out)
                have lq := (cells_of hq2).1
                have cq := (cells_of hq2).2
                have lx := (cells_of hT4.out.x).1
                have cx := (cells_of hT4.out.x).2
                obtain ⟨ra, rcap, hjr, _⟩ := hT4.out.j.at
                have hjl : (M.turn.jobs.take i).length = i := by rw [List.length_take, turn_len]; omega
                rw [hjl] at hjr
                subst hjr
                have hbz := below_alloc (Below.refl _ wz) (.cells #[.int .i64 ki2, .int .i64 lo, .int .i64 hi', .int .i64 fr, .int .i64 so', .int .i64 byy, .int .i64 co, .int .i64 (ac : Int)] 48)
                have hT5 := hid (hT4.out.below hbz)
                have hsz5 := heap_lt hT5.out.x
                have hrow5 := hid hT5.out.j
                have hsrc := hid (row_one jobK wz (turnJob M.jobs.length M.setup.length j) #[.int .i64 ki2, .int .i64 lo, .int .i64 hi', .int .i64 fr, .int .i64 so', .int .i64 byy, .int .i64 co, .int .i64 (ac : Int)] 48 (by rw [henc'.out]))
                clear hbz
                go_wp2_with (at_builtin; refine wpList_append_row jobK rfl _ _ rfl (xb + 1) _ (M.turn.jobs.take i) [turnJob M.jobs.length M.setup.length j] rfl hrow5.out wz.heap.size 0 1 1 rfl rfl hsrc.out (by rw [hjl]; simp; omega) hsz5 ?_; intro v' w6 hown6 hb6 hg6; have hT6 := hid (hT5.out.job hb6 (grown_kept hrow5.out hg6) hown6); obtain ⟨r2, rcap2, hr2, _⟩ := hown6.at; rw [show (M.turn.jobs.take i ++ [turnJob M.jobs.length M.setup.length j]).length = i + 1 by rw [List.length_append, hjl]; rfl] at hr2; subst hr2; have hm6 := (hb6.block xb (by omega)).trans hT5.out.x; have lx6 := (cells_of hm6).1; have cx6 := (cells_of hm6).2; have zx6 := free_of hm6)
                go_roundw
                case rel => exact ⟨i + 1, by omega, by go_num, _, hid (by rw [htk.out]; exact hT6.out)⟩
                case measure => simp [intOf]; omega
          · obtain rfl : i = M.jobs.length := by omega
            have hT := hid (show TurnK w (.slice sa M.setup.length scap) (.slice ja M.jobs.length jcap) xb srow jrow M.turn.setup M.turn.jobs wr from by
              have h := hT.out
              rw [show M.turn.jobs.take M.jobs.length = M.turn.jobs from List.take_of_length_le (by rw [turn_len]; exact Nat.le_refl _)] at h
              exact h)
            have hSw := hid (hS'.out.below hT.out.k.bel)
            have hJw := hid (hJ'.out.below hT.out.k.bel)
            go_upto_region 24 with fail
            refine wp_region_inv2 (fun d vals W => QJ (fun oi => match oi with | 1 => some (.pointer (some ⟨w.heap.size, 0, none⟩)) | 2 => some (.slice sa M.setup.length scap) | 5 => some (.pointer (some ⟨w.heap.size, 1, none⟩)) | 6 => some (.slice ja M.jobs.length jcap) | _ => none) d vals ∧ (fun d vals W => TwoX intK jobK wr M.setup M.jobs 0 3 4 7 d vals W ∧ CopyX 8 3 d vals ∧ CopyX 9 7 d vals) d vals W) (by kernel_rfl) (by kernel_rfl) (by kernel_rfl) ⟨QJ.start _ _, ⟨TwoX.start, CopyX.start _ _ _, CopyX.start _ _ _⟩⟩ ?_ ?_
            · intro q o d vals a W ho hd hdep hcl hev hnd hold hJ
              have hi := (Array.getElem?_eq_some_iff.1 ho).1
              have c3_0 : d 3 = true → d 0 = true := fun h => hcl 3 _ rfl h { on := 0, ground := Ground.data } (by simp) rfl
              have c7_4 : d 7 = true → d 4 = true := fun h => hcl 7 _ rfl h { on := 4, ground := Ground.data } (by simp) rfl
              have c7_3 : d 7 = true → d 3 = true := fun h => hcl 7 _ rfl h { on := 3, ground := Ground.chain } (by simp) rfl
              rcases q with _ | _ | _ | _ | _ | _ | _ | _ | _ | _ | q
              · obtain rfl := Option.some.inj ho
                have d3 : d 3 = false := not_done c3_0 hd
                exact wpOp_at rfl rfl (op_ints0 ⟨_, rfl, hJ.1.set (by intro u hu; cases hu), hJ.2.1.made1 (by decide : [0, 3, 4, 7].Nodup) d3, (hJ.2.2.1.step (by decide) hd (fun e => by cases e)), (hJ.2.2.2.step (by decide) hd (fun e => by cases e))⟩)
              · obtain rfl := Option.some.inj ho
                have e0 : a.eval (.tmp (2 : Nat)) = .pointer (some ⟨w.heap.size, 0, none⟩) := (hold 2 (by kernel_rfl)).trans rfl
                exact wpOp_at rfl rfl (op_quiet (v := .pointer (some ⟨w.heap.size, 0, none⟩)) (by simp only [execOp, e0]; go_simp) ⟨_, rfl, hJ.1.set (by intro u hu; cases hu; rfl), ⟨hJ.2.1.pure (by decide), (hJ.2.2.1.step (by decide) hd (fun e => by cases e)), (hJ.2.2.2.step (by decide) hd (fun e => by cases e))⟩⟩)
              · obtain rfl := Option.some.inj ho
                have e0 : a.eval (.tmp (140 : Nat)) = .pointer (some ⟨w.heap.size, 0, none⟩) := (hev 1 140 rfl (hdep { on := 1, ground := Ground.data } (by simp) rfl)).trans (hJ.1.get (hdep { on := 1, ground := Ground.data } (by simp) rfl) rfl)
                have hm2 := hkeep hT.out.k.m hJ.2.1.b
                have lm2 := (cells_of hm2).1
                have cm2 := (cells_of hm2).2
                exact wpOp_at rfl rfl (op_quiet (v := .slice sa M.setup.length scap) (by simp only [execOp, e0]; go_simp) ⟨_, rfl, hJ.1.set (by intro u hu; cases hu; rfl), ⟨hJ.2.1.pure (by decide), (hJ.2.2.1.step (by decide) hd (fun e => by cases e)), (hJ.2.2.2.step (by decide) hd (fun e => by cases e))⟩⟩)
              · obtain rfl := Option.some.inj ho
                have d7 : d 7 = false := not_done c7_3 hd
                refine wpOp_at rfl rfl (Oper.wp_mono ?_ (hJ.2.1.grow1 (by decide : [0, 3, 4, 7].Nodup) (by decide) (hdep { on := 0, ground := Ground.data } (by simp) rfl) hd d7 (ints_at.1 hSw.out) hNs'.out (by omega) _ _ rfl (hev 0 139 rfl (hdep { on := 0, ground := Ground.data } (by simp) rfl)) ((hev 2 141 rfl (hdep { on := 2, ground := Ground.data } (by simp) rfl)).trans (hJ.1.get (hdep { on := 2, ground := Ground.data } (by simp) rfl) rfl))))
                rintro a' W' ⟨v, rfl, hX⟩
                exact ⟨v, rfl, hJ.1.set (by intro u hu; cases hu), hX, (hJ.2.2.1.step (by decide) hd (fun e => by cases e)), (hJ.2.2.2.step (by decide) hd (fun e => by cases e))⟩
              · obtain rfl := Option.some.inj ho
                have d7 : d 7 = false := not_done c7_4 hd
                exact wpOp_at rfl rfl (op_jobs0 ⟨_, rfl, hJ.1.set (by intro u hu; cases hu), hJ.2.1.made2 (by decide : [0, 3, 4, 7].Nodup) d7, (hJ.2.2.1.step (by decide) hd (fun e => by cases e)), (hJ.2.2.2.step (by decide) hd (fun e => by cases e))⟩)
              · obtain rfl := Option.some.inj ho
                have e0 : a.eval (.tmp (2 : Nat)) = .pointer (some ⟨w.heap.size, 0, none⟩) := (hold 2 (by kernel_rfl)).trans rfl
                exact wpOp_at rfl rfl (op_quiet (v := .pointer (some ⟨w.heap.size, 1, none⟩)) (by simp only [execOp, e0]; go_simp) ⟨_, rfl, hJ.1.set (by intro u hu; cases hu; rfl), ⟨hJ.2.1.pure (by decide), (hJ.2.2.1.step (by decide) hd (fun e => by cases e)), (hJ.2.2.2.step (by decide) hd (fun e => by cases e))⟩⟩)
              · obtain rfl := Option.some.inj ho
                have e0 : a.eval (.tmp (144 : Nat)) = .pointer (some ⟨w.heap.size, 1, none⟩) := (hev 5 144 rfl (hdep { on := 5, ground := Ground.data } (by simp) rfl)).trans (hJ.1.get (hdep { on := 5, ground := Ground.data } (by simp) rfl) rfl)
                have hm2 := hkeep hT.out.k.m hJ.2.1.b
                have lm2 := (cells_of hm2).1
                have cm2 := (cells_of hm2).2
                exact wpOp_at rfl rfl (op_quiet (v := .slice ja M.jobs.length jcap) (by simp only [execOp, e0]; go_simp) ⟨_, rfl, hJ.1.set (by intro u hu; cases hu; rfl), ⟨hJ.2.1.pure (by decide), (hJ.2.2.1.step (by decide) hd (fun e => by cases e)), (hJ.2.2.2.step (by decide) hd (fun e => by cases e))⟩⟩)
              · obtain rfl := Option.some.inj ho
                have d3 : d 3 = true := hdep { on := 3, ground := Ground.chain } (by simp) rfl
                refine wpOp_at rfl rfl (Oper.wp_mono ?_ (hJ.2.1.grow2 (by decide : [0, 3, 4, 7].Nodup) (by decide) (hdep { on := 4, ground := Ground.data } (by simp) rfl) hd d3 (jobs_at.1 hJw.out) hN'.out (by omega) _ _ rfl (hev 4 143 rfl (hdep { on := 4, ground := Ground.data } (by simp) rfl)) ((hev 6 145 rfl (hdep { on := 6, ground := Ground.data } (by simp) rfl)).trans (hJ.1.get (hdep { on := 6, ground := Ground.data } (by simp) rfl) rfl))))
                rintro a' W' ⟨v, rfl, hX⟩
                exact ⟨v, rfl, hJ.1.set (by intro u hu; cases hu), hX, (hJ.2.2.1.step (by decide) hd (fun e => by cases e)), (hJ.2.2.2.step (by decide) hd (fun e => by cases e))⟩
              · obtain rfl := Option.some.inj ho
                exact wpOp_at rfl rfl (op_assign (hev 3 142 rfl (hdep { on := 3, ground := Ground.data } (by simp) rfl)) ⟨_, rfl, hJ.1.set (by intro u hu; cases hu), hJ.2.1.pure (by decide), hJ.2.2.1.step (by decide) hd (fun _ => ⟨(hdep { on := 3, ground := Ground.data } (by simp) rfl), rfl⟩), hJ.2.2.2.step (by decide) hd (fun e => by cases e)⟩)
              · obtain rfl := Option.some.inj ho
                exact wpOp_at rfl rfl (op_assign (hev 7 146 rfl (hdep { on := 7, ground := Ground.data } (by simp) rfl)) ⟨_, rfl, hJ.1.set (by intro u hu; cases hu), hJ.2.1.pure (by decide), hJ.2.2.1.step (by decide) hd (fun e => by cases e), hJ.2.2.2.step (by decide) hd (fun _ => ⟨(hdep { on := 7, ground := Ground.data } (by simp) rfl), rfl⟩)⟩)
              · simp at hi
                omega
            · rintro d vals W hall hJ
              have p1 := hJ.2.1.p1 (hall 3 (by simp))
              have p2 := hJ.2.1.q1 (hall 7 (by simp))
              have pb := hJ.2.1.b
              have e8 := (hJ.2.2.1 (hall 8 (by simp))).2
              have e9 := (hJ.2.2.2 (hall 9 (by simp))).2
              clear hJ hall
              change Exit.then _ _ Exit.normal (Act.put (Act.put (Act.put (Act.put (Act.put (Act.put (Act.put (Act.put (Act.put (Act.put _ (some 139) (vals 0)) (some 140) (vals 1)) (some 141) (vals 2)) (some 142) (vals 3)) (some 143) (vals 4)) (some 144) (vals 5)) (some 145) (vals 6)) (some 146) (vals 7)) (some 12) (vals 8)) (some 13) (vals 9)) W
              simp only [Act.put, List.setIfInBounds_toArray, List.set_cons_zero, List.set_cons_succ]
              rw [e8, e9]
              clear e8 e9
              generalize vals 0 = x0
              generalize vals 1 = x1
              generalize vals 2 = x2
              generalize vals 3 = x3 at p1 ⊢
              generalize vals 4 = x4
              generalize vals 5 = x5
              generalize vals 6 = x6
              generalize vals 7 = x7 at p2 ⊢
              have hT8 := hid (hT.out.below pb)
              have hp1 := hid p1
              have hp2 := hid p2
              have hpb := hid pb
              clear p1 p2 pb
              have hMade := hid (made_any M hv'.out (.slice sa M.setup.length scap) (.slice ja M.jobs.length jcap) bv bs W (hS'.out.below hT8.out.k.bel) (hJ'.out.below hT8.out.k.bel) (hB'.out.below hT8.out.k.bel))
              have lm := (cells_of hT8.out.k.m).1
              have cm := (cells_of hT8.out.k.m).2
              go_upto_region 26 with (go_at_call 34; with_reducible refine hMade.out.mono ?_; rintro e w5 ⟨lv, l, rfl, hol, hown, hb5⟩)
              obtain ⟨p, rfl, hfr, hpn⟩ := ordB_ints.1 hol
              have hpl := (freshB_iff.1 hfr).2
              have htf := turn_facts hv'.out hol
              replace htf := hid htf
              replace hol := hid hol
              replace hpl := hid hpl
              obtain ⟨la, lcap, rfl, _⟩ := ints_at.2 hown.at
              have hpL : (ints p).length = p.length := by simp
              rw [hpL, hpn] at hown ⊢
              have hT9 := hid (hT8.out.below hb5)
              have hc1 := hid ((hp1.out.below hb5).low (Nat.zero_le _))
              have hc2 := hid ((hp2.out.below hb5).low (Nat.zero_le _))
              replace hown := hid hown
              clear hp1 hp2 hT8 hMade hb5 hfr lm cm
              obtain ⟨q, hq⟩ : ∃ q, p.map (fun i => M.jobs.length - 1 - i) = q := ⟨_, rfl⟩
              have hqn : q.length = M.jobs.length := by rw [← hq, List.length_map, hpn]
              have hq' := hid hq
              have hqk := hid (show ∀ k, k < M.jobs.length → p.getD k 0 < M.jobs.length ∧ ints (q.take (k + 1)) = ints (q.take k) ++ [(((M.jobs.length - 1 - p.getD k 0 : Nat)) : Int)] from by
                intro k hk
                have hkp : k < p.length := by omega
                have h1 : p.getD k 0 = p[k] := by rw [List.getD_eq_getElem?_getD, List.getElem?_eq_getElem hkp]; rfl
                refine ⟨by rw [h1]; exact (hpl.out _ (List.getElem_mem hkp)).1, ?_⟩
                have hkq : k < q.length := by omega
                rw [List.take_succ_eq_append_getElem hkq, h1]
                subst hq
                simp)
              clear hq
              go_wp2
              go_loopw [15, 152] (fun ov ix wr => ∃ k : Nat, k ≤ M.jobs.length ∧ ix = .int .i64 k ∧ Hid (intK.own w5.heap.size wr ov (ints (q.take k))) ∧ Hid (Below w5.heap.size w5 wr)) (fun _ ix _ => M.jobs.length - (intOf ix).toNat)
              case atStart => exact ⟨0, by omega, rfl, hid (intK.own_nil _ _), hid (Below.refl _ _)⟩
              case round =>
                obtain ⟨k, hkk, rfl, hrow, hbr⟩ := hrel
                by_cases hlt : k < M.jobs.length
                · have hki : (k : Int) < (M.jobs.length : Int) := by omega
                  obtain ⟨rb, ro, rcap, e1, lrb, hrc⟩ := (ints_at.2 (hown.out.below hbr.out).at).some (fun e => by have := congrArg List.length e; simp only [List.length_map, List.length_nil] at this; omega)
                  injection e1 with e1 e2 e3
                  subst e1
                  subst e3
                  clear e2
                  have hrj := hrc k (by simp; omega)
                  rw [getD_intsK] at hrj
                  obtain ⟨hin, hqs⟩ := hqk.out k hlt
                  obtain ⟨y, hy⟩ : ∃ y, p.getD k 0 = y := ⟨_, rfl⟩
                  rw [hy] at hrj hin hqs
                  obtain ⟨z, hz⟩ : ∃ z, M.jobs.length - 1 - y = z := ⟨_, rfl⟩
                  rw [hz] at hqs
                  replace hqs := hid hqs
                  have hw1 : IntKind.i64.wrap ((M.jobs.length : Int) - 1) = (M.jobs.length : Int) - 1 := IntWalk.i64_in _ (by omega)
                  have hw2 : IntKind.i64.wrap ((M.jobs.length : Int) - 1 - (y : Int)) = (z : Int) := by rw [IntWalk.i64_in _ (by omega)]; omega
                  have hbx := below_alloc (Below.refl _ wr) (.cells #[.int .i64 (z : Int)] 3)
                  have hrow3 := hid (hrow.out.below hbx)
                  have hsz3 : w5.heap.size ≤ (wr.alloc (.cells #[.int .i64 (z : Int)] 3)).heap.size := Nat.le_trans hbr.out.size hbx.size
                  have hbr3 := hid (below_via hbx hbr.out)
                  have hsrc := hid (row_one intK wr (z : Int) #[.int .i64 (z : Int)] 3 rfl)
                  have hql : (ints (q.take k)).length + [(z : Int)].length ≤ 1000 := by simp; omega
                  clear hrc hy hz hbx
                  go_wp2_with (at_builtin; refine wpList_append_row intK rfl _ _ rfl w5.heap.size _ (ints (q.take k)) [(z : Int)] rfl hrow3.out wr.heap.size 0 1 1 rfl rfl hsrc.out hql hsz3 ?_; intro v' w6 hown6 hb6 _; replace hown6 := hid hown6; replace hb6 := hid (hbr3.out.trans hb6))
                  go_roundw
                  case rel => exact ⟨k + 1, by omega, by go_num, hid (by rw [hqs.out]; exact hown6.out), hb6⟩
                  case measure => simp [intOf]; omega
                · obtain rfl : k = M.jobs.length := by omega
                  obtain ⟨w00, hw00⟩ : ∃ x, x = wr := ⟨_, rfl⟩
                  subst hw00
                  rw [show q.take M.jobs.length = q from List.take_of_length_le (by omega)] at hrow
                  have hT0 := hid (hT9.out.below hbr.out)
                  replace hc1 := hid (hc1.out.below hbr.out)
                  replace hc2 := hid (hc2.out.below hbr.out)
                  have hl0 := hid (ints_at.2 (hown.out.below hbr.out).at)
                  have ho0 := hid (ints_at.2 hrow.out.at)
                  obtain ⟨oa, ocap, hoa, _⟩ := ho0.out
                  have hqL : (ints q).length = M.jobs.length := by simp; omega
                  rw [hqL] at hoa
                  subst hoa
                  obtain ⟨ra, rcap, hra, _⟩ := hT0.out.s.at
                  rw [show M.turn.setup.length = M.setup.length by simp [Mend.turn]] at hra
                  subst hra
                  obtain ⟨rj, rjcap, hrj, _⟩ := hT0.out.j.at
                  rw [turn_len] at hrj
                  subst hrj
                  have hlp1 : (ints p).length ≤ 1000 := by simp; omega
                  have hlq1 : (ints q).length ≤ 1000 := by omega
                  clear hT9 hown hrow hqk hbr
                  obtain ⟨sp, hsp⟩ : ∃ sp, spansOf M p = sp := ⟨_, rfl⟩
                  obtain ⟨ht1, ht2⟩ := htf.out.times
                  rw [hsp] at ht1 ht2
                  rw [hq'.out] at ht2
                  obtain ⟨c1, h1, c2, c3, hk1, hk2, hk3, hk4, hk5, hk6⟩ := htf.out.check
                  rw [hq'.out] at hk2
                  obtain ⟨⟨s1, s2⟩, hs1⟩ : ∃ z, slackOf M (ints p) = z := ⟨_, rfl⟩
                  have hs2 := htf.out.slack.trans hs1
                  rw [hq'.out] at hs2
                  obtain ⟨⟨n1, n2⟩, hn1⟩ : ∃ z, countOf M = z := ⟨_, rfl⟩
                  have hn2 := htf.out.count.trans hn1
                  obtain ⟨⟨u1, u2⟩, hu1⟩ : ∃ z, untilOf M = z := ⟨_, rfl⟩
                  have hu2 := htf.out.until_.trans hu1
                  obtain ⟨⟨b1, b2, b3⟩, hbe1⟩ : ∃ z, bestOf M = z := ⟨_, rfl⟩
                  obtain ⟨⟨b1', b2', b3'⟩, hbe2⟩ : ∃ z, bestOf M.turn = z := ⟨_, rfl⟩
                  obtain ⟨hbe3, hbe4⟩ := htf.out.best
                  rw [hbe1, hbe2] at hbe3 hbe4
                  obtain rfl : b1' = b1 := hbe3
                  obtain rfl : b3' = b3 := hbe4
                  obtain ⟨D, D', hd1, hd2, hD, hD', hds⟩ := htf.out.drop
                  have S0 := hid (fun W (h : Below w00.heap.size w00 W) => hS'.out.below (below_via h hT0.out.k.bel))
                  have J0 := hid (fun W (h : Below w00.heap.size w00 W) => hJ'.out.below (below_via h hT0.out.k.bel))
                  have SX := hid (fun W (h : Below w00.heap.size w00 W) => ints_at.2 (hT0.out.s.below h).at)
                  have JX := hid (fun W (h : Below w00.heap.size w00 W) => jobs_at.2 (hT0.out.j.below h).at)
                  have H14a := fun W (h : Below w00.heap.size w00 W) => Times_any M _ _ _ (ints p) hlp1 W (S0.out W h) (J0.out W h) (hl0.out.below h)
                  have H14b := fun W (h : Below w00.heap.size w00 W) => Times_any M.turn _ _ _ (ints q) hlq1 W (SX.out W h) (JX.out W h) (ho0.out.below h)
                  have H16a := fun W (h : Below w00.heap.size w00 W) => Check_any M _ _ _ (ints p) hlp1 W (S0.out W h) (J0.out W h) (hl0.out.below h)
                  have H16b := fun W (h : Below w00.heap.size w00 W) => Check_any M.turn _ _ _ (ints q) hlq1 W (SX.out W h) (JX.out W h) (ho0.out.below h)
                  have H18a := fun W (h : Below w00.heap.size w00 W) => Slack_any M _ _ _ (ints p) hlp1 W (S0.out W h) (J0.out W h) (hl0.out.below h)
                  have H18b := fun W (h : Below w00.heap.size w00 W) => Slack_any M.turn _ _ _ (ints q) hlq1 W (SX.out W h) (JX.out W h) (ho0.out.below h)
                  have H20a := fun W (h : Below w00.heap.size w00 W) => Count_any M _ _ W (S0.out W h) (J0.out W h)
                  have H20b := fun W (h : Below w00.heap.size w00 W) => Count_any M.turn _ _ W (SX.out W h) (JX.out W h)
                  have H26a := fun W (h : Below w00.heap.size w00 W) => Best_any M _ _ W (S0.out W h) (J0.out W h)
                  have H26b := fun W (h : Below w00.heap.size w00 W) => Best_any M.turn _ _ W (SX.out W h) (JX.out W h)
                  have H28a := fun W (h : Below w00.heap.size w00 W) => Until_any M _ _ W (S0.out W h) (J0.out W h)
                  have H28b := fun W (h : Below w00.heap.size w00 W) => Until_any M.turn _ _ W (SX.out W h) (JX.out W h)
                  have H30a := fun W (h : Below w00.heap.size w00 W) => Drop_any M _ _ W (S0.out W h) (J0.out W h)
                  have H30b := fun W (h : Below w00.heap.size w00 W) => Drop_any M.turn _ _ W (SX.out W h) (JX.out W h)
                  rw [ht1] at H14a
                  rw [ht2] at H14b
                  rw [hk1] at H16a
                  rw [hk2] at H16b
                  rw [hs1] at H18a
                  rw [hs2] at H18b
                  rw [hn1] at H20a
                  rw [hn2] at H20b
                  rw [hbe1] at H26a
                  rw [hbe2] at H26b
                  rw [hu1] at H28a
                  rw [hu2] at H28b
                  rw [hd1] at H30a
                  rw [hd2] at H30b
                  dsimp only at H14a H14b H16a H16b H18a H18b H20a H20b H26a H26b H28a H28b H30a H30b
                  replace H14a := hid H14a
                  replace H14b := hid H14b
                  replace H16a := hid H16a
                  replace H16b := hid H16b
                  replace H18a := hid H18a
                  replace H18b := hid H18b
                  replace H20a := hid H20a
                  replace H20b := hid H20b
                  replace H26a := hid H26a
                  replace H26b := hid H26b
                  replace H28a := hid H28a
                  replace H28b := hid H28b
                  replace H30a := hid H30a
                  replace H30b := hid H30b
                  replace hk4 := hid hk4
                  replace hds := hid hds
                  have hspl : sp.length ≤ 1000 := by rw [← hsp, spans_length]; omega
                  have hbl : (ints b2).length ≤ 1000 := by have := best_len hv'.out; rw [hbe1] at this; simp; dsimp only at this; omega
                  clear hsp ht1 ht2 hk1 hk2 hs1 hs2 hn1 hn2 hbe1 hbe2 hu1 hu2 hd1 hd2 hlp1 hlq1
                  have hbc := hid (Below.refl w00.heap.size w00)
                  have lm := (cells_of hT0.out.k.m).1
                  have cm := (cells_of hT0.out.k.m).2
                  have lx := (cells_of hT0.out.x).1
                  have cx := (cells_of hT0.out.x).2
                  go_upto_region 33 with (go_at_call 14; with_reducible refine (H14a.out _ hbc.out).mono ?_; rintro e w14 ⟨va, rfl, hA, hb⟩; replace hbc := hid (below_via hb hbc.out); clear lm cm lx cx; have lm := (cells_of (hkeep hT0.out.k.m hbc.out)).1; have cm := (cells_of (hkeep hT0.out.k.m hbc.out)).2; have lx := (cells_of (hkeep hT0.out.x hbc.out)).1; have cx := (cells_of (hkeep hT0.out.x hbc.out)).2; clear hb)
                  replace hA := hid hA
                  have hA14 := hA
                  have hw1416 := hid (Nat.le_refl w14.heap.size)
                  go_upto_region 34 with (go_at_call 14; with_reducible refine (H14b.out _ hbc.out).mono ?_; rintro e w15 ⟨vb, rfl, hBv, hb⟩; replace hbc := hid (below_via hb hbc.out); clear lm cm lx cx; have lm := (cells_of (hkeep hT0.out.k.m hbc.out)).1; have cm := (cells_of (hkeep hT0.out.k.m hbc.out)).2; have lx := (cells_of (hkeep hT0.out.x hbc.out)).1; have cx := (cells_of (hkeep hT0.out.x hbc.out)).2; replace hA := hid (hA.out.below hb); replace hw1416 := hid (Nat.le_trans hw1416.out hb.size); clear hb)
                  replace hBv := hid hBv
                  go_upto_region 40 with (first
                    | (go_at_call 16; with_reducible refine (H16a.out _ hbc.out).mono ?_; rintro e w16 ⟨rfl, hb⟩; replace hbc := hid (below_via hb hbc.out); clear lm cm lx cx; have lm := (cells_of (hkeep hT0.out.k.m hbc.out)).1; have cm := (cells_of (hkeep hT0.out.k.m hbc.out)).2; have lx := (cells_of (hkeep hT0.out.x hbc.out)).1; have cx := (cells_of (hkeep hT0.out.x hbc.out)).2; replace hA := hid (hA.out.below hb); replace hw1416 := hid (Nat.le_trans hw1416.out hb.size); replace hBv := hid (hBv.out.below hb); clear hb)
                    | (go_at_call 16; with_reducible refine (H16b.out _ hbc.out).mono ?_; rintro e w16 ⟨rfl, hb⟩; replace hbc := hid (below_via hb hbc.out); clear lm cm lx cx; have lm := (cells_of (hkeep hT0.out.k.m hbc.out)).1; have cm := (cells_of (hkeep hT0.out.k.m hbc.out)).2; have lx := (cells_of (hkeep hT0.out.x hbc.out)).1; have cx := (cells_of (hkeep hT0.out.x hbc.out)).2; replace hA := hid (hA.out.below hb); replace hw1416 := hid (Nat.le_trans hw1416.out hb.size); replace hBv := hid (hBv.out.below hb); clear hb)
                    | (go_at_call 18; with_reducible refine (H18a.out _ hbc.out).mono ?_; rintro e w16 ⟨rfl, hb⟩; replace hbc := hid (below_via hb hbc.out); clear lm cm lx cx; have lm := (cells_of (hkeep hT0.out.k.m hbc.out)).1; have cm := (cells_of (hkeep hT0.out.k.m hbc.out)).2; have lx := (cells_of (hkeep hT0.out.x hbc.out)).1; have cx := (cells_of (hkeep hT0.out.x hbc.out)).2; replace hA := hid (hA.out.below hb); replace hw1416 := hid (Nat.le_trans hw1416.out hb.size); replace hBv := hid (hBv.out.below hb); clear hb)
                    | (go_at_call 18; with_reducible refine (H18b.out _ hbc.out).mono ?_; rintro e w16 ⟨rfl, hb⟩; replace hbc := hid (below_via hb hbc.out); clear lm cm lx cx; have lm := (cells_of (hkeep hT0.out.k.m hbc.out)).1; have cm := (cells_of (hkeep hT0.out.k.m hbc.out)).2; have lx := (cells_of (hkeep hT0.out.x hbc.out)).1; have cx := (cells_of (hkeep hT0.out.x hbc.out)).2; replace hA := hid (hA.out.below hb); replace hw1416 := hid (Nat.le_trans hw1416.out hb.size); replace hBv := hid (hBv.out.below hb); clear hb)
                    | (go_at_call 20; with_reducible refine (H20a.out _ hbc.out).mono ?_; rintro e w16 ⟨rfl, hb⟩; replace hbc := hid (below_via hb hbc.out); clear lm cm lx cx; have lm := (cells_of (hkeep hT0.out.k.m hbc.out)).1; have cm := (cells_of (hkeep hT0.out.k.m hbc.out)).2; have lx := (cells_of (hkeep hT0.out.x hbc.out)).1; have cx := (cells_of (hkeep hT0.out.x hbc.out)).2; replace hA := hid (hA.out.below hb); replace hw1416 := hid (Nat.le_trans hw1416.out hb.size); replace hBv := hid (hBv.out.below hb); clear hb)
                    | (go_at_call 20; with_reducible refine (H20b.out _ hbc.out).mono ?_; rintro e w16 ⟨rfl, hb⟩; replace hbc := hid (below_via hb hbc.out); clear lm cm lx cx; have lm := (cells_of (hkeep hT0.out.k.m hbc.out)).1; have cm := (cells_of (hkeep hT0.out.k.m hbc.out)).2; have lx := (cells_of (hkeep hT0.out.x hbc.out)).1; have cx := (cells_of (hkeep hT0.out.x hbc.out)).2; replace hA := hid (hA.out.below hb); replace hw1416 := hid (Nat.le_trans hw1416.out hb.size); replace hBv := hid (hBv.out.below hb)); clear hb)
                  have hA20 := hA
                  have hw14 := hid (show w14.heap.size ≤ w16.heap.size from hw1416.out)
                  have hB20 := hBv
                  have hb20 := hid (Below.refl w16.heap.size w16)
                  have hbc20 := hbc
                  go_upto_region 41 with (go_at_call 26; with_reducible refine (H26a.out _ hbc.out).mono ?_; rintro e w40 ⟨bev, rfl, hBest, hb⟩; replace hbc := hid (below_via hb hbc.out); clear lm cm lx cx; have lm := (cells_of (hkeep hT0.out.k.m hbc.out)).1; have cm := (cells_of (hkeep hT0.out.k.m hbc.out)).2; have lx := (cells_of (hkeep hT0.out.x hbc.out)).1; have cx := (cells_of (hkeep hT0.out.x hbc.out)).2; replace hb20 := hid (below_via hb hb20.out); replace hA := hid (hA.out.below hb); replace hw1416 := hid (Nat.le_trans hw1416.out hb.size); replace hBv := hid (hBv.out.below hb); clear hb)
                  replace hBest := hid hBest
                  go_upto_region 42 with (go_at_call 26; with_reducible refine (H26b.out _ hbc.out).mono ?_; rintro e w41 ⟨bev2, rfl, _, hb⟩; replace hbc := hid (below_via hb hbc.out); clear lm cm lx cx; have lm := (cells_of (hkeep hT0.out.k.m hbc.out)).1; have cm := (cells_of (hkeep hT0.out.k.m hbc.out)).2; have lx := (cells_of (hkeep hT0.out.x hbc.out)).1; have cx := (cells_of (hkeep hT0.out.x hbc.out)).2; replace hb20 := hid (below_via hb hb20.out); replace hA := hid (hA.out.below hb); replace hw1416 := hid (Nat.le_trans hw1416.out hb.size); replace hBv := hid (hBv.out.below hb); replace hBest := hid (hBest.out.below hb); clear hb)
                  go_upto_region 47 with (first
                    | (go_at_call 28; with_reducible refine (H28a.out _ hbc.out).mono ?_; rintro e w28 ⟨rfl, hb⟩; replace hbc := hid (below_via hb hbc.out); clear lm cm lx cx; have lm := (cells_of (hkeep hT0.out.k.m hbc.out)).1; have cm := (cells_of (hkeep hT0.out.k.m hbc.out)).2; have lx := (cells_of (hkeep hT0.out.x hbc.out)).1; have cx := (cells_of (hkeep hT0.out.x hbc.out)).2; replace hb20 := hid (below_via hb hb20.out); replace hA := hid (hA.out.below hb); replace hw1416 := hid (Nat.le_trans hw1416.out hb.size); replace hBv := hid (hBv.out.below hb); replace hBest := hid (hBest.out.below hb); clear hb)
                    | (go_at_call 28; with_reducible refine (H28b.out _ hbc.out).mono ?_; rintro e w28 ⟨rfl, hb⟩; replace hbc := hid (below_via hb hbc.out); clear lm cm lx cx; have lm := (cells_of (hkeep hT0.out.k.m hbc.out)).1; have cm := (cells_of (hkeep hT0.out.k.m hbc.out)).2; have lx := (cells_of (hkeep hT0.out.x hbc.out)).1; have cx := (cells_of (hkeep hT0.out.x hbc.out)).2; replace hb20 := hid (below_via hb hb20.out); replace hA := hid (hA.out.below hb); replace hw1416 := hid (Nat.le_trans hw1416.out hb.size); replace hBv := hid (hBv.out.below hb); replace hBest := hid (hBest.out.below hb); clear hb)
                    | (go_at_call 30; with_reducible refine (H30a.out _ hbc.out).mono ?_; rintro e w28 ⟨rfl, hb⟩; replace hbc := hid (below_via hb hbc.out); clear lm cm lx cx; have lm := (cells_of (hkeep hT0.out.k.m hbc.out)).1; have cm := (cells_of (hkeep hT0.out.k.m hbc.out)).2; have lx := (cells_of (hkeep hT0.out.x hbc.out)).1; have cx := (cells_of (hkeep hT0.out.x hbc.out)).2; replace hb20 := hid (below_via hb hb20.out); replace hA := hid (hA.out.below hb); replace hw1416 := hid (Nat.le_trans hw1416.out hb.size); replace hBv := hid (hBv.out.below hb); replace hBest := hid (hBest.out.below hb); clear hb)
                    | (go_at_call 30; with_reducible refine (H30b.out _ hbc.out).mono ?_; rintro e w28 ⟨rfl, hb⟩; replace hbc := hid (below_via hb hbc.out); clear lm cm lx cx; have lm := (cells_of (hkeep hT0.out.k.m hbc.out)).1; have cm := (cells_of (hkeep hT0.out.k.m hbc.out)).2; have lx := (cells_of (hkeep hT0.out.x hbc.out)).1; have cx := (cells_of (hkeep hT0.out.x hbc.out)).2; replace hb20 := hid (below_via hb hb20.out); replace hA := hid (hA.out.below hb); replace hw1416 := hid (Nat.le_trans hw1416.out hb.size); replace hBv := hid (hBv.out.below hb); replace hBest := hid (hBest.out.below hb)); clear hb)
                  have hAw := hid (show spanK.at w28 va sp from hA.out.at)
                  have hBw := hid (show spanK.at w28 vb sp from hBv.out.at)
                  have H24 := hid (show Calls Try.prog 24 #[va, vb] w28 fun e w' => e = .returned (.bool true) ∧ Below w28.heap.size w28 w' from by
                    have := spans_any va vb sp sp hspl w28 hAw.out hBw.out
                    rwa [beq_self_eq_true] at this)
                  have c44a := refSize_any D hD
                  have c44b := refSize_any D' hD'
                  rw [hds.out] at c44b
                  obtain ⟨zz, hzz⟩ : ∃ z, sizeN 6 D = z := ⟨_, rfl⟩
                  rw [hzz] at c44a c44b
                  replace c44a := hid c44a
                  replace c44b := hid c44b
                  clear hzz
                  have hga : va = .slice none 0 0 ∨ ∃ g cap, va = .slice (some ⟨g, 0, none⟩) sp.length cap ∧ g < w14.heap.size := by
                    rcases hA14.out.form with ⟨h, _⟩ | ⟨g, cap, h, _, h2⟩
                    · exact .inl h
                    · exact .inr ⟨g, cap, h, h2⟩
                  replace hga := hid hga
                  have hw1 : IntKind.i64.wrap ((M.jobs.length : Int) - 1) = (M.jobs.length : Int) - 1 := IntWalk.i64_in _ (by omega)
                  have hw2 : IntKind.i64.wrap ((M.jobs.length : Int) - 1 - h1) = (M.jobs.length : Int) - 1 - h1 := IntWalk.i64_in _ (by omega)
                  clear lm cm lx cx
                  go_cut [336] from 244 to 336 (fun v wx => v = .bool false ∧ Hid (Below w28.heap.size w28 wx))
                  case first =>
                    have f5 : decide ((D : Int) < 0) = false := by simp
                    have f6 : decide ((D' : Int) < 0) = false := by simp
                    clear hga hbc hA hBv hBest hb20 hbc20 hA20 hB20 hAw hBw H14b H16a H16b H18a H18b H20a H20b H26a H14a H26b H28a H28b H30a H30b SX JX S0 J0 ho0 hT0 hl0 hc1 hc2 hA14 hpl hq' hol htf hS' hJ' hB' hN' hNs' HF hM' hv'
                    rcases hk3 with rfl | rfl
                    · have hcc := hk4.out rfl
                      have hcn : (c1 != (M.jobs.length : Int) - 1 - h1) = false := by rw [bne_eq_false_iff_eq]; exact hcc
                      clear hcc
                      dsimp only [List.append]
                      go_wp2_with (first
                        | (go_at_call 24; with_reducible refine H24.out.mono ?_; rintro e w29 ⟨rfl, hb29⟩)
                        | (go_at_call 44; with_reducible refine (c44a.out _).mono ?_; rintro e w30 ⟨rfl, rfl⟩)
                        | (go_at_call 44; with_reducible refine (c44b.out _).mono ?_; rintro e w30 ⟨rfl, rfl⟩))
                      go_meet
                      exact ⟨rfl, hid hb29⟩
                    · dsimp only [List.append]
                      go_wp2_with (first
                        | (go_at_call 24; with_reducible refine H24.out.mono ?_; rintro e w29 ⟨rfl, hb29⟩)
                        | (go_at_call 44; with_reducible refine (c44a.out _).mono ?_; rintro e w30 ⟨rfl, rfl⟩)
                        | (go_at_call 44; with_reducible refine (c44b.out _).mono ?_; rintro e w30 ⟨rfl, rfl⟩))
                      go_meet
                      exact ⟨rfl, hid hb29⟩
                  case rest =>
                    obtain ⟨rfl, hb29⟩ := hcut
                    replace hb20 := hid (below_via hb29.out hb20.out)
                    replace hBest := hid (hBest.out.below hb29.out)
                    clear hb29 H24 c44a c44b hw1 hw2 hk3 hk4 hk5 hk6 hAw hBw H14b H16a H16b H18a H18b H20a H20b H26b H28a H28b H30a H30b hA hBv hds hbc SX JX ho0
                    obtain ⟨ba, bcap, hbv, hbv2⟩ := hBest.out.at
                    subst hbv
                    have hbnil : NilOk (.slice ba (ints b2).length bcap) := by
                      intro n cap e
                      rcases hBest.out with ⟨h1, h2⟩ | ⟨g, _, h2, _⟩
                      · rw [e] at h2; cases h2; exact ⟨rfl, rfl⟩
                      · rw [e] at h2; cases h2
                    replace hbnil := hid hbnil
                    have hBat := hid hBest.out.at
                    have hbll : (ints b2).length = b2.length := by simp
                    have h14c := hid (Nat.le_trans hw14.out (Nat.le_trans hb20.out.size (Nat.le_refl wc.heap.size)))
                    have hbz := below_alloc (Below.refl _ wc) (.cells #[] 3)
                    have hat2 := hid ((hBest.out.below hbz).at)
                    have hmade := hid (intK.own_made (w := wc) (B := wc.heap.size) (Nat.le_refl _))
                    have hsz2 : wc.heap.size ≤ (wc.alloc (.cells #[] 3)).heap.size := hbz.size
                    have hbl2 : ([] : List Int).length + (ints b2).length ≤ 1000 := by rw [List.length_nil]; omega
                    rw [hbll] at hbnil hat2 ⊢
                    have hb20z := hid (below_via hbz hb20.out)
                    have hBestz := hid (hBest.out.below hbz)
                    have hgx := hid (show ∀ gb, (wc.alloc (.cells #[] 3)).heap[gb]? = some (.cells (intsV (ints b2)) 3 (0, 0)) → ba = some ⟨gb, 0, none⟩ → gb < wc.heap.size from by
                      intro gb _ e
                      rcases hBest.out with ⟨_, h2⟩ | ⟨g, _, h2, h3⟩
                      · rw [e] at h2; cases h2
                      · rw [e] at h2
                        injection h2 with h2
                        injection h2 with h2
                        injection h2 with h2
                        subst h2
                        exact heap_lt h3)
                    clear hbz
                    rw [hbll] at hBestz
                    go_upto_region 50 with (at_builtin; refine wpList_append_arg intK rfl _ _ rfl wc.heap.size (.slice (some ⟨wc.heap.size, 0, none⟩) 0 0) [] (ints b2) rfl hmade.out (.slice ba b2.length bcap) rfl (ints_at.1 hat2.out) hbnil.out hbl2 hsz2 ?_; intro ow w50 hown hb50; replace hown := hid hown; have hb50' := below_low hb50 (below_alloc (Below.refl _ wc) _) (Nat.le_refl _))
                    replace hb20 := hid (below_via hb50' hb20.out)
                    replace hBest := hid (show ∃ xs' : List Int, xs'.length = b2.length ∧ NewList w16.heap.size w50 (.slice ba b2.length bcap) xs' from ⟨ints b2, hbll, by have := hBest.out.below hb50'; rwa [hbll] at this⟩)
                    have hgbs := hid (show ∀ gb, ba = some ⟨gb, 0, none⟩ → gb < wc.heap.size from by
                      intro gb e
                      rcases hBestz.out with ⟨_, h2⟩ | ⟨g, _, h2, h3⟩
                      · rw [e] at h2; cases h2
                      · have h2' := h2
                        rw [e] at h2
                        injection h2 with h2
                        injection h2 with h2
                        injection h2 with h2
                        subst h2
                        exact hgx.out gb h3 e)
                    clear hgx hb50 hb50' hat2 hmade hsz2 hbl2 hb20z hBestz hBat hbnil
                    replace hown := hid (show intK.own wc.heap.size w50 ow (ints b2) from by simpa using hown.out)
                    go_wp2
                    go_loopw [342] (fun ix wr => ∃ k : Nat, k ≤ b2.length ∧ ix = .int .i64 k ∧ Hid (∃ xs' : List Int, xs'.length = b2.length ∧ NewList w16.heap.size wr (.slice ba b2.length bcap) xs') ∧ Hid (Below w16.heap.size w16 wr) ∧ Hid (intK.own wc.heap.size wr ow (ints b2))) (fun ix _ => b2.length - (intOf ix).toNat)
                    case atStart => exact ⟨0, by omega, rfl, hBest, hb20, hown⟩
                    case round =>
                      obtain ⟨k, hkk, rfl, hBest, hb20, hown⟩ := hrel
                      by_cases hlt : k < b2.length
                      · have hki : (k : Int) < (b2.length : Int) := by omega
                        obtain ⟨xs', hxl, hnew⟩ := hBest.out
                        rcases hnew with ⟨rfl, _⟩ | ⟨gb, hgb, hbe, hbc⟩
                        · simp at hxl; omega
                        · injection hbe with hba hbn hbcp
                          subst hba
                          have hgw := hid (hgbs.out gb rfl)
                          have lg := (cells_of hbc).1
                          have zg := free_of hbc
                          have cg : wr.cell? ⟨gb, k, none⟩ = some (.int .i64 (xs'.getD k 0)) := by
                            rw [(cells_of hbc).2]
                            simp [intsV, hxl, hlt]
                          have hnew2 := hid (show ∃ xs2 : List Int, xs2.length = b2.length ∧ NewList w16.heap.size (wr.setCell ⟨gb, k, none⟩ (.int .i64 (-9))) (.slice (some ⟨gb, 0, none⟩) b2.length bcap) xs2 from by
                            refine ⟨xs'.set k (-9), by rw [List.length_set]; exact hxl, .inr ⟨gb, hgb, by rw [List.length_set, hxl, hbcp, hxl], ?_⟩⟩
                            have := heap_set_at (o := k) (v := .int .i64 (-9)) hbc
                            rw [this]
                            congr 2
                            simp [intsV, List.map_set])
                          have hb2' := hid (below_set hb20.out (p := ⟨gb, k, none⟩) (.int .i64 (-9)) (by simp only; omega))
                          have hown2 := hid (hown.out.set (b := gb) (o := k) (u := .int .i64 (-9)) hgw.out)
                          clear hbc hgb hbn hbcp hxl
                          go_wp2
                          go_roundw
                          case rel => exact ⟨k + 1, by omega, by go_num, hnew2, hb2', hown2⟩
                          case measure => simp [intOf]; omega
                      · obtain rfl : k = b2.length := by omega
                        have hAr := hid (hA20.out.below hb20.out)
                        have hBr := hid (hB20.out.below hb20.out)
                        have hbr := hid (below_via hb20.out hbc20.out)
                        clear hBest hb20 hA20 hB20 hbc20 hgbs hA14
                        obtain ⟨aa, acap, hva, _⟩ := hAr.out.at
                        subst hva
                        have hZ := hid (show TurnA w00 w14.heap.size wc.heap.size (.slice aa sp.length acap) ow vb sp (ints b2) wr from ⟨⟨sp, rfl, hAr.out⟩, hbr.out, hown.out, hBr.out⟩)
                        clear hAr hbr hown hBr
                        go_wp2
                        go_loopw [351] (fun ix wr => ∃ k : Nat, k ≤ sp.length ∧ ix = .int .i64 k ∧ Hid (TurnA w00 w14.heap.size wc.heap.size (.slice aa sp.length acap) ow vb sp (ints b2) wr)) (fun ix _ => sp.length - (intOf ix).toNat)
                        case atStart => exact ⟨0, by omega, rfl, hZ⟩
                        case round =>
                          clear hZ
                          obtain ⟨k, hkk, rfl, hZ⟩ := hrel
                          by_cases hlt : k < sp.length
                          · have hki : (k : Int) < (sp.length : Int) := by omega
                            obtain ⟨ga, gcap, -, -, e1, -⟩ := hZ.out.at hlt hga.out h14c.out (-9)
                            injection e1 with e1 e2 e3
                            subst e1
                            subst e3
                            clear e2
                            have hga' := hid hga.out
                            go_wp2_with (go_at_call 36; with_reducible refine (span_any _ _ _).mono ?_; rintro e wx ⟨rfl, hbx⟩; obtain ⟨g2, cap2, y1, y2, e1, cg0, cg1, lg, zg, hZ2⟩ := (hZ.out.below hbx).at hlt hga'.out h14c.out (-9); injection e1 with e1 e2 e3; injection e1 with e1; injection e1 with e1; subst e1; subst e3; clear e2; replace hZ2 := hid hZ2)
                            go_roundw
                            case rel => exact ⟨k + 1, by omega, by go_num, hZ2⟩
                            case measure => simp [intOf]; omega
                          · obtain rfl : k = sp.length := by omega
                            have hbz := hid hZ.out.b
                            have hvb := hid hZ.out.v
                            have how := hid hZ.out.o
                            clear hga h14c hZ
                            have lm := (cells_of (hkeep hT0.out.k.m hbz.out)).1
                            have cm := (cells_of (hkeep hT0.out.k.m hbz.out)).2
                            go_upto_region 61 with (go_at_call 26; with_reducible refine (H26a.out _ hbz.out).mono ?_; rintro e w60 ⟨bev3, rfl, hB3, hb⟩; replace hbz := hid (below_via hb hbz.out); clear lm cm; have lm := (cells_of (hkeep hT0.out.k.m hbz.out)).1; have cm := (cells_of (hkeep hT0.out.k.m hbz.out)).2; replace hvb := hid (hvb.out.below hb); replace how := hid (how.out.below hb); clear hb)
                            replace hB3 := hid hB3
                            go_upto_region 62 with (go_at_call 14; with_reducible refine (H14a.out _ hbz.out).mono ?_; rintro e w61 ⟨va3, rfl, hA3, hb⟩; replace hbz := hid (below_via hb hbz.out); clear lm cm; have lm := (cells_of (hkeep hT0.out.k.m hbz.out)).1; have cm := (cells_of (hkeep hT0.out.k.m hbz.out)).2; replace hvb := hid (hvb.out.below hb); replace how := hid (how.out.below hb); replace hB3 := hid (hB3.out.below hb); clear hb)
                            have ht1 : spanK.at w61 va3 sp := hA3.at
                            have ht2 : spanK.at w61 vb sp := hvb.out.at
                            have hi1 : IntsAt w61 bev3 (ints b2) := hB3.out.at
                            have hi2 : IntsAt w61 ow (ints b2) := ints_at.2 how.out.at
                            have H32 := hid (show Calls Try.prog 32 #[bev3, ow] w61 fun e w' => e = .returned (.bool true) ∧ Below w61.heap.size w61 w' from by
                              have := ints_any bev3 ow (ints b2) (ints b2) hbl w61 hi1 hi2
                              rwa [beq_self_eq_true] at this)
                            have H24 := hid (show ∀ W, Below w61.heap.size w61 W → Calls Try.prog 24 #[va3, vb] W fun e w' => e = .returned (.bool true) ∧ Below W.heap.size W w' from fun W hW => by
                              have := spans_any va3 vb sp sp hspl W (ht1.below hW) (ht2.below hW)
                              rwa [beq_self_eq_true] at this)
                            clear ht1 ht2 hi1 hi2 hA3 hB3 hvb how H14a H26a lm cm
                            go_cut [390] from 371 to 390 (fun v wx => v = .bool false ∧ Hid (Below w61.heap.size w61 wx))
                            case first =>
                              clear hbz hT0 hc1 hc2 S0 J0
                              go_wp2_with (first
                                | (go_at_call 32; with_reducible refine H32.out.mono ?_; rintro e w62 ⟨rfl, hb62⟩)
                                | (go_at_call 24; with_reducible refine (H24.out _ hb62).mono ?_; rintro e w63 ⟨rfl, hb63⟩))
                              go_meet
                              exact ⟨rfl, hid (below_via hb63 hb62)⟩
                            case rest =>
                              obtain ⟨rfl, hb62⟩ := hcut
                              replace hbz := hid (below_via hb62.out hbz.out)
                              clear H32 H24 hb62
                              obtain ⟨ca, ccap, hca, _⟩ := hc1.out.at
                              subst hca
                              obtain ⟨cb, cbcap, hcb, _⟩ := hc2.out.at
                              subst hcb
                              go_wp2
                              go_loopw [393] (fun ix wr => ∃ k : Nat, k ≤ M.setup.length ∧ ix = .int .i64 k ∧ Hid (Below w00.heap.size w00 wr)) (fun ix _ => M.setup.length - (intOf ix).toNat)
                              case atStart => exact ⟨0, by omega, rfl, hbz⟩
                              case round =>
                                clear hbz
                                obtain ⟨k, hkk, rfl, hbz⟩ := hrel
                                by_cases hlt : k < M.setup.length
                                · have hki : (k : Int) < (M.setup.length : Int) := by omega
                                  obtain ⟨a', c', e1, hcx⟩ := ints_at.2 (hc1.out.below hbz.out).at
                                  injection e1 with e1 e2 e3
                                  subst e1
                                  subst e3
                                  clear e2
                                  obtain ⟨gb, go, rfl, hcc⟩ := hcx (fun e => by rw [e] at hlt; simp at hlt)
                                  obtain ⟨a2, c2, e1, hcx2⟩ := S0.out _ hbz.out
                                  injection e1 with e1 e2 e3
                                  subst e1
                                  subst e3
                                  clear e2
                                  obtain ⟨hb, ho, rfl, hcc2⟩ := hcx2 (fun e => by rw [e] at hlt; simp at hlt)
                                  have hp0 := hcc k hlt
                                  have hq0 := hcc2 k hlt
                                  clear hcx hcx2 hcc hcc2
                                  obtain ⟨x, hx⟩ : ∃ x, M.setup.getD k 0 = x := ⟨_, rfl⟩
                                  rw [hx] at hp0 hq0
                                  clear hx
                                  have lp := cell_lt hp0
                                  have lq := cell_lt hq0
                                  have lm := (cells_of (hkeep hT0.out.k.m hbz.out)).1
                                  have cm := (cells_of (hkeep hT0.out.k.m hbz.out)).2
                                  go_wp2
                                  go_quiet (fail)
                                  go_wp2
                                  have hbq := hid (below_via (below_drewN (Below.refl wr.heap.size wr) nq) hbz.out)
                                  go_roundw
                                  case rel => exact ⟨k + 1, by omega, by go_num, hbq⟩
                                  case measure => simp [intOf]; omega
                                · obtain rfl : k = M.setup.length := by omega
                                  go_wp2
                                  go_loopw [409] (fun ix wr => ∃ k : Nat, k ≤ M.jobs.length ∧ ix = .int .i64 k ∧ Hid (Below w00.heap.size w00 wr)) (fun ix _ => M.jobs.length - (intOf ix).toNat)
                                  case atStart => exact ⟨0, by omega, rfl, hbz⟩
                                  case round =>
                                    clear hbz
                                    obtain ⟨k, hkk, rfl, hbz⟩ := hrel
                                    by_cases hlt : k < M.jobs.length
                                    · have hki : (k : Int) < (M.jobs.length : Int) := by omega
                                      obtain ⟨a', c', e1, hcx⟩ := jobs_at.2 (hc2.out.below hbz.out).at
                                      injection e1 with e1 e2 e3
                                      subst e1
                                      subst e3
                                      clear e2
                                      obtain ⟨gb, go, rfl, hjp⟩ := hcx (fun e => by rw [e] at hlt; simp at hlt)
                                      obtain ⟨a2, c2, e1, hcx2⟩ := J0.out _ hbz.out
                                      injection e1 with e1 e2 e3
                                      subst e1
                                      subst e3
                                      clear e2
                                      obtain ⟨hb, ho, rfl, hjq⟩ := hcx2 (fun e => by rw [e] at hlt; simp at hlt)
                                      have hp0 := hjp k hlt 0 (by decide)
                                      have hq0 := hjq k hlt 0 (by decide)
                                      have hp1 := hjp k hlt 1 (by decide)
                                      have hq1 := hjq k hlt 1 (by decide)
                                      have hp2 := hjp k hlt 2 (by decide)
                                      have hq2 := hjq k hlt 2 (by decide)
                                      have hp3 := hjp k hlt 3 (by decide)
                                      have hq3 := hjq k hlt 3 (by decide)
                                      have hp4 := hjp k hlt 4 (by decide)
                                      have hq4 := hjq k hlt 4 (by decide)
                                      have hp5 := hjp k hlt 5 (by decide)
                                      have hq5 := hjq k hlt 5 (by decide)
                                      have hp6 := hjp k hlt 6 (by decide)
                                      have hq6 := hjq k hlt 6 (by decide)
                                      have hp7 := hjp k hlt 7 (by decide)
                                      have hq7 := hjq k hlt 7 (by decide)
                                      clear hcx hcx2 hjp hjq
                                      obtain ⟨j, hj⟩ : ∃ j, M.jobs.getD k Job.none = j := ⟨_, rfl⟩
                                      rw [hj] at hp0 hp1 hp2 hp3 hp4 hp5 hp6 hp7 hq0 hq1 hq2 hq3 hq4 hq5 hq6 hq7
                                      clear hj
                                      simp only [Job.cells, List.getD_cons_zero, List.getD_cons_succ, Nat.add_zero] at hp0 hp1 hp2 hp3 hp4 hp5 hp6 hp7 hq0 hq1 hq2 hq3 hq4 hq5 hq6 hq7
                                      have lp := cell_lt hp0
                                      have lq := cell_lt hq0
                                      have lm := (cells_of (hkeep hT0.out.k.m hbz.out)).1
                                      have cm := (cells_of (hkeep hT0.out.k.m hbz.out)).2
                                      go_wp2
                                      go_quiet (fail)
                                      go_wp2
                                      have hbq := hid (below_via (below_drewN (Below.refl wr.heap.size wr) nq) hbz.out)
                                      go_roundw
                                      case rel => exact ⟨k + 1, by omega, by go_num, hbq⟩
                                      case measure => simp [intOf]; omega
                                    · obtain rfl : k = M.jobs.length := by omega
                                      go_wp2_with (go_at_call 13; with_reducible refine (awake_any _).mono ?_; rintro e w70 ⟨rfl, hb70⟩; replace hbz := hid (below_via hb70 hbz.out))
                                      go_ret
                                      exact ⟨rfl, below_via hbz.out hT0.out.k.bel⟩
end Go.Proofs.Ytcgkglonnmkfcaa
