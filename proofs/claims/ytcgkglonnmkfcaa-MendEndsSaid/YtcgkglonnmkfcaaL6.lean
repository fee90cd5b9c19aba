/- The walk of the law MendEnds. -/
import Derived.Test.YtcgkglonnmkfcaaPX
import Derived.Test.YtcgkglonnmkfcaaR6
import Derived.Test.YtcgkglonnmkfcaaR5
import Derived.Test.YtcgkglonnmkfcaaGD
namespace Go.Proofs.Ytcgkglonnmkfcaa
open Go.RowKit Go.Lap Go.Shelf

set_option maxRecDepth 100000 in
set_option maxHeartbeats 8000000 in
theorem mendEnds_any (M : Mend) (sv jv bv : Value) (bs : List Int) (w : World) (hS : IntsAt w sv M.setup) (hJ : JobsAt w jv M.jobs) (hN : NilOk jv) (hB : BytesAt w bv bs) :
    Calls Try.prog 6 #[.agg #[sv, jv], bv] w fun e w' => e = .returned (.bool true) ∧ Below w.heap.size w w' := by
  have hS' := hid hS
  have hJ' := hid hJ
  obtain ⟨sa, scap, rfl, _⟩ := hS
  obtain ⟨ja, jcap, rfl, _⟩ := hJ
  have hk1 := KeepB.start w (.slice sa M.setup.length scap) (.slice ja M.jobs.length jcap)
  go_enter Try.func6, Try.ntmps6
  go_upto_region 1 with fail
  generalize w.alloc (.cells #[.slice sa M.setup.length scap, .slice ja M.jobs.length jcap] 25) = w1 at hk1 ⊢
  have l1 := (cells_of hk1.m).1
  have c1 := (cells_of hk1.m).2
  have HF := hid (fine_any M _ _ w1 (hS'.out.below hk1.bel) (hJ'.out.below hk1.bel))
  cases hv : M.valid
  · rw [hv] at HF
    clear hv
    go_wp2_with (first
      | (go_at_call 33; with_reducible refine HF.out.mono ?_; rintro e w2 ⟨rfl, hb2⟩)
      | (go_at_call 13; with_reducible refine (awake_any _).mono ?_; rintro e w3 ⟨rfl, hb3⟩))
    go_ret
    exact ⟨rfl, below_via hb3 (hk1.below hb2).bel⟩
  · rw [hv] at HF
    have hv' := hid hv
    clear hv
    go_upto_region 3 with (go_at_call 33; with_reducible refine HF.out.mono ?_; rintro e w2 ⟨rfl, hb2⟩; have hk2 := hk1.below hb2)
    clear l1 c1 HF hk1 hb2
    have l1 := (cells_of hk2.m).1
    have c1 := (cells_of hk2.m).2
    go_upto_region 4 with (go_at_call 34; refine (made_any M hv'.out _ _ _ bs _ (hS'.out.below hk2.bel) (hJ'.out.below hk2.bel) (hB.below hk2.bel)).mono ?_; rintro e w3 ⟨v, l, rfl, hl, hown, hb3⟩; obtain ⟨la, lcap, rfl, _⟩ := hown.at; have hk3 := hk2.below hb3)
    have hli3 := ints_at.2 hown.at
    have hll := (ordB_all.1 hl).2
    rw [hll] at hli3 ⊢
    have hlen6 := (Mend.valid_ok hv'.out).len
    have hli' := hid hli3
    have hll' := hid hll
    have hl' := hid hl
    clear l1 c1 hk2 hb3 hown hl hll hB hli3
    go_cut [6, 7] from 38 to 41 (fun p q wx => ∃ b1 b2 a1 a2 c1 c2, p = .pointer (some ⟨b1, 0, none⟩) ∧ q = .pointer (some ⟨b2, 0, none⟩) ∧ Hid (KeepX w (.slice sa M.setup.length scap) (.slice ja M.jobs.length jcap) (.slice la M.jobs.length lcap) l b1 b2 (.slice a1 M.jobs.length c1) (.slice a2 M.jobs.length c2) (M.exact false).jobs (M.exact true).jobs wx))
    case first =>
      as_aux_lemma =>
        rename_i J0 K0 hJ0 hK0
        have hcf : ∀ args w, (callFunc 35 args).run Try.prog w = .ok (.enter 35 args) w := fun _ _ => by go_simp
        have hk_0 : KeepB w (.slice sa M.setup.length scap) (.slice ja M.jobs.length jcap) w3.drew := hk3.drew
        refine wp_region_inv (fun d vals W => (d 0 = true → vals 0 = .agg #[.slice sa M.setup.length scap, .slice ja M.jobs.length jcap]) ∧ (d 2 = true → vals 2 = .agg #[.slice sa M.setup.length scap, .slice ja M.jobs.length jcap]) ∧ TwoJ w w3 (.slice sa M.setup.length scap) (.slice ja M.jobs.length jcap) M.jobs.length (M.exact false).jobs (M.exact true).jobs 1 3 4 5 6 7 d vals W) (by kernel_rfl) (by kernel_rfl) (by kernel_rfl) ⟨(by simp), (by simp), TwoJ.start hk_0⟩ ?_ ?_
        · rintro i o d vals a W ho hd hdep hev hold ⟨q0, q2, hT⟩
          have hi := (Array.getElem?_eq_some_iff.1 ho).1
          rcases i with _ | _ | _ | _ | _ | _ | _ | _ | i
          · obtain rfl := Option.some.inj ho
            exact (yields_load25 (S := fun W' => KeepB w (.slice sa M.setup.length scap) (.slice ja M.jobs.length jcap) W') ((hold 2 (by kernel_rfl)).trans rfl) (fun W h => h.m)).wpOp rfl hT.k ⟨_, rfl, ownF, keepF q2 (by decide), hT.pure (by decide)⟩
          · obtain rfl := Option.some.inj ho
            refine wpOp_of rfl rfl (op_call2 hcf ((hev 0 38 rfl (hdep { on := 0, ground := Ground.data } (by simp) rfl)).trans (q0 (hdep { on := 0, ground := Ground.data } (by simp) rfl))) rfl (exact_any M false hlen6 _ _ _ (hS'.out.below hT.k.bel) (hJ'.out.below hT.k.bel) hN) ?_)
            rintro e W' ⟨a1, k1, rfl, ho1, hb1⟩
            exact ⟨_, rfl, _, rfl, keepF q0 (by decide), keepF q2 (by decide), hT.call (by decide : [1, 3, 4, 5, 6, 7].Nodup) hd hb1 (jobs_at.2 ho1.at)⟩
          · obtain rfl := Option.some.inj ho
            exact (yields_load25 (S := fun W' => KeepB w (.slice sa M.setup.length scap) (.slice ja M.jobs.length jcap) W') ((hold 2 (by kernel_rfl)).trans rfl) (fun W h => h.m)).wpOp rfl hT.k ⟨_, rfl, keepF q0 (by decide), ownF, hT.pure (by decide)⟩
          · obtain rfl := Option.some.inj ho
            refine wpOp_of rfl rfl (op_call2 hcf ((hev 2 40 rfl (hdep { on := 2, ground := Ground.data } (by simp) rfl)).trans (q2 (hdep { on := 2, ground := Ground.data } (by simp) rfl))) rfl (exact_any M true hlen6 _ _ _ (hS'.out.below hT.k.bel) (hJ'.out.below hT.k.bel) hN) ?_)
            rintro e W' ⟨a1, k1, rfl, ho1, hb1⟩
            exact ⟨_, rfl, _, rfl, keepF q0 (by decide), keepF q2 (by decide), (hT.swap.call (by decide : [3, 1, 5, 4, 7, 6].Nodup) hd hb1 (jobs_at.2 ho1.at)).swap⟩
          · obtain rfl := Option.some.inj ho
            exact wpOp_of rfl rfl (op_box ⟨_, rfl, keepF q0 (by decide), keepF q2 (by decide), hT.box (by decide : [1, 3, 4, 5, 6, 7].Nodup) hd⟩)
          · obtain rfl := Option.some.inj ho
            exact wpOp_of rfl rfl (op_box ⟨_, rfl, keepF q0 (by decide), keepF q2 (by decide), (hT.swap.box (by decide : [3, 1, 5, 4, 7, 6].Nodup) hd).swap⟩)
          · obtain rfl := Option.some.inj ho
            have dc : d 1 = true := hdep { on := 1, ground := Ground.data } (by simp) rfl
            have dx : d 4 = true := hdep { on := 4, ground := Ground.data } (by simp) rfl
            obtain ⟨a1, k1, h1, _⟩ := hT.r1 dc
            obtain ⟨b, p, q, h2, _, hb, _⟩ := hT.b1 dx
            refine wpOp_of rfl rfl (op_put25 ((hev 4 _ rfl dx).trans h2) ((hev 1 _ rfl dc).trans h1) hb.1 ⟨undef, rfl, keepF q0 (by decide), keepF q2 (by decide), hT.store (by decide : [1, 3, 4, 5, 6, 7].Nodup) hd dc dx (heap_lt hk3.m) h1 h2⟩)
          · obtain rfl := Option.some.inj ho
            have dc : d 3 = true := hdep { on := 3, ground := Ground.data } (by simp) rfl
            have dx : d 5 = true := hdep { on := 5, ground := Ground.data } (by simp) rfl
            obtain ⟨a1, k1, h1, _⟩ := hT.swap.r1 dc
            obtain ⟨b, p, q, h2, _, hb, _⟩ := hT.swap.b1 dx
            refine wpOp_of rfl rfl (op_put25 ((hev 5 _ rfl dx).trans h2) ((hev 3 _ rfl dc).trans h1) hb.1 ⟨undef, rfl, keepF q0 (by decide), keepF q2 (by decide), (hT.swap.store (by decide : [3, 1, 5, 4, 7, 6].Nodup) hd dc dx (heap_lt hk3.m) h1 h2).swap⟩)
          · simp at hi
            omega
        · rintro d vals W hall ⟨q0, q2, hT⟩
          have hdn : ∀ i, i < 8 → d i = true := fun i hi => hall i (by simpa using hi)
          have q0' := q0 (hdn 0 (by decide))
          have q2' := q2 (hdn 2 (by decide))
          obtain ⟨b1, b2, a1, a2, k1, k2, v1, v2, v3, v4, v5, v6, v7, v8⟩ := hT.fin (by intro i hi; simp only [List.mem_cons, List.not_mem_nil, or_false] at hi; rcases hi with rfl | rfl | rfl | rfl | rfl | rfl <;> exact hdn _ (by decide))
          have hbel := hT.bel
          have hkT := hT.k
          have hliT := hli'.out.below hbel
          clear hT hall
          change Exit.then _ _ Exit.normal (Act.put (Act.put (Act.put (Act.put (Act.put (Act.put _ (some 38) (vals 0)) (some 39) (vals 1)) (some 40) (vals 2)) (some 41) (vals 3)) (some 6) (vals 4)) (some 7) (vals 5)) W
          rw [q0', q2', v1, v2, v3, v4]
          simp only [Act.put, List.setIfInBounds_toArray, List.set_cons_zero, List.set_cons_succ]
          have r' := hid (KeepX.mk (lv := .slice la M.jobs.length lcap) (l := l) hkT v5 v6 v7 v8 hliT)
          clear v1 v2 v3 v4 v5 v6 v7 v8 hbel q0 q2 q0' q2' hkT hliT
          refine hK0 _ _ ?_
          go_meet
          exact ⟨b1, b2, a1, a2, k1, k2, rfl, rfl, r'⟩
    case rest =>
      obtain ⟨b1, b2, a1, a2, c1, c2, rfl, rfl, hx⟩ := hcut
      have hx := hx.out
      have lm := (cells_of hx.k.m).1; have cm := (cells_of hx.k.m).2; have lx1 := (cells_of hx.x1).1; have cx1 := (cells_of hx.x1).2; have lx2 := (cells_of hx.x2).1; have cx2 := (cells_of hx.x2).2
      obtain ⟨e1, e2, e3, e4, e5, e6, HR, e7, e8, e9, e10, e11, e12, e13, e14⟩ := ends_law hv'.out hl'.out
      have HT1 := hid (fun W (h : KeepX w (.slice sa M.setup.length scap) (.slice ja M.jobs.length jcap) (.slice la M.jobs.length lcap) l b1 b2 (.slice a1 M.jobs.length c1) (.slice a2 M.jobs.length c2) (M.exact false).jobs (M.exact true).jobs W) => Times_any M (.slice sa M.setup.length scap) _ (.slice la M.jobs.length lcap) l (by rw [hll'.out]; omega) W (hS'.out.below h.k.bel) (hJ'.out.below h.k.bel) h.li)
      have HT2 := hid (fun W (h : KeepX w (.slice sa M.setup.length scap) (.slice ja M.jobs.length jcap) (.slice la M.jobs.length lcap) l b1 b2 (.slice a1 M.jobs.length c1) (.slice a2 M.jobs.length c2) (M.exact false).jobs (M.exact true).jobs W) => Times_any (M.exact false) (.slice sa M.setup.length scap) _ (.slice la M.jobs.length lcap) l (by rw [hll'.out]; omega) W (hS'.out.below h.k.bel) h.j1 h.li)
      have HT3 := hid (fun W (h : KeepX w (.slice sa M.setup.length scap) (.slice ja M.jobs.length jcap) (.slice la M.jobs.length lcap) l b1 b2 (.slice a1 M.jobs.length c1) (.slice a2 M.jobs.length c2) (M.exact false).jobs (M.exact true).jobs W) => Times_any (M.exact true) (.slice sa M.setup.length scap) _ (.slice la M.jobs.length lcap) l (by rw [hll'.out]; omega) W (hS'.out.below h.k.bel) h.j2 h.li)
      rw [e1] at HT1
      rw [e2] at HT2
      rw [e3] at HT3
      have HC1 := hid (fun W (h : KeepX w (.slice sa M.setup.length scap) (.slice ja M.jobs.length jcap) (.slice la M.jobs.length lcap) l b1 b2 (.slice a1 M.jobs.length c1) (.slice a2 M.jobs.length c2) (M.exact false).jobs (M.exact true).jobs W) => Count_any M (.slice sa M.setup.length scap) _ W (hS'.out.below h.k.bel) (hJ'.out.below h.k.bel))
      have HC2 := hid (fun W (h : KeepX w (.slice sa M.setup.length scap) (.slice ja M.jobs.length jcap) (.slice la M.jobs.length lcap) l b1 b2 (.slice a1 M.jobs.length c1) (.slice a2 M.jobs.length c2) (M.exact false).jobs (M.exact true).jobs W) => Count_any (M.exact false) (.slice sa M.setup.length scap) _ W (hS'.out.below h.k.bel) h.j1)
      have HC3 := hid (fun W (h : KeepX w (.slice sa M.setup.length scap) (.slice ja M.jobs.length jcap) (.slice la M.jobs.length lcap) l b1 b2 (.slice a1 M.jobs.length c1) (.slice a2 M.jobs.length c2) (M.exact false).jobs (M.exact true).jobs W) => Count_any (M.exact true) (.slice sa M.setup.length scap) _ W (hS'.out.below h.k.bel) h.j2)
      rw [e8] at HC1
      rw [e9] at HC2
      rw [e7, e8] at HC3
      have HB1 := hid (fun W (h : KeepX w (.slice sa M.setup.length scap) (.slice ja M.jobs.length jcap) (.slice la M.jobs.length lcap) l b1 b2 (.slice a1 M.jobs.length c1) (.slice a2 M.jobs.length c2) (M.exact false).jobs (M.exact true).jobs W) => Best_any M (.slice sa M.setup.length scap) _ W (hS'.out.below h.k.bel) (hJ'.out.below h.k.bel))
      have HB3 := hid (fun W (h : KeepX w (.slice sa M.setup.length scap) (.slice ja M.jobs.length jcap) (.slice la M.jobs.length lcap) l b1 b2 (.slice a1 M.jobs.length c1) (.slice a2 M.jobs.length c2) (M.exact false).jobs (M.exact true).jobs W) => Best_any (M.exact true) (.slice sa M.setup.length scap) _ W (hS'.out.below h.k.bel) h.j2)
      rw [e11] at HB3
      have HU1 := hid (fun W (h : KeepX w (.slice sa M.setup.length scap) (.slice ja M.jobs.length jcap) (.slice la M.jobs.length lcap) l b1 b2 (.slice a1 M.jobs.length c1) (.slice a2 M.jobs.length c2) (M.exact false).jobs (M.exact true).jobs W) => Until_any M (.slice sa M.setup.length scap) _ W (hS'.out.below h.k.bel) (hJ'.out.below h.k.bel))
      have HU3 := hid (fun W (h : KeepX w (.slice sa M.setup.length scap) (.slice ja M.jobs.length jcap) (.slice la M.jobs.length lcap) l b1 b2 (.slice a1 M.jobs.length c1) (.slice a2 M.jobs.length c2) (M.exact false).jobs (M.exact true).jobs W) => Until_any (M.exact true) (.slice sa M.setup.length scap) _ W (hS'.out.below h.k.bel) h.j2)
      rw [e12] at HU3
      have HR1 := hid (fun W (h : KeepX w (.slice sa M.setup.length scap) (.slice ja M.jobs.length jcap) (.slice la M.jobs.length lcap) l b1 b2 (.slice a1 M.jobs.length c1) (.slice a2 M.jobs.length c2) (M.exact false).jobs (M.exact true).jobs W) => lawRight_any M (.slice sa M.setup.length scap) _ (.slice la M.jobs.length lcap) l (by rw [hll'.out]; omega) W (hS'.out.below h.k.bel) (hJ'.out.below h.k.bel) h.li)
      have HR2 := hid (fun W (h : KeepX w (.slice sa M.setup.length scap) (.slice ja M.jobs.length jcap) (.slice la M.jobs.length lcap) l b1 b2 (.slice a1 M.jobs.length c1) (.slice a2 M.jobs.length c2) (M.exact false).jobs (M.exact true).jobs W) => lawRight_any (M.exact false) (.slice sa M.setup.length scap) _ (.slice la M.jobs.length lcap) l (by rw [hll'.out]; omega) W (hS'.out.below h.k.bel) h.j1 h.li)
      have HR3 := hid (fun W (h : KeepX w (.slice sa M.setup.length scap) (.slice ja M.jobs.length jcap) (.slice la M.jobs.length lcap) l b1 b2 (.slice a1 M.jobs.length c1) (.slice a2 M.jobs.length c2) (M.exact false).jobs (M.exact true).jobs W) => lawRight_any (M.exact true) (.slice sa M.setup.length scap) _ (.slice la M.jobs.length lcap) l (by rw [hll'.out]; omega) W (hS'.out.below h.k.bel) h.j2 h.li)
      rw [e13] at HR3
      have HR' := hid HR
      have e4' := hid e4
      have e5' := hid e5
      have e6' := hid e6
      have e14' := hid e14
      clear e1 e2 e3 e4 e5 e6 e7 e8 e9 e11 e12 e13 e14 HR
      obtain ⟨cn, hcn⟩ : ∃ z, (countOf M).1 = z := ⟨_, rfl⟩
      obtain ⟨cl, hcl⟩ : ∃ z, (countOf (M.exact false)).1 = z := ⟨_, rfl⟩
      rw [hcn] at HC1 HC3 e10
      rw [hcl] at HC2 e10
      clear hcn hcl
      go_upto_region 6 with (go_at_call 14; (refine (HT1.out _ hx).mono ?_; rintro e w5 ⟨tv, rfl, hto, hb5⟩; obtain ⟨ta, tcap, rfl, _⟩ := hto.at; have hx := hx.below hb5; have lm := (cells_of hx.k.m).1; have cm := (cells_of hx.k.m).2; have lx1 := (cells_of hx.x1).1; have cx1 := (cells_of hx.x1).2; have lx2 := (cells_of hx.x2).1; have cx2 := (cells_of hx.x2).2))
      have hta := hid hto.at
      rw [e4'.out] at hta ⊢
      clear hto HT1
      go_upto_region 7 with (go_at_call 14; (refine (HT2.out _ hx).mono ?_; rintro e w6 ⟨tv, rfl, hto, hb6⟩; obtain ⟨tb, tbcap, rfl, _⟩ := hto.at; have hx := hx.below hb6; have hta := hid (hta.out.below hb6); have lm := (cells_of hx.k.m).1; have cm := (cells_of hx.k.m).2; have lx1 := (cells_of hx.x1).1; have cx1 := (cells_of hx.x1).2; have lx2 := (cells_of hx.x2).1; have cx2 := (cells_of hx.x2).2))
      have htb := hid hto.at
      rw [e5'.out] at htb ⊢
      clear hto HT2
      go_upto_region 8 with (go_at_call 14; (refine (HT3.out _ hx).mono ?_; rintro e w7 ⟨tv, rfl, hto, hb7⟩; obtain ⟨tc, tccap, rfl, _⟩ := hto.at; have hx := hx.below hb7; have hta := hid (hta.out.below hb7); have htb := hid (htb.out.below hb7); have lm := (cells_of hx.k.m).1; have cm := (cells_of hx.k.m).2; have lx1 := (cells_of hx.x1).1; have cx1 := (cells_of hx.x1).2; have lx2 := (cells_of hx.x2).1; have cx2 := (cells_of hx.x2).2))
      have htc := hid hto.at
      rw [e6'.out] at htc ⊢
      clear hto HT3
      go_wp2
      have hxb := hid hx
      have hta' := hid hta.out
      have htb' := hid htb.out
      have htc' := hid htc.out
      clear hta htb htc hx
      clear lm cm lx1 cx1 lx2 cx2
      go_loopw [4, 14, 93] (fun _ _ i wr => ∃ k : Nat, k ≤ M.jobs.length ∧ i = .int .i64 k ∧ Below w7.heap.size w7 wr) (fun _ _ i _ => M.jobs.length - (intOf i).toNat)
      case atStart => exact ⟨0, by omega, rfl, Below.refl _ _⟩
      case round =>
        obtain ⟨k, hkk, rfl, hbr⟩ := hrel
        have hbr' := hid hbr
        by_cases hlt : k < M.jobs.length
        · have hki : (k : Int) < (M.jobs.length : Int) := by omega
          obtain ⟨a, b, ga, gb, gc, gp⟩ := HR'.out k hlt
          obtain ⟨ba, oa, ca, ea, lA, pA⟩ := spans_some (hta'.out.below hbr) (fun e => by have := e4'.out; rw [e] at this; simp at this; omega)
          injection ea with ea z2 z3
          subst ea
          clear z2 z3
          obtain ⟨bb, ob, cb, eb, lB, pB⟩ := spans_some (htb'.out.below hbr) (fun e => by have := e5'.out; rw [e] at this; simp at this; omega)
          injection eb with eb z2 z3
          subst eb
          clear z2 z3
          obtain ⟨bc, oc, cc, ec, lC, pC⟩ := spans_some (htc'.out.below hbr) (fun e => by have := e6'.out; rw [e] at this; simp at this; omega)
          injection ec with ec z2 z3
          subst ec
          clear z2 z3
          obtain ⟨pa0, pa1⟩ := pA k (by rw [e4'.out]; exact hlt)
          obtain ⟨pb0, pb1⟩ := pB k (by rw [e5'.out]; exact hlt)
          obtain ⟨pc0, pc1⟩ := pC k (by rw [e6'.out]; exact hlt)
          rw [ga] at pa0 pa1
          rw [gb] at pb0 pb1
          rw [gc] at pc0 pc1
          simp only at pa0 pa1 pb0 pb1 pc0 pc1
          have hq1 : ∀ w, (binOp .neq 46 (.agg #[.int .i64 a, .int .i64 a]) (.agg #[.int .i64 a, .int .i64 a])).run Try.prog w = .ok (.bool false) w := fun w => by rw [neq_span]; simp
          have hq2 : ∀ w, (binOp .neq 46 (.agg #[.int .i64 b, .int .i64 b]) (.agg #[.int .i64 b, .int .i64 b])).run Try.prog w = .ok (.bool false) w := fun w => by rw [neq_span]; simp
          have pA' := hid pA
          clear ga gb gc pB pC hbr pA
          by_cases h0 : k = 0
          · have hk7 : ¬ 0 < k := by omega
            as_aux_lemma =>
              have hk0 := hid h0
              clear gp pA' h0
              go_wp2
              refine wp_region_later (by kernel_rfl) (by kernel_rfl) ?_
              intro hx
              dsimp only [List.append]
              repeat (go_big_quiet_step ((go_at_call 36; exact Calls.later (span_any _ _ _))))
              refine wpQuiet_nil ?_
              rintro w8 ⟨x, hxw⟩
              have hb8 := x.below
              rw [← hxw] at hb8
              clear hx hxw x
              go_wp2
              go_roundw
              case rel => exact ⟨k + 1, by omega, by go_num, below_via hb8 hbr'.out⟩
              case measure => simp [intOf]; omega
          · obtain ⟨a', b', gp, g1, g2⟩ := gp (by omega)
            as_aux_lemma =>
              obtain ⟨pp0, pp1⟩ := pA'.out (k - 1) (by rw [e4'.out]; omega)
              rw [gp] at pp0 pp1
              simp only at pp0 pp1
              clear gp pA'
              have hk1 : IntKind.i64.wrap ((k : Int) - 1) = (k : Int) - 1 := IntWalk.i64_in _ (by omega)
              have hk2 : (0 : Int) ≤ (k : Int) - 1 := by omega
              have hk3 : (k : Int) - 1 < (M.jobs.length : Int) := by omega
              have hk4 : ((k : Int) - 1).toNat = k - 1 := by omega
              have hk5 : decide ((0 : Int) < (k : Int)) = true := decide_eq_true (by omega)
              have hd1 : decide (a ≤ a') = false := decide_eq_false (by omega)
              have hd2 : decide (b ≤ b') = false := decide_eq_false (by omega)
              have hk6 : 1 ≤ (k : Int) := by omega
              have hk7 : 0 < k := by omega
              go_wp2
              refine wp_region_later (by kernel_rfl) (by kernel_rfl) ?_
              intro hx
              dsimp only [List.append]
              repeat (go_big_quiet_step ((go_at_call 36; exact Calls.later (span_any _ _ _))))
              refine wpQuiet_nil ?_
              rintro w8 ⟨x, hxw⟩
              have hb8 := x.below
              rw [← hxw] at hb8
              clear hx hxw x
              go_wp2
              go_roundw
              case rel => exact ⟨k + 1, by omega, by go_num, below_via hb8 hbr'.out⟩
              case measure => simp [intOf]; omega
        · obtain rfl : k = M.jobs.length := by omega
          have hx := hxb.out.below hbr
          have lm := (cells_of hx.k.m).1; have cm := (cells_of hx.k.m).2; have lx1 := (cells_of hx.x1).1; have cx1 := (cells_of hx.x1).2; have lx2 := (cells_of hx.x2).1; have cx2 := (cells_of hx.x2).2
          have hbl := best_len hv'.out
          have hbl' : (ints (bestOf M).2.1).length ≤ 1000 := by simp only [List.length_map]; omega
          have hII := hid (fun W v1 v2 (h1 : IntsAt W v1 (ints (bestOf M).2.1)) (h2 : IntsAt W v2 (ints (bestOf M).2.1)) => ints_any v1 v2 _ _ hbl' W h1 h2)
          have hbb : (ints (bestOf M).2.1 == ints (bestOf M).2.1) = true := by simp
          rw [hbb] at hII
          clear hbb hbl hbl' hbr hta' htb' htc' HR' hxb
          generalize hbz : bestOf M = bz at HB1 HB3 hII
          obtain ⟨bz1, bz2, bz3⟩ := bz
          generalize hbu : untilOf M = uz at HU1 HU3
          obtain ⟨uz1, uz2⟩ := uz
          clear hbz hbu
          simp only at HB1 HB3 hII HU1 HU3
          go_upto_region 22 with (first
            | (go_at_call 20; with_reducible refine (HC1.out _ hx).mono ?_; rintro e w8 ⟨rfl, hb8⟩; have hx := hx.below hb8; (try (have hL1 := hid (hL1.out.below hb8))); (try (have hL2 := hid (hL2.out.below hb8))); have lm := (cells_of hx.k.m).1; have cm := (cells_of hx.k.m).2; have lx1 := (cells_of hx.x1).1; have cx1 := (cells_of hx.x1).2; have lx2 := (cells_of hx.x2).1; have cx2 := (cells_of hx.x2).2)
            | (go_at_call 20; with_reducible refine (HC2.out _ hx).mono ?_; rintro e w8 ⟨rfl, hb8⟩; have hx := hx.below hb8; (try (have hL1 := hid (hL1.out.below hb8))); (try (have hL2 := hid (hL2.out.below hb8))); have lm := (cells_of hx.k.m).1; have cm := (cells_of hx.k.m).2; have lx1 := (cells_of hx.x1).1; have cx1 := (cells_of hx.x1).2; have lx2 := (cells_of hx.x2).1; have cx2 := (cells_of hx.x2).2)
            | (go_at_call 20; with_reducible refine (HC3.out _ hx).mono ?_; rintro e w8 ⟨rfl, hb8⟩; have hx := hx.below hb8; (try (have hL1 := hid (hL1.out.below hb8))); (try (have hL2 := hid (hL2.out.below hb8))); have lm := (cells_of hx.k.m).1; have cm := (cells_of hx.k.m).2; have lx1 := (cells_of hx.x1).1; have cx1 := (cells_of hx.x1).2; have lx2 := (cells_of hx.x2).1; have cx2 := (cells_of hx.x2).2)
            | (go_at_call 26; with_reducible refine (HB1.out _ hx).mono ?_; rintro e w8 ⟨lv1, rfl, hL, hb8⟩; have hx := hx.below hb8; have hL1 := hid hL.at; (try (have hL2 := hid (hL2.out.below hb8))); have lm := (cells_of hx.k.m).1; have cm := (cells_of hx.k.m).2; have lx1 := (cells_of hx.x1).1; have cx1 := (cells_of hx.x1).2; have lx2 := (cells_of hx.x2).1; have cx2 := (cells_of hx.x2).2)
            | (go_at_call 26; with_reducible refine (HB3.out _ hx).mono ?_; rintro e w8 ⟨lv2, rfl, hL, hb8⟩; have hx := hx.below hb8; have hL2 := hid hL.at; (try (have hL1 := hid (hL1.out.below hb8))); have lm := (cells_of hx.k.m).1; have cm := (cells_of hx.k.m).2; have lx1 := (cells_of hx.x1).1; have cx1 := (cells_of hx.x1).2; have lx2 := (cells_of hx.x2).1; have cx2 := (cells_of hx.x2).2)
            | (go_at_call 28; with_reducible refine (HU1.out _ hx).mono ?_; rintro e w8 ⟨rfl, hb8⟩; have hx := hx.below hb8; (try (have hL1 := hid (hL1.out.below hb8))); (try (have hL2 := hid (hL2.out.below hb8))); have lm := (cells_of hx.k.m).1; have cm := (cells_of hx.k.m).2; have lx1 := (cells_of hx.x1).1; have cx1 := (cells_of hx.x1).2; have lx2 := (cells_of hx.x2).1; have cx2 := (cells_of hx.x2).2)
            | (go_at_call 28; with_reducible refine (HU3.out _ hx).mono ?_; rintro e w8 ⟨rfl, hb8⟩; have hx := hx.below hb8; (try (have hL1 := hid (hL1.out.below hb8))); (try (have hL2 := hid (hL2.out.below hb8))); have lm := (cells_of hx.k.m).1; have cm := (cells_of hx.k.m).2; have lx1 := (cells_of hx.x1).1; have cx1 := (cells_of hx.x1).2; have lx2 := (cells_of hx.x2).1; have cx2 := (cells_of hx.x2).2))
          cases hr : rightB M l
          all_goals
            rw [hr] at HR1 HR3
            try rw [e14'.out hr] at HR2
            clear hr e14'
            as_aux_lemma =>
              go_wp2_with (first
                | (go_at_call 28; with_reducible refine (HU1.out _ hx).mono ?_; rintro e w8 ⟨rfl, hb8⟩; have hx := hx.below hb8; (try (have hL1 := hid (hL1.out.below hb8))); (try (have hL2 := hid (hL2.out.below hb8))); have lm := (cells_of hx.k.m).1; have cm := (cells_of hx.k.m).2; have lx1 := (cells_of hx.x1).1; have cx1 := (cells_of hx.x1).2; have lx2 := (cells_of hx.x2).1; have cx2 := (cells_of hx.x2).2)
                | (go_at_call 28; with_reducible refine (HU3.out _ hx).mono ?_; rintro e w8 ⟨rfl, hb8⟩; have hx := hx.below hb8; (try (have hL1 := hid (hL1.out.below hb8))); (try (have hL2 := hid (hL2.out.below hb8))); have lm := (cells_of hx.k.m).1; have cm := (cells_of hx.k.m).2; have lx1 := (cells_of hx.x1).1; have cx1 := (cells_of hx.x1).2; have lx2 := (cells_of hx.x2).1; have cx2 := (cells_of hx.x2).2))
              refine wp_region_later (by kernel_rfl) (by kernel_rfl) ?_
              intro hxl
              dsimp only [List.append]
              repeat (go_big_quiet_step ((first | (go_at_call 37; with_reducible exact Calls.later (HR1.out _ (hx.below (Later.below _)))) | (go_at_call 37; with_reducible exact Calls.later (HR2.out _ (hx.below (Later.below _)))) | (go_at_call 37; with_reducible exact Calls.later (HR3.out _ (hx.below (Later.below _)))) | (go_at_call 32; with_reducible exact Calls.later (hII.out _ _ _ (hL1.out.below (Later.below _)) (hL2.out.below (Later.below _)))) | (go_at_call 13; with_reducible exact Calls.later (awake_any _)))))
              refine wpQuiet_nil ?_
              rintro w9 ⟨x, hxw⟩
              have hb9 := x.below
              rw [← hxw] at hb9
              clear hxl hxw x
              have hx := hx.below hb9
              go_wp2
              go_ret
              exact ⟨rfl, hx.k.bel⟩

end Go.Proofs.Ytcgkglonnmkfcaa
