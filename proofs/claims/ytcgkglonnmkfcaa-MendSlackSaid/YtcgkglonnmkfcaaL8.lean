/- The walk of the law MendSlack. -/
import Derived.Test.YtcgkglonnmkfcaaPS
import Derived.Test.YtcgkglonnmkfcaaGD
import Derived.Deep.RegionHeld3
namespace Go.Proofs.Ytcgkglonnmkfcaa
open Go.RowKit Go.Lap Go.Shelf

set_option maxRecDepth 100000 in
set_option maxHeartbeats 4000000 in
theorem mendSlack_any (M : Mend) (sv jv bv : Value) (bs : List Int) (w : World) (hS : IntsAt w sv M.setup) (hJ : JobsAt w jv M.jobs) (hN : NilOk jv) (hB : BytesAt w bv bs) :
    Calls Try.prog 8 #[.agg #[sv, jv], bv] w fun e w' => e = .returned (.bool true) ∧ Below w.heap.size w w' := by
  have hS' := hid hS
  have hJ' := hid hJ
  obtain ⟨sa, scap, rfl, _⟩ := hS
  obtain ⟨ja, jcap, rfl, _⟩ := hJ
  have hk1 := KeepB.start w (.slice sa M.setup.length scap) (.slice ja M.jobs.length jcap)
  go_enter Try.func8, Try.ntmps8
  go_upto_region 1 with fail
  generalize w.alloc (.cells #[.slice sa M.setup.length scap, .slice ja M.jobs.length jcap] 25) = w1 at hk1 ⊢
  have l1 := (cells_of hk1.m).1
  have c1 := (cells_of hk1.m).2
  have HF := hid (fine_any M _ _ w1 (hS'.out.below hk1.bel) (hJ'.out.below hk1.bel))
  cases hv : M.valid
  · rw [hv] at HF
    clear hv
    go_wp2_with (first
      | (go_at_call 33; with_reducible refine HF.out.mono ?_; rintro e w2 ⟨rfl, hb2⟩)
      | (go_at_call 13; with_reducible refine (awake_any _).mono ?_; rintro e w3 ⟨rfl, hb3⟩))
    go_ret
    exact ⟨rfl, below_via hb3 (hk1.below hb2).bel⟩
  · rw [hv] at HF
    have hv' := hid hv
    clear hv
    go_upto_region 3 with (go_at_call 33; with_reducible refine HF.out.mono ?_; rintro e w2 ⟨rfl, hb2⟩; have hk2 := hk1.below hb2)
    clear l1 c1 HF hk1 hb2
    have l1 := (cells_of hk2.m).1
    have c1 := (cells_of hk2.m).2
    go_upto_region 4 with (go_at_call 34; refine (made_any M hv'.out _ _ _ bs _ (hS'.out.below hk2.bel) (hJ'.out.below hk2.bel) (hB.below hk2.bel)).mono ?_; rintro e w3 ⟨v, l, rfl, hl, hown, hb3⟩; obtain ⟨la, lcap, rfl, _⟩ := hown.at; have hNl := hid (own_nilOk hown); have hk3 := hk2.below hb3)
    have hli3 := ints_at.2 hown.at
    have hll := (ordB_all.1 hl).2
    rw [hll] at hli3 ⊢
    have hl' := hid hl
    have hll' := hid hll
    have hlen6 := (Mend.valid_ok hv'.out).len
    clear l1 c1 hk2 hb3 hown hl hll
    have l1 := (cells_of hk3.m).1
    have c1 := (cells_of hk3.m).2
    have hSl := hid (fun W (hk : KeepB w (.slice sa M.setup.length scap) (.slice ja M.jobs.length jcap) W) hL => Slack_any M _ _ (.slice la M.jobs.length lcap) l (by rw [hll'.out]; omega) W (hS'.out.below hk.bel) (hJ'.out.below hk.bel) hL)
    have hRt := hid (fun W (hk : KeepB w (.slice sa M.setup.length scap) (.slice ja M.jobs.length jcap) W) hL => lawRight_any M _ _ (.slice la M.jobs.length lcap) l (by rw [hll'.out]; omega) W (hS'.out.below hk.bel) (hJ'.out.below hk.bel) hL)
    rcases slack_law hv'.out hl'.out with ⟨hs, hr⟩ | ⟨n, hs, hn30, hr, ht, htl, hle, hx, hy⟩
    · rw [hs] at hSl
      rw [hr] at hRt
      clear hs hr
      go_wp2_with (first
        | (go_at_call 18; with_reducible refine (hSl.out _ hk3 hli3).mono ?_; rintro e w4 ⟨rfl, hb4⟩; have hk4 := hk3.below hb4; have l4 := (cells_of hk4.m).1; have c4 := (cells_of hk4.m).2)
        | (go_at_call 37; with_reducible refine (hRt.out _ hk4 (hli3.below hb4)).mono ?_; rintro e w5 ⟨rfl, hb5⟩; have hk5 := hk4.below hb5)
        | (go_at_call 13; with_reducible refine (awake_any _).mono ?_; rintro e w6 ⟨rfl, hb6⟩))
      go_ret
      exact ⟨rfl, below_via hb6 hk5.bel⟩
    · rw [hs] at hSl
      rw [hr] at hRt
      have hx' := hid hx
      have hy' := hid hy
      have hle' := hid hle
      have htl' := hid htl
      clear hs hr hx hy hle htl
      go_upto_region 7 with (go_at_call 18; with_reducible refine (hSl.out _ hk3 hli3).mono ?_; rintro e w4 ⟨rfl, hb4⟩; have hk4 := hk3.below hb4)
      have hli4 := hli3.below hb4
      clear l1 c1 hSl hk3 hli3 hb4
      have l1 := (cells_of hk4.m).1
      have c1 := (cells_of hk4.m).2
      have hTi := hid (Times_any M _ _ (.slice la M.jobs.length lcap) l (by rw [hll'.out]; omega) w4 (hS'.out.below hk4.bel) (hJ'.out.below hk4.bel) hli4)
      rw [ht] at hTi
      clear ht
      go_upto_region 8 with (go_at_call 14; (refine hTi.out.mono ?_; rintro e w5 ⟨tv, rfl, hto, hb5⟩; obtain ⟨ta, tcap, rfl, _⟩ := hto.at; have hk5 := hk4.below hb5))
      have hli5 := hli4.below hb5
      have hta := hid hto.at
      rw [htl'.out] at hta ⊢
      clear l1 c1 hTi hk4 hli4 hb5 hto
      have l1 := (cells_of hk5.m).1
      have c1 := (cells_of hk5.m).2
      have hn0 : (0 : Int) ≤ (n : Int) := by omega
      have hn3 : (n : Int) ≤ 30 := by omega
      go_upto_region 10 with (go_at_call 37; with_reducible refine (hRt.out _ hk5 hli5).mono ?_; rintro e w6 ⟨rfl, hb6⟩; have hk6 := hk5.below hb6)
      have hli6 := hli5.below hb6
      have hta6 := hid (hta.out.below hb6)
      clear l1 c1 hk5 hli5 hb6 hta
      have hli6' := hid hli6
      clear hli6
      go_wp2
      go_loopw [4, 10, 11, 77] (fun _ _ _ i wr => ∃ k : Nat, k ≤ M.jobs.length ∧ i = .int .i64 k ∧ Below w6.heap.size w6 wr) (fun _ _ _ i _ => M.jobs.length - (intOf i).toNat)
      case atStart => exact ⟨0, by omega, rfl, Below.refl _ _⟩
      case round =>
        obtain ⟨k, hkk, rfl, hbr⟩ := hrel
        have hkr := hk6.below hbr
        have hmr := hkr.m
        have lr := (cells_of hmr).1
        have cr := (cells_of hmr).2
        clear hmr
        have hbr' := hid hbr
        by_cases hlt : k < M.jobs.length
        · have hki : (k : Int) < (M.jobs.length : Int) := by omega
          obtain ⟨q1, q2, q3, q4⟩ := hle'.out k hlt
          obtain ⟨lb, lo, lc, e1, _, hlc⟩ := (hli6'.out.below hbr).some (fun e => by have := hll'.out; rw [e] at this; simp at this; omega)
          injection e1 with e1 e2 e3
          subst e1
          clear e2 e3
          obtain ⟨tb, tof, tc, e1, _, htc⟩ := spans_some (hta6.out.below hbr) (fun e => by have := htl'.out; rw [e] at this; simp at this; omega)
          injection e1 with e1 e2 e3
          subst e1
          clear e2 e3
          obtain ⟨a', c', e1, hjc⟩ := hJ'.out.below hkr.bel
          injection e1 with e1 e2 e3
          subst e1
          clear e2 e3
          obtain ⟨jb, jo, rfl, hjq⟩ := hjc (fun e => by rw [e] at hlt; simp at hlt)
          have hcl := hlc k (by rw [hll'.out]; exact hlt)
          have hct := (htc k (by rw [htl'.out]; exact hlt)).2
          obtain ⟨i, hi⟩ : ∃ i : Nat, l.getD k 0 = (i : Int) := ⟨(l.getD k 0).toNat, by omega⟩
          rw [hi] at hcl q1 q2 q4
          rw [Int.toNat_natCast] at q4
          have hcj := hjq i (by omega) 5 (by decide)
          rw [show (M.jobs.getD i Job.none).cells.getD 5 0 = (M.job i).by_ from rfl] at hcj
          obtain ⟨late, hlate⟩ : ∃ z, ((timesOf M l).1.getD k (0, 0)).2 = z := ⟨_, rfl⟩
          obtain ⟨by_, hby⟩ : ∃ z, (M.job i).by_ = z := ⟨_, rfl⟩
          have hby2 := ((Mend.valid_ok hv'.out).by_ i (by omega)).2
          rw [hlate] at hct q3 q4
          rw [hby] at hcj q4 hby2
          have hw1 : IntKind.i64.wrap (late + n) = late + n := IntWalk.i64_in _ (by omega)
          have hd1 : decide (by_ < late + n) = false := decide_eq_false (by omega)
          clear hlc htc hjc hjq hi hlate hby hkr hbr q1 q3 q4
          go_wp2
          go_quiet (fail)
          go_wp2
          go_roundw
          case rel => exact ⟨k + 1, by omega, by go_num, below_drewN hbr'.out _⟩
          case measure => simp [intOf]; omega
        · obtain rfl : k = M.jobs.length := by omega
          go_upto_region 16 with fail
          have hbz := hid (hkr.bel)
          have hn1 : IntKind.i64.wrap ((n : Int) + 1) = (n : Int) + 1 := IntWalk.i64_in _ (by omega)
          have hn2 : (0 : Int) ≤ (n : Int) + 1 := by omega
          have hn4 : (n : Int) ≤ 900 := by omega
          have hn5 : (n : Int) + 1 ≤ 900 := by omega
          go_cut [12, 13] from 97 to 103 (fun p q wx => ∃ b1 b2 a1 a2 c1 c2, p = .pointer (some ⟨b1, 0, none⟩) ∧ q = .pointer (some ⟨b2, 0, none⟩) ∧ Hid (wx.heap[b1]? = some (.cells #[.slice sa M.setup.length scap, .slice a1 M.jobs.length c1] 25 (0, 0))) ∧ Hid (wx.heap[b2]? = some (.cells #[.slice sa M.setup.length scap, .slice a2 M.jobs.length c2] 25 (0, 0))) ∧ Hid (JobsAt wx (.slice a1 M.jobs.length c1) (M.longer n).jobs) ∧ Hid (JobsAt wx (.slice a2 M.jobs.length c2) (M.longer (n + 1 : Nat)).jobs) ∧ Below wr.heap.size wr wx)
          case first =>
            rename_i J0 K0 hJ0 hK0
            have hcf : ∀ args w, (callFunc 41 args).run Try.prog w = .ok (.enter 41 args) w := fun _ _ => by go_simp
            have hk_0 : KeepB w (.slice sa M.setup.length scap) (.slice ja M.jobs.length jcap) wr.drew := hkr.drew
            refine wp_region_inv (fun d vals W => (d 0 = true → vals 0 = .agg #[.slice sa M.setup.length scap, .slice ja M.jobs.length jcap]) ∧ (d 1 = true → vals 1 = .int .i64 (n : Int)) ∧ (d 3 = true → vals 3 = .agg #[.slice sa M.setup.length scap, .slice ja M.jobs.length jcap]) ∧ (d 4 = true → vals 4 = .int .i64 (n : Int)) ∧ (d 5 = true → vals 5 = .int .i64 ((n : Int) + 1)) ∧ TwoJ w wr (.slice sa M.setup.length scap) (.slice ja M.jobs.length jcap) M.jobs.length (M.longer (n : Int)).jobs (M.longer ((n : Int) + 1)).jobs 2 6 7 8 9 10 d vals W) (by kernel_rfl) (by kernel_rfl) (by kernel_rfl) ⟨(by simp), (by simp), (by simp), (by simp), (by simp), TwoJ.start hk_0⟩ ?_ ?_
            · rintro i o d vals a W ho hd hdep hev hold ⟨q0, q1, q3, q4, q5, hT⟩
              have hi := (Array.getElem?_eq_some_iff.1 ho).1
              rcases i with _ | _ | _ | _ | _ | _ | _ | _ | _ | _ | _ | i
              · obtain rfl := Option.some.inj ho
                exact (yields_load25 (S := fun W' => KeepB w (.slice sa M.setup.length scap) (.slice ja M.jobs.length jcap) W') ((hold 2 (by kernel_rfl)).trans rfl) (fun W h => h.m)).wpOp rfl hT.k ⟨_, rfl, ownF, keepF q1 (by decide), keepF q3 (by decide), keepF q4 (by decide), keepF q5 (by decide), hT.pure (by decide)⟩
              · obtain rfl := Option.some.inj ho
                exact (yields_move (S := fun W' => KeepB w (.slice sa M.setup.length scap) (.slice ja M.jobs.length jcap) W') ((hold 6 (by kernel_rfl)).trans rfl)).wpOp rfl hT.k ⟨_, rfl, keepF q0 (by decide), ownF, keepF q3 (by decide), keepF q4 (by decide), keepF q5 (by decide), hT.pure (by decide)⟩
              · obtain rfl := Option.some.inj ho
                refine wpOp_of rfl rfl (op_call2 hcf ((hev 0 97 rfl (hdep { on := 0, ground := Ground.data } (by simp) rfl)).trans (q0 (hdep { on := 0, ground := Ground.data } (by simp) rfl))) ((hev 1 98 rfl (hdep { on := 1, ground := Ground.data } (by simp) rfl)).trans (q1 (hdep { on := 1, ground := Ground.data } (by simp) rfl))) (refLonger_any M hv'.out (n : Int) hn0 hn4 _ _ _ (hS'.out.below hT.k.bel) (hJ'.out.below hT.k.bel) hN) ?_)
                rintro e W' ⟨a1, k1, rfl, ho1, hb1⟩
                exact ⟨_, rfl, _, rfl, keepF q0 (by decide), keepF q1 (by decide), keepF q3 (by decide), keepF q4 (by decide), keepF q5 (by decide), hT.call (by decide : [2, 6, 7, 8, 9, 10].Nodup) hd hb1 (jobs_at.2 ho1.at)⟩
              · obtain rfl := Option.some.inj ho
                exact (yields_load25 (S := fun W' => KeepB w (.slice sa M.setup.length scap) (.slice ja M.jobs.length jcap) W') ((hold 2 (by kernel_rfl)).trans rfl) (fun W h => h.m)).wpOp rfl hT.k ⟨_, rfl, keepF q0 (by decide), keepF q1 (by decide), ownF, keepF q4 (by decide), keepF q5 (by decide), hT.pure (by decide)⟩
              · obtain rfl := Option.some.inj ho
                exact (yields_move (S := fun W' => KeepB w (.slice sa M.setup.length scap) (.slice ja M.jobs.length jcap) W') ((hold 6 (by kernel_rfl)).trans rfl)).wpOp rfl hT.k ⟨_, rfl, keepF q0 (by decide), keepF q1 (by decide), keepF q3 (by decide), ownF, keepF q5 (by decide), hT.pure (by decide)⟩
              · obtain rfl := Option.some.inj ho
                exact (yields_one (S := fun W' => KeepB w (.slice sa M.setup.length scap) (.slice ja M.jobs.length jcap) W') ((hev 4 101 rfl (hdep { on := 4, ground := Ground.data } (by simp) rfl)).trans (q4 (hdep { on := 4, ground := Ground.data } (by simp) rfl))) hn1).wpOp rfl hT.k ⟨_, rfl, keepF q0 (by decide), keepF q1 (by decide), keepF q3 (by decide), keepF q4 (by decide), ownF, hT.pure (by decide)⟩
              · obtain rfl := Option.some.inj ho
                refine wpOp_of rfl rfl (op_call2 hcf ((hev 3 100 rfl (hdep { on := 3, ground := Ground.data } (by simp) rfl)).trans (q3 (hdep { on := 3, ground := Ground.data } (by simp) rfl))) ((hev 5 102 rfl (hdep { on := 5, ground := Ground.data } (by simp) rfl)).trans (q5 (hdep { on := 5, ground := Ground.data } (by simp) rfl))) (refLonger_any M hv'.out ((n : Int) + 1) hn2 hn5 _ _ _ (hS'.out.below hT.k.bel) (hJ'.out.below hT.k.bel) hN) ?_)
                rintro e W' ⟨a1, k1, rfl, ho1, hb1⟩
                exact ⟨_, rfl, _, rfl, keepF q0 (by decide), keepF q1 (by decide), keepF q3 (by decide), keepF q4 (by decide), keepF q5 (by decide), (hT.swap.call (by decide : [6, 2, 8, 7, 10, 9].Nodup) hd hb1 (jobs_at.2 ho1.at)).swap⟩
              · obtain rfl := Option.some.inj ho
                exact wpOp_of rfl rfl (op_box ⟨_, rfl, keepF q0 (by decide), keepF q1 (by decide), keepF q3 (by decide), keepF q4 (by decide), keepF q5 (by decide), hT.box (by decide : [2, 6, 7, 8, 9, 10].Nodup) hd⟩)
              · obtain rfl := Option.some.inj ho
                exact wpOp_of rfl rfl (op_box ⟨_, rfl, keepF q0 (by decide), keepF q1 (by decide), keepF q3 (by decide), keepF q4 (by decide), keepF q5 (by decide), (hT.swap.box (by decide : [6, 2, 8, 7, 10, 9].Nodup) hd).swap⟩)
              · obtain rfl := Option.some.inj ho
                have dc : d 2 = true := hdep { on := 2, ground := Ground.data } (by simp) rfl
                have dx : d 7 = true := hdep { on := 7, ground := Ground.data } (by simp) rfl
                obtain ⟨a1, k1, h1, _⟩ := hT.r1 dc
                obtain ⟨b, p, q, h2, _, hb, _⟩ := hT.b1 dx
                refine wpOp_of rfl rfl (op_put25 ((hev 7 _ rfl dx).trans h2) ((hev 2 _ rfl dc).trans h1) hb.1 ⟨undef, rfl, keepF q0 (by decide), keepF q1 (by decide), keepF q3 (by decide), keepF q4 (by decide), keepF q5 (by decide), hT.store (by decide : [2, 6, 7, 8, 9, 10].Nodup) hd dc dx (heap_lt hkr.m) h1 h2⟩)
              · obtain rfl := Option.some.inj ho
                have dc : d 6 = true := hdep { on := 6, ground := Ground.data } (by simp) rfl
                have dx : d 8 = true := hdep { on := 8, ground := Ground.data } (by simp) rfl
                obtain ⟨a1, k1, h1, _⟩ := hT.swap.r1 dc
                obtain ⟨b, p, q, h2, _, hb, _⟩ := hT.swap.b1 dx
                refine wpOp_of rfl rfl (op_put25 ((hev 8 _ rfl dx).trans h2) ((hev 6 _ rfl dc).trans h1) hb.1 ⟨undef, rfl, keepF q0 (by decide), keepF q1 (by decide), keepF q3 (by decide), keepF q4 (by decide), keepF q5 (by decide), (hT.swap.store (by decide : [6, 2, 8, 7, 10, 9].Nodup) hd dc dx (heap_lt hkr.m) h1 h2).swap⟩)
              · simp at hi
                omega
            · rintro d vals W hall ⟨q0, q1, q3, q4, q5, hT⟩
              have hdn : ∀ i, i < 11 → d i = true := fun i hi => hall i (by simpa using hi)
              have q0' := q0 (hdn 0 (by decide))
              have q1' := q1 (hdn 1 (by decide))
              have q3' := q3 (hdn 3 (by decide))
              have q4' := q4 (hdn 4 (by decide))
              have q5' := q5 (hdn 5 (by decide))
              obtain ⟨b1, b2, a1, a2, k1, k2, v1, v2, v3, v4, v5, v6, v7, v8⟩ := hT.fin (by intro i hi; simp only [List.mem_cons, List.not_mem_nil, or_false] at hi; rcases hi with rfl | rfl | rfl | rfl | rfl | rfl <;> exact hdn _ (by decide))
              have hbel := hT.bel
              clear hT hall
              change Exit.then _ _ Exit.normal (Act.put (Act.put (Act.put (Act.put (Act.put (Act.put (Act.put (Act.put (Act.put _ (some 97) (vals 0)) (some 98) (vals 1)) (some 99) (vals 2)) (some 100) (vals 3)) (some 101) (vals 4)) (some 102) (vals 5)) (some 103) (vals 6)) (some 12) (vals 7)) (some 13) (vals 8)) W
              rw [q0', q1', q3', q4', q5', v1, v2, v3, v4]
              simp only [Act.put, List.setIfInBounds_toArray, List.set_cons_zero, List.set_cons_succ]
              have r1' := hid v5
              have r2' := hid v6
              have r3' := hid v7
              have r4' := hid v8
              have r5' := hid hbel
              clear v1 v2 v3 v4 v5 v6 v7 v8 hbel q0 q1 q3 q4 q5 q0' q1' q3' q4' q5'
              refine hK0 _ _ ?_
              go_meet
              exact ⟨b1, b2, a1, a2, k1, k2, rfl, rfl, r1', r2', r3', r4', r5'.out⟩
          case rest =>
            obtain ⟨b1, b2, a1, a2, c1, c2, rfl, rfl, q1, q2, q3, q4, hbx⟩ := hcut
            have hx : KeepX w (.slice sa M.setup.length scap) (.slice ja M.jobs.length jcap) (.slice la M.jobs.length lcap) l b1 b2 (.slice a1 M.jobs.length c1) (.slice a2 M.jobs.length c2) (M.longer n).jobs (M.longer (n + 1 : Nat)).jobs wc := ⟨hkr.below hbx, q1.out, q2.out, q3.out, q4.out, (hli6'.out.below hbr'.out).below hbx⟩
            have HMx := hid (fun W (h : KeepX w (.slice sa M.setup.length scap) (.slice ja M.jobs.length jcap) (.slice la M.jobs.length lcap) l b1 b2 (.slice a1 M.jobs.length c1) (.slice a2 M.jobs.length c2) (M.longer n).jobs (M.longer (n + 1 : Nat)).jobs W) => refMend_any (M.longer n) (.slice sa M.setup.length scap) _ W (hS'.out.below h.k.bel) h.j1)
            have HMy := hid (fun W (h : KeepX w (.slice sa M.setup.length scap) (.slice ja M.jobs.length jcap) (.slice la M.jobs.length lcap) l b1 b2 (.slice a1 M.jobs.length c1) (.slice a2 M.jobs.length c2) (M.longer n).jobs (M.longer (n + 1 : Nat)).jobs W) => refMend_any (M.longer (n + 1 : Nat)) (.slice sa M.setup.length scap) _ W (hS'.out.below h.k.bel) h.j2)
            have HRx := hid (fun W (h : KeepX w (.slice sa M.setup.length scap) (.slice ja M.jobs.length jcap) (.slice la M.jobs.length lcap) l b1 b2 (.slice a1 M.jobs.length c1) (.slice a2 M.jobs.length c2) (M.longer n).jobs (M.longer (n + 1 : Nat)).jobs W) => lawRight_any (M.longer n) (.slice sa M.setup.length scap) _ _ l (by rw [hll'.out]; omega) W (hS'.out.below h.k.bel) h.j1 h.li)
            have HRy := hid (fun W (h : KeepX w (.slice sa M.setup.length scap) (.slice ja M.jobs.length jcap) (.slice la M.jobs.length lcap) l b1 b2 (.slice a1 M.jobs.length c1) (.slice a2 M.jobs.length c2) (M.longer n).jobs (M.longer (n + 1 : Nat)).jobs W) => lawRight_any (M.longer (n + 1 : Nat)) (.slice sa M.setup.length scap) _ _ l (by rw [hll'.out]; omega) W (hS'.out.below h.k.bel) h.j2 h.li)
            have hsm : slackOf M (0 :: l) = (0, 2) := slack_more hv'.out hl'.out
            have HS := hid (fun W (h : KeepX w (.slice sa M.setup.length scap) (.slice ja M.jobs.length jcap) (.slice la M.jobs.length lcap) l b1 b2 (.slice a1 M.jobs.length c1) (.slice a2 M.jobs.length c2) (M.longer n).jobs (M.longer (n + 1 : Nat)).jobs W) lv (hlv : IntsAt W lv (0 :: l)) => Slack_any M _ _ lv (0 :: l) (by rw [List.length_cons, hll'.out]; omega) W (hS'.out.below h.k.bel) (hJ'.out.below h.k.bel) hlv)
            rw [hsm] at HS
            clear hsm lr cr q1 q2 q3 q4 hbx hbr' hkr hbr hbz hRt hta6 hle' htl' hB
            have lm := (cells_of hx.k.m).1
            have cm := (cells_of hx.k.m).2
            have lx1 := (cells_of hx.x1).1
            have cx1 := (cells_of hx.x1).2
            have lx2 := (cells_of hx.x2).1
            have cx2 := (cells_of hx.x2).2
            have fin : ∀ W, KeepX w (.slice sa M.setup.length scap) (.slice ja M.jobs.length jcap) (.slice la M.jobs.length lcap) l b1 b2 (.slice a1 M.jobs.length c1) (.slice a2 M.jobs.length c2) (M.longer n).jobs (M.longer (n + 1 : Nat)).jobs W → KeepX w (.slice sa M.setup.length scap) (.slice ja M.jobs.length jcap) (.slice la M.jobs.length lcap) l b1 b2 (.slice a1 M.jobs.length c1) (.slice a2 M.jobs.length c2) (M.longer n).jobs (M.longer (n + 1 : Nat)).jobs W := fun _ h => h
            have key : (M.longer (n + 1 : Nat)).valid = false ∨ ((M.longer (n + 1 : Nat)).valid = true ∧ rightB (M.longer (n + 1 : Nat)) l = false) ∨ ((M.longer (n + 1 : Nat)).valid = true ∧ rightB (M.longer (n + 1 : Nat)) l = true ∧ decide ((n : Int) < 30) = false) := by
              cases h1 : (M.longer (n + 1 : Nat)).valid
              · exact .inl rfl
              · cases h2 : rightB (M.longer (n + 1 : Nat)) l
                · exact .inr (.inl ⟨rfl, rfl⟩)
                · have := hy'.out h1 h2
                  exact .inr (.inr ⟨rfl, rfl, decide_eq_false (by omega)⟩)
            clear hy'
            go_upto_region 17 with fail
            go_cut [124] from 104 to 124 (fun v wx => v = .bool false ∧ Hid (KeepX w (.slice sa M.setup.length scap) (.slice ja M.jobs.length jcap) (.slice la M.jobs.length lcap) l b1 b2 (.slice a1 M.jobs.length c1) (.slice a2 M.jobs.length c2) (M.longer n).jobs (M.longer (n + 1 : Nat)).jobs wx))
            case first =>
              cases hvx : (M.longer n).valid
              all_goals
                rw [hvx] at HMx
                try rw [hx'.out hvx] at HRx
                clear hvx
                rcases key with hvy | ⟨hvy, hry⟩ | ⟨hvy, hry, hd⟩
              all_goals
                rw [hvy] at HMy
                clear hvy
                try (rw [hry] at HRy; clear hry)
                go_wp2_with (first
                  | (go_at_call 25; with_reducible refine (HMx.out _ hx).mono ?_; rintro e w7 ⟨rfl, hb7⟩; have hx := hx.below hb7; have lm := (cells_of hx.k.m).1; have cm := (cells_of hx.k.m).2; have lx1 := (cells_of hx.x1).1; have cx1 := (cells_of hx.x1).2; have lx2 := (cells_of hx.x2).1; have cx2 := (cells_of hx.x2).2)
                  | (go_at_call 25; with_reducible refine (HMy.out _ hx).mono ?_; rintro e w7 ⟨rfl, hb7⟩; have hx := hx.below hb7; have lm := (cells_of hx.k.m).1; have cm := (cells_of hx.k.m).2; have lx1 := (cells_of hx.x1).1; have cx1 := (cells_of hx.x1).2; have lx2 := (cells_of hx.x2).1; have cx2 := (cells_of hx.x2).2)
                  | (go_at_call 37; with_reducible refine (HRx.out _ hx).mono ?_; rintro e w7 ⟨rfl, hb7⟩; have hx := hx.below hb7; have lm := (cells_of hx.k.m).1; have cm := (cells_of hx.k.m).2; have lx1 := (cells_of hx.x1).1; have cx1 := (cells_of hx.x1).2; have lx2 := (cells_of hx.x2).1; have cx2 := (cells_of hx.x2).2)
                  | (go_at_call 37; with_reducible refine (HRy.out _ hx).mono ?_; rintro e w7 ⟨rfl, hb7⟩; have hx := hx.below hb7; have lm := (cells_of hx.k.m).1; have cm := (cells_of hx.k.m).2; have lx1 := (cells_of hx.x1).1; have cx1 := (cells_of hx.x1).2; have lx2 := (cells_of hx.x2).1; have cx2 := (cells_of hx.x2).2))
                go_meet
                exact ⟨rfl, hid hx⟩
            case rest =>
              clear lm cm lx1 cx1 lx2 cx2 hx HMx HMy HRx HRy key
              obtain ⟨rfl, hx⟩ := hcut
              have hx := hx.out
              have hz := hx.drew
              have hNl' : Hid (NilOk (.slice la M.jobs.length lcap)) := by have := hNl.out; rw [hll'.out] at this; exact this
              clear hNl
              go_upto_region 19 with fail
              refine wp_region_held (S := fun W => KeepX w (.slice sa M.setup.length scap) (.slice ja M.jobs.length jcap) (.slice la M.jobs.length lcap) l b1 b2 (.slice a1 M.jobs.length c1) (.slice a2 M.jobs.length c2) (M.longer n).jobs (M.longer (n + 1 : Nat)).jobs W) (by kernel_rfl) ?_
              refine wpAnyH_quiet (i := 0) (v := .agg #[.slice sa M.setup.length scap, .slice ja M.jobs.length jcap]) rfl (by kernel_rfl) (by kernel_rfl) (by kernel_rfl) (fun _ _ _ h => h) rfl (fun W h => by have lm := (cells_of h.k.m).1; have cm := (cells_of h.k.m).2; go_simp) hz ?_
              refine wpAnyH_quiet (i := 2) (v := .slice la M.jobs.length lcap) rfl (by kernel_rfl) (by kernel_rfl) (by kernel_rfl) (fun _ _ _ h => h) rfl (fun W h => by go_simp) hz ?_
              refine wpAnyH_step (i := 1) (by kernel_rfl) rfl ?_
              go_wp2
              have hz0 := hz
              have hz := hz.below (below_alloc (Below.refl _ _) (.cells #[.int .i64 0] 3))
              refine ⟨hz, ?_⟩
              refine wpAnyH_step (i := 3) (by kernel_rfl) rfl ?_
              refine wpList_append_arg intK rfl _ _ rfl _ (.slice (some ⟨_, 0, none⟩) 1 1) [0] l rfl ints_one (.slice la M.jobs.length lcap) rfl (ints_at.1 hz.li) hNl'.out (by rw [hll'.out]; simp; omega) (by simp) ?_
              intro v8 w8 hown8 hb8
              have hz := hz0.below (below_low hb8 (below_alloc (Below.refl _ _) _) (Nat.le_refl _))
              refine ⟨hz, ?_⟩
              refine wpAnyH_step (i := 4) (by kernel_rfl) rfl ?_
              go_wp2_with (go_at_call 18; refine (HS.out _ hz _ (ints_at.2 hown8.at)).mono ?_; rintro e w9 ⟨rfl, hb9⟩)
              have hz := hz.below hb9
              refine ⟨hz, ?_⟩
              refine wpAnyH_quiet (i := 5) (v := .tuple #[.int .i64 0, .int .i64 2]) rfl (by kernel_rfl) (by kernel_rfl) (by kernel_rfl) (fun _ _ _ h => h) rfl (fun W h => by go_simp) hz ?_
              refine wpAnyH_quiet (i := 6) (v := .int .i64 0) rfl (by kernel_rfl) (by kernel_rfl) (by kernel_rfl) (fun _ _ _ h => h) rfl (fun W h => by go_simp) hz ?_
              refine wpAnyH_quiet (i := 7) (v := .int .i64 2) rfl (by kernel_rfl) (by kernel_rfl) (by kernel_rfl) (fun _ _ _ h => h) rfl (fun W h => by go_simp) hz ?_
              refine wpAnyH_quiet (i := 8) (v := .int .i64 0) rfl (by kernel_rfl) (by kernel_rfl) (by kernel_rfl) (fun _ _ _ h => h) rfl (fun W h => by go_simp) hz ?_
              refine wpAnyH_quiet (i := 9) (v := .int .i64 2) rfl (by kernel_rfl) (by kernel_rfl) (by kernel_rfl) (fun _ _ _ h => h) rfl (fun W h => by go_simp) hz ?_
              refine wpAnyH_done (by kernel_rfl) ?_ _
              simp only [Act.put, List.setIfInBounds_toArray]
              go_wp2_with (go_at_call 13; with_reducible refine (awake_any _).mono ?_; rintro e w10 ⟨rfl, hb10⟩)
              go_ret
              exact ⟨rfl, below_via hb10 hz.k.bel⟩

end Go.Proofs.Ytcgkglonnmkfcaa
