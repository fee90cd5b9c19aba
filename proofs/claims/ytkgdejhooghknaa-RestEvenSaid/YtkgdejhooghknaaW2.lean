/- The walk of 'RestEven', where another plan is right. -/
import Derived.Test.YtkgdejhooghknaaW1
namespace Go.Proofs.Ytkgdejhooghknaa
open Go.RowKit Go.Lap Go.Shelf

set_option maxRecDepth 100000 in
set_option maxHeartbeats 8000000 in
theorem restEven_some1 (R : Rest) (z : Int) (hz0 : 0 ≤ z) (hv : R.valid = true) (d : Int) (P : List Int) (al ah bl bh k : Int) (p : List Int) (hf : planR R evenG = (d, P, 0)) (ha : hoursR R 0 = ((al, ah), 0)) (hb : hoursR R 1 = ((bl, bh), 0)) (hg : planR R changesG = (k, p, 0)) (hE : EvenFacts R d P al ah bl bh)
    (Q : List Int) (hQ : bitsL R.hours.toNat z = Q) (hrb : rightB R Q = true) (w : World) : Calls Try.prog 8 #[restV R, .int .u16 z] w fun e w' => e = .returned (.bool true) ∧ Below w.heap.size w w' := by
  have hh := Rest.valid_hours hv
  have ho := Rest.valid_ok hv
  have hq1 := hid (fun (h : true = true) => hE.own Q ((rightB_iff hv).1 (hrb.trans h)))
  have hq2 := hid (fun (h : true = true) => hE.fst Q ((rightB_iff hv).1 (hrb.trans h)))
  obtain ⟨a0, a1, a2, s0, s1, t0, t1, n0, n1, d0, dh, lo, hi, even, hdif, hmem, _, _⟩ := hE
  have hlQ : Q.length = R.hours.toNat := by rw [← hQ, bitsL_length]
  have hlP : P.length = R.hours.toNat := (mem_plans hmem).1
  have hl : Q.length ≤ 1000 := by omega
  have hlP2 : P.length ≤ 1000 := by omega
  have hP16 : P.length ≤ 16 := by omega
  have hQP := hid (hlQ.trans hlP.symm)
  have c32 := hid (fun w => valid_as hv w)
  have c23 := hid (fun w => even_as hf w)
  have c26 := hid (fun w => hours_as ha w)
  have c26b := hid (fun w => hours_as hb w)
  have c21 := hid (fun w => fewest_as hg w)
  have c33 := hid (fun w => by_list hQ hh.1 hh.2 hz0 w)
  have c35 := hid (fun w v h => right_as (v := v) hrb hl w h)
  have c35p := hid (fun w v h => right_as (v := v) ((rightB_iff hv).2 hmem) hlP2 w h)
  have c36 := hid (fun w v h => planRef_as (v := v) (planOk_of hv hmem) hlP2 w h)
  have c38 := hid (fun w v h => difference_as (v := v) (xs := Q) rfl hl w h)
  have c38p := hid (fun w v h => difference_as (v := v) hdif hlP2 w h)
  have c39 := hid (fun w v h => rides_as (v := v) (xs := Q) (r := 0) rfl hl w h)
  have c39p := hid (fun w v h => rides_as (v := v) (xs := P) (r := 0) rfl hlP2 w h)
  have c14 := hid awake_any
  generalize rid 0 P = n at *
  generalize hM : dif Q = M at *
  generalize hm : rid 0 Q = m at *
  have f1 : decide (d < 0) = false := by simp; omega
  have f2 : decide (al < 0) = false := by simp; omega
  have f3 : decide (ah < al) = false := by simp; omega
  have f4 : (al + bh == R.hours) = true := by simpa using s0
  have f4' : (al + bh != R.hours) = false := by simpa using s0
  have f5 : (ah + bl == R.hours) = true := by simpa using s1
  have f5' : (ah + bl != R.hours) = false := by simpa using s1
  have f6 : decide (R.r0.total < ah) = false := by simp; omega
  have f7 : decide (R.r1.total < bh) = false := by simp; omega
  have f8 : decide (n < al) = false := by simp; omega
  have f9 : decide (ah < n) = false := by simp; omega
  have f10 : decide (d < 2 * al - R.hours) = false := by simp; omega
  have f11 : decide (d < R.hours - 2 * ah) = false := by simp; omega
  have f12 : ((d + R.hours) % 2 == 0) = true := by simpa using even
  have f12' : ((d + R.hours) % 2 != 0) = false := by simpa using even
  have b1 : 0 ≤ bh ∧ bh ≤ 16 := by omega
  have b2 : 0 ≤ bl ∧ bl ≤ 16 := by omega
  have f13 : decide (M < d) = false := by have := (hq1.out rfl).1; simp; omega
  have f14 : decide (m < al) = false := by have := (hq1.out rfl).2.1; simp; omega
  have f15 : decide (ah < m) = false := by have := (hq1.out rfl).2.2; simp; omega
  clear hv hf ha hb hg hQ hlQ hrb hl hlP hlP2 hmem hdif hM hm s0 s1 even
  have hk := KeepR.start w R
  go_enter Try.func8, Try.ntmps8
  go_wp2_with (first | (go_at_call 32; with_reducible refine (c32.out _).mono ?_; rintro e w1 ⟨rfl, hb1⟩; have hk := hk.below hb1; obtain ⟨lx, cx⟩ := cells_of hk.x) | (go_at_call 23; with_reducible refine (c23.out _).mono ?_; rintro e w1 ⟨sa, sc, rfl, hn, hb1⟩; have hk := hk.plus hb1 hn; clear hn; obtain ⟨lx, cx⟩ := cells_of hk.r.x) | (go_at_call 26; with_reducible refine (c26.out _).mono ?_; rintro e w1 ⟨rfl, hb1⟩; have hk := hk.below hb1; obtain ⟨lx, cx⟩ := cells_of hk.r.x) | (go_at_call 26; with_reducible refine (c26b.out _).mono ?_; rintro e w1 ⟨rfl, hb1⟩; have hk := hk.span hb1; obtain ⟨lx, cx⟩ := cells_of hk.p.r.x; obtain ⟨la, ca⟩ := cells_of hk.a) | (go_at_call 21; with_reducible refine (c21.out _).mono ?_; rintro e w1 ⟨ta, tc, rfl, hn, hb1⟩; have hk := hk.span hb1; clear hn; obtain ⟨lx, cx⟩ := cells_of hk.p.r.x; obtain ⟨la, ca⟩ := cells_of hk.a; obtain ⟨lb, cb⟩ := cells_of hk.b) | (go_at_call 36; with_reducible refine (c36.out _ _ hk.p.p).mono ?_; rintro e w1 ⟨rfl, hb1⟩; have hk := hk.below hb1; obtain ⟨lx, cx⟩ := cells_of hk.p.r.x; obtain ⟨la, ca⟩ := cells_of hk.a; obtain ⟨lb, cb⟩ := cells_of hk.b) | (go_at_call 35; with_reducible refine (c35p.out _ _ hk.p.p).mono ?_; rintro e w1 ⟨rfl, hb1⟩; have hk := hk.below hb1; obtain ⟨lx, cx⟩ := cells_of hk.p.r.x; obtain ⟨la, ca⟩ := cells_of hk.a; obtain ⟨lb, cb⟩ := cells_of hk.b) | (go_at_call 38; with_reducible refine (c38p.out _ _ hk.p.p).mono ?_; rintro e w1 ⟨rfl, hb1⟩; have hk := hk.below hb1; obtain ⟨lx, cx⟩ := cells_of hk.p.r.x; obtain ⟨la, ca⟩ := cells_of hk.a; obtain ⟨lb, cb⟩ := cells_of hk.b) | (go_at_call 39; with_reducible refine (c39p.out _ _ hk.p.p).mono ?_; rintro e w1 ⟨rfl, hb1⟩; have hk := hk.below hb1; obtain ⟨lx, cx⟩ := cells_of hk.p.r.x; obtain ⟨la, ca⟩ := cells_of hk.a; obtain ⟨lb, cb⟩ := cells_of hk.b) | (go_at_call 33; with_reducible refine (c33.out _).mono ?_; rintro e w1 ⟨qa, qc, rfl, hn, hb1⟩; have hk := hk.plus hb1 hn; clear hn; obtain ⟨lx, cx⟩ := cells_of hk.t.p.r.x; obtain ⟨la, ca⟩ := cells_of hk.t.a; obtain ⟨lb, cb⟩ := cells_of hk.t.b) | (go_at_call 35; with_reducible refine (c35.out _ _ hk.q).mono ?_; rintro e w1 ⟨rfl, hb1⟩; have hk := hk.below hb1; obtain ⟨lx, cx⟩ := cells_of hk.t.p.r.x; obtain ⟨la, ca⟩ := cells_of hk.t.a; obtain ⟨lb, cb⟩ := cells_of hk.t.b) | (go_at_call 38; with_reducible refine (c38.out _ _ hk.q).mono ?_; rintro e w1 ⟨rfl, hb1⟩; have hk := hk.below hb1; obtain ⟨lx, cx⟩ := cells_of hk.t.p.r.x; obtain ⟨la, ca⟩ := cells_of hk.t.a; obtain ⟨lb, cb⟩ := cells_of hk.t.b) | (go_at_call 39; with_reducible refine (c39.out _ _ hk.q).mono ?_; rintro e w1 ⟨rfl, hb1⟩; have hk := hk.below hb1; obtain ⟨lx, cx⟩ := cells_of hk.t.p.r.x; obtain ⟨la, ca⟩ := cells_of hk.t.a; obtain ⟨lb, cb⟩ := cells_of hk.t.b))
  all_goals
    replace hk := hk.q2
    cases hMe : M == d
    · have hMe' := hid hMe
      go_loopw [244] (fun i wr => ∃ j : Nat, j ≤ P.length ∧ i = .int .i64 j ∧ KeepQ w R (.slice sa P.length sc) P (.slice qa Q.length qc) Q wr) (fun i _ => P.length - (intOf i).toNat)
      case atStart => exact ⟨0, by omega, rfl, hk⟩
      case round =>
        obtain ⟨j, hj, rfl, hq⟩ := hrel
        by_cases hlt : j < P.length
        · go_wp2
          go_quiet (fail)
          go_wp2
          go_roundw
          case rel => exact ⟨j + 1, by omega, by go_num, hq.below (below_drewN (Below.refl _ _) _)⟩
          case measure => simp [intOf]; omega
        · obtain rfl : j = P.length := by omega
          have hk := hq
          obtain ⟨lx, cx⟩ := cells_of hk.r.x
          go_wp2_with (first | (go_at_call 14; with_reducible refine (c14.out _).mono ?_; rintro e w1 ⟨rfl, hb1⟩; have hk := hk.below hb1; obtain ⟨lx, cx⟩ := cells_of hk.r.x))
          go_ret
          exact ⟨rfl, hk.r.bel⟩
    · have hMq2 := hid ((hq2.out (by simp)) (by simpa using hMe))
      go_loopw [244] (fun i wr => ∃ j : Nat, j ≤ P.length ∧ i = .int .i64 j ∧ Hid (P.take j = Q.take j) ∧ KeepQ w R (.slice sa P.length sc) P (.slice qa Q.length qc) Q wr) (fun i _ => P.length - (intOf i).toNat)
      case atStart => exact ⟨0, by omega, rfl, hid rfl, hk⟩
      case round =>
        obtain ⟨j, hj, rfl, ht, hq⟩ := hrel
        by_cases hlt : j < P.length
        · have hlt2 : j < Q.length := by rw [hQP.out]; exact hlt
          have hlt3 : (j : Int) < Q.length := by omega
          have hlt4 : (j : Int) < P.length := by omega
          obtain ⟨pb, po, rfl, _, hc⟩ := intsAt_cell hq.p hlt
          obtain ⟨qb, qo, rfl, _, hc2⟩ := intsAt_cell hq.q hlt2
          have hcj := hc j hlt
          have hcj2 := hc2 j hlt2
          clear hc hc2
          have lpb := cell_lt hcj
          have lqb := cell_lt hcj2
          have hnx := hid (take_next hlt hlt2 ht.out)
          have hat : Hid (P.getD j 0 ≠ Q.getD j 0 → P.getD j 0 = 0 ∧ Q.getD j 0 = 1) := hid (fun hne => by
            rcases hMq2.out with e | hB
            · rw [e] at hne; exact (hne rfl).elim
            · exact hB.at ht.out hne)
          generalize P.getD j 0 = x at *
          generalize Q.getD j 0 = y at *
          by_cases hxy : x = y
          · subst hxy
            have hnx' := hid (hnx.out rfl)
            have hxx : (x != x) = false := by simp
            go_wp2
            go_quiet (fail)
            go_wp2
            go_roundw
            case rel => exact ⟨j + 1, by omega, by go_num, hnx', hq.below (below_drewN (Below.refl _ _) _)⟩
            case measure => simp [intOf]; omega
          · obtain ⟨rfl, rfl⟩ := hat.out hxy
            clear hnx hat hxy hlt2
            go_wp2
            go_quiet (fail)
            go_wp2
            refine wp_region_later (by kernel_rfl) (by kernel_rfl) ?_
            intro hx
            simp only [World.heap_drewN, World.cell?_drewN] at hx
            repeat (any_goals (first | go_big_quiet_step ((go_at_call 14; exact Calls.later_as rfl (c14.out _)))))
            refine wpQuiet_nil ?_
            rintro _ ⟨⟨w2, hb2⟩, rfl⟩
            clear hx
            go_wp2
            go_ret
            exact ⟨rfl, below_via hb2 (below_drewN hq.r.bel _)⟩
        · obtain rfl : j = P.length := by omega
          have hk := hq
          obtain ⟨lx, cx⟩ := cells_of hk.r.x
          go_wp2_with (first | (go_at_call 14; with_reducible refine (c14.out _).mono ?_; rintro e w1 ⟨rfl, hb1⟩; have hk := hk.below hb1; obtain ⟨lx, cx⟩ := cells_of hk.r.x))
          go_ret
          exact ⟨rfl, hk.r.bel⟩

end Go.Proofs.Ytkgdejhooghknaa
