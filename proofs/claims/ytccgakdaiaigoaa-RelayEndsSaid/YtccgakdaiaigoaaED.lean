/- The law RelayEnds, walked. -/
import Derived.Test.YtccgakdaiaigoaaEB
import Derived.Test.YtccgakdaiaigoaaEC
namespace Go.Proofs.Ytccgakdaiaigoaa
open Go.RowKit Go.Lap Go.Shelf

set_option maxRecDepth 100000 in
set_option maxHeartbeats 16000000 in
theorem relayEnds_any (r : Rel) (hn : r.n ≤ maxLen) (zw zb : Int) (hzw : 0 ≤ zw) (hzw2 : zw ≤ 255) (hzb : 0 ≤ zb) (hzb2 : zb ≤ 255) (sv : Value) (hN : NilOk sv) (w : World) (hS : StintsAt w sv r.stints) : Calls Try.prog 7 #[relV r sv, .int .u8 zw, .int .u8 zb] w fun e w' => e = .returned (.bool true) ∧ Below w.heap.size w w' := by
  obtain ⟨sa, scap, rfl, hs0⟩ := id hS
  clear hs0
  have hx := hid (KeepM.start hS)
  have hN' := hid hN
  clear hN
  cases hfar : farB r 5
  · have hn6 := far_n hfar
    have H12 := hid (fun W h => far_as (M := 5) hfar rfl hn (by decide) (.slice sa r.stints.length scap) W h)
    cases hv : r.valid
    · have H32 := hid (fun W h => refRelays_as hn6 hv (.slice sa r.stints.length scap) W h)
      clear hv hn6 hn hfar hS
      go_enter Try.func7, Try.ntmps7
      go_upto_region 1 with fail
      generalize w.alloc (.cells #[.int .i64 r.rest, .slice sa r.stints.length scap] 24) = w0 at hx ⊢
      have hH := hid (Has.nil w0)
      have lx := (cells_of hx.out.m).1
      have cx := (cells_of hx.out.m).2
      go_wp2_with (first | (go_at_call 12; with_reducible refine (H12.out _ hx.out.s).mono ?_; rintro e w1 ⟨rfl, hb⟩; replace hx := hid (hx.out.below hb); replace hH := hid (hH.out.below hb); have lx := (cells_of hx.out.m).1; have cx := (cells_of hx.out.m).2; clear hb) | (go_at_call 32; with_reducible refine (H32.out _ hx.out.s).mono ?_; rintro e w3 ⟨rfl, hb⟩; replace hx := hid (hx.out.below hb); replace hH := hid (hH.out.below hb); have lx := (cells_of hx.out.m).1; have cx := (cells_of hx.out.m).2; clear hb) | (go_at_call 13; with_reducible refine (awake_any _).mono ?_; rintro e z9 ⟨rfl, hb⟩; replace hx := hid (hx.out.below hb); replace hH := hid (hH.out.below hb); have lx := (cells_of hx.out.m).1; have cx := (cells_of hx.out.m).2; clear hb))
      go_ret
      exact ⟨rfl, hx.out.bel⟩
    · have H32 := hid (fun W h => refRelays_as hn6 hv (.slice sa r.stints.length scap) W h)
      have hv' := hid hv
      have hn5 := hid (r.ok_of hv).2.2.1
      have hni : (r.stints.length : Int) ≤ 5 := by have := hn5.out; have : r.stints.length = r.n := rfl; omega
      by_cases h0 : r.stints.length = 0
      · have h0i : ((r.stints.length : Int) == 0) = true := by rw [beq_iff_eq]; omega
        clear hv hn6 hn hfar hS h0
        go_enter Try.func7, Try.ntmps7
        go_upto_region 1 with fail
        generalize w.alloc (.cells #[.int .i64 r.rest, .slice sa r.stints.length scap] 24) = w0 at hx ⊢
        have hH := hid (Has.nil w0)
        have lx := (cells_of hx.out.m).1
        have cx := (cells_of hx.out.m).2
        go_wp2_with (first | (go_at_call 12; with_reducible refine (H12.out _ hx.out.s).mono ?_; rintro e w1 ⟨rfl, hb⟩; replace hx := hid (hx.out.below hb); replace hH := hid (hH.out.below hb); have lx := (cells_of hx.out.m).1; have cx := (cells_of hx.out.m).2; clear hb) | (go_at_call 32; with_reducible refine (H32.out _ hx.out.s).mono ?_; rintro e w3 ⟨rfl, hb⟩; replace hx := hid (hx.out.below hb); replace hH := hid (hH.out.below hb); have lx := (cells_of hx.out.m).1; have cx := (cells_of hx.out.m).2; clear hb) | (go_at_call 13; with_reducible refine (awake_any _).mono ?_; rintro e z9 ⟨rfl, hb⟩; replace hx := hid (hx.out.below hb); replace hH := hid (hH.out.below hb); have lx := (cells_of hx.out.m).1; have cx := (cells_of hx.out.m).2; clear hb))
        go_ret
        exact ⟨rfl, hx.out.bel⟩
      · have h0i : ((r.stints.length : Int) == 0) = false := by rw [beq_eq_false_iff_ne]; omega
        have h4p : (0 : Int) < 4 * (r.stints.length : Int) := by omega
        obtain ⟨ei, hei⟩ : ∃ e, zw % (4 * (r.stints.length : Int)) = e := ⟨_, rfl⟩
        have he0 : 0 ≤ ei := by rw [← hei]; exact Int.emod_nonneg _ (by omega)
        have he4 : ei < 4 * (r.stints.length : Int) := by rw [← hei]; exact Int.emod_lt_of_pos _ h4p
        have hee : zw.tmod (4 * (r.stints.length : Int)) = ei := by rw [Int.tmod_eq_emod_of_nonneg hzw]; exact hei
        clear hei
        obtain ⟨e, rfl⟩ := Int.eq_ofNat_of_zero_le he0
        have hel : e < 4 * r.n := by have : r.stints.length = r.n := rfl; omega
        have he20 : e < 20 := by have := hn5.out; omega
        obtain ⟨i, hi⟩ : ∃ i, e / 4 = i := ⟨_, rfl⟩
        have hil : i < r.n := by omega
        have hii : (e : Int) / 4 = (i : Int) := by omega
        have hib : (i : Int) < (r.stints.length : Int) := by have : r.stints.length = r.n := rfl; omega
        have hHE := hid (fun k K hK hk m W h => exact_as hn5.out (k := k) (K := K) hK hk m (.slice sa r.stints.length scap) hN'.out W h)
        cases hc : r.canB r.every
        · obtain ⟨C, hC, _⟩ := clash_law hv hc
          have H26 := hid (fun W h => Clash_as hn6 hC (.slice sa r.stints.length scap) W h)
          have H14 := hid (fun W h => On_as hn6 (on_no (panics_clash hv (isStint_of hil) hc)) (.slice sa r.stints.length scap) W h)
          have H16 := hid (fun W h => Off_as hn6 (off_no (panics_clash hv (isStint_of hil) hc)) (.slice sa r.stints.length scap) W h)
          have H18 := hid (fun W h => Length_as hn6 (length_no (panics_clash hv (isStint_of hil) hc)) (.slice sa r.stints.length scap) W h)
          have q0 : ∀ w, (Op.equal 28 (.agg #[.int .i64 0, .int .i64 0]) (.agg #[.int .i64 0, .int .i64 0])).run Try.prog w = .ok true w := fun w => by rw [eq_span28]; simp
          clear hv hc hn6 hn hfar hS hC h0
          by_cases hev : e / 2 % 2 = 0
          · have hevi : (e : Int) / 2 % 2 = 0 := by omega
            clear hev
            go_enter Try.func7, Try.ntmps7
            go_upto_region 1 with fail
            generalize w.alloc (.cells #[.int .i64 r.rest, .slice sa r.stints.length scap] 24) = w0 at hx ⊢
            have hH := hid (Has.nil w0)
            have lx := (cells_of hx.out.m).1
            have cx := (cells_of hx.out.m).2
            go_upto_region 9 with (first | (go_at_call 12; with_reducible refine (H12.out _ hx.out.s).mono ?_; rintro e w1 ⟨rfl, hb⟩; replace hx := hid (hx.out.below hb); replace hH := hid (hH.out.below hb); have lx := (cells_of hx.out.m).1; have cx := (cells_of hx.out.m).2; clear hb) | (go_at_call 32; with_reducible refine (H32.out _ hx.out.s).mono ?_; rintro e w3 ⟨rfl, hb⟩; replace hx := hid (hx.out.below hb); replace hH := hid (hH.out.below hb); have lx := (cells_of hx.out.m).1; have cx := (cells_of hx.out.m).2; clear hb) | (go_at_call 14; with_reducible refine (H14.out _ hx.out.s).mono ?_; rintro e w4 ⟨rfl, hb⟩; replace hx := hid (hx.out.below hb); replace hH := hid (hH.out.below hb); have lx := (cells_of hx.out.m).1; have cx := (cells_of hx.out.m).2; clear hb))
            replace hH := hid (hH.out.alloc (.cells #[.int .i64 0, .int .i64 0] 28))
            replace hx := hid (hx.out.below (below_alloc (Below.refl _ _) (.cells #[.int .i64 0, .int .i64 0] 28)))
            generalize w4.alloc (.cells #[.int .i64 0, .int .i64 0] 28) = w5 at hH hx ⊢
            generalize w4.heap.size = b1 at hH ⊢
            clear lx cx
            have lx := (cells_of hx.out.m).1
            have cx := (cells_of hx.out.m).2
            go_upto_region 10 with (go_at_call 18; with_reducible refine (H18.out _ hx.out.s).mono ?_; rintro e w6 ⟨rfl, hb⟩; replace hx := hid (hx.out.below hb); replace hH := hid (hH.out.below hb); have lx := (cells_of hx.out.m).1; have cx := (cells_of hx.out.m).2; clear hb)
            replace hH := hid (hH.out.alloc (.cells #[.int .i64 0, .int .i64 0] 28))
            replace hx := hid (hx.out.below (below_alloc (Below.refl _ _) (.cells #[.int .i64 0, .int .i64 0] 28)))
            generalize w6.alloc (.cells #[.int .i64 0, .int .i64 0] 28) = w7 at hH hx ⊢
            generalize w6.heap.size = b2 at hH ⊢
            clear lx cx
            have lx := (cells_of hx.out.m).1
            have cx := (cells_of hx.out.m).2
            go_upto_region 11 with (go_at_call 26; with_reducible refine (H26.out _ hx.out.s).mono ?_; rintro e w8 ⟨rfl, hb⟩; replace hx := hid (hx.out.below hb); replace hH := hid (hH.out.below hb); have lx := (cells_of hx.out.m).1; have cx := (cells_of hx.out.m).2; clear hb)
            clear lx cx
            have hB1 := hH.out b1 (.cells #[.int .i64 0, .int .i64 0] 28) (by simp)
            have hB2 := hH.out b2 (.cells #[.int .i64 0, .int .i64 0] 28) (by simp)
            have l1 := (cells_of hB1).1
            have c1 := (cells_of hB1).2
            have l2 := (cells_of hB2).1
            have c2 := (cells_of hB2).2
            clear hB1 hB2
            go_wp2_with (go_at_call 13; with_reducible refine (awake_any _).mono ?_; rintro e z9 ⟨rfl, hb⟩; replace hx := hid (hx.out.below hb); replace hH := hid (hH.out.below hb); clear hb)
            go_ret
            exact ⟨rfl, hx.out.bel⟩
          · have hevi : (e : Int) / 2 % 2 = 1 := by omega
            clear hev
            go_enter Try.func7, Try.ntmps7
            go_upto_region 1 with fail
            generalize w.alloc (.cells #[.int .i64 r.rest, .slice sa r.stints.length scap] 24) = w0 at hx ⊢
            have hH := hid (Has.nil w0)
            have lx := (cells_of hx.out.m).1
            have cx := (cells_of hx.out.m).2
            go_upto_region 9 with (first | (go_at_call 12; with_reducible refine (H12.out _ hx.out.s).mono ?_; rintro e w1 ⟨rfl, hb⟩; replace hx := hid (hx.out.below hb); replace hH := hid (hH.out.below hb); have lx := (cells_of hx.out.m).1; have cx := (cells_of hx.out.m).2; clear hb) | (go_at_call 32; with_reducible refine (H32.out _ hx.out.s).mono ?_; rintro e w3 ⟨rfl, hb⟩; replace hx := hid (hx.out.below hb); replace hH := hid (hH.out.below hb); have lx := (cells_of hx.out.m).1; have cx := (cells_of hx.out.m).2; clear hb) | (go_at_call 16; with_reducible refine (H16.out _ hx.out.s).mono ?_; rintro e w4 ⟨rfl, hb⟩; replace hx := hid (hx.out.below hb); replace hH := hid (hH.out.below hb); have lx := (cells_of hx.out.m).1; have cx := (cells_of hx.out.m).2; clear hb))
            replace hH := hid (hH.out.alloc (.cells #[.int .i64 0, .int .i64 0] 28))
            replace hx := hid (hx.out.below (below_alloc (Below.refl _ _) (.cells #[.int .i64 0, .int .i64 0] 28)))
            generalize w4.alloc (.cells #[.int .i64 0, .int .i64 0] 28) = w5 at hH hx ⊢
            generalize w4.heap.size = b1 at hH ⊢
            clear lx cx
            have lx := (cells_of hx.out.m).1
            have cx := (cells_of hx.out.m).2
            go_upto_region 10 with (go_at_call 18; with_reducible refine (H18.out _ hx.out.s).mono ?_; rintro e w6 ⟨rfl, hb⟩; replace hx := hid (hx.out.below hb); replace hH := hid (hH.out.below hb); have lx := (cells_of hx.out.m).1; have cx := (cells_of hx.out.m).2; clear hb)
            replace hH := hid (hH.out.alloc (.cells #[.int .i64 0, .int .i64 0] 28))
            replace hx := hid (hx.out.below (below_alloc (Below.refl _ _) (.cells #[.int .i64 0, .int .i64 0] 28)))
            generalize w6.alloc (.cells #[.int .i64 0, .int .i64 0] 28) = w7 at hH hx ⊢
            generalize w6.heap.size = b2 at hH ⊢
            clear lx cx
            have lx := (cells_of hx.out.m).1
            have cx := (cells_of hx.out.m).2
            go_upto_region 11 with (go_at_call 26; with_reducible refine (H26.out _ hx.out.s).mono ?_; rintro e w8 ⟨rfl, hb⟩; replace hx := hid (hx.out.below hb); replace hH := hid (hH.out.below hb); have lx := (cells_of hx.out.m).1; have cx := (cells_of hx.out.m).2; clear hb)
            clear lx cx
            have hB1 := hH.out b1 (.cells #[.int .i64 0, .int .i64 0] 28) (by simp)
            have hB2 := hH.out b2 (.cells #[.int .i64 0, .int .i64 0] 28) (by simp)
            have l1 := (cells_of hB1).1
            have c1 := (cells_of hB1).2
            have l2 := (cells_of hB2).1
            have c2 := (cells_of hB2).2
            clear hB1 hB2
            go_wp2_with (go_at_call 13; with_reducible refine (awake_any _).mono ?_; rintro e z9 ⟨rfl, hb⟩; replace hx := hid (hx.out.below hb); replace hH := hid (hH.out.below hb); clear hb)
            go_ret
            exact ⟨rfl, hx.out.bel⟩
        · exact (Decidable.em (e / 2 % 2 = 0)).elim (fun hev => relayEnds_even r hn6 hv hc hfar hn zw zb hzw hzw2 hzb hzb2 e hel hee hev _ hN'.out w hS) (fun hev => relayEnds_odd r hn6 hv hc hfar hn zw zb hzw hzw2 hzb hzb2 e hel hee hev _ hN'.out w hS)
  · have H12 := hid (fun W h => far_as (M := 5) hfar rfl hn (by decide) (.slice sa r.stints.length scap) W h)
    clear hn hfar hS
    go_enter Try.func7, Try.ntmps7
    go_upto_region 1 with fail
    generalize w.alloc (.cells #[.int .i64 r.rest, .slice sa r.stints.length scap] 24) = w0 at hx ⊢
    have hH := hid (Has.nil w0)
    have lx := (cells_of hx.out.m).1
    have cx := (cells_of hx.out.m).2
    go_wp2_with (first | (go_at_call 12; with_reducible refine (H12.out _ hx.out.s).mono ?_; rintro e w1 ⟨rfl, hb⟩; replace hx := hid (hx.out.below hb); replace hH := hid (hH.out.below hb); have lx := (cells_of hx.out.m).1; have cx := (cells_of hx.out.m).2; clear hb) | (go_at_call 13; with_reducible refine (awake_any _).mono ?_; rintro e z9 ⟨rfl, hb⟩; replace hx := hid (hx.out.below hb); replace hH := hid (hH.out.below hb); have lx := (cells_of hx.out.m).1; have cx := (cells_of hx.out.m).2; clear hb))
    go_ret
    exact ⟨rfl, hx.out.bel⟩

end Go.Proofs.Ytccgakdaiaigoaa
