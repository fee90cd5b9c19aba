/- The law RelayTrue, walked. -/
import Derived.Test.YtccgakdaiaigoaaFD
namespace Go.Proofs.Ytccgakdaiaigoaa
open Go.RowKit Go.Lap Go.Shelf

/-- What is kept: the relays' box, and the rows. -/
structure KT (w : World) (r : Rel) (s : Nat → Int) (p : Nat) (rv ov fv : Value) (W : World) : Prop where
  bel : Below w.heap.size w W
  box : W.heap[p]? = some (.cells #[.int .i64 r.rest, rv] 24 (0, 0))
  st : StintsAt W rv r.stints
  on : onK.at W ov (onsL r.n s)
  off : onK.at W fv (offsL r.n s)
theorem KT.below {w W W' : World} {r : Rel} {s : Nat → Int} {p : Nat} {rv ov fv : Value} (h : KT w r s p rv ov fv W) (hb : Below W.heap.size W W') : KT w r s p rv ov fv W' :=
  ⟨below_via hb h.bel, (hb.block _ (cells_of h.box).1).trans h.box, h.st.below hb, h.on.below hb, h.off.below hb⟩
theorem at_form {W : World} {v : Value} {xs : List Int} {n : Nat} (h : onK.at W v xs) (hn : xs.length = n) : ∃ a cap, v = .slice a n cap := by
  obtain ⟨a, cap, rfl, _⟩ := h
  subst hn
  exact ⟨a, cap, rfl⟩
theorem at_cell {W : World} {a : Option Addr} {n cap : Nat} {xs : List Int} (h : onK.at W (.slice a n cap) xs) {k : Nat} {x : Int} (hk : xs[k]? = some x) : ∃ b o, a = some ⟨b, o, none⟩ ∧ b < W.heap.size ∧ W.cell? ⟨b, o + k, none⟩ = some (.int .i64 x) := by
  obtain ⟨a', cap', e, hc⟩ := h
  injection e with e1 e2 e3
  subst e1
  obtain ⟨b, o, rfl, hq⟩ := hc (fun e => by rw [e] at hk; simp at hk)
  have h1 := hq k x hk 0 _ rfl
  have h2 : W.cell? ⟨b, o + k, none⟩ = some (.int .i64 x) := by
    have e : onK.size = 1 := rfl
    rw [e, Nat.mul_one, Nat.add_zero] at h1
    exact h1
  exact ⟨b, o, rfl, cell_lt h2, h2⟩

theorem there_step {s : Nat → Int} {m : Int} (k : Nat) : (∃ i, i < k + 1 ∧ s (2 * i) ≤ m ∧ m < s (2 * i + 1)) ↔ ((∃ i, i < k ∧ s (2 * i) ≤ m ∧ m < s (2 * i + 1)) ∨ (s (2 * k) ≤ m ∧ m < s (2 * k + 1))) := by
  constructor
  · rintro ⟨i, hi, h⟩
    by_cases e : i = k
    · subst e; exact .inr h
    · exact .inl ⟨i, by omega, h⟩
  · rintro (⟨i, hi, h⟩ | h)
    · exact ⟨i, by omega, h⟩
    · exact ⟨k, by omega, h⟩
theorem not_there {s : Nat → Int} {m : Int} {n : Nat} (h : false = true ↔ ∃ i, i < n ∧ s (2 * i) ≤ m ∧ m < s (2 * i + 1)) : ∀ i, i < n → s (2 * i + 1) ≤ m ∨ m + 1 ≤ s (2 * i) := by
  intro i hi
  by_cases h1 : s (2 * i) ≤ m
  · by_cases h2 : m < s (2 * i + 1)
    · cases h.2 ⟨i, hi, h1, h2⟩
    · omega
  · omega

set_option maxRecDepth 100000 in
set_option maxHeartbeats 16000000 in
theorem relayTrue_any (bv : Value) (bs : List Int) (w : World) (hB : WordsAt w bv bs) : Calls Try.prog 6 #[bv] w fun e w' => e = .returned (.bool true) ∧ Below w.heap.size w w' := by
  by_cases hne : bs = []
  · obtain ⟨⟨sa, cap, rfl, hq0⟩, hr⟩ := id hB
    clear hq0 hr
    subst hne
    go_enter Try.func6, Try.ntmps6
    go_wp2_with (go_at_call 13; with_reducible refine (awake_any _).mono ?_; rintro e z9 ⟨rfl, hb⟩; replace hb := hid hb)
    go_ret
    exact ⟨rfl, hb.out⟩
  · have H30 := hid (made_any hne w hB)
    obtain ⟨⟨sa, cap, rfl, hq0⟩, hr⟩ := id hB
    have hl0 : ((bs.length : Int) == 0) = false := by rw [beq_eq_false_iff_ne]; intro e; exact hne (List.eq_nil_of_length_eq_zero (by omega))
    have hl1 : ¬ bs.length = 0 := fun e => hne (List.eq_nil_of_length_eq_zero e)
    have hl2 : ¬ bs = [] := hne
    clear hq0 hr hB hne
    go_enter Try.func6, Try.ntmps6
    go_upto_region 4 with (go_at_call 30; with_reducible refine H30.out.mono ?_; rintro e w1 ⟨r, s, rv, ov, fv, now, rfl, hS, hO, hF, hmd, hn5, hb⟩; obtain ⟨ra, rn, rc, rfl⟩ := stints_form hS; obtain ⟨oa, oc, rfl⟩ := at_form hO (onsL_length _ _); obtain ⟨fa, fc, rfl⟩ := at_form hF (offsL_length _ _); replace hS := hid hS; replace hO := hid hO; replace hF := hid hF; replace hmd := hid hmd; replace hn5 := hid hn5; replace hb := hid hb)
    skip
    have hx := hid (show KT w r s w1.heap.size (.slice ra rn rc) (.slice oa r.n oc) (.slice fa r.n fc) (w1.alloc (.cells #[.int .i64 r.rest, .slice ra rn rc] 24)) from ⟨below_via (below_alloc (Below.refl _ w1) _) hb.out, alloc_at rfl, hS.out.below (below_alloc (Below.refl _ w1) _), hO.out.below (below_alloc (Below.refl _ w1) _), hF.out.below (below_alloc (Below.refl _ w1) _)⟩)
    generalize w1.alloc (.cells #[.int .i64 r.rest, .slice ra rn rc] 24) = w2 at hx ⊢
    generalize w1.heap.size = p at hx ⊢
    clear hS hO hF hb H30 hl0 hl1 hl2
    have hv := hmd.out.valid hn5.out
    have hT := hid (hmd.out.truth hn5.out)
    have hn6 : r.n ≤ 1000000 := by have := hn5.out; omega
    have hni : (r.n : Int) ≤ 5 := by have := hn5.out; omega
    have hcl := true_clash hv hT.out
    have H26 := hid (fun W h => Clash_as hn6 hcl.1 (.slice ra rn rc) W h)
    have H28 := hid (fun W h => Wrong_as hn6 hcl.2 (.slice ra rn rc) W h)
    have hv' := hid hv
    clear hcl hv
    have lx := (cells_of hx.out.box).1
    have cx := (cells_of hx.out.box).2
    have hH := hid (Has.nil w2)
    go_wp2_with (first | (go_at_call 26; with_reducible refine (H26.out _ hx.out.st).mono ?_; rintro e w3 ⟨rfl, hb⟩; replace hx := hid (hx.out.below hb); replace hH := hid (hH.out.below hb); have lx := (cells_of hx.out.box).1; have cx := (cells_of hx.out.box).2; clear hb) | (go_at_call 28; with_reducible refine (H28.out _ hx.out.st).mono ?_; rintro e w4 ⟨rfl, hb⟩; replace hx := hid (hx.out.below hb); replace hH := hid (hH.out.below hb); have lx := (cells_of hx.out.box).1; have cx := (cells_of hx.out.box).2; clear hb))
    clear H26 H28 lx cx
    go_loopw [10, 11, 12, 13, 14, 15, 16, 17, 18, 19, 57] (fun _ _ _ _ _ _ _ _ _ _ j wr => ∃ k : Nat, k ≤ r.n ∧ j = .int .i64 k ∧ Hid (KT w r s p (.slice ra rn rc) (.slice oa r.n oc) (.slice fa r.n fc) wr)) (fun _ _ _ _ _ _ _ _ _ _ j _ => r.n - (intOf j).toNat)
    case atStart => exact ⟨0, by omega, rfl, hx⟩
    case round =>
      obtain ⟨k, hk, rfl, hx1⟩ := hrel
      clear hx hH
      have hx := hx1
      clear hx1
      have hH := hid (Has.nil wr)
      have lx := (cells_of hx.out.box).1
      have cx := (cells_of hx.out.box).2
      by_cases hlt : k < r.n
      · have hki : (k : Int) < (r.n : Int) := by omega
        obtain ⟨a, b, c, d, x, y, o1, o2, o3, i1, i2, i3⟩ := true_told hv'.out hT.out hlt
        have H14 := hid (fun W h => On_as hn6 o1 (.slice ra rn rc) W h)
        have H16 := hid (fun W h => Off_as hn6 o2 (.slice ra rn rc) W h)
        have H18 := hid (fun W h => Length_as hn6 o3 (.slice ra rn rc) W h)
        have hso := hid (hmd.out.own k hlt)
        have I1 := hid (show (decide (a ≤ s (2 * k)) && decide (s (2 * k) ≤ b)) = true by simp [i1.1, i1.2])
        have I2 := hid (show (decide (c ≤ s (2 * k + 1)) && decide (s (2 * k + 1) ≤ d)) = true by simp [i2.1, i2.2])
        have I3 := hid (show (decide (x ≤ s (2 * k + 1) - s (2 * k)) && decide (s (2 * k + 1) - s (2 * k) ≤ y)) = true by simp [i3.1, i3.2])
        clear o1 o2 o3 i1 i2 i3
        go_upto_region 12 with (go_at_call 14; with_reducible refine (H14.out _ hx.out.st).mono ?_; rintro e w5 ⟨rfl, hb⟩; replace hx := hid (hx.out.below hb); replace hH := hid (hH.out.below hb); have lx := (cells_of hx.out.box).1; have cx := (cells_of hx.out.box).2; clear hb)
        replace hH := hid (hH.out.alloc (.cells #[.int .i64 a, .int .i64 b] 28))
        replace hx := hid (hx.out.below (below_alloc (Below.refl _ _) (.cells #[.int .i64 a, .int .i64 b] 28)))
        generalize w5.alloc (.cells #[.int .i64 a, .int .i64 b] 28) = v5 at hH hx ⊢
        generalize w5.heap.size = p11 at hH ⊢
        clear lx cx
        have lx := (cells_of hx.out.box).1
        have cx := (cells_of hx.out.box).2
        go_upto_region 13 with (go_at_call 16; with_reducible refine (H16.out _ hx.out.st).mono ?_; rintro e w6 ⟨rfl, hb⟩; replace hx := hid (hx.out.below hb); replace hH := hid (hH.out.below hb); have lx := (cells_of hx.out.box).1; have cx := (cells_of hx.out.box).2; clear hb)
        replace hH := hid (hH.out.alloc (.cells #[.int .i64 c, .int .i64 d] 28))
        replace hx := hid (hx.out.below (below_alloc (Below.refl _ _) (.cells #[.int .i64 c, .int .i64 d] 28)))
        generalize w6.alloc (.cells #[.int .i64 c, .int .i64 d] 28) = v6 at hH hx ⊢
        generalize w6.heap.size = p13 at hH ⊢
        clear lx cx
        have lx := (cells_of hx.out.box).1
        have cx := (cells_of hx.out.box).2
        go_upto_region 14 with (go_at_call 18; with_reducible refine (H18.out _ hx.out.st).mono ?_; rintro e w7 ⟨rfl, hb⟩; replace hx := hid (hx.out.below hb); replace hH := hid (hH.out.below hb); have lx := (cells_of hx.out.box).1; have cx := (cells_of hx.out.box).2; clear hb)
        replace hH := hid (hH.out.alloc (.cells #[.int .i64 x, .int .i64 y] 28))
        replace hx := hid (hx.out.below (below_alloc (Below.refl _ _) (.cells #[.int .i64 x, .int .i64 y] 28)))
        generalize w7.alloc (.cells #[.int .i64 x, .int .i64 y] 28) = v7 at hH hx ⊢
        generalize w7.heap.size = p15 at hH ⊢
        clear lx cx
        have lx := (cells_of hx.out.box).1
        have cx := (cells_of hx.out.box).2
        have h_p11 := hH.out p11 (.cells #[.int .i64 a, .int .i64 b] 28 (0, 0)) (by simp)
        have l_p11 := (cells_of h_p11).1
        have c_p11 := (cells_of h_p11).2
        clear h_p11
        have h_p13 := hH.out p13 (.cells #[.int .i64 c, .int .i64 d] 28 (0, 0)) (by simp)
        have l_p13 := (cells_of h_p13).1
        have c_p13 := (cells_of h_p13).2
        clear h_p13
        have h_p15 := hH.out p15 (.cells #[.int .i64 x, .int .i64 y] 28 (0, 0)) (by simp)
        have l_p15 := (cells_of h_p15).1
        have c_p15 := (cells_of h_p15).2
        clear h_p15
        clear H14 H16 H18
        obtain ⟨ob, oo, rfl, lo, co⟩ := at_cell hx.out.on (onsL_get s hlt)
        obtain ⟨fb, fo, rfl, lf, cf⟩ := at_cell hx.out.off (offsL_get s hlt)
        have hsub : IntKind.i64.wrap (s (2 * k + 1) - s (2 * k)) = s (2 * k + 1) - s (2 * k) := Go.IntWalk.i64_in _ (by have := hso.out; omega)
        refine wp_region_later (by kernel_rfl) (by kernel_rfl) ?_
        intro hxx
        try dsimp only [List.append]
        repeat (go_big_quiet_step ((go_at_call 31; first | (with_reducible exact Calls.later (inside_as I1.out _)) | (with_reducible exact Calls.later (inside_as I2.out _)) | (with_reducible exact Calls.later (inside_as I3.out _)))))
        refine wpQuiet_nil ?_
        rintro w8 ⟨xx, hxw⟩
        have hb := xx.below
        rw [← hxw] at hb
        clear hxx hxw xx
        replace hx := hid (hx.out.below hb)
        replace hH := hid (hH.out.below hb)
        clear hb lx cx lo co lf cf hsub I1 I2 I3
        clear l_p11 c_p11 l_p13 c_p13 l_p15 c_p15
        have lx := (cells_of hx.out.box).1
        have cx := (cells_of hx.out.box).2
        by_cases hlast : k + 1 = r.n
        · have hkl : ((k : Int) + 1 == (r.n : Int)) = true := by rw [beq_iff_eq]; omega
          have hkl2 : (k : Int) + 1 = (r.n : Int) := by omega
          have H20 := hid (fun W h => Handed_as hn6 (handed_last hv'.out (by omega : r.n ≤ k + 1)) (.slice ra rn rc) W h)
          clear hkl2
          go_wp2_with (go_at_call 20; with_reducible refine (H20.out _ hx.out.st).mono ?_; rintro e w9 ⟨rfl, hb⟩; replace hx := hid (hx.out.below hb); replace hH := hid (hH.out.below hb); have lx := (cells_of hx.out.box).1; have cx := (cells_of hx.out.box).2; clear hb)
          go_roundw
          case rel => exact ⟨k + 1, by omega, by go_num, hx⟩
          case measure => simp [intOf]; omega
        · have hkl : ((k : Int) + 1 == (r.n : Int)) = false := by rw [beq_eq_false_iff_ne]; omega
          have hk1 : k + 1 < r.n := by omega
          have hk1i : (k : Int) + 1 < (r.n : Int) := by omega
          obtain ⟨v, e1, v1, v2⟩ := true_handed hv'.out hT.out hk1
          have H20 := hid (fun W h => Handed_as hn6 e1 (.slice ra rn rc) W h)
          clear e1
          replace v1 := hid v1
          replace v2 := hid v2
          go_upto_region 20 with (go_at_call 20; with_reducible refine (H20.out _ hx.out.st).mono ?_; rintro e w9 ⟨rfl, hb⟩; replace hx := hid (hx.out.below hb); replace hH := hid (hH.out.below hb); have lx := (cells_of hx.out.box).1; have cx := (cells_of hx.out.box).2; clear hb)
          obtain ⟨ob2, oo2, e2, lo, co⟩ := at_cell hx.out.on (onsL_get s hk1)
          cases e2
          obtain ⟨fb2, fo2, e3, lf, cf⟩ := at_cell hx.out.off (offsL_get s hlt)
          cases e3
          rw [show 2 * (k + 1) = 2 * k + 2 by omega] at co
          by_cases hle : s (2 * k + 2) ≤ s (2 * k + 1)
          · have v3 : v ≠ 0 := fun e => by have := v2.out e; omega
            go_quiet (fail)
            clear lo co lf cf
            skip
            by_cases v4 : v = 2
            · subst v4
              go_wp2
              go_roundw
              case rel => exact ⟨k + 1, by omega, by go_num, hid (hx.out.below (below_drewN (Below.refl _ _) _))⟩
              case measure => simp [intOf]; omega
            · go_wp2
              go_roundw
              case rel => exact ⟨k + 1, by omega, by go_num, hid (hx.out.below (below_drewN (Below.refl _ _) _))⟩
              case measure => simp [intOf]; omega
          · have v3 : v ≠ 2 := fun e => hle (v1.out e)
            go_quiet (fail)
            clear lo co lf cf
            skip
            by_cases v4 : v = 0
            · subst v4
              go_wp2
              go_roundw
              case rel => exact ⟨k + 1, by omega, by go_num, hid (hx.out.below (below_drewN (Below.refl _ _) _))⟩
              case measure => simp [intOf]; omega
            · go_wp2
              go_roundw
              case rel => exact ⟨k + 1, by omega, by go_num, hid (hx.out.below (below_drewN (Below.refl _ _) _))⟩
              case measure => simp [intOf]; omega
      · obtain rfl : k = r.n := by omega
        go_wp2
        clear lx cx hH
        go_loopw [20, 21, 22, 23, 24, 25, 161] (fun u20 _ _ _ _ _ j wr => ∃ m fr : Int, 0 ≤ m ∧ m ≤ 601 ∧ 0 ≤ fr ∧ fr ≤ 1000 ∧ j = .int .i64 m ∧ u20 = .int .i64 fr ∧ Hid (KT w r s p (.slice ra rn rc) (.slice oa r.n oc) (.slice fa r.n fc) wr)) (fun _ _ _ _ _ _ j _ => 601 - (intOf j).toNat)
        case atStart => exact ⟨0, 0, by omega, by omega, by omega, by omega, rfl, rfl, hx⟩
        case round =>
          obtain ⟨m, fr, hm0, hm1, hf0, hf1, rfl, rfl, hx1⟩ := hrel
          clear hx
          have hx := hx1
          clear hx1
          by_cases hlt : m < 601
          · go_wp2
            go_loopw [22, 23, 166] (fun t _ j wr => ∃ k : Nat, k ≤ r.n ∧ j = .int .i64 k ∧ ∃ bb : Bool, t = .bool bb ∧ Hid (bb = true ↔ ∃ i, i < k ∧ s (2 * i) ≤ m ∧ m < s (2 * i + 1)) ∧ Hid (KT w r s p (.slice ra rn rc) (.slice oa r.n oc) (.slice fa r.n fc) wr)) (fun _ _ j _ => r.n - (intOf j).toNat)
            case atStart => exact ⟨0, by omega, rfl, false, rfl, hid (by simp), hx⟩
            case round =>
              obtain ⟨k, hk, rfl, bb, rfl, hbb, hx1⟩ := hrel
              clear hx
              have hx := hx1
              clear hx1
              by_cases hltk : k < r.n
              · have hki : (k : Int) < (r.n : Int) := by omega
                obtain ⟨ob, oo, rfl, lo, co⟩ := at_cell hx.out.on (onsL_get s hltk)
                obtain ⟨fb, fo, rfl, lf, cf⟩ := at_cell hx.out.off (offsL_get s hltk)
                have hst := hid (there_step (s := s) (m := m) k)
                cases bb
                · by_cases h1 : s (2 * k) ≤ m
                  · by_cases h2 : m < s (2 * k + 1)
                    · go_wp2
                      clear lo co lf cf
                      go_roundw
                      case rel => exact ⟨k + 1, by omega, by go_num, true, rfl, hid (⟨fun _ => hst.out.2 (.inr ⟨h1, h2⟩), fun _ => rfl⟩), hx⟩
                      case measure => simp [intOf]; omega
                    · go_wp2
                      clear lo co lf cf
                      go_roundw
                      case rel => exact ⟨k + 1, by omega, by go_num, false, rfl, hid (⟨(fun e => by cases e), fun e => by rcases hst.out.1 e with e1 | e1; (exact hbb.out.2 e1); exact absurd e1.2 h2⟩), hx⟩
                      case measure => simp [intOf]; omega
                  · go_wp2
                    clear lo co lf cf
                    go_roundw
                    case rel => exact ⟨k + 1, by omega, by go_num, false, rfl, hid (⟨(fun e => by cases e), fun e => by rcases hst.out.1 e with e1 | e1; (exact hbb.out.2 e1); exact absurd e1.1 h1⟩), hx⟩
                    case measure => simp [intOf]; omega
                · go_wp2
                  clear lo co lf cf
                  go_roundw
                  case rel => exact ⟨k + 1, by omega, by go_num, true, rfl, hid (⟨fun _ => hst.out.2 (.inl (hbb.out.1 rfl)), fun _ => rfl⟩), hx⟩
                  case measure => simp [intOf]; omega
              · obtain rfl : k = r.n := by omega
                cases bb
                · by_cases hmf : m < fr
                  · go_wp2
                    go_roundw
                    case rel => exact ⟨m + 1, fr, by omega, by omega, hf0, hf1, rfl, rfl, hx⟩
                    case measure => simp only [intOf]; omega
                  · obtain ⟨g, e1, g1, g2⟩ := true_gap hv'.out hT.out hf0 (by omega : fr ≤ m) (by omega) (not_there hbb.out)
                    have H24 := hid (fun W h => Gap_as hn6 e1 (.slice ra rn rc) W h)
                    clear e1
                    skip
                    obtain ⟨q7, hq7⟩ : ∃ z, m.tdiv 7 = z := ⟨_, rfl⟩
                    have hq0 : 0 ≤ q7 ∧ q7 ≤ 100 := by rw [← hq7, Int.tdiv_eq_ediv_of_nonneg hm0]; omega
                    have lx := (cells_of hx.out.box).1
                    have cx := (cells_of hx.out.box).2
                    go_wp2_with (go_at_call 24; with_reducible refine (H24.out _ hx.out.st).mono ?_; rintro e w9 ⟨rfl, hb⟩; replace hx := hid (hx.out.below hb); clear hb lx cx)
                    go_roundw
                    case rel => exact ⟨m + 1, m + 1 + q7, by omega, by omega, by omega, by omega, rfl, rfl, hx⟩
                    case measure => simp only [intOf]; omega
                · go_wp2
                  go_roundw
                  case rel => exact ⟨m + 1, fr, by omega, by omega, hf0, hf1, rfl, rfl, hx⟩
                  case measure => simp only [intOf]; omega
          · obtain rfl : m = 601 := by omega
            have lx := (cells_of hx.out.box).1
            have cx := (cells_of hx.out.box).2
            rcases true_nobody hv'.out hT.out with ⟨xm, e1, hx0⟩ | e1
            · have H22 := hid (fun W h => Nobody_as hn6 e1 (.slice ra rn rc) W h)
              clear e1
              replace hx0 := hid hx0
              go_wp2_with (go_at_call 22; with_reducible refine (H22.out _ hx.out.st).mono ?_; rintro e w9 ⟨rfl, hb⟩; replace hx := hid (hx.out.below hb); clear hb lx cx)
              clear H22
              go_loopw [28, 236] (fun _ j wr => ∃ k : Nat, k ≤ r.n ∧ j = .int .i64 k ∧ Hid (KT w r s p (.slice ra rn rc) (.slice oa r.n oc) (.slice fa r.n fc) wr)) (fun _ j _ => r.n - (intOf j).toNat)
              case atStart => exact ⟨0, by omega, rfl, hx⟩
              case round =>
                obtain ⟨k, hk, rfl, hx1⟩ := hrel
                clear hx
                have hx := hx1
                clear hx1
                by_cases hltk : k < r.n
                · have hki : (k : Int) < (r.n : Int) := by omega
                  have hxk := hx0.out k hltk
                  obtain ⟨ob, oo, rfl, lo, co⟩ := at_cell hx.out.on (onsL_get s hltk)
                  obtain ⟨fb, fo, rfl, lf, cf⟩ := at_cell hx.out.off (offsL_get s hltk)
                  by_cases h1 : s (2 * k) ≤ xm
                  · have h2 : ¬ xm < s (2 * k + 1) := by omega
                    clear hxk
                    go_wp2
                    clear lo co lf cf
                    go_roundw
                    case rel => exact ⟨k + 1, by omega, by go_num, hx⟩
                    case measure => simp [intOf]; omega
                  · clear hxk
                    go_wp2
                    clear lo co lf cf
                    go_roundw
                    case rel => exact ⟨k + 1, by omega, by go_num, hx⟩
                    case measure => simp [intOf]; omega
                · obtain rfl : k = r.n := by omega
                  go_wp2_with (go_at_call 13; with_reducible refine (awake_any _).mono ?_; rintro e z9 ⟨rfl, hb⟩; replace hx := hid (hx.out.below hb); clear hb)
                  go_ret
                  exact ⟨rfl, hx.out.bel⟩
            · have H22 := hid (fun W h => Nobody_as hn6 e1 (.slice ra rn rc) W h)
              clear e1
              go_wp2_with (first | (go_at_call 22; with_reducible refine (H22.out _ hx.out.st).mono ?_; rintro e w9 ⟨rfl, hb⟩; replace hx := hid (hx.out.below hb); clear hb lx cx) | (go_at_call 13; with_reducible refine (awake_any _).mono ?_; rintro e z9 ⟨rfl, hb⟩; replace hx := hid (hx.out.below hb); clear hb))
              go_ret
              exact ⟨rfl, hx.out.bel⟩
end Go.Proofs.Ytccgakdaiaigoaa
