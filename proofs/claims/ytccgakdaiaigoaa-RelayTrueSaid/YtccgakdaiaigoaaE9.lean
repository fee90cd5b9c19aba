/- The law RelayMinutes, walked. -/
import Derived.Test.YtccgakdaiaigoaaE8
namespace Go.Proofs.Ytccgakdaiaigoaa
open Go.RowKit Go.Lap Go.Shelf

theorem Nobody_as {r : Rel} (hn : r.n ≤ 1000000) {a b x y : Int} (h : nobodyOf r a b = (x, y)) (sv : Value) (w : World) (hS : StintsAt w sv r.stints) : Calls Try.prog 22 #[relV r sv, .int .i64 a, .int .i64 b] w fun e w' => e = .returned (.tuple #[.int .i64 x, .int .i64 y]) ∧ Below w.heap.size w w' := by
  have h2 := Nobody_any r hn a b sv w hS
  rw [h] at h2; exact h2
theorem Gap_as {r : Rel} (hn : r.n ≤ 1000000) {a b x y : Int} (h : minuteGapOf r a b = (x, y)) (sv : Value) (w : World) (hS : StintsAt w sv r.stints) : Calls Try.prog 24 #[relV r sv, .int .i64 a, .int .i64 b] w fun e w' => e = .returned (.tuple #[.int .i64 x, .int .i64 y]) ∧ Below w.heap.size w w' := by
  have h2 := Gap_any r hn a b sv w hS
  rw [h] at h2; exact h2
theorem stints_open {w : World} {v : Value} {L : List Stint} (h : StintsAt w v L) : ∃ a cap, v = .slice a L.length cap := by
  obtain ⟨a, cap, rfl, _⟩ := h; exact ⟨a, cap, rfl⟩
theorem exact_as {r : Rel} (hn : r.n ≤ 5) {k : Nat} {K : Int} (hK : K = (k : Int)) (hk : k < 4 * r.n) (m : Int) (sv : Value) (hN : NilOk sv) (w : World) (hS : StintsAt w sv r.stints) : Calls Try.prog 33 #[relV r sv, .int .i64 K, .int .i64 m] w fun e w' => ∃ sv', e = .returned (relV (r.put k (m, m)) sv') ∧ StintsAt w' sv' (r.put k (m, m)).stints ∧ NilOk sv' ∧ Below w.heap.size w w' := by
  subst hK; exact exact_any r hn k hk m sv hN w hS

set_option maxRecDepth 100000 in
set_option maxHeartbeats 8000000 in
theorem relayMinutes_any (r : Rel) (hn : r.n ≤ maxLen) (za zb zc : Int) (hza : 0 ≤ za) (hza2 : za ≤ 65535) (hzb : 0 ≤ zb) (hzb2 : zb ≤ 65535) (hzc : 0 ≤ zc) (hzc2 : zc ≤ 255) (sv : Value) (hN : NilOk sv) (w : World) (hS : StintsAt w sv r.stints) : Calls Try.prog 8 #[relV r sv, .int .u16 za, .int .u16 zb, .int .u8 zc] w fun e w' => e = .returned (.bool true) ∧ Below w.heap.size w w' := by
  obtain ⟨sa, scap, rfl, hs0⟩ := id hS
  clear hs0
  have hx := hid (KeepM.start hS)
  have hN' := hid hN
  clear hN
  cases hfar : farB r 5
  · have hn6 := far_n hfar
    have H12 := hid (fun W h => far_as (M := 5) hfar rfl hn (by decide) (.slice sa r.stints.length scap) W h)
    cases hv : r.valid
    · have H32 := hid (fun W h => refRelays_as hn6 hv (.slice sa r.stints.length scap) W h)
      clear hv hn6 hn hfar hS
      go_enter Try.func8, Try.ntmps8
      go_upto_region 1 with fail
      generalize w.alloc (.cells #[.int .i64 r.rest, .slice sa r.stints.length scap] 24) = w0 at hx ⊢
      have lx := (cells_of hx.out.m).1
      have cx := (cells_of hx.out.m).2
      go_wp2_with (first | (go_at_call 12; with_reducible refine (H12.out _ hx.out.s).mono ?_; rintro e w1 ⟨rfl, hb⟩; replace hx := hid (hx.out.below hb); have lx := (cells_of hx.out.m).1; have cx := (cells_of hx.out.m).2; clear hb) | (go_at_call 32; with_reducible refine (H32.out _ hx.out.s).mono ?_; rintro e w3 ⟨rfl, hb⟩; replace hx := hid (hx.out.below hb); have lx := (cells_of hx.out.m).1; have cx := (cells_of hx.out.m).2; clear hb) | (go_at_call 13; with_reducible refine (awake_any _).mono ?_; rintro e z9 ⟨rfl, hb⟩; replace hx := hid (hx.out.below hb); have lx := (cells_of hx.out.m).1; have cx := (cells_of hx.out.m).2; clear hb))
      go_ret
      exact ⟨rfl, hx.out.bel⟩
    · have hv' := hid hv
      have hn5 := hid (r.ok_of hv).2.2.1
      have H32 := hid (fun W h => refRelays_as hn6 hv (.slice sa r.stints.length scap) W h)
      obtain ⟨F, hF⟩ : ∃ F, za % 601 = F := ⟨_, rfl⟩
      have hF0 : 0 ≤ F := by omega
      have hF6 : F ≤ 600 := by omega
      have hFt : za.tmod 601 = F := by rw [Int.tmod_eq_emod_of_nonneg hza]; exact hF
      obtain ⟨U, hU⟩ : ∃ U, zb % (601 - F) = U := ⟨_, rfl⟩
      have hU0 : 0 ≤ U := by rw [← hU]; exact Int.emod_nonneg _ (by omega)
      have hU6 : U < 601 - F := by rw [← hU]; exact Int.emod_lt_of_pos _ (by omega)
      have hUt : zb.tmod (601 - F) = U := by rw [Int.tmod_eq_emod_of_nonneg hzb]; exact hU
      obtain ⟨T, hT⟩ : ∃ T, F + U = T := ⟨_, rfl⟩
      have hFT : F ≤ T := by omega
      have hT6 : T ≤ 600 := by omega
      cases hc : r.canB r.every
      · obtain ⟨C, hC, _⟩ := clash_law hv hc
        have H22 := hid (fun W h => Nobody_as hn6 (show nobodyOf r F T = (0, 10) from minute_panics (panics_clash hv (range_mk hF0 hFT hT6) hc)) (.slice sa r.stints.length scap) W h)
        have H24 := hid (fun W h => Gap_as hn6 (show minuteGapOf r F T = (0, 10) from minute_panics (panics_clash hv (range_mk hF0 hFT hT6) hc)) (.slice sa r.stints.length scap) W h)
        have H26 := hid (fun W h => Clash_as hn6 hC (.slice sa r.stints.length scap) W h)
        clear hv hc hn6 hn hfar hS hC
        go_enter Try.func8, Try.ntmps8
        go_upto_region 1 with fail
        generalize w.alloc (.cells #[.int .i64 r.rest, .slice sa r.stints.length scap] 24) = w0 at hx ⊢
        have lx := (cells_of hx.out.m).1
        have cx := (cells_of hx.out.m).2
        go_wp2_with (first | (go_at_call 12; with_reducible refine (H12.out _ hx.out.s).mono ?_; rintro e w1 ⟨rfl, hb⟩; replace hx := hid (hx.out.below hb); have lx := (cells_of hx.out.m).1; have cx := (cells_of hx.out.m).2; clear hb) | (go_at_call 22; with_reducible refine (H22.out _ hx.out.s).mono ?_; rintro e w2 ⟨rfl, hb⟩; replace hx := hid (hx.out.below hb); have lx := (cells_of hx.out.m).1; have cx := (cells_of hx.out.m).2; clear hb) | (go_at_call 24; with_reducible refine (H24.out _ hx.out.s).mono ?_; rintro e w2 ⟨rfl, hb⟩; replace hx := hid (hx.out.below hb); have lx := (cells_of hx.out.m).1; have cx := (cells_of hx.out.m).2; clear hb) | (go_at_call 26; with_reducible refine (H26.out _ hx.out.s).mono ?_; rintro e w2 ⟨rfl, hb⟩; replace hx := hid (hx.out.below hb); have lx := (cells_of hx.out.m).1; have cx := (cells_of hx.out.m).2; clear hb) | (go_at_call 32; with_reducible refine (H32.out _ hx.out.s).mono ?_; rintro e w3 ⟨rfl, hb⟩; replace hx := hid (hx.out.below hb); have lx := (cells_of hx.out.m).1; have cx := (cells_of hx.out.m).2; clear hb) | (go_at_call 13; with_reducible refine (awake_any _).mono ?_; rintro e z9 ⟨rfl, hb⟩; replace hx := hid (hx.out.below hb); have lx := (cells_of hx.out.m).1; have cx := (cells_of hx.out.m).2; clear hb))
        go_ret
        exact ⟨rfl, hx.out.bel⟩
      · have hc' := hid hc
        have HA := hid (fun (m : Int) (W : World) (h : StintsAt W (.slice sa r.stints.length scap) r.stints) => alone_any r hv hc m w.heap.size (.slice sa r.stints.length scap) W h)
        have HX := hid (fun k K hK hk m W h => exact_as hn5.out (k := k) (K := K) hK hk m (.slice sa r.stints.length scap) hN'.out W h)
        have hni : (r.stints.length : Int) ≤ 5 := by have := hn5.out; have : r.stints.length = r.n := rfl; omega
        have hmf := hmf
        have hbad1 := hid (fun W h => Gap_as hn6 (gap_bad hv (a := T + 1) (b := T) (by omega)) (.slice sa r.stints.length scap) W h)
        have hbad2 := hid (fun W h => Gap_as hn6 (gap_bad hv (a := -1) (b := T) (by omega)) (.slice sa r.stints.length scap) W h)
        have hbad3 := hid (fun W h => Gap_as hn6 (gap_bad hv (a := F) (b := 601) (by omega)) (.slice sa r.stints.length scap) W h)
        rcases minutes_law hv hc (a := F) (b := T) ⟨hF0, hFT, hT6⟩ with ⟨n, g, e1, e2, q1, q2, q3, q4, hNn, hNb, hGb⟩ | ⟨g, e1, e2, q1, q2, hNb, hGb⟩ | ⟨e1, e2, hNb, hGb⟩
        · skip
          have H22 := hid (fun W h => Nobody_as hn6 e1 (.slice sa r.stints.length scap) W h)
          have H24 := hid (fun W h => Gap_as hn6 e2 (.slice sa r.stints.length scap) W h)
          clear e1 e2 hfar hS hn
          have hNn' := hid hNn
          clear hNn
          have hNb' := hid hNb
          have hGb' := hid hGb
          clear hNb hGb
          go_enter Try.func8, Try.ntmps8
          go_upto_region 1 with fail
          generalize w.alloc (.cells #[.int .i64 r.rest, .slice sa r.stints.length scap] 24) = w0 at hx ⊢
          have lx := (cells_of hx.out.m).1
          have cx := (cells_of hx.out.m).2
          go_upto_if 162 with (first | (go_at_call 12; with_reducible refine (H12.out _ hx.out.s).mono ?_; rintro e w1 ⟨rfl, hb⟩; replace hx := hid (hx.out.below hb); have lx := (cells_of hx.out.m).1; have cx := (cells_of hx.out.m).2; clear hb) | (go_at_call 22; with_reducible refine (H22.out _ hx.out.s).mono ?_; rintro e w2 ⟨rfl, hb⟩; replace hx := hid (hx.out.below hb); have lx := (cells_of hx.out.m).1; have cx := (cells_of hx.out.m).2; clear hb) | (go_at_call 24; with_reducible refine (H24.out _ hx.out.s).mono ?_; rintro e w2 ⟨rfl, hb⟩; replace hx := hid (hx.out.below hb); have lx := (cells_of hx.out.m).1; have cx := (cells_of hx.out.m).2; clear hb) | (go_at_call 32; with_reducible refine (H32.out _ hx.out.s).mono ?_; rintro e w3 ⟨rfl, hb⟩; replace hx := hid (hx.out.below hb); have lx := (cells_of hx.out.m).1; have cx := (cells_of hx.out.m).2; clear hb))
          clear H12 H22 H24 H32
          go_cut [18, 19, 20, 21, 22, 23, 24, 25] from 163 to 208 (fun _ _ _ _ _ _ _ _ wx => Hid (KeepM w r (.slice sa r.stints.length scap) wx))
          case first =>
            have HAn := hid (fun (W : World) (h : StintsAt W (.slice sa r.stints.length scap) r.stints) (hm : W.heap[w.heap.size]? = some (.cells #[.int .i64 r.rest, .slice sa r.stints.length scap] 24 (0, 0))) => (HA.out n W h hm).mono (R' := fun e w' => ∃ gb : Bool, e = .returned (.tuple #[.bool gb, .bool false]) ∧ Below W.heap.size W w') (fun e w' ⟨gb, cb, h1, _, h3, h4⟩ => ⟨gb, by cases cb; exact h1; exact absurd (nobody_free hv'.out hc'.out hNn'.out) (h3 rfl), h4⟩))
            go_wp2_with (go_at_call 35; with_reducible refine (HAn.out _ hx.out.s hx.out.m).mono ?_; rintro e y1 ⟨gb, rfl, hb⟩; replace hx := hid (hx.out.below hb); have lx := (cells_of hx.out.m).1; have cx := (cells_of hx.out.m).2; clear hb)
            clear lx cx HAn
            go_loopw [20, 21, 22, 23, 24, 25, 173] (fun _ _ _ _ _ _ i wr => ∃ k : Nat, k ≤ r.stints.length ∧ i = .int .i64 k ∧ Hid (KeepM w r (.slice sa r.stints.length scap) wr)) (fun _ _ _ _ _ _ i _ => r.stints.length - (intOf i).toNat)
            case atStart => exact ⟨0, by omega, rfl, hx⟩
            case round =>
              obtain ⟨k, hk, rfl, hx1⟩ := hrel
              clear hx
              have hx := hx1
              clear hx1
              have lx := (cells_of hx.out.m).1
              have cx := (cells_of hx.out.m).2
              by_cases hlt : k < r.stints.length
              · have hki : (k : Int) < (r.stints.length : Int) := by omega
                obtain ⟨lo, hi, ho, hon⟩ := on_spec hv'.out hc'.out (i := k) hlt
                have H14 := hid (fun W h => On_as hn6 ho (.slice sa r.stints.length scap) W h)
                clear ho
                go_upto_region 21 with (go_at_call 14; with_reducible refine (H14.out _ hx.out.s).mono ?_; rintro e w1 ⟨rfl, hb⟩; replace hx := hid (hx.out.below hb); have lx := (cells_of hx.out.m).1; have cx := (cells_of hx.out.m).2; clear hb)
                replace hx := hid (hx.out.below (below_alloc (Below.refl _ _) (.cells #[.int .i64 lo, .int .i64 hi] 28)))
                have hA := alloc_at (w := w1) (o := .cells #[.int .i64 lo, .int .i64 hi] 28) rfl
                generalize w1.alloc (.cells #[.int .i64 lo, .int .i64 hi] 28) = w2 at hA hx ⊢
                generalize w1.heap.size = ba at hA ⊢
                replace hA := hid hA
                clear lx cx H14
                have lx := (cells_of hx.out.m).1
                have cx := (cells_of hx.out.m).2
                have la := (cells_of hA.out).1
                have ca := (cells_of hA.out).2
                by_cases hlo : n < lo
                · clear hon
                  go_wp2
                  clear lx cx la ca
                  go_roundw
                  case rel => exact ⟨k + 1, by omega, by go_num, hx⟩
                  case measure => simp [intOf]; omega
                · obtain ⟨hv2, a2, b2, ho2, hb2⟩ := early_end hv'.out hlt hNn'.out hon (by omega)
                  have H16 := hid (fun sv' W h => Off_as (r := r.put (4 * k) (lo, lo)) (by rw [r.put_n]; exact hn6) ho2 sv' W h)
                  clear hon ho2 hv2
                  have HX4 := hid (HX.out (4 * k) (4 * (k : Int)) (by omega) (by have : r.stints.length = r.n := rfl; omega) lo)
                  go_upto_region 25 with (go_at_call 33; with_reducible refine (HX4.out _ hx.out.s).mono ?_; rintro e w3 ⟨sv2, rfl, hS2, hN2, hb⟩; obtain ⟨a7, cap7, rfl⟩ := stints_open hS2; clear hN2; replace hS2 := hid hS2; replace hA := hid ((hb.block _ (cells_of hA.out).1).trans hA.out); replace hx := hid (hx.out.below hb); have lx := (cells_of hx.out.m).1; have cx := (cells_of hx.out.m).2; clear hb)
                  replace hS2 := hid (hS2.out.below (below_alloc (Below.refl _ _) (.cells #[.int .i64 (r.put (4 * k) (lo, lo)).rest, (.slice a7 (r.put (4 * k) (lo, lo)).stints.length cap7)] 24)))
                  replace hx := hid (hx.out.below (below_alloc (Below.refl _ _) (.cells #[.int .i64 (r.put (4 * k) (lo, lo)).rest, (.slice a7 (r.put (4 * k) (lo, lo)).stints.length cap7)] 24)))
                  have hD := alloc_at (w := w3) (o := .cells #[.int .i64 (r.put (4 * k) (lo, lo)).rest, (.slice a7 (r.put (4 * k) (lo, lo)).stints.length cap7)] 24) rfl
                  generalize w3.alloc (.cells #[.int .i64 (r.put (4 * k) (lo, lo)).rest, (.slice a7 (r.put (4 * k) (lo, lo)).stints.length cap7)] 24) = w4 at hD hS2 hx ⊢
                  generalize w3.heap.size = bd at hD ⊢
                  clear lx cx la ca HX4 hA
                  have ld := (cells_of hD).1
                  have cd := (cells_of hD).2
                  have hD' := hid hD
                  clear hD
                  have H16s := hid (H16.out (.slice a7 (r.put (4 * k) (lo, lo)).stints.length cap7) w4 hS2.out)
                  clear H16
                  go_upto_region 26 with (go_at_call 16; with_reducible refine H16s.out.mono ?_; rintro e w5 ⟨rfl, hb⟩; replace hx := hid (hx.out.below hb); clear hb)
                  replace hx := hid (hx.out.below (below_alloc (Below.refl _ _) (.cells #[.int .i64 a2, .int .i64 b2] 28)))
                  have hA := alloc_at (w := w5) (o := .cells #[.int .i64 a2, .int .i64 b2] 28) rfl
                  generalize w5.alloc (.cells #[.int .i64 a2, .int .i64 b2] 28) = w6 at hA hx ⊢
                  generalize w5.heap.size = be at hA ⊢
                  have la := (cells_of hA).1
                  have ca := (cells_of hA).2
                  replace hA := hid hA
                  clear ld cd H16s
                  go_wp2
                  clear la ca
                  go_roundw
                  case rel => exact ⟨k + 1, by omega, by go_num, hx⟩
                  case measure => simp [intOf]; omega
              · obtain rfl : k = r.stints.length := by omega
                go_wp2
                go_meet
                exact hx
          case rest =>
            clear hx lx cx
            have hx := hcut
            clear hcut
            have lx := (cells_of hx.out.m).1
            have cx := (cells_of hx.out.m).2
            go_upto_if 216 with fail
            go_cut [27, 28, 29, 30, 31] from 216 to 241 (fun _ _ _ _ _ wx => Hid (KeepM w r (.slice sa r.stints.length scap) wx))
            case first =>
              by_cases hend : F < g
              · obtain ⟨V, hV⟩ : ∃ V, zc % (g - F) = V := ⟨_, rfl⟩
                have hV0 : 0 ≤ V := by rw [← hV]; exact Int.emod_nonneg _ (by omega)
                have hV6 : V < g - F := by rw [← hV]; exact Int.emod_lt_of_pos _ (by omega)
                have hVt : zc.tmod (g - F) = V := by rw [Int.tmod_eq_emod_of_nonneg hzc]; exact hV
                obtain ⟨M, hM⟩ : ∃ M, g - 1 - V = M := ⟨_, rfl⟩
                have hM0 : F ≤ M := by omega
                have hM1 : M < g := by omega
                have hM6 : M ≤ T := by omega
                have HAm := hid (fun (W : World) (h : StintsAt W (.slice sa r.stints.length scap) r.stints) (hm : W.heap[w.heap.size]? = some (.cells #[.int .i64 r.rest, .slice sa r.stints.length scap] 24 (0, 0))) => (HA.out M W h hm).mono (R' := fun e w' => ∃ gb : Bool, e = .returned (.tuple #[.bool false, .bool gb]) ∧ Below W.heap.size W w') (fun e w' ⟨gb, cb, h1, h2, _, h4⟩ => ⟨cb, by cases gb; exact h1; exact absurd (nobody_free hv'.out hc'.out (h2 rfl)) (hGb'.out M hM0 (by omega)), h4⟩))
                have HGm := hid (fun W h => Gap_as hn6 (gap_none hv'.out hc'.out (a := F) (b := M) ⟨hF0, hM0, by omega⟩ (fun m h1 h2 => hGb'.out m h1 (by omega))) (.slice sa r.stints.length scap) W h)
                go_wp2_with (first | (go_at_call 35; with_reducible refine (HAm.out _ hx.out.s hx.out.m).mono ?_; rintro e y1 ⟨gb, rfl, hb⟩; replace hx := hid (hx.out.below hb); have lx := (cells_of hx.out.m).1; have cx := (cells_of hx.out.m).2; clear hb) | (go_at_call 24; with_reducible refine (HGm.out _ hx.out.s).mono ?_; rintro e w2 ⟨rfl, hb⟩; replace hx := hid (hx.out.below hb); have lx := (cells_of hx.out.m).1; have cx := (cells_of hx.out.m).2; clear hb))
                go_meet
                exact hx
              · go_wp2
                all_goals
                  go_meet
                  exact hx
            case rest =>
              clear hx lx cx
              have hx := hcut
              clear hcut
              have lx := (cells_of hx.out.m).1
              have cx := (cells_of hx.out.m).2
              go_upto_if 249 with fail
              go_cut [33, 34, 35] from 249 to 267 (fun _ _ _ wx => Hid (KeepM w r (.slice sa r.stints.length scap) wx))
              case first =>
                by_cases hend : F < n
                · obtain ⟨V, hV⟩ : ∃ V, zc % (n - F) = V := ⟨_, rfl⟩
                  have hV0 : 0 ≤ V := by rw [← hV]; exact Int.emod_nonneg _ (by omega)
                  have hV6 : V < n - F := by rw [← hV]; exact Int.emod_lt_of_pos _ (by omega)
                  have hVt : zc.tmod (n - F) = V := by rw [Int.tmod_eq_emod_of_nonneg hzc]; exact hV
                  obtain ⟨M, hM⟩ : ∃ M, n - 1 - V = M := ⟨_, rfl⟩
                  have hM0 : F ≤ M := by omega
                  have hM1 : M < n := by omega
                  have hM6 : M ≤ T := by omega
                  have HGm := hid (fun W h => Nobody_as hn6 (nobody_none hv'.out hc'.out (a := F) (b := M) ⟨hF0, hM0, by omega⟩ (fun m h1 h2 => hNb'.out m h1 (by omega))) (.slice sa r.stints.length scap) W h)
                  go_wp2_with (first | (go_at_call 22; with_reducible refine (HGm.out _ hx.out.s).mono ?_; rintro e w2 ⟨rfl, hb⟩; replace hx := hid (hx.out.below hb); have lx := (cells_of hx.out.m).1; have cx := (cells_of hx.out.m).2; clear hb))
                  go_meet
                  exact hx
                · go_wp2
                  all_goals
                    go_meet
                    exact hx
              case rest =>
                clear hx lx cx
                have hx := hcut
                clear hcut
                have lx := (cells_of hx.out.m).1
                have cx := (cells_of hx.out.m).2
                go_upto_region 49 with fail
                have hQ := alloc_at (w := wc) (o := (.cells #[.int .i64 (T + 1), .int .i64 T, .int .i64 (-1), .int .i64 T, .int .i64 F, .int .i64 601] 53)) rfl
                replace hx := hid (hx.out.below (below_alloc (Below.refl _ _) (.cells #[.int .i64 (T + 1), .int .i64 T, .int .i64 (-1), .int .i64 T, .int .i64 F, .int .i64 601] 53)))
                generalize wc.alloc (.cells #[.int .i64 (T + 1), .int .i64 T, .int .i64 (-1), .int .i64 T, .int .i64 F, .int .i64 601] 53) = w7 at hQ hx ⊢
                generalize wc.heap.size = bs at hQ ⊢
                replace hQ := hid hQ
                clear lx cx
                go_loopw [37, 38, 39, 278] (fun _ _ _ i wr => ∃ k : Nat, k ≤ 3 ∧ i = .int .i64 k ∧ Hid (KeepM w r (.slice sa r.stints.length scap) wr) ∧ Hid (wr.heap[bs]? = some (.cells #[.int .i64 (T + 1), .int .i64 T, .int .i64 (-1), .int .i64 T, .int .i64 F, .int .i64 601] 53 (0, 0)))) (fun _ _ _ i _ => 3 - (intOf i).toNat)
                case atStart => exact ⟨0, by omega, rfl, hx, hQ⟩
                case round =>
                  obtain ⟨k, hk, rfl, hx1, hQ1⟩ := hrel
                  clear hx hQ
                  have hx := hx1
                  have hQ := hQ1
                  clear hx1 hQ1
                  have lx := (cells_of hx.out.m).1
                  have cx := (cells_of hx.out.m).2
                  have lq := (cells_of hQ.out).1
                  have cq := (cells_of hQ.out).2
                  rcases (show k = 0 ∨ k = 1 ∨ k = 2 ∨ k = 3 by omega) with rfl | rfl | rfl | rfl
                  · clear hk
                    go_upto_region 51 with fail
                    have hP := alloc_at (w := wr) (o := .cells #[.int .i64 (T + 1), .int .i64 T] 53) rfl
                    have hb9 := below_alloc (Below.refl _ wr) (.cells #[.int .i64 (T + 1), .int .i64 T] 53)
                    replace hx := hid (hx.out.below hb9)
                    replace hQ := hid ((hb9.block _ lq).trans hQ.out)
                    generalize wr.alloc (.cells #[.int .i64 (T + 1), .int .i64 T] 53) = w8 at hP hx hQ ⊢
                    clear hb9 lx cx lq cq
                    generalize wr.heap.size = bp at hP ⊢
                    have lx := (cells_of hx.out.m).1
                    have cx := (cells_of hx.out.m).2
                    have lp := (cells_of hP).1
                    have cp := (cells_of hP).2
                    replace hP := hid hP
                    go_wp2_with (go_at_call 24; with_reducible refine (hbad1.out _ hx.out.s).mono ?_; rintro e w9 ⟨rfl, hb⟩; replace hQ := hid ((hb.block _ (cells_of hQ.out).1).trans hQ.out); replace hx := hid (hx.out.below hb); have lx := (cells_of hx.out.m).1; have cx := (cells_of hx.out.m).2; clear hb)
                    clear lx cx lp cp
                    go_roundw
                    case rel => exact ⟨1, by omega, by rfl, hx, hQ⟩
                    case measure => simp [intOf]
                  · clear hk
                    go_upto_region 51 with fail
                    have hP := alloc_at (w := wr) (o := .cells #[.int .i64 (-1), .int .i64 T] 53) rfl
                    have hb9 := below_alloc (Below.refl _ wr) (.cells #[.int .i64 (-1), .int .i64 T] 53)
                    replace hx := hid (hx.out.below hb9)
                    replace hQ := hid ((hb9.block _ lq).trans hQ.out)
                    generalize wr.alloc (.cells #[.int .i64 (-1), .int .i64 T] 53) = w8 at hP hx hQ ⊢
                    clear hb9 lx cx lq cq
                    generalize wr.heap.size = bp at hP ⊢
                    have lx := (cells_of hx.out.m).1
                    have cx := (cells_of hx.out.m).2
                    have lp := (cells_of hP).1
                    have cp := (cells_of hP).2
                    replace hP := hid hP
                    go_wp2_with (go_at_call 24; with_reducible refine (hbad2.out _ hx.out.s).mono ?_; rintro e w9 ⟨rfl, hb⟩; replace hQ := hid ((hb.block _ (cells_of hQ.out).1).trans hQ.out); replace hx := hid (hx.out.below hb); have lx := (cells_of hx.out.m).1; have cx := (cells_of hx.out.m).2; clear hb)
                    clear lx cx lp cp
                    go_roundw
                    case rel => exact ⟨2, by omega, by rfl, hx, hQ⟩
                    case measure => simp [intOf]
                  · clear hk
                    go_upto_region 51 with fail
                    have hP := alloc_at (w := wr) (o := .cells #[.int .i64 F, .int .i64 601] 53) rfl
                    have hb9 := below_alloc (Below.refl _ wr) (.cells #[.int .i64 F, .int .i64 601] 53)
                    replace hx := hid (hx.out.below hb9)
                    replace hQ := hid ((hb9.block _ lq).trans hQ.out)
                    generalize wr.alloc (.cells #[.int .i64 F, .int .i64 601] 53) = w8 at hP hx hQ ⊢
                    clear hb9 lx cx lq cq
                    generalize wr.heap.size = bp at hP ⊢
                    have lx := (cells_of hx.out.m).1
                    have cx := (cells_of hx.out.m).2
                    have lp := (cells_of hP).1
                    have cp := (cells_of hP).2
                    replace hP := hid hP
                    go_wp2_with (go_at_call 24; with_reducible refine (hbad3.out _ hx.out.s).mono ?_; rintro e w9 ⟨rfl, hb⟩; replace hQ := hid ((hb.block _ (cells_of hQ.out).1).trans hQ.out); replace hx := hid (hx.out.below hb); have lx := (cells_of hx.out.m).1; have cx := (cells_of hx.out.m).2; clear hb)
                    clear lx cx lp cp
                    go_roundw
                    case rel => exact ⟨3, by omega, by rfl, hx, hQ⟩
                    case measure => simp [intOf]
                  · go_wp2_with (go_at_call 13; with_reducible refine (awake_any _).mono ?_; rintro e z9 ⟨rfl, hb⟩; replace hx := hid (hx.out.below hb); have lx := (cells_of hx.out.m).1; have cx := (cells_of hx.out.m).2; clear hb)
                    go_ret
                    exact ⟨rfl, hx.out.bel⟩
        · skip
          have H22 := hid (fun W h => Nobody_as hn6 e1 (.slice sa r.stints.length scap) W h)
          have H24 := hid (fun W h => Gap_as hn6 e2 (.slice sa r.stints.length scap) W h)
          clear e1 e2 hfar hS hn
          have hNb' := hid hNb
          have hGb' := hid hGb
          clear hNb hGb
          go_enter Try.func8, Try.ntmps8
          go_upto_region 1 with fail
          generalize w.alloc (.cells #[.int .i64 r.rest, .slice sa r.stints.length scap] 24) = w0 at hx ⊢
          have lx := (cells_of hx.out.m).1
          have cx := (cells_of hx.out.m).2
          go_upto_if 162 with (first | (go_at_call 12; with_reducible refine (H12.out _ hx.out.s).mono ?_; rintro e w1 ⟨rfl, hb⟩; replace hx := hid (hx.out.below hb); have lx := (cells_of hx.out.m).1; have cx := (cells_of hx.out.m).2; clear hb) | (go_at_call 22; with_reducible refine (H22.out _ hx.out.s).mono ?_; rintro e w2 ⟨rfl, hb⟩; replace hx := hid (hx.out.below hb); have lx := (cells_of hx.out.m).1; have cx := (cells_of hx.out.m).2; clear hb) | (go_at_call 24; with_reducible refine (H24.out _ hx.out.s).mono ?_; rintro e w2 ⟨rfl, hb⟩; replace hx := hid (hx.out.below hb); have lx := (cells_of hx.out.m).1; have cx := (cells_of hx.out.m).2; clear hb) | (go_at_call 32; with_reducible refine (H32.out _ hx.out.s).mono ?_; rintro e w3 ⟨rfl, hb⟩; replace hx := hid (hx.out.below hb); have lx := (cells_of hx.out.m).1; have cx := (cells_of hx.out.m).2; clear hb))
          clear H12 H22 H24 H32
          go_upto_if 216 with fail
          go_cut [27, 28, 29, 30, 31] from 216 to 241 (fun _ _ _ _ _ wx => Hid (KeepM w r (.slice sa r.stints.length scap) wx))
          case first =>
            by_cases hend : F < g
            · obtain ⟨V, hV⟩ : ∃ V, zc % (g - F) = V := ⟨_, rfl⟩
              have hV0 : 0 ≤ V := by rw [← hV]; exact Int.emod_nonneg _ (by omega)
              have hV6 : V < g - F := by rw [← hV]; exact Int.emod_lt_of_pos _ (by omega)
              have hVt : zc.tmod (g - F) = V := by rw [Int.tmod_eq_emod_of_nonneg hzc]; exact hV
              obtain ⟨M, hM⟩ : ∃ M, g - 1 - V = M := ⟨_, rfl⟩
              have hM0 : F ≤ M := by omega
              have hM1 : M < g := by omega
              have hM6 : M ≤ T := by omega
              have HAm := hid (fun (W : World) (h : StintsAt W (.slice sa r.stints.length scap) r.stints) (hm : W.heap[w.heap.size]? = some (.cells #[.int .i64 r.rest, .slice sa r.stints.length scap] 24 (0, 0))) => (HA.out M W h hm).mono (R' := fun e w' => ∃ gb : Bool, e = .returned (.tuple #[.bool false, .bool gb]) ∧ Below W.heap.size W w') (fun e w' ⟨gb, cb, h1, h2, _, h4⟩ => ⟨cb, by cases gb; exact h1; exact absurd (nobody_free hv'.out hc'.out (h2 rfl)) (hGb'.out M hM0 (by omega)), h4⟩))
              have HGm := hid (fun W h => Gap_as hn6 (gap_none hv'.out hc'.out (a := F) (b := M) ⟨hF0, hM0, by omega⟩ (fun m h1 h2 => hGb'.out m h1 (by omega))) (.slice sa r.stints.length scap) W h)
              go_wp2_with (first | (go_at_call 35; with_reducible refine (HAm.out _ hx.out.s hx.out.m).mono ?_; rintro e y1 ⟨gb, rfl, hb⟩; replace hx := hid (hx.out.below hb); have lx := (cells_of hx.out.m).1; have cx := (cells_of hx.out.m).2; clear hb) | (go_at_call 24; with_reducible refine (HGm.out _ hx.out.s).mono ?_; rintro e w2 ⟨rfl, hb⟩; replace hx := hid (hx.out.below hb); have lx := (cells_of hx.out.m).1; have cx := (cells_of hx.out.m).2; clear hb))
              go_meet
              exact hx
            · go_wp2
              all_goals
                go_meet
                exact hx
          case rest =>
            clear hx lx cx
            have hx := hcut
            clear hcut
            have lx := (cells_of hx.out.m).1
            have cx := (cells_of hx.out.m).2
            go_upto_if 249 with fail
            go_cut [33, 34, 35] from 249 to 267 (fun _ _ _ wx => Hid (KeepM w r (.slice sa r.stints.length scap) wx))
            case first =>
              by_cases hend : F < (T + 1)
              · obtain ⟨V, hV⟩ : ∃ V, zc % ((T + 1) - F) = V := ⟨_, rfl⟩
                have hV0 : 0 ≤ V := by rw [← hV]; exact Int.emod_nonneg _ (by omega)
                have hV6 : V < (T + 1) - F := by rw [← hV]; exact Int.emod_lt_of_pos _ (by omega)
                have hVt : zc.tmod ((T + 1) - F) = V := by rw [Int.tmod_eq_emod_of_nonneg hzc]; exact hV
                obtain ⟨M, hM⟩ : ∃ M, T - V = M := ⟨_, rfl⟩
                have hM0 : F ≤ M := by omega
                have hM1 : M < (T + 1) := by omega
                have hM6 : M ≤ T := by omega
                have HGm := hid (fun W h => Nobody_as hn6 (nobody_none hv'.out hc'.out (a := F) (b := M) ⟨hF0, hM0, by omega⟩ (fun m h1 h2 => hNb'.out m h1 (by omega))) (.slice sa r.stints.length scap) W h)
                go_wp2_with (first | (go_at_call 22; with_reducible refine (HGm.out _ hx.out.s).mono ?_; rintro e w2 ⟨rfl, hb⟩; replace hx := hid (hx.out.below hb); have lx := (cells_of hx.out.m).1; have cx := (cells_of hx.out.m).2; clear hb))
                go_meet
                exact hx
              · go_wp2
                all_goals
                  go_meet
                  exact hx
            case rest =>
              clear hx lx cx
              have hx := hcut
              clear hcut
              have lx := (cells_of hx.out.m).1
              have cx := (cells_of hx.out.m).2
              go_upto_region 49 with fail
              have hQ := alloc_at (w := wc) (o := (.cells #[.int .i64 (T + 1), .int .i64 T, .int .i64 (-1), .int .i64 T, .int .i64 F, .int .i64 601] 53)) rfl
              replace hx := hid (hx.out.below (below_alloc (Below.refl _ _) (.cells #[.int .i64 (T + 1), .int .i64 T, .int .i64 (-1), .int .i64 T, .int .i64 F, .int .i64 601] 53)))
              generalize wc.alloc (.cells #[.int .i64 (T + 1), .int .i64 T, .int .i64 (-1), .int .i64 T, .int .i64 F, .int .i64 601] 53) = w7 at hQ hx ⊢
              generalize wc.heap.size = bs at hQ ⊢
              replace hQ := hid hQ
              clear lx cx
              go_loopw [37, 38, 39, 278] (fun _ _ _ i wr => ∃ k : Nat, k ≤ 3 ∧ i = .int .i64 k ∧ Hid (KeepM w r (.slice sa r.stints.length scap) wr) ∧ Hid (wr.heap[bs]? = some (.cells #[.int .i64 (T + 1), .int .i64 T, .int .i64 (-1), .int .i64 T, .int .i64 F, .int .i64 601] 53 (0, 0)))) (fun _ _ _ i _ => 3 - (intOf i).toNat)
              case atStart => exact ⟨0, by omega, rfl, hx, hQ⟩
              case round =>
                obtain ⟨k, hk, rfl, hx1, hQ1⟩ := hrel
                clear hx hQ
                have hx := hx1
                have hQ := hQ1
                clear hx1 hQ1
                have lx := (cells_of hx.out.m).1
                have cx := (cells_of hx.out.m).2
                have lq := (cells_of hQ.out).1
                have cq := (cells_of hQ.out).2
                rcases (show k = 0 ∨ k = 1 ∨ k = 2 ∨ k = 3 by omega) with rfl | rfl | rfl | rfl
                · clear hk
                  go_upto_region 51 with fail
                  have hP := alloc_at (w := wr) (o := .cells #[.int .i64 (T + 1), .int .i64 T] 53) rfl
                  have hb9 := below_alloc (Below.refl _ wr) (.cells #[.int .i64 (T + 1), .int .i64 T] 53)
                  replace hx := hid (hx.out.below hb9)
                  replace hQ := hid ((hb9.block _ lq).trans hQ.out)
                  generalize wr.alloc (.cells #[.int .i64 (T + 1), .int .i64 T] 53) = w8 at hP hx hQ ⊢
                  clear hb9 lx cx lq cq
                  generalize wr.heap.size = bp at hP ⊢
                  have lx := (cells_of hx.out.m).1
                  have cx := (cells_of hx.out.m).2
                  have lp := (cells_of hP).1
                  have cp := (cells_of hP).2
                  replace hP := hid hP
                  go_wp2_with (go_at_call 24; with_reducible refine (hbad1.out _ hx.out.s).mono ?_; rintro e w9 ⟨rfl, hb⟩; replace hQ := hid ((hb.block _ (cells_of hQ.out).1).trans hQ.out); replace hx := hid (hx.out.below hb); have lx := (cells_of hx.out.m).1; have cx := (cells_of hx.out.m).2; clear hb)
                  clear lx cx lp cp
                  go_roundw
                  case rel => exact ⟨1, by omega, by rfl, hx, hQ⟩
                  case measure => simp [intOf]
                · clear hk
                  go_upto_region 51 with fail
                  have hP := alloc_at (w := wr) (o := .cells #[.int .i64 (-1), .int .i64 T] 53) rfl
                  have hb9 := below_alloc (Below.refl _ wr) (.cells #[.int .i64 (-1), .int .i64 T] 53)
                  replace hx := hid (hx.out.below hb9)
                  replace hQ := hid ((hb9.block _ lq).trans hQ.out)
                  generalize wr.alloc (.cells #[.int .i64 (-1), .int .i64 T] 53) = w8 at hP hx hQ ⊢
                  clear hb9 lx cx lq cq
                  generalize wr.heap.size = bp at hP ⊢
                  have lx := (cells_of hx.out.m).1
                  have cx := (cells_of hx.out.m).2
                  have lp := (cells_of hP).1
                  have cp := (cells_of hP).2
                  replace hP := hid hP
                  go_wp2_with (go_at_call 24; with_reducible refine (hbad2.out _ hx.out.s).mono ?_; rintro e w9 ⟨rfl, hb⟩; replace hQ := hid ((hb.block _ (cells_of hQ.out).1).trans hQ.out); replace hx := hid (hx.out.below hb); have lx := (cells_of hx.out.m).1; have cx := (cells_of hx.out.m).2; clear hb)
                  clear lx cx lp cp
                  go_roundw
                  case rel => exact ⟨2, by omega, by rfl, hx, hQ⟩
                  case measure => simp [intOf]
                · clear hk
                  go_upto_region 51 with fail
                  have hP := alloc_at (w := wr) (o := .cells #[.int .i64 F, .int .i64 601] 53) rfl
                  have hb9 := below_alloc (Below.refl _ wr) (.cells #[.int .i64 F, .int .i64 601] 53)
                  replace hx := hid (hx.out.below hb9)
                  replace hQ := hid ((hb9.block _ lq).trans hQ.out)
                  generalize wr.alloc (.cells #[.int .i64 F, .int .i64 601] 53) = w8 at hP hx hQ ⊢
                  clear hb9 lx cx lq cq
                  generalize wr.heap.size = bp at hP ⊢
                  have lx := (cells_of hx.out.m).1
                  have cx := (cells_of hx.out.m).2
                  have lp := (cells_of hP).1
                  have cp := (cells_of hP).2
                  replace hP := hid hP
                  go_wp2_with (go_at_call 24; with_reducible refine (hbad3.out _ hx.out.s).mono ?_; rintro e w9 ⟨rfl, hb⟩; replace hQ := hid ((hb.block _ (cells_of hQ.out).1).trans hQ.out); replace hx := hid (hx.out.below hb); have lx := (cells_of hx.out.m).1; have cx := (cells_of hx.out.m).2; clear hb)
                  clear lx cx lp cp
                  go_roundw
                  case rel => exact ⟨3, by omega, by rfl, hx, hQ⟩
                  case measure => simp [intOf]
                · go_wp2_with (go_at_call 13; with_reducible refine (awake_any _).mono ?_; rintro e z9 ⟨rfl, hb⟩; replace hx := hid (hx.out.below hb); have lx := (cells_of hx.out.m).1; have cx := (cells_of hx.out.m).2; clear hb)
                  go_ret
                  exact ⟨rfl, hx.out.bel⟩
        · skip
          have H22 := hid (fun W h => Nobody_as hn6 e1 (.slice sa r.stints.length scap) W h)
          have H24 := hid (fun W h => Gap_as hn6 e2 (.slice sa r.stints.length scap) W h)
          clear e1 e2 hfar hS hn
          have hNb' := hid hNb
          have hGb' := hid hGb
          clear hNb hGb
          go_enter Try.func8, Try.ntmps8
          go_upto_region 1 with fail
          generalize w.alloc (.cells #[.int .i64 r.rest, .slice sa r.stints.length scap] 24) = w0 at hx ⊢
          have lx := (cells_of hx.out.m).1
          have cx := (cells_of hx.out.m).2
          go_upto_if 162 with (first | (go_at_call 12; with_reducible refine (H12.out _ hx.out.s).mono ?_; rintro e w1 ⟨rfl, hb⟩; replace hx := hid (hx.out.below hb); have lx := (cells_of hx.out.m).1; have cx := (cells_of hx.out.m).2; clear hb) | (go_at_call 22; with_reducible refine (H22.out _ hx.out.s).mono ?_; rintro e w2 ⟨rfl, hb⟩; replace hx := hid (hx.out.below hb); have lx := (cells_of hx.out.m).1; have cx := (cells_of hx.out.m).2; clear hb) | (go_at_call 24; with_reducible refine (H24.out _ hx.out.s).mono ?_; rintro e w2 ⟨rfl, hb⟩; replace hx := hid (hx.out.below hb); have lx := (cells_of hx.out.m).1; have cx := (cells_of hx.out.m).2; clear hb) | (go_at_call 32; with_reducible refine (H32.out _ hx.out.s).mono ?_; rintro e w3 ⟨rfl, hb⟩; replace hx := hid (hx.out.below hb); have lx := (cells_of hx.out.m).1; have cx := (cells_of hx.out.m).2; clear hb))
          clear H12 H22 H24 H32
          go_upto_if 216 with fail
          go_cut [27, 28, 29, 30, 31] from 216 to 241 (fun _ _ _ _ _ wx => Hid (KeepM w r (.slice sa r.stints.length scap) wx))
          case first =>
            by_cases hend : F < (T + 1)
            · obtain ⟨V, hV⟩ : ∃ V, zc % ((T + 1) - F) = V := ⟨_, rfl⟩
              have hV0 : 0 ≤ V := by rw [← hV]; exact Int.emod_nonneg _ (by omega)
              have hV6 : V < (T + 1) - F := by rw [← hV]; exact Int.emod_lt_of_pos _ (by omega)
              have hVt : zc.tmod ((T + 1) - F) = V := by rw [Int.tmod_eq_emod_of_nonneg hzc]; exact hV
              obtain ⟨M, hM⟩ : ∃ M, T - V = M := ⟨_, rfl⟩
              have hM0 : F ≤ M := by omega
              have hM1 : M < (T + 1) := by omega
              have hM6 : M ≤ T := by omega
              have HAm := hid (fun (W : World) (h : StintsAt W (.slice sa r.stints.length scap) r.stints) (hm : W.heap[w.heap.size]? = some (.cells #[.int .i64 r.rest, .slice sa r.stints.length scap] 24 (0, 0))) => (HA.out M W h hm).mono (R' := fun e w' => ∃ gb : Bool, e = .returned (.tuple #[.bool false, .bool gb]) ∧ Below W.heap.size W w') (fun e w' ⟨gb, cb, h1, h2, _, h4⟩ => ⟨cb, by cases gb; exact h1; exact absurd (nobody_free hv'.out hc'.out (h2 rfl)) (hGb'.out M hM0 (by omega)), h4⟩))
              have HGm := hid (fun W h => Gap_as hn6 (gap_none hv'.out hc'.out (a := F) (b := M) ⟨hF0, hM0, by omega⟩ (fun m h1 h2 => hGb'.out m h1 (by omega))) (.slice sa r.stints.length scap) W h)
              go_wp2_with (first | (go_at_call 35; with_reducible refine (HAm.out _ hx.out.s hx.out.m).mono ?_; rintro e y1 ⟨gb, rfl, hb⟩; replace hx := hid (hx.out.below hb); have lx := (cells_of hx.out.m).1; have cx := (cells_of hx.out.m).2; clear hb) | (go_at_call 24; with_reducible refine (HGm.out _ hx.out.s).mono ?_; rintro e w2 ⟨rfl, hb⟩; replace hx := hid (hx.out.below hb); have lx := (cells_of hx.out.m).1; have cx := (cells_of hx.out.m).2; clear hb))
              go_meet
              exact hx
            · go_wp2
              all_goals
                go_meet
                exact hx
          case rest =>
            clear hx lx cx
            have hx := hcut
            clear hcut
            have lx := (cells_of hx.out.m).1
            have cx := (cells_of hx.out.m).2
            go_upto_if 249 with fail
            go_cut [33, 34, 35] from 249 to 267 (fun _ _ _ wx => Hid (KeepM w r (.slice sa r.stints.length scap) wx))
            case first =>
              by_cases hend : F < (T + 1)
              · obtain ⟨V, hV⟩ : ∃ V, zc % ((T + 1) - F) = V := ⟨_, rfl⟩
                have hV0 : 0 ≤ V := by rw [← hV]; exact Int.emod_nonneg _ (by omega)
                have hV6 : V < (T + 1) - F := by rw [← hV]; exact Int.emod_lt_of_pos _ (by omega)
                have hVt : zc.tmod ((T + 1) - F) = V := by rw [Int.tmod_eq_emod_of_nonneg hzc]; exact hV
                obtain ⟨M, hM⟩ : ∃ M, T - V = M := ⟨_, rfl⟩
                have hM0 : F ≤ M := by omega
                have hM1 : M < (T + 1) := by omega
                have hM6 : M ≤ T := by omega
                have HGm := hid (fun W h => Nobody_as hn6 (nobody_none hv'.out hc'.out (a := F) (b := M) ⟨hF0, hM0, by omega⟩ (fun m h1 h2 => hNb'.out m h1 (by omega))) (.slice sa r.stints.length scap) W h)
                go_wp2_with (first | (go_at_call 22; with_reducible refine (HGm.out _ hx.out.s).mono ?_; rintro e w2 ⟨rfl, hb⟩; replace hx := hid (hx.out.below hb); have lx := (cells_of hx.out.m).1; have cx := (cells_of hx.out.m).2; clear hb))
                go_meet
                exact hx
              · go_wp2
                all_goals
                  go_meet
                  exact hx
            case rest =>
              clear hx lx cx
              have hx := hcut
              clear hcut
              have lx := (cells_of hx.out.m).1
              have cx := (cells_of hx.out.m).2
              go_upto_region 49 with fail
              have hQ := alloc_at (w := wc) (o := (.cells #[.int .i64 (T + 1), .int .i64 T, .int .i64 (-1), .int .i64 T, .int .i64 F, .int .i64 601] 53)) rfl
              replace hx := hid (hx.out.below (below_alloc (Below.refl _ _) (.cells #[.int .i64 (T + 1), .int .i64 T, .int .i64 (-1), .int .i64 T, .int .i64 F, .int .i64 601] 53)))
              generalize wc.alloc (.cells #[.int .i64 (T + 1), .int .i64 T, .int .i64 (-1), .int .i64 T, .int .i64 F, .int .i64 601] 53) = w7 at hQ hx ⊢
              generalize wc.heap.size = bs at hQ ⊢
              replace hQ := hid hQ
              clear lx cx
              go_loopw [37, 38, 39, 278] (fun _ _ _ i wr => ∃ k : Nat, k ≤ 3 ∧ i = .int .i64 k ∧ Hid (KeepM w r (.slice sa r.stints.length scap) wr) ∧ Hid (wr.heap[bs]? = some (.cells #[.int .i64 (T + 1), .int .i64 T, .int .i64 (-1), .int .i64 T, .int .i64 F, .int .i64 601] 53 (0, 0)))) (fun _ _ _ i _ => 3 - (intOf i).toNat)
              case atStart => exact ⟨0, by omega, rfl, hx, hQ⟩
              case round =>
                obtain ⟨k, hk, rfl, hx1, hQ1⟩ := hrel
                clear hx hQ
                have hx := hx1
                have hQ := hQ1
                clear hx1 hQ1
                have lx := (cells_of hx.out.m).1
                have cx := (cells_of hx.out.m).2
                have lq := (cells_of hQ.out).1
                have cq := (cells_of hQ.out).2
                rcases (show k = 0 ∨ k = 1 ∨ k = 2 ∨ k = 3 by omega) with rfl | rfl | rfl | rfl
                · clear hk
                  go_upto_region 51 with fail
                  have hP := alloc_at (w := wr) (o := .cells #[.int .i64 (T + 1), .int .i64 T] 53) rfl
                  have hb9 := below_alloc (Below.refl _ wr) (.cells #[.int .i64 (T + 1), .int .i64 T] 53)
                  replace hx := hid (hx.out.below hb9)
                  replace hQ := hid ((hb9.block _ lq).trans hQ.out)
                  generalize wr.alloc (.cells #[.int .i64 (T + 1), .int .i64 T] 53) = w8 at hP hx hQ ⊢
                  clear hb9 lx cx lq cq
                  generalize wr.heap.size = bp at hP ⊢
                  have lx := (cells_of hx.out.m).1
                  have cx := (cells_of hx.out.m).2
                  have lp := (cells_of hP).1
                  have cp := (cells_of hP).2
                  replace hP := hid hP
                  go_wp2_with (go_at_call 24; with_reducible refine (hbad1.out _ hx.out.s).mono ?_; rintro e w9 ⟨rfl, hb⟩; replace hQ := hid ((hb.block _ (cells_of hQ.out).1).trans hQ.out); replace hx := hid (hx.out.below hb); have lx := (cells_of hx.out.m).1; have cx := (cells_of hx.out.m).2; clear hb)
                  clear lx cx lp cp
                  go_roundw
                  case rel => exact ⟨1, by omega, by rfl, hx, hQ⟩
                  case measure => simp [intOf]
                · clear hk
                  go_upto_region 51 with fail
                  have hP := alloc_at (w := wr) (o := .cells #[.int .i64 (-1), .int .i64 T] 53) rfl
                  have hb9 := below_alloc (Below.refl _ wr) (.cells #[.int .i64 (-1), .int .i64 T] 53)
                  replace hx := hid (hx.out.below hb9)
                  replace hQ := hid ((hb9.block _ lq).trans hQ.out)
                  generalize wr.alloc (.cells #[.int .i64 (-1), .int .i64 T] 53) = w8 at hP hx hQ ⊢
                  clear hb9 lx cx lq cq
                  generalize wr.heap.size = bp at hP ⊢
                  have lx := (cells_of hx.out.m).1
                  have cx := (cells_of hx.out.m).2
                  have lp := (cells_of hP).1
                  have cp := (cells_of hP).2
                  replace hP := hid hP
                  go_wp2_with (go_at_call 24; with_reducible refine (hbad2.out _ hx.out.s).mono ?_; rintro e w9 ⟨rfl, hb⟩; replace hQ := hid ((hb.block _ (cells_of hQ.out).1).trans hQ.out); replace hx := hid (hx.out.below hb); have lx := (cells_of hx.out.m).1; have cx := (cells_of hx.out.m).2; clear hb)
                  clear lx cx lp cp
                  go_roundw
                  case rel => exact ⟨2, by omega, by rfl, hx, hQ⟩
                  case measure => simp [intOf]
                · clear hk
                  go_upto_region 51 with fail
                  have hP := alloc_at (w := wr) (o := .cells #[.int .i64 F, .int .i64 601] 53) rfl
                  have hb9 := below_alloc (Below.refl _ wr) (.cells #[.int .i64 F, .int .i64 601] 53)
                  replace hx := hid (hx.out.below hb9)
                  replace hQ := hid ((hb9.block _ lq).trans hQ.out)
                  generalize wr.alloc (.cells #[.int .i64 F, .int .i64 601] 53) = w8 at hP hx hQ ⊢
                  clear hb9 lx cx lq cq
                  generalize wr.heap.size = bp at hP ⊢
                  have lx := (cells_of hx.out.m).1
                  have cx := (cells_of hx.out.m).2
                  have lp := (cells_of hP).1
                  have cp := (cells_of hP).2
                  replace hP := hid hP
                  go_wp2_with (go_at_call 24; with_reducible refine (hbad3.out _ hx.out.s).mono ?_; rintro e w9 ⟨rfl, hb⟩; replace hQ := hid ((hb.block _ (cells_of hQ.out).1).trans hQ.out); replace hx := hid (hx.out.below hb); have lx := (cells_of hx.out.m).1; have cx := (cells_of hx.out.m).2; clear hb)
                  clear lx cx lp cp
                  go_roundw
                  case rel => exact ⟨3, by omega, by rfl, hx, hQ⟩
                  case measure => simp [intOf]
                · go_wp2_with (go_at_call 13; with_reducible refine (awake_any _).mono ?_; rintro e z9 ⟨rfl, hb⟩; replace hx := hid (hx.out.below hb); have lx := (cells_of hx.out.m).1; have cx := (cells_of hx.out.m).2; clear hb)
                  go_ret
                  exact ⟨rfl, hx.out.bel⟩
  · have H12 := hid (fun W h => far_as (M := 5) hfar rfl hn (by decide) (.slice sa r.stints.length scap) W h)
    clear hn hfar hS
    go_enter Try.func8, Try.ntmps8
    go_upto_region 1 with fail
    generalize w.alloc (.cells #[.int .i64 r.rest, .slice sa r.stints.length scap] 24) = w0 at hx ⊢
    have lx := (cells_of hx.out.m).1
    have cx := (cells_of hx.out.m).2
    go_wp2_with (first | (go_at_call 12; with_reducible refine (H12.out _ hx.out.s).mono ?_; rintro e w1 ⟨rfl, hb⟩; replace hx := hid (hx.out.below hb); have lx := (cells_of hx.out.m).1; have cx := (cells_of hx.out.m).2; clear hb) | (go_at_call 13; with_reducible refine (awake_any _).mono ?_; rintro e z9 ⟨rfl, hb⟩; replace hx := hid (hx.out.below hb); have lx := (cells_of hx.out.m).1; have cx := (cells_of hx.out.m).2; clear hb))
    go_ret
    exact ⟨rfl, hx.out.bel⟩

end Go.Proofs.Ytccgakdaiaigoaa
