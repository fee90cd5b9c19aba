/- What each stint tells of a minute by itself (of RelayMinutes), walked. -/
import Derived.Test.YtccgakdaiaigoaaE7
import Derived.Test.YtccgakdaiaigoaaPU
import Derived.Deep.CutRange
namespace Go.Proofs.Ytccgakdaiaigoaa
open Go.RowKit Go.Lap Go.Shelf

theorem On_as {r : Rel} (hn : r.n ≤ 1000000) {i lo hi c : Int} (h : onOf r i = ((lo, hi), c)) (sv : Value) (w : World) (hS : StintsAt w sv r.stints) : Calls Try.prog 14 #[relV r sv, .int .i64 i] w fun e w' => e = .returned (.tuple #[.agg #[.int .i64 lo, .int .i64 hi], .int .i64 c]) ∧ Below w.heap.size w w' := by
  have h2 := On_any r hn i sv w hS
  rw [h] at h2; exact h2
theorem Off_as {r : Rel} (hn : r.n ≤ 1000000) {i lo hi c : Int} (h : offOf r i = ((lo, hi), c)) (sv : Value) (w : World) (hS : StintsAt w sv r.stints) : Calls Try.prog 16 #[relV r sv, .int .i64 i] w fun e w' => e = .returned (.tuple #[.agg #[.int .i64 lo, .int .i64 hi], .int .i64 c]) ∧ Below w.heap.size w w' := by
  have h2 := Off_any r hn i sv w hS
  rw [h] at h2; exact h2
theorem Length_as {r : Rel} (hn : r.n ≤ 1000000) {i lo hi c : Int} (h : lengthOf r i = ((lo, hi), c)) (sv : Value) (w : World) (hS : StintsAt w sv r.stints) : Calls Try.prog 18 #[relV r sv, .int .i64 i] w fun e w' => e = .returned (.tuple #[.agg #[.int .i64 lo, .int .i64 hi], .int .i64 c]) ∧ Below w.heap.size w w' := by
  have h2 := Length_any r hn i sv w hS
  rw [h] at h2; exact h2

set_option maxRecDepth 100000 in
set_option maxHeartbeats 4000000 in
theorem alone_any (r : Rel) (hv : r.valid = true) (hc : r.canB r.every = true) (m : Int) (b : Nat) (sv : Value) (w : World) (hS : StintsAt w sv r.stints) (hbx : w.heap[b]? = some (.cells #[.int .i64 r.rest, sv] 24 (0, 0))) : Calls Try.prog 35 #[.int .i64 m, .pointer (some ⟨b, 0, none⟩)] w fun e w' => ∃ g c : Bool, e = .returned (.tuple #[.bool g, .bool c]) ∧ (g = true → NobodyT r m) ∧ (c = true → ¬ FreeT r m) ∧ Below w.heap.size w w' := by
  obtain ⟨sa, scap, rfl, hs0⟩ := id hS
  clear hs0
  have hv' := hid hv
  have hc' := hid hc
  have hS' := hid hS
  have hbx' := hid hbx
  have hn5 := hid (r.ok_of hv).2.2.1
  have hni : (r.stints.length : Int) ≤ 5 := by have := hn5.out; have : r.stints.length = r.n := rfl; omega
  clear hv hc hS
  have l1 := (cells_of hbx).1
  have c1 := (cells_of hbx).2
  clear hbx
  go_enter Try.func35, Try.ntmps35
  go_wp2
  clear l1 c1
  go_loopw [3, 4, 5, 7, 9, 13] (fun g c _ _ _ i wr => ∃ (k : Nat) (gb cb : Bool), k ≤ r.stints.length ∧ i = .int .i64 k ∧ g = .bool gb ∧ c = .bool cb ∧ Hid (gb = true → ∀ j, j < k → ∀ s, Truth r r.every s → s (2 * j + 1) ≤ m ∨ m + 1 ≤ s (2 * j)) ∧ Hid (cb = true → ¬ FreeT r m) ∧ Hid (Below w.heap.size w wr) ∧ Hid (wr.heap[b]? = some (.cells #[.int .i64 r.rest, .slice sa r.stints.length scap] 24 (0, 0)))) (fun _ _ _ _ _ i _ => r.stints.length - (intOf i).toNat)
  case atStart => exact ⟨0, true, false, by omega, rfl, rfl, rfl, hid (fun _ j hj => by omega), hid (fun h => by cases h), hid (Below.refl _ _), hbx'⟩
  case round =>
    obtain ⟨k, gb, cb, hk, rfl, rfl, rfl, hg, hcq, hb, hz⟩ := hrel
    have l1 := (cells_of hz.out).1
    have c1 := (cells_of hz.out).2
    by_cases hlt : k < r.stints.length
    · have hki : (k : Int) < (r.stints.length : Int) := by omega
      obtain ⟨lo, hi, ho, hon⟩ := on_spec hv'.out hc'.out (i := k) hlt
      obtain ⟨lo2, hi2, ho2, hoff⟩ := off_spec hv'.out hc'.out (i := k) hlt
      replace hon := hid hon
      replace hoff := hid hoff
      have H14 := hid (fun W h => On_as (by have := hn5.out; omega) ho (.slice sa r.stints.length scap) W h)
      have H16 := hid (fun W h => Off_as (by have := hn5.out; omega) ho2 (.slice sa r.stints.length scap) W h)
      clear ho ho2
      go_upto_region 6 with (go_at_call 14; with_reducible refine (H14.out _ (hS'.out.below hb.out)).mono ?_; rintro e w1 ⟨rfl, hb1⟩; replace hb := hid (below_via hb1 hb.out); replace hz := hid ((hb1.block _ (cells_of hz.out).1).trans hz.out); clear hb1)
      clear l1 c1
      have hA := alloc_at (w := w1) (o := .cells #[.int .i64 lo, .int .i64 hi] 28) rfl
      replace hz := hid (alloc_old (o := .cells #[.int .i64 lo, .int .i64 hi] 28) (cells_of hz.out).1 hz.out)
      replace hb := hid (below_alloc hb.out (.cells #[.int .i64 lo, .int .i64 hi] 28))
      generalize w1.alloc (.cells #[.int .i64 lo, .int .i64 hi] 28) = w2 at hA hz hb ⊢
      generalize w1.heap.size = ba at hA ⊢
      have l1 := (cells_of hz.out).1
      have c1 := (cells_of hz.out).2
      replace hA := hid hA
      go_upto_region 7 with (go_at_call 16; with_reducible refine (H16.out _ (hS'.out.below hb.out)).mono ?_; rintro e w3 ⟨rfl, hb1⟩; replace hb := hid (below_via hb1 hb.out); replace hz := hid ((hb1.block _ (cells_of hz.out).1).trans hz.out); replace hA := hid ((hb1.block _ (cells_of hA.out).1).trans hA.out); clear hb1)
      clear l1 c1
      have hB := alloc_at (w := w3) (o := .cells #[.int .i64 lo2, .int .i64 hi2] 28) rfl
      replace hz := hid (alloc_old (o := .cells #[.int .i64 lo2, .int .i64 hi2] 28) (cells_of hz.out).1 hz.out)
      replace hA := hid (alloc_old (o := .cells #[.int .i64 lo2, .int .i64 hi2] 28) (cells_of hA.out).1 hA.out)
      replace hb := hid (below_alloc hb.out (.cells #[.int .i64 lo2, .int .i64 hi2] 28))
      generalize w3.alloc (.cells #[.int .i64 lo2, .int .i64 hi2] 28) = w4 at hA hB hz hb ⊢
      generalize w3.heap.size = bb at hB ⊢
      replace hB := hid hB
      have la := (cells_of hA.out).1
      have ca := (cells_of hA.out).2
      have lb := (cells_of hB.out).1
      have cb2 := (cells_of hB.out).2
      go_upto_region 9 with fail
      go_cut [3] from 34 to 46 (fun v wx => w4 = wx ∧ ∃ g2 : Bool, v = .bool g2 ∧ Hid (g2 = true → gb = true ∧ (m < lo ∨ hi2 ≤ m)))
      case first =>
        clear hg hcq
        cases gb
        · go_wp2
          go_meet
          exact ⟨rfl, false, rfl, hid (fun h => by cases h)⟩
        · by_cases h1 : m < lo
          · go_wp2
            go_meet
            exact ⟨rfl, true, rfl, hid (fun _ => ⟨trivial, .inl h1⟩)⟩
          · by_cases h2 : hi2 ≤ m
            · go_wp2
              go_meet
              exact ⟨rfl, true, rfl, hid (fun _ => ⟨trivial, .inr h2⟩)⟩
            · go_wp2
              go_meet
              exact ⟨rfl, false, rfl, hid (fun h => by cases h)⟩
      case rest =>
        obtain ⟨rfl, g2, rfl, hg2⟩ := hcut
        clear hA hB
        have hgn := hid (show g2 = true → ∀ j, j < k + 1 → ∀ s, Truth r r.every s → s (2 * j + 1) ≤ m ∨ m + 1 ≤ s (2 * j) from fun h j hj s hs => by
          obtain ⟨h1, h2⟩ := hg2.out h
          by_cases e : j = k
          · have a := hon.out.of s hs
            have b := hoff.out.of s hs
            rw [e]; omega
          · exact hg.out h1 j (by omega) s hs)
        have hcn := hid (show hi ≤ m → m < lo2 → ¬ FreeT r m from fun h1 h2 => by
          rintro ⟨s, hs, h3⟩
          have a := hon.out.of s hs
          have b := hoff.out.of s hs
          have c := h3 k hlt
          omega)
        clear hg2 hg
        cases cb
        · by_cases h1 : hi ≤ m
          · by_cases h2 : m < lo2
            · skip
              go_wp2
              clear la ca lb cb2
              go_roundw
              case rel => exact ⟨k + 1, g2, true, by omega, by go_num, rfl, rfl, hgn, hid (fun _ => hcn.out h1 h2), hb, hz⟩
              case measure => simp [intOf]; omega
            · skip
              go_wp2
              clear la ca lb cb2
              go_roundw
              case rel => exact ⟨k + 1, g2, false, by omega, by go_num, rfl, rfl, hgn, hid (fun h => by cases h), hb, hz⟩
              case measure => simp [intOf]; omega
          · skip
            go_wp2
            clear la ca lb cb2
            go_roundw
            case rel => exact ⟨k + 1, g2, false, by omega, by go_num, rfl, rfl, hgn, hid (fun h => by cases h), hb, hz⟩
            case measure => simp [intOf]; omega
        · skip
          go_wp2
          clear la ca lb cb2
          go_roundw
          case rel => exact ⟨k + 1, g2, true, by omega, by go_num, rfl, rfl, hgn, hid (hcq.out), hb, hz⟩
          case measure => simp [intOf]; omega
    · obtain rfl : k = r.stints.length := by omega
      go_wp2
      go_ret2
      exact ⟨gb, cb, rfl, fun h s hs i hi => hg.out h i hi s hs, hcq.out, hb.out⟩

end Go.Proofs.Ytccgakdaiaigoaa
