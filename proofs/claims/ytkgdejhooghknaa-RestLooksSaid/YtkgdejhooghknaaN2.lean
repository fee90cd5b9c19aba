/- The walk of 'Ints' of the reference. -/
import Derived.Test.YtkgdejhooghknaaN1
namespace Go.Proofs.Ytkgdejhooghknaa
open Go.RowKit Go.Lap Go.Shelf

theorem drop_getD {xs : List Int} {k : Nat} (h : k < xs.length) : xs.drop k = xs.getD k 0 :: xs.drop (k + 1) := by
  rw [List.drop_eq_getElem_cons h]; simp [h]

set_option maxRecDepth 100000 in
set_option maxHeartbeats 1000000 in
theorem ints_any (v1 v2 : Value) (xs ys : List Int) (hl : xs.length ≤ 1000) (w : World) (h1 : IntsAt w v1 xs) (h2 : IntsAt w v2 ys) :
    Calls Try.prog 25 #[v1, v2] w fun e w' => e = .returned (.bool (xs == ys)) ∧ Below w.heap.size w w' := by
  by_cases hlen : xs.length = ys.length
  case neg =>
    obtain ⟨a1, c1, rfl, _⟩ := h1
    obtain ⟨a2, c2, rfl, _⟩ := h2
    have hne : ((xs.length : Int) == (ys.length : Int)) = false := by simp; omega
    have hne2 : ¬ (xs.length : Int) = (ys.length : Int) := by omega
    have hlen' := hid hlen
    clear hlen
    go_enter Try.func25, Try.ntmps25
    go_wp2
    go_ret
    refine ⟨?_, Below.refl _ _⟩
    have : (xs == ys) = false := by simpa using fun e => hlen'.out (congrArg List.length e)
    rw [this]
    rfl
  case pos =>
    cases hxs : xs with
    | nil =>
      subst hxs
      obtain rfl : ys = [] := List.eq_nil_of_length_eq_zero hlen.symm
      obtain ⟨a1, c1, rfl⟩ := h1.nil
      obtain ⟨a2, c2, rfl⟩ := h2.nil
      go_enter Try.func25, Try.ntmps25
      go_wp2
      refine wp_loop_rounds 1 ?_
      rw [rounds_succ]
      go_wp2
      go_ret
      exact ⟨rfl, Below.refl _ _⟩
    | cons x0 l0 =>
      have hne : xs ≠ [] := by rw [hxs]; simp
      have hne2 : ys ≠ [] := by intro e; rw [hxs, e] at hlen; simp at hlen
      rw [← hxs]
      clear hxs
      obtain ⟨b, off, cap, rfl, hb0, hc⟩ := h1.some hne
      obtain ⟨b2, off2, cap2, rfl, hb02, hc2⟩ := h2.some hne2
      clear h1 h2
      rw [← hlen] at hc2 ⊢
      have hc' := hid hc
      have hc2' := hid hc2
      have hlen' := hid hlen
      clear hc hc2 hlen
      go_enter Try.func25, Try.ntmps25
      go_wp2
      go_loopw [5] (fun i wr => ∃ k : Nat, k ≤ xs.length ∧ i = .int .i64 k ∧ Hid ((xs == ys) = (xs.drop k == ys.drop k)) ∧ Below w.heap.size w wr) (fun i _ => xs.length - (intOf i).toNat)
      case atStart => exact ⟨0, by omega, rfl, hid (by simp), Below.refl _ _⟩
      case round =>
        obtain ⟨k, hk, rfl, he, hbr⟩ := hrel
        by_cases hlt : k < xs.length
        · have hck := (hbr.cell (p := ⟨b, off + k, none⟩) hb0).trans (hc'.out k hlt)
          have hck2 := (hbr.cell (p := ⟨b2, off2 + k, none⟩) hb02).trans (hc2'.out k hlt)
          have hd1 := drop_getD hlt
          have hd2 := drop_getD (xs := ys) (k := k) (by rw [← hlen'.out]; exact hlt)
          generalize xs.getD k 0 = x at hck hd1
          generalize ys.getD k 0 = y at hck2 hd2
          have hd1' := hid hd1
          have hd2' := hid hd2
          have hbr' := hid hbr
          clear hd1 hd2 hbr
          by_cases hxy : x = y
          · subst hxy
            go_wp2
            go_quiet (fail)
            go_wp2
            go_roundw
            case rel =>
              refine ⟨k + 1, by omega, by go_num, hid ?_, below_drewN hbr'.out _⟩
              rw [he.out, hd1'.out, hd2'.out]
              simp
            case measure => simp [intOf]; omega
          · have hn1 : (x == y) = false := by simpa using hxy
            go_wp2
            go_quiet (fail)
            go_wp2
            go_ret
            refine ⟨?_, below_drewN hbr'.out _⟩
            rw [he.out, hd1'.out, hd2'.out]
            simp [hxy]
        · obtain rfl : k = xs.length := by omega
          go_wp2
          go_ret
          refine ⟨?_, hbr⟩
          have : ys.drop xs.length = [] := by rw [hlen'.out]; simp
          rw [he.out, this]
          simp

end Go.Proofs.Ytkgdejhooghknaa
