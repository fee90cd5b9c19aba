/- The reference's At, Order and Size, and 'coins' of the law's package, walked. -/
import Derived.Test.YtcgkglonnmkfcaaPX
import Derived.Test.YtcgkglonnmkfcaaR5
namespace Go.Proofs.Ytcgkglonnmkfcaa
open Go.RowKit Go.Lap Go.Shelf

theorem atOf_drop {x : Int} {l : List Int} {k : Nat} (hk : k < l.length) : atOf x k (l.drop k) = if l.getD k 0 = x then (k : Int) else atOf x (k + 1) (l.drop (k + 1)) := by
  rw [drop_int hk, atOf]

set_option maxRecDepth 100000 in
set_option maxHeartbeats 1000000 in
theorem at_any (lv : Value) (l : List Int) (hl : l.length ≤ 1000) (x : Int) (w : World) (hlv : IntsAt w lv l) : Calls Try.prog 75 #[lv, .int .i64 x] w fun e w' => e = .returned (.int .i64 (atOf x 0 l)) ∧ w = w' := by
  have hlv' := hid hlv
  obtain ⟨la, lcap, rfl, _⟩ := hlv
  go_enter Try.func75, Try.ntmps75
  go_wp2
  go_loopw [5] (fun i wr => ∃ k : Nat, k ≤ l.length ∧ i = .int .i64 k ∧ Hid (atOf x 0 l = atOf x k (l.drop k)) ∧ w = wr) (fun i _ => l.length - (intOf i).toNat)
  case atStart => exact ⟨0, by omega, rfl, hid rfl, rfl⟩
  case round =>
    obtain ⟨k, hk, rfl, he, rfl⟩ := hrel
    by_cases hlt : k < l.length
    · obtain ⟨b, off, cap, e1, _, hc⟩ := hlv'.out.some (fun e => by rw [e] at hlt; simp at hlt)
      injection e1 with e1 e2 e3
      subst e1
      clear e2 e3
      have hck := hc k hlt
      have hd := hid (atOf_drop (x := x) hlt)
      obtain ⟨y, hy⟩ : ∃ y, l.getD k 0 = y := ⟨_, rfl⟩
      rw [hy] at hck hd
      clear hc hy
      have hki : (k : Int) < (l.length : Int) := by omega
      by_cases hxy : y = x
      · subst hxy
        have he2 : Hid (atOf y 0 l = (k : Int)) := hid (by rw [he.out, hd.out, if_pos rfl])
        clear hd he
        go_wp2
        go_ret
        refine ⟨?_, rfl⟩
        rw [he2.out]
        rfl
      · have he2 : Hid (atOf x 0 l = atOf x (k + 1) (l.drop (k + 1))) := hid (by rw [he.out, hd.out, if_neg hxy])
        have hne : (y == x) = false := by simpa using hxy
        clear hd he hxy
        go_wp2
        go_roundw
        case rel => exact ⟨k + 1, by omega, by go_num, he2, by simp⟩
        case measure => simp [intOf]; omega
    · obtain rfl : k = l.length := by omega
      have he2 : Hid (atOf x 0 l = -1) := hid (by rw [he.out]; simp [atOf])
      clear he
      go_wp2
      go_ret
      refine ⟨?_, rfl⟩
      rw [he2.out]
      rfl

theorem order_false {n : Nat} {l : List Int} {k : Nat} (hk : k < n) (h : atOf (k : Int) 0 l < 0) : ordB n l = false := by
  cases ho : ordB n l
  · rfl
  · exact absurd ((ordB_all.1 ho).1 k hk) ((atOf_no _ _ _).1 h)

set_option maxRecDepth 100000 in
set_option maxHeartbeats 1000000 in
theorem refOrder_any (M : Mend) (hn : M.jobs.length ≤ 1000) (sv jv lv : Value) (l : List Int) (hl : l.length ≤ 1000) (w : World) (hS : IntsAt w sv M.setup) (hJ : JobsAt w jv M.jobs) (hlv : IntsAt w lv l) :
    Calls Try.prog 38 #[.agg #[sv, jv], lv] w fun e w' => e = .returned (.bool (ordB M.jobs.length l)) ∧ Below w.heap.size w w' := by
  obtain ⟨sa, scap, rfl, _⟩ := hS
  obtain ⟨ja, jcap, rfl, _⟩ := hJ
  have hlv' := hid hlv
  obtain ⟨la, lcap, rfl, _⟩ := hlv
  have hm := alloc_at (w := w) (o := .cells #[.slice sa M.setup.length scap, .slice ja M.jobs.length jcap] 25) (n := w.heap.size) rfl
  have hb := below_alloc (Below.refl _ w) (.cells #[.slice sa M.setup.length scap, .slice ja M.jobs.length jcap] 25)
  obtain ⟨ob, hob⟩ : ∃ z, ordB M.jobs.length l = z := ⟨_, rfl⟩
  rw [hob]
  have hob' := hid hob
  clear hob
  go_enter Try.func38, Try.ntmps38
  go_upto_region 1 with fail
  generalize w.alloc (.cells #[.slice sa M.setup.length scap, .slice ja M.jobs.length jcap] 25) = w1 at hm hb ⊢
  have l1 := (cells_of hm).1
  have c1 := (cells_of hm).2
  have HA := hid (fun x => at_any (.slice la l.length lcap) l hl x w1 (hlv'.out.below hb))
  go_wp2
  go_loopw [4, 5] (fun _ i wr => ∃ k : Nat, k ≤ M.jobs.length ∧ i = .int .i64 k ∧ Hid (∀ j, j < k → (j : Int) ∈ l) ∧ w1 = wr) (fun _ i _ => M.jobs.length - (intOf i).toNat)
  case atStart => exact ⟨0, by omega, rfl, hid (fun j hj => by omega), rfl⟩
  case round =>
    obtain ⟨k, hk, rfl, he, rfl⟩ := hrel
    by_cases hlt : k < M.jobs.length
    · have hki : (k : Int) < (M.jobs.length : Int) := by omega
      have HAk := HA.out (k : Int)
      obtain ⟨y, hy⟩ : ∃ y, atOf (k : Int) 0 l = y := ⟨_, rfl⟩
      rw [hy] at HAk
      by_cases h0 : y < 0
      · have hf : ordB M.jobs.length l = false := order_false hlt (by rw [hy]; exact h0)
        obtain rfl : ob = false := hob'.out.symm.trans hf
        have HAk' := hid HAk
        clear hf hy HAk
        go_wp2_with (go_at_call 75; with_reducible refine HAk'.out.mono ?_; rintro e w2 ⟨rfl, rfl⟩)
        go_ret
        exact ⟨rfl, hb⟩
      · have hin : Hid (∀ j, j < k + 1 → (j : Int) ∈ l) := hid (fun j hj => by
          rcases Nat.lt_or_ge j k with h | h
          · exact he.out j h
          · obtain rfl : j = k := by omega
            by_cases hm : (j : Int) ∈ l
            · exact hm
            · exact absurd ((atOf_no _ _ 0).2 hm) (by rw [hy]; exact h0))
        have HAk' := hid HAk
        clear hy HAk
        go_wp2_with (go_at_call 75; with_reducible refine HAk'.out.mono ?_; rintro e w2 ⟨rfl, rfl⟩)
        go_roundw
        case rel => exact ⟨k + 1, by omega, by go_num, hin, by simp⟩
        case measure => simp [intOf]; omega
    · obtain rfl : k = M.jobs.length := by omega
      by_cases hll : l.length = M.jobs.length
      · have ho : ordB M.jobs.length l = true := ordB_all.2 ⟨he.out, hll⟩
        obtain rfl : ob = true := hob'.out.symm.trans ho
        have hli : ((l.length : Int) == (M.jobs.length : Int)) = true := by rw [beq_iff_eq]; omega
        clear ho hll
        go_wp2
        go_ret
        exact ⟨rfl, hb⟩
      · have ho : ordB M.jobs.length l = false := by
          cases h : ordB M.jobs.length l
          · rfl
          · exact (hll (ordB_all.1 h).2).elim
        obtain rfl : ob = false := hob'.out.symm.trans ho
        have hli : ((l.length : Int) == (M.jobs.length : Int)) = false := by simpa using fun h => hll (by omega)
        clear ho hll
        go_wp2
        go_ret
        exact ⟨rfl, hb⟩
end Go.Proofs.Ytcgkglonnmkfcaa
