/- The walk of 'Drop' of package mend. -/
import Derived.Test.YtcgkglonnmkfcaaH
namespace Go.Proofs.Ytcgkglonnmkfcaa
open Go.RowKit Go.Lap Go.Shelf

/-- The first set of so many jobs without which something can be. -/
def findS (ok : Nat → Bool) (N many : Nat) : Option Nat := (List.range N).find? fun s => (sizeN 6 s == many) && ok s
def dropFind (ok : Nat → Bool) (N L : Nat) : Option Nat := (List.range L).findSome? (findS ok N)
theorem findS_none {ok : Nat → Bool} {N many : Nat} (h : ∀ s, s < N → ((sizeN 6 s == many) && ok s) = false) : findS ok N many = none := by
  rw [findS, List.find?_eq_none]
  intro s hs
  rw [h s (List.mem_range.1 hs)]; simp
theorem findS_some {ok : Nat → Bool} {many q : Nat} : ∀ {N : Nat}, (∀ s, s < q → ((sizeN 6 s == many) && ok s) = false) → q < N → ((sizeN 6 q == many) && ok q) = true → findS ok N many = some q
  | 0, _, hq, _ => by omega
  | N + 1, h, hq, hp => by
    rw [findS, List.range_succ, List.find?_append]
    rcases Nat.lt_or_ge q N with h1 | h1
    · have := findS_some (N := N) h h1 hp
      rw [findS] at this
      rw [this]; rfl
    · obtain rfl : q = N := by omega
      have := findS_none (N := q) h
      rw [findS] at this
      rw [this]
      simp [hp]
theorem drop_some {ok : Nat → Bool} {N many q : Nat} : ∀ {L : Nat}, (∀ m, m < many → findS ok N m = none) → findS ok N many = some q → many < L → dropFind ok N L = some q
  | 0, _, _, h => by omega
  | L + 1, h1, h2, h3 => by
    rw [dropFind, List.range_succ, List.findSome?_append]
    rcases Nat.lt_or_ge many L with h | h
    · have := drop_some (L := L) h1 h2 h
      rw [dropFind] at this
      rw [this]; rfl
    · obtain rfl : many = L := by omega
      have : (List.range many).findSome? (findS ok N) = none := List.findSome?_eq_none_iff.2 fun m hm => h1 m (List.mem_range.1 hm)
      rw [this]
      simp [h2]
theorem drop_none {ok : Nat → Bool} {N L : Nat} (h : ∀ m, m < L → findS ok N m = none) : dropFind ok N L = none :=
  List.findSome?_eq_none_iff.2 fun m hm => h m (List.mem_range.1 hm)

/-- Is there a right order without some jobs? -/
def canB (M : Mend) (left : Nat) : Bool := decide (0 < (found M left countG (restN M left) Bench.begin).getD 0)
/-- What 'Drop' tells. -/
def dropN (M : Mend) : Nat := (dropFind (canB M) (2 ^ M.jobs.length) (M.jobs.length + 1)).getD 0
def dropOf (M : Mend) : Int × Int := if M.valid then ((dropN M : Nat), 0) else (0, 1)

set_option maxRecDepth 100000 in
set_option maxHeartbeats 2000000 in
theorem Drop_bad (M : Mend) (hv : M.valid = false) (sv jv : Value) (w : World) (hS : IntsAt w sv M.setup) (hJ : JobsAt w jv M.jobs) :
    Calls Try.prog 30 #[.agg #[sv, jv]] w fun e w' => e = .returned (.tuple #[.int .i64 0, .int .i64 1]) ∧ Below w.heap.size w w' := by
  have hv' := hid hv
  clear hv
  have hS' := hid hS
  have hJ' := hid hJ
  obtain ⟨sa, scap, rfl, _⟩ := hS
  obtain ⟨ja, jcap, rfl, _⟩ := hJ
  have hk := KeepT.start w (.slice sa M.setup.length scap) (.slice ja M.jobs.length jcap)
  go_enter_defers Try.func30, Try.ntmps30
  go_upto_region 2 with fail
  generalize ((w.alloc (.cells #[.slice sa M.setup.length scap, .slice ja M.jobs.length jcap] 25)).alloc (.cells #[.int .i64 0] 29)) = w1 at hk ⊢
  obtain ⟨lm, cm⟩ := cells_of hk.m
  go_wp2_with (go_at_call 47; refine (open_always (hS'.out.below hk.bel) (hJ'.out.below hk.bel)).mono ?_; intro e w3 hp; obtain ⟨he, hb3⟩ := openPost_arg hv'.out hp; subst he; clear hp)
  have hk3 := hk.below hb3
  obtain ⟨l7, c7⟩ := cells_of hk3.e
  have z7 := free_of hk3.e
  refine leaves_cons (f := 46) (args := #[.pointer (some ⟨w.heap.size + 1, 0, none⟩)]) (by simp) (by simp [go_sem]) ?_
  refine (told_panicking (w.heap.size + 1) 1 0 _ l7 (by rw [c7]; rfl) (z7 0)).mono ?_
  rintro e u' w'' ⟨rfl, rfl, rfl⟩
  have hfin : Below w.heap.size w ((w3.setCell ⟨w.heap.size + 1, 0, none⟩ (.int .i64 1)).alloc (.cells #[.int .i64 1] 107)) := below_alloc (below_set hk3.bel _ (by simp)) _
  simp [Leaves, settle, results, Try.results30, go_sem, c7, hfin, l7]

set_option maxRecDepth 100000 in
set_option maxHeartbeats 2000000 in
theorem Drop_fine (M : Mend) (hv : M.valid = true) (d : Nat) (hd : dropN M = d) (sv jv : Value) (w : World) (hS : IntsAt w sv M.setup) (hJ : JobsAt w jv M.jobs) :
    Calls Try.prog 30 #[.agg #[sv, jv]] w fun e w' => e = .returned (.tuple #[.int .i64 d, .int .i64 0]) ∧ Below w.heap.size w w' := by
  have hv' := hid hv
  have hd' := hid hd
  have hlen := (Mend.valid_ok hv).len
  have hpw : 2 ^ M.jobs.length ≤ 2 ^ 6 := Nat.pow_le_pow_right (by decide) hlen
  have hpu := (pow_u (c := M.jobs.length) (by omega)).2
  obtain ⟨N, hN⟩ : ∃ N, 2 ^ M.jobs.length = N := ⟨_, rfl⟩
  rw [hN] at hpw hpu
  have hN' := hid hN
  clear hv hd hN
  have hN64 : N ≤ 64 := hpw
  clear hpw
  have hS' := hid hS
  have hJ' := hid hJ
  obtain ⟨sa, scap, rfl, _⟩ := hS
  obtain ⟨ja, jcap, rfl, _⟩ := hJ
  have hk := KeepT.start w (.slice sa M.setup.length scap) (.slice ja M.jobs.length jcap)
  go_enter_defers Try.func30, Try.ntmps30
  go_upto_region 2 with fail
  generalize ((w.alloc (.cells #[.slice sa M.setup.length scap, .slice ja M.jobs.length jcap] 25)).alloc (.cells #[.int .i64 0] 29)) = w1 at hk ⊢
  obtain ⟨lm, cm⟩ := cells_of hk.m
  go_upto_region 3 with (first
    | (go_at_call 47; refine (open_always (hS'.out.below hk.bel) (hJ'.out.below hk.bel)).mono ?_; intro e w3 hp; obtain ⟨sb, he, hsb, hsc, hb3⟩ := openPost_yes hv'.out hp; subst he; clear hp; have hk3 := hk.below hb3))
  obtain ⟨lm3, cm3⟩ := cells_of hk3.m
  go_wp2
  have hsb2 : w.heap.size + 2 ≤ sb := Nat.le_trans (cells_of hk.e).1 hsb
  clear lm cm lm3 cm3
  go_loopw [5, 6, 7, 8, 9, 16, 23] (fun _ _ _ _ _ i _ wr => ∃ k : Nat, k ≤ M.jobs.length + 1 ∧ i = .int .i64 k ∧ Hid (∀ m, m < k → findS (canB M) N m = none) ∧ KeepT w (.slice sa M.setup.length scap) (.slice ja M.jobs.length jcap) wr ∧ wr.heap[sb]? = some (.cells #[.slice sa M.setup.length scap, .slice ja M.jobs.length jcap, .int .u64 0] 103 (0, 0))) (fun _ _ _ _ _ i _ _ => M.jobs.length + 1 - (intOf i).toNat)
  case atStart => exact ⟨0, by omega, rfl, hid (by omega), hk3, hsc⟩
  case round =>
    obtain ⟨k, hkk, rfl, hno, hk, hsc⟩ := hrel
    obtain ⟨lm, cm⟩ := cells_of hk.m
    have hki : (k : Int) ≤ (M.jobs.length : Int) + 1 := by omega
    by_cases hlt : k < M.jobs.length + 1
    · have hki2 : (k : Int) < (M.jobs.length : Int) + 1 := by omega
      go_wp2
      go_loopw [6, 7, 8, 9, 23] (fun _ _ _ _ i wr2 => ∃ q : Nat, q ≤ N ∧ i = .int .u64 q ∧ Hid (∀ s, s < q → ((sizeN 6 s == k) && canB M s) = false) ∧ KeepT w (.slice sa M.setup.length scap) (.slice ja M.jobs.length jcap) wr2 ∧ wr2.heap[sb]? = some (.cells #[.slice sa M.setup.length scap, .slice ja M.jobs.length jcap, .int .u64 0] 103 (0, 0))) (fun _ _ _ _ i _ => N - (intOf i).toNat)
      case atStart => exact ⟨0, by omega, rfl, hid (by omega), hk, hsc⟩
      case round =>
        obtain ⟨q, hqq, rfl, hnq, hk2, hsc2⟩ := hrel
        by_cases hql : q < N
        · have hqi : (q : Int) < (N : Int) := by omega
          have hw1 : IntKind.u64.wrap ((q : Int) + 1) = (q : Int) + 1 := by rw [IntKind.wrap_u64]; omega
          obtain ⟨z, hz⟩ : ∃ z, sizeN 6 q = z := ⟨_, rfl⟩
          have hz' := hid hz
          by_cases hzk : z = k
          · have hzk2 : ((z : Int) != (k : Int)) = false := by simp [hzk]
            obtain ⟨nn, hnn⟩ : ∃ n, (found M q countG (restN M q) Bench.begin).getD 0 = n := ⟨_, rfl⟩
            obtain ⟨ss, hss⟩ : ∃ n, (found M q countG (restN M q) Bench.begin).isSome = n := ⟨_, rfl⟩
            have hcan : Hid (canB M q = decide (0 < nn)) := hid (by rw [canB, hnn])
            have hnn' := hid hnn
            have hss' := hid hss
            have hzk' := hid hzk
            clear hnn hss hzk hz
            by_cases hpos : 0 < nn
            · have hres : Hid (d = q) := hid (by
                rw [← hd'.out, dropN, hN'.out, drop_some (many := k) (q := q) hno.out (findS_some hnq.out hql (by rw [hz'.out, hzk'.out, hcan.out]; simp [hpos])) hlt]; rfl)
              go_wp2_with (first
            | (go_at_call 74; with_reducible refine (ones_any q (by omega) _).mono ?_; rw [hz'.out]; rintro e w5 ⟨rfl, hb5⟩; have hk5 := hk2.below hb5; have hsc5 := (hb5.block _ (cells_of hsc2).1).trans hsc2; obtain ⟨l5, c5⟩ := cells_of hsc5)
            | (go_at_call 57; refine (ways_any _ w5.heap.size M q _ (ShopAt.under ⟨_, _, alloc_at rfl, hS'.out.below (below_alloc hk5.bel _), hJ'.out.below (below_alloc hk5.bel _)⟩)).mono ?_; intro e w4 hp; obtain ⟨rx, gb, ab, ob, m, he, hE, hb4⟩ := hp; subst he; have hb4' := below_via hb4 (below_alloc (Below.refl w5.heap.size w5) _); have hk4 := hk5.below hb4'; have hsc4 := (hb4'.block _ l5).trans hsc5; have hm2 : w5.heap.size ≤ m := (by have := hE.ge; simp at this; omega))
            | (go_at_call 58; with_reducible refine (begin_any _).mono ?_; rintro e w7 ⟨rfl, hb7⟩; have hk7 := hk4.below hb7; have hsc7 := (hb7.block _ (cells_of hsc4).1).trans hsc4; have hE7 := hE.keep (count_ok M q _) (KeepI.of_below hE.m hb7))
            | (go_at_call 86; refine (on_any rx gb ab ob w5.heap.size m _ countFns countG M (Mend.valid_ok hv'.out) q (by omega) _ (count_ok M q _) (restN M q) Bench.begin 0 (-1) _ (begin_work (Mend.valid_ok hv'.out) q) hE7).mono ?_; intro e w6 hp; obtain ⟨he, hki⟩ := hp; rw [hnn'.out, hss'.out] at he; subst he; have hk6 := hk7.keepI hki (by have := (cells_of hk5.e).1; omega); have hsc6 := (hki.1.block _ (cells_of hsc7).1 (fun e => by cases e; omega)).trans hsc7; obtain ⟨l7, c7⟩ := cells_of hk6.e; have z7 := free_of hk6.e))
              refine leaves_cons (f := 46) (args := #[.pointer (some ⟨w.heap.size + 1, 0, none⟩)]) (by simp) (by simp [go_sem]) ?_
              refine (told_idle ⟨w.heap.size + 1, 0, none⟩ _).mono ?_
              rintro e u' w'' ⟨rfl, rfl, rfl⟩
              have hfin : Below w.heap.size w (w6.setCell ⟨w.heap.size + 1, 0, none⟩ (.int .i64 0)) := below_set hk6.bel _ (by simp)
              simp [Leaves, settle, results, Try.results30, go_sem, c7, hfin, hres.out]
            · have hno2 : Hid (canB M q = false) := hid (by rw [hcan.out]; simp; omega)
              go_wp2_with (first
            | (go_at_call 74; with_reducible refine (ones_any q (by omega) _).mono ?_; rw [hz'.out]; rintro e w5 ⟨rfl, hb5⟩; have hk5 := hk2.below hb5; have hsc5 := (hb5.block _ (cells_of hsc2).1).trans hsc2; obtain ⟨l5, c5⟩ := cells_of hsc5)
            | (go_at_call 57; refine (ways_any _ w5.heap.size M q _ (ShopAt.under ⟨_, _, alloc_at rfl, hS'.out.below (below_alloc hk5.bel _), hJ'.out.below (below_alloc hk5.bel _)⟩)).mono ?_; intro e w4 hp; obtain ⟨rx, gb, ab, ob, m, he, hE, hb4⟩ := hp; subst he; have hb4' := below_via hb4 (below_alloc (Below.refl w5.heap.size w5) _); have hk4 := hk5.below hb4'; have hsc4 := (hb4'.block _ l5).trans hsc5; have hm2 : w5.heap.size ≤ m := (by have := hE.ge; simp at this; omega))
            | (go_at_call 58; with_reducible refine (begin_any _).mono ?_; rintro e w7 ⟨rfl, hb7⟩; have hk7 := hk4.below hb7; have hsc7 := (hb7.block _ (cells_of hsc4).1).trans hsc4; have hE7 := hE.keep (count_ok M q _) (KeepI.of_below hE.m hb7))
            | (go_at_call 86; refine (on_any rx gb ab ob w5.heap.size m _ countFns countG M (Mend.valid_ok hv'.out) q (by omega) _ (count_ok M q _) (restN M q) Bench.begin 0 (-1) _ (begin_work (Mend.valid_ok hv'.out) q) hE7).mono ?_; intro e w6 hp; obtain ⟨he, hki⟩ := hp; rw [hnn'.out, hss'.out] at he; subst he; have hk6 := hk7.keepI hki (by have := (cells_of hk5.e).1; omega); have hsc6 := (hki.1.block _ (cells_of hsc7).1 (fun e => by cases e; omega)).trans hsc7; obtain ⟨l7, c7⟩ := cells_of hk6.e; have z7 := free_of hk6.e))
              go_roundw
              case rel =>
                refine ⟨q + 1, by omega, by simp, hid ?_, hk6, hsc6⟩
                intro s hs
                by_cases hsq : s < q
                · exact hnq.out s hsq
                · obtain rfl : s = q := by omega
                  rw [hno2.out, Bool.and_false]
              case measure => simp [intOf]; omega
          · have hzk2 : ((z : Int) != (k : Int)) = true := by simp; omega
            have hzk' := hid hzk
            clear hzk hz
            go_wp2_with (first | (go_at_call 74; with_reducible refine (ones_any q (by omega) _).mono ?_; rw [hz'.out]; rintro e w5 ⟨rfl, hb5⟩; have hk5 := hk2.below hb5; have hsc5 := (hb5.block _ (cells_of hsc2).1).trans hsc2; obtain ⟨l5, c5⟩ := cells_of hsc5))
            go_roundw
            case rel =>
              refine ⟨q + 1, by omega, by simp, hid ?_, hk5, hsc5⟩
              intro s hs
              by_cases hsq : s < q
              · exact hnq.out s hsq
              · obtain rfl : s = q := by omega
                have : (sizeN 6 s == k) = false := by rw [hz'.out]; simp; exact hzk'.out
                rw [this, Bool.false_and]
            case measure => simp [intOf]; omega
        · obtain rfl : q = N := by omega
          go_wp2
          go_roundw
          case rel =>
            refine ⟨k + 1, by omega, by go_num, hid ?_, hk2, hsc2⟩
            intro m hm
            by_cases hmk : m < k
            · exact hno.out m hmk
            · obtain rfl : m = k := by omega
              exact findS_none hnq.out
          case measure => simp [intOf]; omega
    · obtain rfl : k = M.jobs.length + 1 := by omega
      obtain ⟨l7, c7⟩ := cells_of hk.e
      have z7 := free_of hk.e
      have hres : Hid (d = 0) := hid (by rw [← hd'.out, dropN, hN'.out, drop_none hno.out]; rfl)
      go_wp2
      refine leaves_cons (f := 46) (args := #[.pointer (some ⟨w.heap.size + 1, 0, none⟩)]) (by simp) (by simp [go_sem]) ?_
      refine (told_idle ⟨w.heap.size + 1, 0, none⟩ _).mono ?_
      rintro e u' w'' ⟨rfl, rfl, rfl⟩
      have hfin : Below w.heap.size w (wr.setCell ⟨w.heap.size + 1, 0, none⟩ (.int .i64 0)) := below_set hk.bel _ (by simp)
      simp [Leaves, settle, results, Try.results30, go_sem, c7, hfin, hres.out]

theorem Drop_any (M : Mend) (sv jv : Value) (w : World) (hS : IntsAt w sv M.setup) (hJ : JobsAt w jv M.jobs) : Calls Try.prog 30 #[.agg #[sv, jv]] w fun e w' => e = .returned (.tuple #[.int .i64 (dropOf M).1, .int .i64 (dropOf M).2]) ∧ Below w.heap.size w w' := by
  unfold dropOf
  cases hv : M.valid
  · exact Drop_bad M hv sv jv w hS hJ
  · exact Drop_fine M hv _ rfl sv jv w hS hJ

end Go.Proofs.Ytcgkglonnmkfcaa
