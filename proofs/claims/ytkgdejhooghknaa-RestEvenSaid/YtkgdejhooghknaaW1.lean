/- The walk of 'RestEven'. -/
import Derived.Test.YtkgdejhooghknaaT4
import Derived.Test.YtkgdejhooghknaaV0
namespace Go.Proofs.Ytkgdejhooghknaa
open Go.RowKit Go.Lap Go.Shelf

/-- And the two spans. -/
structure KeepS (w : World) (R : Rest) (pv : Value) (P : List Int) (ab : Nat) (al ah : Int) (W : World) : Prop where
  p : KeepP w R pv P W
  a : W.heap[ab]? = some (.cells #[.int .i64 al, .int .i64 ah] 41 (0, 0))
theorem KeepP.span {w : World} {R : Rest} {pv : Value} {P : List Int} {al ah : Int} {W W' : World} (h : KeepP w R pv P W) (hb : Below (W.alloc (.cells #[.int .i64 al, .int .i64 ah] 41)).heap.size (W.alloc (.cells #[.int .i64 al, .int .i64 ah] 41)) W') :
    KeepS w R pv P W.heap.size al ah W' :=
  ⟨(h.below (below_alloc (Below.refl _ _) _)).below hb, (hb.block _ (by simp)).trans (alloc_at rfl)⟩
structure KeepT (w : World) (R : Rest) (pv : Value) (P : List Int) (ab : Nat) (al ah : Int) (bb : Nat) (bl bh : Int) (W : World) : Prop where
  p : KeepP w R pv P W
  a : W.heap[ab]? = some (.cells #[.int .i64 al, .int .i64 ah] 41 (0, 0))
  b : W.heap[bb]? = some (.cells #[.int .i64 bl, .int .i64 bh] 41 (0, 0))
theorem KeepS.span {w : World} {R : Rest} {pv : Value} {P : List Int} {ab : Nat} {al ah bl bh : Int} {W W' : World} (h : KeepS w R pv P ab al ah W) (hb : Below (W.alloc (.cells #[.int .i64 bl, .int .i64 bh] 41)).heap.size (W.alloc (.cells #[.int .i64 bl, .int .i64 bh] 41)) W') :
    KeepT w R pv P ab al ah W.heap.size bl bh W' :=
  ⟨(h.p.below (below_alloc (Below.refl _ _) _)).below hb, (hb.block _ (by have := (cells_of h.a).1; simp; omega)).trans (alloc_old (cells_of h.a).1 h.a), (hb.block _ (by simp)).trans (alloc_at rfl)⟩
theorem KeepT.below {w : World} {R : Rest} {pv : Value} {P : List Int} {ab bb : Nat} {al ah bl bh : Int} {W W' : World} (h : KeepT w R pv P ab al ah bb bl bh W) (hb : Below W.heap.size W W') : KeepT w R pv P ab al ah bb bl bh W' :=
  ⟨h.p.below hb, (hb.block _ (cells_of h.a).1).trans h.a, (hb.block _ (cells_of h.b).1).trans h.b⟩
structure KeepU (w : World) (R : Rest) (pv : Value) (P : List Int) (ab : Nat) (al ah : Int) (bb : Nat) (bl bh : Int) (qv : Value) (Q : List Int) (W : World) : Prop where
  t : KeepT w R pv P ab al ah bb bl bh W
  q : IntsAt W qv Q
theorem KeepT.plus {w : World} {R : Rest} {pv v : Value} {P xs : List Int} {ab bb : Nat} {al ah bl bh : Int} {W W' : World} (h : KeepT w R pv P ab al ah bb bl bh W) (hb : Below W.heap.size W W') (hn : IntsAt W' v xs) : KeepU w R pv P ab al ah bb bl bh v xs W' := ⟨h.below hb, hn⟩
theorem KeepU.below {w : World} {R : Rest} {pv qv : Value} {P Q : List Int} {ab bb : Nat} {al ah bl bh : Int} {W W' : World} (h : KeepU w R pv P ab al ah bb bl bh qv Q W) (hb : Below W.heap.size W W') : KeepU w R pv P ab al ah bb bl bh qv Q W' := ⟨h.t.below hb, h.q.below hb⟩
theorem KeepU.q2 {w : World} {R : Rest} {pv qv : Value} {P Q : List Int} {ab bb : Nat} {al ah bl bh : Int} {W : World} (h : KeepU w R pv P ab al ah bb bl bh qv Q W) : KeepQ w R pv P qv Q W := ⟨h.t.p.r, h.t.p.p, h.q⟩

set_option maxRecDepth 100000 in
set_option maxHeartbeats 2000000 in
theorem restEven_bad (R : Rest) (z : Int) (hv : R.valid = false) (w : World) : Calls Try.prog 8 #[restV R, .int .u16 z] w fun e w' => e = .returned (.bool true) ∧ Below w.heap.size w w' := by
  have c32 := hid (fun w => valid_as hv w)
  have c14 := hid awake_any
  clear hv
  have hk := KeepR.start w R
  go_enter Try.func8, Try.ntmps8
  go_wp2_with (first | (go_at_call 32; with_reducible refine (c32.out _).mono ?_; rintro e w1 ⟨rfl, hb1⟩; have hk := hk.below hb1; obtain ⟨lx, cx⟩ := cells_of hk.x) | (go_at_call 14; with_reducible refine (c14.out _).mono ?_; rintro e w1 ⟨rfl, hb1⟩; have hk := hk.below hb1; obtain ⟨lx, cx⟩ := cells_of hk.x))
  go_ret
  exact ⟨rfl, hk.bel⟩

set_option maxRecDepth 100000 in
set_option maxHeartbeats 2000000 in
theorem restEven_none (R : Rest) (z : Int) (hv : R.valid = true) (hf : planR R evenG = (0, [], 4)) (ha : hoursR R 0 = ((0, 0), 4)) (hb : hoursR R 1 = ((0, 0), 4)) (hg : planR R changesG = (0, [], 4)) (w : World) : Calls Try.prog 8 #[restV R, .int .u16 z] w fun e w' => e = .returned (.bool true) ∧ Below w.heap.size w w' := by
  have heq : ∀ w, (binOp .eql 41 (.agg #[.int .i64 0, .int .i64 0]) (.agg #[.int .i64 0, .int .i64 0])).run Try.prog w = .ok (.bool true) w := fun w => by kernel_rfl
  have heq2 : ∀ w, (Op.equalIn 10000 41 (.agg #[.int .i64 0, .int .i64 0]) (.agg #[.int .i64 0, .int .i64 0])).run Try.prog w = .ok true w := fun w => by kernel_rfl
  have c32 := hid (fun w => valid_as hv w)
  have c23 := hid (fun w => even_as hf w)
  have c26 := hid (fun w => hours_as ha w)
  have c26b := hid (fun w => hours_as hb w)
  have c21 := hid (fun w => fewest_as hg w)
  have c14 := hid awake_any
  clear hv hf ha hb hg
  have hk := KeepR.start w R
  go_enter Try.func8, Try.ntmps8
  go_wp2_with (first | (go_at_call 32; with_reducible refine (c32.out _).mono ?_; rintro e w1 ⟨rfl, hb1⟩; have hk := hk.below hb1; obtain ⟨lx, cx⟩ := cells_of hk.x) | (go_at_call 23; with_reducible refine (c23.out _).mono ?_; rintro e w1 ⟨sa, sc, rfl, hn, hb1⟩; have hk := hk.plus hb1 hn; clear hn; obtain ⟨lx, cx⟩ := cells_of hk.r.x) | (go_at_call 26; with_reducible refine (c26.out _).mono ?_; rintro e w1 ⟨rfl, hb1⟩; have hk := hk.below hb1; obtain ⟨lx, cx⟩ := cells_of hk.r.x) | (go_at_call 26; with_reducible refine (c26b.out _).mono ?_; rintro e w1 ⟨rfl, hb1⟩; have hk := hk.span hb1; obtain ⟨lx, cx⟩ := cells_of hk.p.r.x; obtain ⟨la, ca⟩ := cells_of hk.a) | (go_at_call 21; with_reducible refine (c21.out _).mono ?_; rintro e w1 ⟨ta, tc, rfl, hn, hb1⟩; have hk := hk.span hb1; clear hn; obtain ⟨lx, cx⟩ := cells_of hk.p.r.x; obtain ⟨la, ca⟩ := cells_of hk.a; obtain ⟨lb, cb⟩ := cells_of hk.b) | (go_at_call 14; with_reducible refine (c14.out _).mono ?_; rintro e w1 ⟨rfl, hb1⟩; have hk := hk.below hb1; obtain ⟨lx, cx⟩ := cells_of hk.p.r.x; obtain ⟨la, ca⟩ := cells_of hk.a; obtain ⟨lb, cb⟩ := cells_of hk.b))
  go_ret
  exact ⟨rfl, hk.p.r.bel⟩

set_option maxRecDepth 100000 in
set_option maxHeartbeats 8000000 in
theorem restEven_some0 (R : Rest) (z : Int) (hz0 : 0 ≤ z) (hv : R.valid = true) (d : Int) (P : List Int) (al ah bl bh k : Int) (p : List Int) (hf : planR R evenG = (d, P, 0)) (ha : hoursR R 0 = ((al, ah), 0)) (hb : hoursR R 1 = ((bl, bh), 0)) (hg : planR R changesG = (k, p, 0)) (hE : EvenFacts R d P al ah bl bh)
    (Q : List Int) (hQ : bitsL R.hours.toNat z = Q) (hrb : rightB R Q = false) (w : World) : Calls Try.prog 8 #[restV R, .int .u16 z] w fun e w' => e = .returned (.bool true) ∧ Below w.heap.size w w' := by
  have hh := Rest.valid_hours hv
  have ho := Rest.valid_ok hv
  have hq1 := hid (fun (h : false = true) => hE.own Q ((rightB_iff hv).1 (hrb.trans h)))
  have hq2 := hid (fun (h : false = true) => hE.fst Q ((rightB_iff hv).1 (hrb.trans h)))
  obtain ⟨a0, a1, a2, s0, s1, t0, t1, n0, n1, d0, dh, lo, hi, even, hdif, hmem, _, _⟩ := hE
  have hlQ : Q.length = R.hours.toNat := by rw [← hQ, bitsL_length]
  have hlP : P.length = R.hours.toNat := (mem_plans hmem).1
  have hl : Q.length ≤ 1000 := by omega
  have hlP2 : P.length ≤ 1000 := by omega
  have hP16 : P.length ≤ 16 := by omega
  have hQP := hid (hlQ.trans hlP.symm)
  have c32 := hid (fun w => valid_as hv w)
  have c23 := hid (fun w => even_as hf w)
  have c26 := hid (fun w => hours_as ha w)
  have c26b := hid (fun w => hours_as hb w)
  have c21 := hid (fun w => fewest_as hg w)
  have c33 := hid (fun w => by_list hQ hh.1 hh.2 hz0 w)
  have c35 := hid (fun w v h => right_as (v := v) hrb hl w h)
  have c35p := hid (fun w v h => right_as (v := v) ((rightB_iff hv).2 hmem) hlP2 w h)
  have c36 := hid (fun w v h => planRef_as (v := v) (planOk_of hv hmem) hlP2 w h)
  have c38 := hid (fun w v h => difference_as (v := v) (xs := Q) rfl hl w h)
  have c38p := hid (fun w v h => difference_as (v := v) hdif hlP2 w h)
  have c39 := hid (fun w v h => rides_as (v := v) (xs := Q) (r := 0) rfl hl w h)
  have c39p := hid (fun w v h => rides_as (v := v) (xs := P) (r := 0) rfl hlP2 w h)
  have c14 := hid awake_any
  generalize rid 0 P = n at *
  generalize hM : dif Q = M at *
  generalize hm : rid 0 Q = m at *
  have f1 : decide (d < 0) = false := by simp; omega
  have f2 : decide (al < 0) = false := by simp; omega
  have f3 : decide (ah < al) = false := by simp; omega
  have f4 : (al + bh == R.hours) = true := by simpa using s0
  have f4' : (al + bh != R.hours) = false := by simpa using s0
  have f5 : (ah + bl == R.hours) = true := by simpa using s1
  have f5' : (ah + bl != R.hours) = false := by simpa using s1
  have f6 : decide (R.r0.total < ah) = false := by simp; omega
  have f7 : decide (R.r1.total < bh) = false := by simp; omega
  have f8 : decide (n < al) = false := by simp; omega
  have f9 : decide (ah < n) = false := by simp; omega
  have f10 : decide (d < 2 * al - R.hours) = false := by simp; omega
  have f11 : decide (d < R.hours - 2 * ah) = false := by simp; omega
  have f12 : ((d + R.hours) % 2 == 0) = true := by simpa using even
  have f12' : ((d + R.hours) % 2 != 0) = false := by simpa using even
  have b1 : 0 ≤ bh ∧ bh ≤ 16 := by omega
  have b2 : 0 ≤ bl ∧ bl ≤ 16 := by omega
  clear hv hf ha hb hg hQ hlQ hrb hl hlP hlP2 hmem hdif hM hm s0 s1 even
  have hk := KeepR.start w R
  go_enter Try.func8, Try.ntmps8
  go_wp2_with (first | (go_at_call 32; with_reducible refine (c32.out _).mono ?_; rintro e w1 ⟨rfl, hb1⟩; have hk := hk.below hb1; obtain ⟨lx, cx⟩ := cells_of hk.x) | (go_at_call 23; with_reducible refine (c23.out _).mono ?_; rintro e w1 ⟨sa, sc, rfl, hn, hb1⟩; have hk := hk.plus hb1 hn; clear hn; obtain ⟨lx, cx⟩ := cells_of hk.r.x) | (go_at_call 26; with_reducible refine (c26.out _).mono ?_; rintro e w1 ⟨rfl, hb1⟩; have hk := hk.below hb1; obtain ⟨lx, cx⟩ := cells_of hk.r.x) | (go_at_call 26; with_reducible refine (c26b.out _).mono ?_; rintro e w1 ⟨rfl, hb1⟩; have hk := hk.span hb1; obtain ⟨lx, cx⟩ := cells_of hk.p.r.x; obtain ⟨la, ca⟩ := cells_of hk.a) | (go_at_call 21; with_reducible refine (c21.out _).mono ?_; rintro e w1 ⟨ta, tc, rfl, hn, hb1⟩; have hk := hk.span hb1; clear hn; obtain ⟨lx, cx⟩ := cells_of hk.p.r.x; obtain ⟨la, ca⟩ := cells_of hk.a; obtain ⟨lb, cb⟩ := cells_of hk.b) | (go_at_call 36; with_reducible refine (c36.out _ _ hk.p.p).mono ?_; rintro e w1 ⟨rfl, hb1⟩; have hk := hk.below hb1; obtain ⟨lx, cx⟩ := cells_of hk.p.r.x; obtain ⟨la, ca⟩ := cells_of hk.a; obtain ⟨lb, cb⟩ := cells_of hk.b) | (go_at_call 35; with_reducible refine (c35p.out _ _ hk.p.p).mono ?_; rintro e w1 ⟨rfl, hb1⟩; have hk := hk.below hb1; obtain ⟨lx, cx⟩ := cells_of hk.p.r.x; obtain ⟨la, ca⟩ := cells_of hk.a; obtain ⟨lb, cb⟩ := cells_of hk.b) | (go_at_call 38; with_reducible refine (c38p.out _ _ hk.p.p).mono ?_; rintro e w1 ⟨rfl, hb1⟩; have hk := hk.below hb1; obtain ⟨lx, cx⟩ := cells_of hk.p.r.x; obtain ⟨la, ca⟩ := cells_of hk.a; obtain ⟨lb, cb⟩ := cells_of hk.b) | (go_at_call 39; with_reducible refine (c39p.out _ _ hk.p.p).mono ?_; rintro e w1 ⟨rfl, hb1⟩; have hk := hk.below hb1; obtain ⟨lx, cx⟩ := cells_of hk.p.r.x; obtain ⟨la, ca⟩ := cells_of hk.a; obtain ⟨lb, cb⟩ := cells_of hk.b) | (go_at_call 33; with_reducible refine (c33.out _).mono ?_; rintro e w1 ⟨qa, qc, rfl, hn, hb1⟩; have hk := hk.plus hb1 hn; clear hn; obtain ⟨lx, cx⟩ := cells_of hk.t.p.r.x; obtain ⟨la, ca⟩ := cells_of hk.t.a; obtain ⟨lb, cb⟩ := cells_of hk.t.b) | (go_at_call 35; with_reducible refine (c35.out _ _ hk.q).mono ?_; rintro e w1 ⟨rfl, hb1⟩; have hk := hk.below hb1; obtain ⟨lx, cx⟩ := cells_of hk.t.p.r.x; obtain ⟨la, ca⟩ := cells_of hk.t.a; obtain ⟨lb, cb⟩ := cells_of hk.t.b) | (go_at_call 14; with_reducible refine (c14.out _).mono ?_; rintro e w1 ⟨rfl, hb1⟩; have hk := hk.below hb1; obtain ⟨lx, cx⟩ := cells_of hk.t.p.r.x; obtain ⟨la, ca⟩ := cells_of hk.t.a; obtain ⟨lb, cb⟩ := cells_of hk.t.b))
  all_goals
    go_ret
    exact ⟨rfl, hk.t.p.r.bel⟩

end Go.Proofs.Ytkgdejhooghknaa
