/- The walk of 'First' of package mend. -/
import Derived.Test.YtcgkglonnmkfcaaC3
import Derived.Test.YtcgkglonnmkfcaaHD
namespace Go.Proofs.Ytcgkglonnmkfcaa
open Go.RowKit Go.Lap Go.Shelf
attribute [local go_sem] Oper.semAt_some

/-- The jobs that some steps name. -/
def orFirst (f : Nat × Bench → Bool) (l : List (Nat × Bench)) : Nat := l.foldl (fun a x => if f x then a ||| 2 ^ x.1 else a) 0
theorem orFirst_snoc (f : Nat × Bench → Bool) (l : List (Nat × Bench)) (x : Nat × Bench) : orFirst f (l ++ [x]) = if f x then orFirst f l ||| 2 ^ x.1 else orFirst f l := by
  simp [orFirst]
theorem orFirst_lt {f : Nat × Bench → Bool} : ∀ (l : List (Nat × Bench)), (∀ x, x ∈ l → x.1 < 6) → orFirst f l < 64 := by
  refine snoc_ind (fun _ => by simp [orFirst]) ?_
  intro l x ih h
  rw [orFirst_snoc]
  have h1 := ih (fun y hy => h y (by simp [hy]))
  have h2 := h x (by simp)
  split
  · exact Nat.or_lt_two_pow (n := 6) h1 (Nat.pow_lt_pow_right (by decide) h2)
  · exact h1
/-- Is some order right behind a step? -/
def goesB (M : Mend) (x : Nat × Bench) : Bool := decide (0 < (found M 0 countG (restN M 0 - 1) x.2).getD 0)
/-- What 'First' tells. -/
def firstN (M : Mend) : Nat := orFirst (goesB M) (stepsL M 0 Bench.begin)
def firstOf (M : Mend) : Int × Int := if M.valid then ((firstN M : Nat), 0) else (0, 1)

/-- What lies in memory while 'First' runs. -/
structure KeepF (w : World) (sv jv : Value) (acc : Int) (W : World) : Prop where
  bel : Below w.heap.size w W
  m : W.heap[w.heap.size]? = some (.cells #[sv, jv] 25 (0, 0))
  j : W.heap[w.heap.size + 1]? = some (.cells #[.int .i64 acc] 3 (0, 0))
  e : W.heap[w.heap.size + 1 + 1]? = some (.cells #[.int .i64 0] 29 (0, 0))
theorem KeepF.below {w : World} {sv jv : Value} {acc : Int} {W W' : World} (h : KeepF w sv jv acc W) (hb : Below W.heap.size W W') : KeepF w sv jv acc W' :=
  ⟨below_via hb h.bel, (hb.block _ (cells_of h.m).1).trans h.m, (hb.block _ (cells_of h.j).1).trans h.j, (hb.block _ (cells_of h.e).1).trans h.e⟩
theorem KeepF.start (w : World) (sv jv : Value) : KeepF w sv jv 0 (((w.alloc (.cells #[sv, jv] 25)).alloc (.cells #[.int .i64 0] 3)).alloc (.cells #[.int .i64 0] 29)) :=
  ⟨below_alloc (below_alloc (below_alloc (Below.refl _ _) _) _) _, alloc_old (by simp <;> omega) (alloc_old (by simp) (alloc_at rfl)), alloc_old (by simp) (alloc_at (by simp)), alloc_at (by simp)⟩

/-- Between two rounds of the loop over the steps: the map's block, that of the sum, and new ones apart, all lies as it lay. -/
structure LoopF (jb : Nat) (base : World) (m : Nat) (kv : Bench → Value) (acc : Int) (W : World) : Prop where
  os : W.os = base.os
  tape : W.tape = base.tape
  output : W.output = base.output
  size : base.heap.size ≤ W.heap.size
  keep : ∀ k, k < base.heap.size → k ≠ m → k ≠ jb → W.heap[k]? = base.heap[k]?
  memo : ∃ es c, W.heap[m]? = some (.map es c) ∧ Memo kv es
  j : W.heap[jb]? = some (.cells #[.int .i64 acc] 3 (0, 0))
theorem loopF_own {β : Type} {jb m : Nat} {base : World} {kv : Bench → Value} {f : β → Int} (hj : jb < base.heap.size) (hm : m < base.heap.size) : OwnFrom base.heap.size (fun (x : β) W => LoopF jb base m kv (f x) W) := by
  intro x A B row hs hg hr
  have hkeep : ∀ k, k < base.heap.size → B.heap[k]? = A.heap[k]? := fun k hk => hg.block k (by have := hs.size; omega) (fun e => by have := (hr k e.symm).1; omega)
  obtain ⟨es, c, k2, k3⟩ := hs.memo
  exact ⟨hg.os.trans hs.os, hg.tape.trans hs.tape, hg.output.trans hs.output, Nat.le_trans hs.size hg.size, fun k hk h1 h2 => (hkeep k hk).trans (hs.keep k hk h1 h2), ⟨es, c, (hkeep m hm).trans k2, k3⟩, (hkeep jb hj).trans hs.j⟩
theorem LoopF.below {jb m : Nat} {base W W' : World} {kv : Bench → Value} {acc : Int} (h : LoopF jb base m kv acc W) (hb : Below W.heap.size W W') : LoopF jb base m kv acc W' := by
  obtain ⟨es, c, k2, k3⟩ := h.memo
  exact ⟨hb.os.trans h.os, hb.tape.trans h.tape, hb.output.trans h.output, Nat.le_trans h.size hb.size, fun k hk h1 h2 => (hb.block k (Nat.lt_of_lt_of_le hk h.size)).trans (h.keep k hk h1 h2), ⟨es, c, (hb.block m (Array.getElem?_eq_some_iff.1 k2).1).trans k2, k3⟩, (hb.block jb (cells_of h.j).1).trans h.j⟩
theorem LoopF.keepI {jb m : Nat} {base W W' : World} {kv : Bench → Value} {acc : Int} (h : LoopF jb base m kv acc W) (hk : KeepI m kv W W') : LoopF jb base m kv acc W' :=
  ⟨hk.1.os.trans h.os, hk.1.tape.trans h.tape, hk.1.output.trans h.output, Nat.le_trans h.size hk.1.size, fun k hk1 h1 h2 => (hk.1.block k (Nat.lt_of_lt_of_le hk1 h.size) (fun e => h1 (by cases e; rfl))).trans (h.keep k hk1 h1 h2), hk.2, hk.blk h.memo h.j⟩
theorem LoopF.store {jb m : Nat} {base W : World} {kv : Bench → Value} {acc : Int} (h : LoopF jb base m kv acc W) (v : Int) : LoopF jb base m kv v (W.setCell ⟨jb, 0, none⟩ (.int .i64 v)).drew := by
  obtain ⟨es, c, k2, k3⟩ := h.memo
  have hne : m ≠ jb := fun e => by rw [e, h.j] at k2; cases k2
  refine ⟨h.os, h.tape, h.output, by simpa [World.setCell, World.drew] using h.size, fun k hk h1 h2 => (Below.heap_setCell _ _ _ _ h2).trans (h.keep k hk h1 h2), ⟨es, c, (Below.heap_setCell _ _ _ _ hne).trans k2, k3⟩, ?_⟩
  have h2 : (W.setCell ⟨jb, 0, none⟩ (.int .i64 v)).heap[jb]? = some (.cells #[.int .i64 v] 3 (0, 0)) := by simpa using heap_set_same (o := 0) (v := .int .i64 v) h.j
  exact h2
theorem LoopF.blk {jb m : Nat} {base W : World} {kv : Bench → Value} {acc acc0 : Int} (h : LoopF jb base m kv acc W) (hj : base.heap[jb]? = some (.cells #[.int .i64 acc0] 3 (0, 0))) (hm : ∃ es c, base.heap[m]? = some (.map es c) ∧ Memo kv es) {b : Nat} {c : Array Value} {t : TypeId} {fr : Nat × Nat} (hb : base.heap[b]? = some (.cells c t fr)) (ht : t ≠ 3) : W.heap[b]? = some (.cells c t fr) := by
  obtain ⟨es, k, hm, _⟩ := hm
  refine (h.keep b (cells_of hb).1 (fun e => ?_) (fun e => ?_)).trans hb
  · rw [e, hm] at hb; cases hb
  · rw [e, hj] at hb
    injection hb with hb
    injection hb with _ hb
    exact ht hb.symm
theorem EnvI.keepF {rx gb ab ob sb m jb : Nat} {B : Nat} {G : GoalFns} {M : Mend} {left : Nat} {kv : Bench → Value} {base W : World} {acc acc0 : Int} (h : EnvI rx gb ab ob sb m (B, jb) G M left (fun _ => True) kv base) (hj : base.heap[jb]? = some (.cells #[.int .i64 acc0] 3 (0, 0))) (hl : LoopF jb base m kv acc W) : EnvI rx gb ab ob sb m (B, jb) G M left (fun _ => True) kv W :=
  ⟨hl.blk hj h.m h.g (by decide), hl.blk hj h.m h.a (by decide), hl.blk hj h.m h.r (by decide), h.sh.keep (fun k hk o ho => (hl.keep k (Array.getElem?_eq_some_iff.1 ho).1 (fun e => by have := h.ge; simp only at this hk; omega) hk.2).trans ho), trivial, h.ge, Nat.le_trans h.le hl.size, hl.blk hj h.m h.o (by decide), hl.memo⟩

set_option maxRecDepth 100000 in
set_option maxHeartbeats 2000000 in
theorem First_bad (M : Mend) (hv : M.valid = false) (sv jv : Value) (w : World) (hS : IntsAt w sv M.setup) (hJ : JobsAt w jv M.jobs) :
    Calls Try.prog 22 #[.agg #[sv, jv]] w fun e w' => e = .returned (.tuple #[.int .i64 0, .int .i64 1]) ∧ Below w.heap.size w w' := by
  have hv' := hid hv
  clear hv
  have hS' := hid hS
  have hJ' := hid hJ
  obtain ⟨sa, scap, rfl, _⟩ := hS
  obtain ⟨ja, jcap, rfl, _⟩ := hJ
  have hk := KeepF.start w (.slice sa M.setup.length scap) (.slice ja M.jobs.length jcap)
  refine calls_of_wp_marks 5 Try.func22 rfl ?_
  simp only [Try.ntmps22, List.size_toArray, List.length_cons, List.length_nil, Nat.reduceAdd, Nat.reduceSub, Array.replicate_succ, Array.replicate_zero, List.push_toArray, List.append_toArray, List.nil_append, List.cons_append]
  go_upto_region 2 with fail
  generalize (((w.alloc (.cells #[.slice sa M.setup.length scap, .slice ja M.jobs.length jcap] 25)).alloc (.cells #[.int .i64 0] 3)).alloc (.cells #[.int .i64 0] 29)) = w1 at hk ⊢
  obtain ⟨lm, cm⟩ := cells_of hk.m
  go_wp2_with (go_at_call 47; refine (open_always (hS'.out.below hk.bel) (hJ'.out.below hk.bel)).mono ?_; intro e w3 hp; obtain ⟨he, hb3⟩ := openPost_arg hv'.out hp; subst he; clear hp)
  have hk3 := hk.below hb3
  obtain ⟨l7, c7⟩ := cells_of hk3.e
  have z7 := free_of hk3.e
  obtain ⟨l8, c8⟩ := cells_of hk3.j
  refine leaves_told (by omega) (by simp) ?_
  refine (told_panicking_in 4 (w.heap.size + 1 + 1) 1 0 _ l7 (by rw [c7]; rfl) (z7 0)).mono ?_
  rintro e u' w'' ⟨rfl, rfl, rfl⟩
  have hfin : Below w.heap.size w ((w3.setCell ⟨w.heap.size + 1 + 1, 0, none⟩ (.int .i64 1)).alloc (.cells #[.int .i64 1] 107)) := below_alloc (below_set hk3.bel _ (by simp <;> omega)) _
  simp [LeavesInM, LeavesIn, settle, results, Try.results22, go_sem, c7, c8, hfin, l7, l8]

set_option maxRecDepth 100000 in
set_option maxHeartbeats 2000000 in
theorem First_fine (M : Mend) (hv : M.valid = true) (d : Nat) (hd : firstN M = d) (sv jv : Value) (w : World) (hS : IntsAt w sv M.setup) (hJ : JobsAt w jv M.jobs) :
    Calls Try.prog 22 #[.agg #[sv, jv]] w fun e w' => e = .returned (.tuple #[.int .i64 d, .int .i64 0]) ∧ Below w.heap.size w w' := by
  have hv' := hid hv
  have hd' := hid hd
  have hM := hid (Mend.valid_ok hv)
  clear hv hd
  have hS' := hid hS
  have hJ' := hid hJ
  obtain ⟨sa, scap, rfl, _⟩ := hS
  obtain ⟨ja, jcap, rfl, _⟩ := hJ
  have hk := KeepF.start w (.slice sa M.setup.length scap) (.slice ja M.jobs.length jcap)
  refine calls_of_wp_marks 5 Try.func22 rfl ?_
  simp only [Try.ntmps22, List.size_toArray, List.length_cons, List.length_nil, Nat.reduceAdd, Nat.reduceSub, Array.replicate_succ, Array.replicate_zero, List.push_toArray, List.append_toArray, List.nil_append, List.cons_append]
  go_upto_region 2 with fail
  generalize (((w.alloc (.cells #[.slice sa M.setup.length scap, .slice ja M.jobs.length jcap] 25)).alloc (.cells #[.int .i64 0] 3)).alloc (.cells #[.int .i64 0] 29)) = w1 at hk ⊢
  obtain ⟨lm, cm⟩ := cells_of hk.m
  go_wp2_with (first
    | (go_at_call 47; refine (open_always (hS'.out.below hk.bel) (hJ'.out.below hk.bel)).mono ?_; intro e w3 hp; obtain ⟨sb, he, hsb, hsc, hb3⟩ := openPost_yes hv'.out hp; subst he; clear hp; have hk3 := hk.below hb3; have hsh := shop_under (hS'.out) (hJ'.out) hk3.bel hsc (show w.heap.size ≤ w.heap.size + 1 by omega) (by have := (cells_of hk.e).1; omega))
    | (go_at_call 57; refine (ways_any (w.heap.size + 1) sb M 0 w3 hsh).mono ?_; intro e w4 hp; obtain ⟨rx, gb, ab, ob, m, he, hE, hb4⟩ := hp; subst he; have hk4 := hk3.below hb4)
    | (go_at_call 58; with_reducible refine (begin_any _).mono ?_; rintro e w5 ⟨rfl, hb5⟩)
    | (go_at_call 60; refine (steps_at _ _ _ _ _).mono ?_; rintro e w6 ⟨sbx, rbx, rfl, hb6, hsx, hrx, hcx, hcr⟩))
  have hb45 := below_via hb5 (below_alloc (Below.refl w4.heap.size w4) (.cells #[onV rx gb ab ob] 82))
  have hof5 := (hb5.block w4.heap.size (by simp)).trans (alloc_at (o := .cells #[onV rx gb ab ob] 82) rfl)
  have hb46 := below_via hb6 hb45
  have hof := (hb6.block _ (cells_of hof5).1).trans hof5
  have hE6 := hE.keep (count_ok M 0 _) (KeepI.of_below hE.m hb46)
  have hk6 := hk4.below hb46
  have hsh6 : ShopUnder (w3.heap.size, w.heap.size + 1) w6 sb M 0 := hE6.sh
  have hjb := (cells_of hk6.j).1
  have hml : m < w6.heap.size := by obtain ⟨_, _, h, _⟩ := hE6.m; exact (Array.getElem?_eq_some_iff.1 h).1
  have hw3 : w.heap.size + 2 < w3.heap.size := (cells_of hk3.e).1
  have hmg : w3.heap.size ≤ m := hE6.ge
  have hml4 : m < w4.heap.size := by obtain ⟨_, _, h, _⟩ := hE.m; exact (Array.getElem?_eq_some_iff.1 h).1
  have hz46 := hb46.size
  have hz45 := hb45.size
  have hz6 : w4.heap.size < w6.heap.size := (cells_of hof).1
  have hlw : w3.heap.size ≤ w4.heap.size := hb4.size
  have hsx6 := (cells_of hcx).1
  have hrx6 := (cells_of hcr).1
  have hin : M.jobs.length = 0 ∨ WorkIn M 0 (restN M 0 - 1 + 1) Bench.begin 0 := by
    by_cases h0 : M.jobs.length = 0
    · exact .inl h0
    · right
      have h1 : restN M 0 = M.jobs.length := free_none _
      rw [show restN M 0 - 1 + 1 = restN M 0 by omega]
      exact begin_work hM.out 0
  have hof' := hid hof
  have hE6' := hid hE6
  have hk6' := hid hk6
  have hj6' := hid hk6.j
  clear hof hof5 hE hE6 hk6 lm cm hk3 hk4
  refine (wpIn_wide (n := 5)).1 (wpIn_rangeFunc_ownH (α := Step M 0 Bench.begin) (encs := encStep 0) (w0 := w6) rfl (by omega) (gf := 85) (lb := #[.pointer (some ⟨rbx, 0, none⟩), .pointer (some ⟨sbx, 0, none⟩)]) rfl trivial (enters_of Try.func85 (by kernel_rfl) rfl)
    (steps_stops 4 (by omega) sbx rbx sb (w3.heap.size, w.heap.size + 1) M hM.out 0 (by decide) Bench.begin 0 (-1) (restN M 0 - 1) hin w6 hcx hcr hsh6) stepKp_t (stepKp_b (by omega) (by omega) (by simp only; omega)) (Below.refl _ _) (fun _ => rfl)
    (fun pre W => LoopF (w.heap.size + 1) w6 m (kvOfI M 0 countG) (orFirst (goesB M) (pre.map (fun x => x.1)) : Nat) W) (fun _ _ _ => False) (loopF_own hjb hml) (fun _ _ _ _ _ h _ _ => h.elim) ⟨rfl, rfl, rfl, Nat.le_refl _, fun _ _ _ _ => rfl, hE6'.out.m, hj6'.out⟩
    (fun x a' W => ∃ bx, w6.heap.size ≤ bx ∧ W.heap[bx]? = some (.cells (wcells x.1.2 (M.ends Bench.begin.kind 0 (M.job x.1.1) (M.job x.1.1).lo) x.1.1) 74 (0, 0)) ∧ a' = { tmps := #[.agg #[.slice sa M.setup.length scap, .slice ja M.jobs.length jcap], .pointer (some ⟨w.heap.size, 0, none⟩), .pointer (some ⟨w.heap.size + 1, 0, none⟩), .pointer (some ⟨w.heap.size + 1 + 1, 0, none⟩), .pointer (some ⟨sb, 0, none⟩), .pointer (some ⟨w4.heap.size, 0, none⟩), .int .i64 x.1.1, .pointer (some ⟨bx, 0, none⟩), undef, undef, .agg #[.slice sa M.setup.length scap, .slice ja M.jobs.length jcap], .pointer (some ⟨sb, 0, none⟩), .pointer (some ⟨sb, 0, none⟩), onV rx gb ab ob, .pointer (some ⟨sb, 0, none⟩), workV Bench.begin 0 (-1), .func (.func 85) #[] #[.pointer (some ⟨rbx, 0, none⟩), .pointer (some ⟨sbx, 0, none⟩)], .int .i64 x.1.1, workV x.1.2 (M.ends Bench.begin.kind 0 (M.job x.1.1) (M.job x.1.1).lo) x.1.1, undef, undef, undef, undef, undef, undef, undef, undef, undef, undef, undef, undef, undef], defers := [] })
    ?hAx ?assign ?body ?done ?stop)
  case hAx =>
    rintro x a' _ A B row ⟨bx, h1, h2, h3⟩ hg hr
    refine ⟨bx, h1, (hg.block bx (cells_of h2).1 ?_).trans h2, h3⟩
    intro e
    obtain ⟨_, o, ho, hc⟩ := hr bx e.symm
    rw [h2] at ho; cases ho; cases hc
  case assign =>
    intro l pre x W K hi hK
    gi_wp2
    exact hK _ _ ((keepsFrom_below (below_alloc (Below.refl _ _) _))) (stepKp_below (below_alloc (Below.refl _ _) _)) (hi.below (below_alloc (Below.refl _ _) _)) ⟨W.heap.size, hi.size, alloc_at rfl, rfl⟩
  case body =>
    rintro l pre x a' W hl2 _ hI ⟨bx, hbx, hxc, rfl⟩ _
    have hx := mem_stepsTo.1 x.2
    have hEW := hE6'.out.keepF hj6'.out hI
    have hofW := hI.blk hj6'.out hE6'.out.m hof'.out (by decide)
    obtain ⟨q1, d1⟩ := cells_of hofW
    obtain ⟨q2, d2⟩ := cells_of hxc
    have hx6 : x.1.1 < 6 := Nat.lt_of_lt_of_le hx.1 hM.out.len
    have hnin := (hin.resolve_left (by have := hx.1; omega)).next hM.out hx.1 hx.2.1
    rw [← hx.2.2.1] at hnin
    have HC := hid (on_any rx gb ab ob sb m _ countFns countG M hM.out 0 (by decide) _ (count_ok M 0 _) _ x.1.2 _ x.1.1 W hnin hEW)
    obtain ⟨nn, hnn⟩ : ∃ n, (found M 0 countG (restN M 0 - 1) x.1.2).getD 0 = n := ⟨_, rfl⟩
    obtain ⟨ss, hss⟩ : ∃ n, (found M 0 countG (restN M 0 - 1) x.1.2).isSome = n := ⟨_, rfl⟩
    have hgo : Hid (goesB M x.1 = decide (0 < nn)) := hid (by rw [goesB, hnn])
    have hnn' := hid hnn
    have hss' := hid hss
    have hpre6 : Hid (orFirst (goesB M) (pre.map (fun x => x.1)) < 64) := hid (orFirst_lt _ (fun y hy => by
      obtain ⟨z, _, rfl⟩ := List.mem_map.1 hy
      exact Nat.lt_of_lt_of_le (mem_stepsTo.1 z.2).1 hM.out.len))
    obtain ⟨acc, hacc⟩ : ∃ a, orFirst (goesB M) (pre.map (fun x => x.1)) = a := ⟨_, rfl⟩
    rw [hacc] at hI hpre6
    have hacc' := hid hacc
    clear hnn hss hacc hx hnin
    gi_wp2_with fail
    refine ⟨trivial, ?_⟩
    with_reducible refine (CallsIn.inRound l ((callsIn_wide (n := 2)).2 HC.out)).mono ?_
    intro e W1 hp
    obtain ⟨he, hk1⟩ := hp
    rw [hnn'.out, hss'.out] at he
    subst he
    have hI1 := hI.keepI hk1
    have hf1 : KeepsFrom w6.heap.size W W1 := KeepsFrom.of_grownBy hk1.1 (fun j e => by cases e; omega)
    have hp1 : StepKp sbx rbx (w3.heap.size, w.heap.size + 1) W W1 := ⟨hk1.1.size, fun k hk o ho => (hk1.1.block k (Array.getElem?_eq_some_iff.1 ho).1 (by
      intro e; cases e
      simp only at hk
      rcases hk with h | h | h <;> omega)).trans ho⟩
    clear d1 d2
    by_cases hpos : 0 < nn
    · have hsn : orFirst (goesB M) ((pre.map (fun x => x.1)) ++ [x.1]) = acc ||| 2 ^ x.1.1 := by rw [orFirst_snoc, hacc'.out, hgo.out]; simp [hpos]
      have hsn' := hid hsn
      clear hsn
      obtain ⟨q3, d3⟩ := cells_of hI1.j
      have z3 := free_of hI1.j
      have hk62 : x.1.1 ≤ 62 := by omega
      have hpb : 2 ^ x.1.1 < 9223372036854775808 := pow_small hk62
      have hor := (Go.Lap.bits_nat acc (2 ^ x.1.1) (by have := hpre6.out; omega) hpb).2.1
      obtain ⟨pw, hpw⟩ : ∃ z : Int, ((2 ^ x.1.1 : Nat) : Int) = z := ⟨_, rfl⟩
      have hsh2 : IntKind.i64.wrap ((2 : Int) ^ x.1.1) = pw := by
        rw [← hpw, show (2 : Int) ^ x.1.1 = ((2 ^ x.1.1 : Nat) : Int) by simp]
        exact IntWalk.i64_in _ (by generalize 2 ^ x.1.1 = t at hpb ⊢; omega)
      rw [hpw] at hor
      obtain ⟨na, hna⟩ : ∃ z, acc ||| 2 ^ x.1.1 = z := ⟨_, rfl⟩
      rw [hna] at hor
      have hna' := hid hna
      clear hpw hna hpb
      gi_wp2
      refine wpIn_mono (Q := fun e _ wz => e = .normal ∧ wz = (W1.setCell ⟨w.heap.size + 1, 0, none⟩ (.int .i64 (na : Nat))).drew) ?_ ?_
      · gi_region
        all_goals exact ⟨rfl, rfl⟩
      · rintro e az wz ⟨rfl, rfl⟩
        gi_wp2
        refine ⟨(hf1.trans ((KeepsOthers.setCell _ _ _).from _)).trans ⟨Nat.le_refl _, fun k o _ hk _ => hk⟩, stepKp_t (stepKp_t hp1 (stepKp_set (by omega) (by omega) (.inr rfl) _ _ _)) ⟨Nat.le_refl _, fun _ _ _ h => h⟩, ?_⟩
        simp only [List.map_append, List.map_cons, List.map_nil]
        rw [hsn'.out, hna'.out]
        exact hI1.store _
    · have hsn : orFirst (goesB M) ((pre.map (fun x => x.1)) ++ [x.1]) = acc := by rw [orFirst_snoc, hacc'.out, hgo.out]; simp [hpos]
      have hsn' := hid hsn
      clear hsn
      gi_wp2
      refine ⟨hf1, hp1, ?_⟩
      simp only [List.map_append, List.map_cons, List.map_nil]
      rw [hsn'.out]
      exact hI1
  case done =>
    intro D ys W hD hS hI hK
    rw [hS, show orFirst (goesB M) (stepsL M 0 Bench.begin) = d from hd'.out] at hI
    have heW := hI.blk hj6'.out hE6'.out.m hk6'.out.e (by decide)
    obtain ⟨q3, d3⟩ := cells_of hI.j
    have z3 := free_of hI.j
    obtain ⟨q4, d4⟩ := cells_of heW
    have z4 := free_of heW
    have hbelW : Below w.heap.size w W := ⟨hI.os.trans hk6'.out.bel.os, hI.tape.trans hk6'.out.bel.tape, hI.output.trans hk6'.out.bel.output, Nat.le_trans hk6'.out.bel.size hI.size, fun k hk => (hI.keep k (Nat.lt_of_lt_of_le hk hk6'.out.bel.size) (by omega) (by omega)).trans (hk6'.out.bel.block k hk)⟩
    have hj2 := heap_set_same (o := 0) (v := .int .i64 (d : Nat)) hI.j
    have hD2 : ((W.setCell ⟨w.heap.size + 1, 0, none⟩ (.int .i64 (d : Nat))).setCell ⟨w.heap.size + 1 + 1, 0, none⟩ (.int .i64 0)).heap[D]? = some (.deferred (some [])) := (Below.heap_setCell _ _ _ _ (by simp only; omega)).trans ((Below.heap_setCell _ _ _ _ (by simp only; omega)).trans hK)
    go_wp2
    refine ⟨by simp, .inl ⟨_, _, rfl, run_takeDeferred hD2, ?_⟩⟩
    refine leaves_told (by omega) (by simp) ?_
    refine (told_idle_in 4 ⟨w.heap.size + 1 + 1, 0, none⟩ _).mono ?_
    rintro e u' w'' ⟨rfl, rfl, rfl⟩
    have hbz : Below w.heap.size w (((W.setCell ⟨w.heap.size + 1, 0, none⟩ (.int .i64 (d : Nat))).setCell ⟨w.heap.size + 1 + 1, 0, none⟩ (.int .i64 0)).putObj D (.deferred none)) := by
      have h := below_set (below_set hbelW (.int .i64 (d : Nat)) (p := ⟨w.heap.size + 1, 0, none⟩) (by simp only; omega)) (.int .i64 0) (p := ⟨w.heap.size + 1 + 1, 0, none⟩) (by simp only; omega)
      exact ⟨h.os, h.tape, h.output, by simpa using h.size, fun k hk => (World.putObj_heap_other (by omega)).trans (h.block k hk)⟩
    have hjz : (((W.setCell ⟨w.heap.size + 1, 0, none⟩ (.int .i64 (d : Nat))).setCell ⟨w.heap.size + 1 + 1, 0, none⟩ (.int .i64 0)).putObj D (.deferred none)).heap[w.heap.size + 1]? = some (.cells #[.int .i64 (d : Nat)] 3 (0, 0)) := (World.putObj_heap_other (by omega)).trans ((Below.heap_setCell _ _ _ _ (by simp only; omega)).trans (by simpa using hj2))
    have hez : (((W.setCell ⟨w.heap.size + 1, 0, none⟩ (.int .i64 (d : Nat))).setCell ⟨w.heap.size + 1 + 1, 0, none⟩ (.int .i64 0)).putObj D (.deferred none)).heap[w.heap.size + 1 + 1]? = some (.cells #[.int .i64 0] 29 (0, 0)) := (World.putObj_heap_other (by omega)).trans (by simpa using heap_set_same (o := 0) (v := .int .i64 0) ((Below.heap_setCell W ⟨w.heap.size + 1, 0, none⟩ (.int .i64 (d : Nat)) (w.heap.size + 1 + 1) (by simp only; omega)).trans heW))
    obtain ⟨lz1, cz1⟩ := cells_of hjz
    obtain ⟨lz2, cz2⟩ := cells_of hez
    simp [LeavesInM, LeavesIn, settle, results, Try.results22, go_sem, cz1, cz2, hbz]
  case stop =>
    rintro D c pre W _ _ h _
    exact h.elim

theorem First_any (M : Mend) (sv jv : Value) (w : World) (hS : IntsAt w sv M.setup) (hJ : JobsAt w jv M.jobs) : Calls Try.prog 22 #[.agg #[sv, jv]] w fun e w' => e = .returned (.tuple #[.int .i64 (firstOf M).1, .int .i64 (firstOf M).2]) ∧ Below w.heap.size w w' := by
  unfold firstOf
  cases hv : M.valid
  · exact First_bad M hv sv jv w hS hJ
  · exact First_fine M hv _ rfl sv jv w hS hJ

end Go.Proofs.Ytcgkglonnmkfcaa
