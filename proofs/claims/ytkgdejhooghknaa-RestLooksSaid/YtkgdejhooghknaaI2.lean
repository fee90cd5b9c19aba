/- The walk of 'plan' of package rest. -/
import Derived.Test.YtkgdejhooghknaaI1
import Derived.Test.YtkgdejhooghknaaKit3
import Derived.Deep.RegionHeld3
import Derived.Deep.CutRange
import Derived.Deep.LoopGhost
import Derived.Laws.CopyOwn
import Derived.Laws.MakeOwn
namespace Go.Proofs.Ytkgdejhooghknaa
open Go.RowKit Go.Lap Go.Shelf
attribute [local go_sem] Oper.semAt_some

/-- A new slice: its block is new, and holds a list of integers alone. -/
def NewInts (B : Nat) (W : World) (sv : Value) (xs : List Int) : Prop := ∃ b, B ≤ b ∧ sv = .slice (some ⟨b, 0, none⟩) xs.length xs.length ∧ W.heap[b]? = some (.cells (intsV xs) 3 (0, 0))

/-- A mark among the deferred calls. -/
abbrev mkD (D : Nat) : Deferred := { target := .collected D, args := #[] }

/-- The marks are taken up one by one. -/
theorem leaves_marks {fn : Func} {tmps : Array Value} {R : Ending → World → Prop} (B : Nat) (u : FrameMode) (hu : u ≠ .run) : ∀ (ds : List Nat) (w : World), ds.Nodup → (∀ D, D ∈ ds → B ≤ D ∧ w.heap[D]? = some (.deferred (some []))) →
    (∀ w', w'.heap.size = w.heap.size ∧ w'.os = w.os ∧ w'.tape = w.tape ∧ w'.output = w.output ∧ (∀ b : Nat, (∀ D, D ∈ ds → b ≠ D) → w'.heap[b]? = w.heap[b]?) → LeavesInM Fence.wide 5 Try.prog fn tmps R [] u w') →
    LeavesInM Fence.wide 5 Try.prog fn tmps R (ds.map mkD) u w
  | [], w, _, _, h => h w ⟨rfl, rfl, rfl, rfl, fun _ _ => rfl⟩
  | D :: ds, w, hn, hd, h => by
    obtain ⟨hD, hn'⟩ := List.nodup_cons.1 hn
    refine ⟨hu, .inl ⟨D, _, rfl, run_takeDeferred (hd D (by simp)).2, ?_⟩⟩
    refine leaves_marks B u hu ds _ hn' (fun E hE => ⟨(hd E (by simp [hE])).1, ?_⟩) (fun w' ⟨h1, h2, h3, h4, h5⟩ => h w' ⟨by simpa using h1, h2, h3, h4, fun b hb => (h5 b (fun E hE => hb E (by simp [hE]))).trans (World.putObj_heap_other (hb D (by simp)))⟩)
    exact (World.putObj_heap_other (fun e => hD (by rw [← e]; exact hE))).trans (hd E (by simp [hE])).2

theorem PlanI.next {ub gb ab rx ob m pa ps pl ph pw ph' pw' rb : Nat} {G : GoalFns} {g : Goal Int} {R : Rest} {w : World} {ds : List Nat} {sz : Nat} {k k' : Int} {s : St} {want want' : Int} {l : List Int} {W W' : World} (h : PlanI ⟨ub, gb, ab, rx, ob, m, pa, ps, pl, ph, pw⟩ rb G g R w ds sz k s want l W) (hb : Below W.heap.size W W')
    (h1 : W.heap.size ≤ ph') (h2 : W.heap.size ≤ pw') (hne : ph' ≠ pw') (h3 : W'.heap[ph']? = some (.cells #[.int .i64 k'] 3 (0, 0))) (h4 : W'.heap[pw']? = some (.cells #[.int .i64 want'] 3 (0, 0))) :
    PlanI ⟨ub, gb, ab, rx, ob, m, pa, ps, pl, ph', pw'⟩ rb G g R w ds sz k' s want' l W' := by
  have hB := h.below hb
  have hu := heap_lt h.env.u
  have hz := h.bel.size
  exact ⟨hB.bel, hB.env, hB.gx, hB.clo, hB.st, hB.li, h3, h4, hB.dd, hB.nd, ⟨h.nn.1, h.nn.2.1, h.nn.2.2.1, by simp only; omega, by simp only; omega, hne, h.nn.2.2.2.2.2.2.1, by simp only at hu ⊢; omega⟩, hB.szl⟩

theorem keeps_take {V : PV} {k : Nat} {r : Int} {t : St} {y : Int} {B : Nat} {W : World} : KeepsFrom B W (takeW V k r t y W).drew := by
  have h : ∀ (A : World), KeepsFrom B A A.drew := fun A => ⟨Nat.le_refl _, fun k o _ hk _ => hk⟩
  refine KeepsFrom.trans ?_ (h _)
  have hk : ∀ (A : World) (b o : Nat) (v : Value), KeepsFrom B A (A.setCell ⟨b, o, none⟩ v) := fun A b o v => (KeepsOthers.setCell A _ _).from _
  exact .trans (.trans (.trans (.trans (.trans (.trans (.trans (hk _ _ _ _) (hk _ _ _ _)) (hk _ _ _ _)) (hk _ _ _ _)) (hk _ _ _ _)) (hk _ _ _ _)) (hk _ _ _ _)) (hk _ _ _ _)

theorem make_ints (n : Int) (h0 : 0 ≤ n) (hn : n ≤ 65536) (w : World) : (Instr.makeSlice 27 (.int .i64 n) (.int .i64 n)).run Try.prog w = .ok (.slice (some ⟨w.heap.size, 0, none⟩) n.toNat n.toNat) (w.alloc (.cells (intsV (List.replicate n.toNat 0)) 3)) := by
  obtain ⟨k, rfl⟩ : ∃ k : Nat, n = k := ⟨n.toNat, by omega⟩
  have hq : (Try.prog.info? 3).map (fun i => (i.size, i.bytes, i.zero)) = some (1, 8, some (.int .i64 0)) := by kernel_rfl
  obtain ⟨i, hi, he⟩ := Option.map_eq_some_iff.1 hq
  obtain ⟨hs, hb, hz⟩ : i.size = 1 ∧ i.bytes = 8 ∧ i.zero = some (.int .i64 0) := by simpa using he
  have hr := run_make (P := Try.prog) w 27 3 i _ (by kernel_rfl) hi hz .i64 .i64 k k (by omega) (by omega) (by rw [hb]; omega) (by omega)
  rw [hr]
  simp only [Int.toNat_natCast, hs, Nat.mul_one]
  have hm : madeCells #[.int .i64 0] k = intsV (List.replicate k 0) := by
    apply Array.ext
    · simp [madeCells]
    · intro i h1 h2
      simp [madeCells, Nat.mod_one]
  exact congrArg (fun c => Result.ok (Value.slice (some ⟨w.heap.size, 0, none⟩) k k) (w.alloc (.cells c 3))) hm

theorem find_first {α : Type} {p : α → Bool} {l pre0 post : List α} {x : α} (h : pre0 ++ [x] ++ post = l) (h1 : ∀ y, y ∈ pre0 → p y = false) (h2 : p x = true) : l.find? p = some x := by
  subst h
  rw [List.append_assoc, List.find?_append, List.find?_eq_none.2 (fun y hy => by simp [h1 y hy])]
  simp [h2]

theorem take_set_succ {l : List Int} {k : Nat} {r : Int} (h : k < l.length) : (l.set k r).take (k + 1) = l.take k ++ [r] := by
  rw [List.take_add_one, List.take_set, List.set_eq_of_length_le (by simp; omega), List.getElem?_set_self (by simpa using h)]
  rfl

set_option maxRecDepth 100000 in
set_option maxHeartbeats 4000000 in
theorem plan_some (rb : Nat) (G : GoalFns) (g : Goal Int) (P : Nat → Int → Prop) (hg : g.Low P) (R : Rest) (v : Int) (hv : R.valid = true) (hG : GoalOkI G g) (hf : found R g R.hours.toNat St.begin = some v) (w : World) (hw : w.heap[rb]? = some (.cells (restCells R) 82 (0, 0))) :
    Calls Try.prog 60 #[.pointer (some ⟨rb, 0, none⟩), goalV G] w fun e w' => ∃ sv, e = .returned (.tuple #[.int .i64 v, sv]) ∧ NewInts w.heap.size w' sv (pick R g R.hours.toNat St.begin v) ∧ Below w.heap.size w w' := by
  obtain ⟨lr, cr⟩ := cells_of hw
  have hw' := hid hw
  clear hw
  have hh := Rest.valid_hours hv
  have ho := Rest.valid_ok hv
  have hv' := hid hv
  have hf' := hid hf
  clear hv hf
  have lr1 : rb < w.heap.size + 1 := by omega
  have lr2 : rb < w.heap.size + 1 + 1 := by omega
  have hne1 : ¬ rb = w.heap.size + 1 := by omega
  have hne2 : ¬ rb = w.heap.size := by omega
  have hrbW := hid (fun W' (h : Below w.heap.size w W') => (h.block rb lr).trans hw'.out)
  refine calls_of_wp_marks 5 Try.func60 rfl ?_
  simp only [Try.ntmps60, List.size_toArray, List.length_cons, List.length_nil, Nat.reduceAdd, Nat.reduceSub, Array.replicate_succ, Array.replicate_zero, List.push_toArray, List.append_toArray, List.nil_append, List.cons_append]
  go_upto_region 1 with fail
  go_cut [6] from 16 to 23 (fun p6 wx => ∃ ub gb ab rx ob m pa, p6 = .pointer (some ⟨pa, 0, none⟩) ∧ w.heap.size < pa ∧ Hid (wx.heap[pa]? = some (.cells #[ofV ub gb ab rx ob] 76 (0, 0))) ∧ OfI ub gb ab rx ob rb m w.heap.size G g R R.hours wx ∧ Below w.heap.size w wx ∧ Hid (wx.heap[w.heap.size]? = some (.cells #[.func (.func G.fe) #[] G.ce, .func (.func G.fh) #[] G.ch, .func (.func G.fj) #[] G.cj] 86 (0, 0))))
  case first =>
    go_region_held3 (fun w' => w'.cell? ⟨rb, 0, none⟩ = some (.int .i64 R.hours) ∧ w'.cell? ⟨w.heap.size, 0, none⟩ = some (.func (.func G.fe) #[] G.ce) ∧ w'.cell? ⟨w.heap.size, 1, none⟩ = some (.func (.func G.fh) #[] G.ch) ∧ w'.cell? ⟨w.heap.size, 2, none⟩ = some (.func (.func G.fj) #[] G.cj)) (simp [*, cell_set_far, World.cell?_alloc_some]) (first
      | (go_at_call 55; refine (find_any rb G g R R.hours _ (hrbW.out _ (below_alloc (Below.refl _ _) _).drew)).mono ?_; intro e w2 hp; obtain ⟨ub, gb, ab, rx, ob, m, he, hof, hb2⟩ := hp; subst he; have gN : (w.alloc (.cells #[.func (.func G.fe) #[] G.ce, .func (.func G.fh) #[] G.ch, .func (.func G.fj) #[] G.cj] 86)).drew.heap[w.heap.size]? = some (.cells #[.func (.func G.fe) #[] G.ce, .func (.func G.fh) #[] G.ch, .func (.func G.fj) #[] G.cj] 86 (0, 0)) := alloc_at rfl; have gN2 := (hb2.block w.heap.size (cells_of gN).1).trans gN; have hbw2 := below_via hb2 (below_alloc (Below.refl _ _) _).drew; obtain ⟨lN2, cN2⟩ := cells_of gN2; obtain ⟨lR2, cR2⟩ := cells_of (hrbW.out _ hbw2); have hne3 : ¬ rb = w2.heap.size := (by omega); have hne4 : ¬ w.heap.size = w2.heap.size := (by omega); clear gN; have gN2' := hid gN2; clear gN2)
      | (go_at_call 55; refine (find_any rb G g R R.hours _ (hrbW.out _ (below_alloc (below_alloc (Below.refl _ _) _) _).drew)).mono ?_; intro e w2 hp; obtain ⟨ub, gb, ab, rx, ob, m, he, hof, hb2⟩ := hp; subst he; have gN : ((w.alloc (.cells #[.func (.func G.fe) #[] G.ce, .func (.func G.fh) #[] G.ch, .func (.func G.fj) #[] G.cj] 86)).alloc (.cells #[.nilFunc] 76)).drew.heap[w.heap.size]? = some (.cells #[.func (.func G.fe) #[] G.ce, .func (.func G.fh) #[] G.ch, .func (.func G.fj) #[] G.cj] 86 (0, 0)) := alloc_old (by simp) (alloc_at rfl); have gN2 := (hb2.block w.heap.size (cells_of gN).1).trans gN; have hbw2 := below_via hb2 (below_alloc (below_alloc (Below.refl _ _) _) _).drew; obtain ⟨lN2, cN2⟩ := cells_of gN2; obtain ⟨lR2, cR2⟩ := cells_of (hrbW.out _ hbw2); have hne3 : ¬ rb = w2.heap.size := (by omega); have hne4 : ¬ w.heap.size = w2.heap.size := (by omega); clear gN; have gN2' := hid gN2; clear gN2; have gA : ((w.alloc (.cells #[.func (.func G.fe) #[] G.ce, .func (.func G.fh) #[] G.ch, .func (.func G.fj) #[] G.cj] 86)).alloc (.cells #[.nilFunc] 76)).drew.heap[w.heap.size + 1]? = some (.cells #[.nilFunc] 76 (0, 0)) := alloc_at (by simp); have gA2 := (hb2.block _ (cells_of gA).1).trans gA; obtain ⟨lA2, cA2⟩ := cells_of gA2; have zA2 := free_of gA2; clear gA; have gA2' := hid gA2; clear gA2))
    all_goals (go_wp2_with fail)
    · go_meet
      refine ⟨ub, gb, ab, rx, ob, m, w2.heap.size, rfl, by omega, hid (alloc_at rfl), ⟨hof.env.keep (KeepI.of_below hof.env.m (below_alloc (Below.refl _ _) _)), by have := hof.new; simp at this; omega⟩, below_alloc hbw2 _, hid (alloc_old lN2 gN2'.out)⟩
    · go_meet
      refine ⟨ub, gb, ab, rx, ob, m, w.heap.size + 1, rfl, by omega, hid (heap_setCell_same gA2'.out), ⟨hof.env.set gA2'.out _, by have := hof.new; simp at this; omega⟩, below_set hbw2 _ (by simp), hid ((Below.heap_setCell _ _ _ _ (by simp)).trans gN2'.out)⟩
  case rest =>
    obtain ⟨ub, gb, ab, rx, ob, m, pa, rfl, hpa, hclo, hof, hbc, hgx⟩ := hcut
    obtain ⟨lpa, cpa⟩ := cells_of hclo.out
    go_wp2_with (first
      | (go_at_call 50; refine (begin_any _).mono ?_; rintro e w3 ⟨rfl, hb3⟩; have hclo3 := (hb3.block pa lpa).trans hclo.out; have hof3 := hof.env.keep (KeepI.of_below hof.env.m hb3); have hbc3 := below_via hb3 hbc; have hgx3 := (hb3.block _ (cells_of hgx.out).1).trans hgx.out; clear cpa; obtain ⟨l3, c3⟩ := cells_of hclo3; have hclo3' := hid hclo3; clear hclo3; have hgx3' := hid hgx3; clear hgx3)
      | (go_at_call 85; refine (on_any ub gb ab rx ob rb m G g R R.hours hG ho.1 ho.2 hh.2 R.hours.toNat St.begin _ St.begin_ok (by simp [St.begin]; omega) (hof3.keep (KeepI.of_below hof3.m (below_alloc (Below.refl _ _) _)))).mono ?_; intro e w4 hp; obtain ⟨he, hk4⟩ := hp; rw [hf'.out] at he; subst he)
      | (go_at_call 72; refine (must_yes _ _).mono ?_; rintro e w' ⟨rfl, rfl⟩))
    have hpu : ub ≠ w4.heap.size + 1 + 1 := by
      have h1 := (hof3.keep (KeepI.of_below hof3.m (below_alloc (Below.refl _ _) (.cells #[.int .i64 St.begin.rider, .int .i64 St.begin.run, .int .i64 St.begin.before, .int .i64 St.begin.hour, .int .i64 St.begin.h0, .int .i64 St.begin.h1] 71)))).keep hk4
      have := heap_lt h1.u
      omega
    refine wp_loop_ghost (fun n a W => ∃ (ph pw : Nat) (ds : List Nat) (k : Nat) (s : St) (want : Int) (l : List Int) (x35 x36 x37 x38 x39 x40 x41 x42 x43 x44 x45 x46 x71 x72 : Value), a = { tmps := #[.pointer (some ⟨rb, 0, none⟩), goalV G, undef, .pointer (some ⟨w.heap.size, 0, none⟩), .int .i64 v, .slice none 0 0, .pointer (some ⟨pa, 0, none⟩), .pointer (some ⟨w3.heap.size, 0, none⟩), .bool true, .pointer (some ⟨w4.heap.size, 0, none⟩), .pointer (some ⟨ph, 0, none⟩), .pointer (some ⟨pw, 0, none⟩), undef, undef, undef, undef, u16, u17, u18, u19, u20, u21, u22, u23, sval St.begin, .tuple #[.int .i64 v, .bool true], ofV ub gb ab rx ob, .agg #[.int .i64 St.begin.rider, .int .i64 St.begin.run, .int .i64 St.begin.before, .int .i64 St.begin.hour, .int .i64 St.begin.h0, .int .i64 St.begin.h1], .tuple #[.int .i64 v, .bool true], .int .i64 v, .bool true, .bool true, .tuple #[], .agg #[.int .i64 0, .int .i64 0, .int .i64 0, .int .i64 0, .int .i64 0, .int .i64 0, .int .i64 0, .int .i64 0, .int .i64 0, .int .i64 0, .int .i64 0, .int .i64 0, .int .i64 0, .int .i64 0, .int .i64 0, .int .i64 0], .int .i64 v, x35, x36, x37, x38, x39, x40, x41, x42, x43, x44, x45, x46, undef, undef, undef, undef, undef, undef, undef, undef, undef, undef, undef, undef, undef, undef, undef, undef, undef, undef, undef, undef, undef, undef, undef, undef, x71, x72, undef, undef, undef, undef, undef, undef, undef, undef, undef, undef, undef], defers := ds.map mkD } ∧
      PlanI ⟨ub, gb, ab, rx, ob, m, pa, w3.heap.size, w4.heap.size, ph, pw⟩ rb G g R w ds W.heap.size k s want l W ∧ n = R.hours.toNat - k ∧ k ≤ R.hours.toNat ∧ s.Ok ∧ Hid (s.hour = k) ∧ Hid (found R g (R.hours.toNat - k) s = some want) ∧ Hid (l.length = 16) ∧
      Hid (pick R g R.hours.toNat St.begin v = l.take k ++ pick R g (R.hours.toNat - k) s want)) R.hours.toNat ?_ ?_
    · refine ⟨w4.heap.size + 1, w4.heap.size + 1 + 1, [], 0, St.begin, v, [0, 0, 0, 0, 0, 0, 0, 0, 0, 0, 0, 0, 0, 0, 0, 0], undef, undef, undef, undef, undef, undef, undef, undef, undef, undef, undef, undef, undef, undef, rfl, ?_, by omega, by omega, St.begin_ok, hid rfl, hid hf'.out, hid rfl, hid (by simp)⟩
      have hE4 := (hof3.keep (KeepI.of_below hof3.m (below_alloc (Below.refl _ _) (.cells #[.int .i64 St.begin.rider, .int .i64 St.begin.run, .int .i64 St.begin.before, .int .i64 St.begin.hour, .int .i64 St.begin.h0, .int .i64 St.begin.h1] 71)))).keep hk4
      have hbw3 := below_alloc hbc3 (.cells #[.int .i64 St.begin.rider, .int .i64 St.begin.run, .int .i64 St.begin.before, .int .i64 St.begin.hour, .int .i64 St.begin.h0, .int .i64 St.begin.h1] 71)
      have hbw4 := below_keep hbw3 hof.new hk4
      have hm3 := (hof3.keep (KeepI.of_below hof3.m (below_alloc (Below.refl _ _) (.cells #[.int .i64 St.begin.rider, .int .i64 St.begin.run, .int .i64 St.begin.before, .int .i64 St.begin.hour, .int .i64 St.begin.h0, .int .i64 St.begin.h1] 71)))).m
      have hz4 := hk4.1.size
      have hz3 := hbc3.size
      have hmz : m < w4.heap.size := by obtain ⟨_, _, h, _⟩ := hk4.2; exact heap_lt h
      have hnw := hof.new
      simp only [World.size_alloc] at hz4
      have hba : Below w4.heap.size w4 (((w4.alloc (.cells #[.int .i64 0, .int .i64 0, .int .i64 0, .int .i64 0, .int .i64 0, .int .i64 0, .int .i64 0, .int .i64 0, .int .i64 0, .int .i64 0, .int .i64 0, .int .i64 0, .int .i64 0, .int .i64 0, .int .i64 0, .int .i64 0] 129)).alloc (.cells #[.int .i64 0] 3)).alloc (.cells #[.int .i64 v] 3)) := below_alloc (below_alloc (below_alloc (Below.refl _ _) _) _) _
      have up : ∀ (b : Nat) (c : Array Value) (t : TypeId), (w3.alloc (.cells #[.int .i64 St.begin.rider, .int .i64 St.begin.run, .int .i64 St.begin.before, .int .i64 St.begin.hour, .int .i64 St.begin.h0, .int .i64 St.begin.h1] 71)).heap[b]? = some (Obj.cells c t (0, 0)) → (((w4.alloc (.cells #[.int .i64 0, .int .i64 0, .int .i64 0, .int .i64 0, .int .i64 0, .int .i64 0, .int .i64 0, .int .i64 0, .int .i64 0, .int .i64 0, .int .i64 0, .int .i64 0, .int .i64 0, .int .i64 0, .int .i64 0, .int .i64 0] 129)).alloc (.cells #[.int .i64 0] 3)).alloc (.cells #[.int .i64 v] 3)).heap[b]? = some (.cells c t (0, 0)) :=
        fun b c t h => (hba.block b (heap_lt (hk4.blk hm3 h))).trans (hk4.blk hm3 h)
      exact ⟨below_via hba hbw4, hE4.keep (KeepI.of_below hE4.m hba), up _ _ _ (alloc_old (heap_lt hgx3'.out) hgx3'.out), up _ _ _ (alloc_old l3 hclo3'.out), up _ _ _ (alloc_at rfl),
        alloc_old (by simp; omega) (alloc_old (by simp) (alloc_at rfl)), alloc_old (by simp) (alloc_at (by simp)), alloc_at (by simp), by simp, by simp,
        ⟨hnw, by simp only; omega, by simp only; omega, by simp only; omega, by simp only; omega, by simp only; omega, by simp; omega, hpu⟩, Nat.le_refl _⟩
    · rintro n a W ⟨ph, pw, ds, k, s, want, l, x35, x36, x37, x38, x39, x40, x41, x42, x43, x44, x45, x46, x71, x72, rfl, hI, rfl, hk, hs, hsh, hfo, hll, hpk⟩
      obtain ⟨la, ca⟩ := cells_of hI.env.rr
      obtain ⟨lb, cb⟩ := cells_of hI.ho
      obtain ⟨lc, cc⟩ := cells_of hI.st
      by_cases hlt : (k : Int) < R.hours
      · have hlt' := hid hlt
        go_wp2
        go_quiet (fail)
        have hID := hI.drewN nq
        go_wp2_with (go_at_call 86; refine (steps_at rb s _).mono ?_; rintro e W5 ⟨sbx, rbx, rfl, hb5, hsb, hrb, hcs, hcr⟩)
        have hz5 : W.heap.size ≤ W5.heap.size := hb5.size
        have hsb' : W.heap.size ≤ sbx := hsb
        have hrb' : W.heap.size ≤ rbx := hrb
        have hI5 := (hID.below hb5).wider hz5 (Nat.le_refl _)
        have hws : w.heap.size ≤ W.heap.size := hI.bel.size
        have hl1 := heap_lt hcs
        have hl2 := heap_lt hcr
        have hl3 := heap_lt hI5.env.rr
        have hkN : ((R.hours.toNat : Nat) : Int) = R.hours := by omega
        obtain ⟨n, hn⟩ : ∃ n, R.hours.toNat - k = n + 1 := ⟨R.hours.toNat - k - 1, by omega⟩
        have hmW : m < W.heap.size := hI.nn.2.2.2.2.2.2.1
        clear ca cb cc
        refine (wpIn_wide (n := 5)).1 (wpIn_rangeFunc_ownH (α := Step R s) (encs := encStep) (w0 := W5) rfl (by omega) (gf := 102) (lb := #[.pointer (some ⟨sbx, 0, none⟩), .pointer (some ⟨rbx, 0, none⟩)]) rfl trivial (enters_of Try.func102 (by kernel_rfl) rfl)
          (steps_stops 4 (by omega) sbx rbx rb R s hs (by have := hsh.out; omega) ho.1 ho.2 W5 hcs hcr hI5.env.rr) stepKp_t (stepKp_b (by omega) (by omega) (by omega)) (Below.refl _ _) (fun _ => rfl)
          (fun pre W' => PlanI ⟨ub, gb, ab, rx, ob, m, pa, w3.heap.size, w4.heap.size, ph, pw⟩ rb G g R w ds W5.heap.size k s want l W' ∧ Hid (∀ x, x ∈ pre → takes R g n s want x.1 = false))
          (fun c pre W' => c = .exit 2 ∧ ∃ pre0 x, pre = pre0 ++ [x] ∧ Hid (∀ y, y ∈ pre0 → takes R g n s want y.1 = false) ∧ Hid (takes R g n s want x.1 = true) ∧ PlanI ⟨ub, gb, ab, rx, ob, m, pa, w3.heap.size, w4.heap.size, ph, pw⟩ rb G g R w ds W5.heap.size k x.1.2 ((found R g n x.1.2).getD 0) (l.set k x.1.1) W')
          ?hI ?hIx ⟨hI5, hid (by simp)⟩
          (fun x a' W' => ∃ bx, W5.heap.size ≤ bx ∧ W'.heap[bx]? = some (.cells (scells x.1.2) 71 (0, 0)) ∧ a' = { tmps := #[.pointer (some ⟨rb, 0, none⟩), goalV G, undef, .pointer (some ⟨w.heap.size, 0, none⟩), .int .i64 v, .slice none 0 0, .pointer (some ⟨pa, 0, none⟩), .pointer (some ⟨w3.heap.size, 0, none⟩), .bool true, .pointer (some ⟨w4.heap.size, 0, none⟩), .pointer (some ⟨ph, 0, none⟩), .pointer (some ⟨pw, 0, none⟩), .int .i64 x.1.1, .pointer (some ⟨bx, 0, none⟩), undef, undef, u16, u17, u18, u19, u20, u21, u22, u23, sval St.begin, .tuple #[.int .i64 v, .bool true], ofV ub gb ab rx ob, .agg #[.int .i64 St.begin.rider, .int .i64 St.begin.run, .int .i64 St.begin.before, .int .i64 St.begin.hour, .int .i64 St.begin.h0, .int .i64 St.begin.h1], .tuple #[.int .i64 v, .bool true], .int .i64 v, .bool true, .bool true, .tuple #[], .agg #[.int .i64 0, .int .i64 0, .int .i64 0, .int .i64 0, .int .i64 0, .int .i64 0, .int .i64 0, .int .i64 0, .int .i64 0, .int .i64 0, .int .i64 0, .int .i64 0, .int .i64 0, .int .i64 0, .int .i64 0, .int .i64 0], .int .i64 v, .int .i64 k, .pointer (some ⟨rb, 0, none⟩), .pointer (some ⟨rb, 0, none⟩), .pointer (some ⟨rb, 0, none⟩), .pointer (some ⟨rb, 0, none⟩), .int .i64 R.hours, .bool true, x42, x43, .pointer (some ⟨rb, 0, none⟩), sval s, .func (.func 102) #[] #[.pointer (some ⟨sbx, 0, none⟩), .pointer (some ⟨rbx, 0, none⟩)], .int .i64 x.1.1, sval x.1.2, undef, undef, undef, undef, undef, undef, undef, undef, undef, undef, undef, undef, undef, undef, undef, undef, undef, undef, undef, undef, undef, undef, x71, x72, undef, undef, undef, undef, undef, undef, undef, undef, undef, undef, undef], defers := [] })
          ?hAx ?assign ?body ?done ?stop)
        case hI =>
          rintro pre A B row ⟨h1, h2⟩ hg' hr
          exact ⟨h1.grown hg' hr (by omega), h2⟩
        case hIx =>
          rintro c pre A B row ⟨h0, pre0, x, h1, h2, h3, h4⟩ hg' hr
          exact ⟨h0, pre0, x, h1, h2, h3, h4.grown hg' hr (by omega)⟩
        case hAx =>
          rintro x a' _ A B row ⟨bx, h1, h2, h3⟩ hg' hr
          refine ⟨bx, h1, (hg'.block bx (cells_of h2).1 ?_).trans h2, h3⟩
          intro e
          obtain ⟨_, o, ho, hc⟩ := hr bx e.symm
          rw [h2] at ho; cases ho; cases hc
        case assign =>
          rintro l0 pre x W' K ⟨hi, hi2⟩ hK
          gi_wp2
          exact hK _ _ ((keepsFrom_below (below_alloc (Below.refl _ _) _))) (stepKp_below (below_alloc (Below.refl _ _) _)) ⟨hi.below (below_alloc (Below.refl _ _) _), hi2⟩ ⟨W'.heap.size, hi.szl, alloc_at rfl, rfl⟩
        case body =>
          rintro l0 pre x a' W' hl _ ⟨hP, hpre⟩ ⟨bx, hbx, hxc, rfl⟩ _
          obtain ⟨hxo, hxh, hxn⟩ := step_ok hs (by have := hsh.out; omega) x.2
          have hx01 := (mem_steps x.2).1
          have hnr : 0 ≤ x.1.2.rider := by rw [hxn]; show 0 ≤ x.1.1; omega
          obtain ⟨q1, d1⟩ := cells_of hP.clo
          obtain ⟨q2, d2⟩ := cells_of hxc
          have hml : m < W5.heap.size := hP.nn.2.2.2.2.2.2.1
          have HC := hid (on_any ub gb ab rx ob rb m G g R R.hours hG ho.1 ho.2 hh.2 n x.1.2 W' hxo (by have := hsh.out; omega) hP.env)
          have hxh' := hid hxh
          have hxn' := hid hxn
          have hx01' := hid hx01
          clear hxh hxn hx01
          gi_wp2_with fail
          refine ⟨trivial, ?_⟩
          with_reducible refine (CallsIn.inRound l0 ((callsIn_wide (n := 2)).2 HC.out)).mono ?_
          intro e W1 hp
          obtain ⟨he, hk1⟩ := hp
          subst he
          have hP1 := hP.keep hk1
          have hxc1 := hk1.blk hP.env.m hxc
          have hf1 : KeepsFrom W5.heap.size W' W1 := KeepsFrom.of_grownBy hk1.1 (fun j e => by cases e; exact hml)
          have hp1 : StepKp sbx rbx rb W' W1 := ⟨hk1.1.size, fun k hk o ho => (hk1.1.block k (Array.getElem?_eq_some_iff.1 ho).1 (by
            intro e; cases e
            obtain ⟨_, _, hmm, _⟩ := hP.env.m
            have := hP.nn.2.2.2.2.2.2.1
            rcases hk with h | h | h
            · rw [h] at hmm; omega
            · omega
            · have := hP.env.rr; rw [← h, hmm] at this; cases this)).trans ho⟩
          clear d1 d2
          cases hfx : found R g n x.1.2 with
          | none =>
            have hfx' := hid hfx
            clear hfx
            gi_wp2
            refine wpIn_region_later_round (by kernel_rfl) (by kernel_rfl) (by kernel_rfl) ?_
            intro hx
            repeat (any_goals (first | go_big_quiet_step (fail) | quiet_step (fail)))
            refine wpQuiet_nil ?_
            rintro w2 ⟨x2, hxw⟩
            have hb2 := x2.below
            rw [← hxw] at hb2
            clear hx hxw x2
            gi_wp2
            refine ⟨hf1.trans (keepsFrom_below hb2), stepKp_t hp1 (stepKp_below hb2), hP1.below hb2, hid ?_⟩
            intro z hz
            rcases List.mem_append.1 hz with hz | hz
            · exact hpre.out z hz
            · obtain rfl := List.mem_singleton.1 hz
              simp [takes, hfx'.out]
          | some y =>
            have hfx' := hid hfx
            clear hfx
            obtain ⟨q3, d3⟩ := cells_of hP1.gx
            obtain ⟨q4, d4⟩ := cells_of hP1.st
            obtain ⟨q5, d5⟩ := cells_of hxc1
            obtain ⟨q6, d6⟩ := cells_of hP1.wa
            have hh1 := hG.hh
            have hPz := hP1.szl
            by_cases hq : g.hour s x.1.2 y = want
            · have hq1 : (g.hour s x.1.2 y == want) = true := by simpa using hq
              gi_wp2
              refine wpIn_region_later_round (by kernel_rfl) (by kernel_rfl) (by kernel_rfl) ?_
              intro hx
              repeat (any_goals (first | go_big_quiet_step ((with_reducible exact Calls.later (hG.kh s x.1.2 y _ hs hxo hnr))) | quiet_step ((with_reducible exact Calls.later (hG.kh s x.1.2 y _ hs hxo hnr)))))
              refine wpQuiet_nil ?_
              rintro w2 ⟨x2, hxw⟩
              have hb2 := x2.below
              rw [← hxw] at hb2
              clear hx hxw x2 d3 d4 d5 d6
              have hP2 := hP1.below hb2
              have hxc2 := (hb2.block bx q5).trans hxc1
              obtain ⟨q3, d3⟩ := cells_of hP2.ho
              obtain ⟨q4, d4⟩ := cells_of hP2.st
              have z4 := free_of hP2.st
              obtain ⟨q5, d5⟩ := cells_of hxc2
              obtain ⟨q6, d6⟩ := cells_of hP2.wa
              have z6 := free_of hP2.wa
              obtain ⟨q7, d7'⟩ := cells_of hP2.li
              have z7 := free_of hP2.li
              have hkl : k < l.length := by have := hll.out; omega
              obtain ⟨vk, d7⟩ : ∃ u, w2.cell? ⟨w4.heap.size, k, none⟩ = some u := ⟨.int .i64 l[k], by rw [d7']; simp [hkl]⟩
              have hk16 : k < 16 := by omega
              have hk16' : (k : Int) < 16 := by omega
              clear d7'
              have e1 : ¬ w3.heap.size = w4.heap.size := blk_ne hP2.st hP2.li (by simp)
              have e7 : ¬ bx = w4.heap.size := blk_ne hxc2 hP2.li (by simp)
              have e8 : ¬ w4.heap.size = bx := fun e => e7 e.symm
              have e2 : ¬ pw = w4.heap.size := blk_ne hP2.wa hP2.li (by simp)
              have e3 : ¬ pw = w3.heap.size := blk_ne hP2.wa hP2.st (by simp)
              have e4 : ¬ w4.heap.size = w3.heap.size := fun e => e1 e.symm
              have e5 : ¬ w4.heap.size = pw := fun e => e2 e.symm
              have e6 : ¬ w3.heap.size = pw := fun e => e3 e.symm
              have hq' := hid hq
              have hq1' := hid hq1
              clear hq hq1
              gi_wp2
              refine wpIn_mono (Q := fun e _ wz => e = .normal ∧ wz = (takeW ⟨ub, gb, ab, rx, ob, m, pa, w3.heap.size, w4.heap.size, ph, pw⟩ k x.1.1 x.1.2 y w2).drew) ?_ ?_
              · gi_region
                all_goals exact ⟨rfl, rfl⟩
              · rintro e az wz ⟨rfl, rfl⟩
                gi_wp2
                have hPT := (hP2.take (k := k) x.1.1 x.1.2 y)
                have hP3 : PlanI ⟨ub, gb, ab, rx, ob, m, pa, w3.heap.size, w4.heap.size, ph, pw⟩ rb G g R w ds W5.heap.size k x.1.2 y (l.set k x.1.1) (takeW ⟨ub, gb, ab, rx, ob, m, pa, w3.heap.size, w4.heap.size, ph, pw⟩ k x.1.1 x.1.2 y w2).drew := hPT.drewN 1
                refine ⟨?_, rfl, pre, x, rfl, hpre, hid (by simp [takes, hfx'.out, hq'.out]), by rw [hfx'.out]; exact hP3⟩
                exact (hf1.trans (keepsFrom_below hb2)).trans keeps_take
            · have hq1 : (g.hour s x.1.2 y == want) = false := by simpa using hq
              gi_wp2
              refine wpIn_region_later_round (by kernel_rfl) (by kernel_rfl) (by kernel_rfl) ?_
              intro hx
              repeat (any_goals (first | go_big_quiet_step ((with_reducible exact Calls.later (hG.kh s x.1.2 y _ hs hxo hnr))) | quiet_step ((with_reducible exact Calls.later (hG.kh s x.1.2 y _ hs hxo hnr)))))
              refine wpQuiet_nil ?_
              rintro w2 ⟨x2, hxw⟩
              have hb2 := x2.below
              rw [← hxw] at hb2
              clear hx hxw x2
              gi_wp2
              refine ⟨hf1.trans (keepsFrom_below hb2), stepKp_t hp1 (stepKp_below hb2), hP1.below hb2, hid ?_⟩
              intro z hz
              rcases List.mem_append.1 hz with hz | hz
              · exact hpre.out z hz
              · obtain rfl := List.mem_singleton.1 hz
                simp [takes, hfx'.out, hq]
        case done =>
          intro D xs W' hD hS hI' hK
          exfalso
          obtain ⟨x, hx, ht⟩ := takes_some hg hs (n := n) (by have := hsh.out; omega) (by rw [← hn]; exact hfo.out)
          rw [← hS] at hx
          obtain ⟨y, hy, rfl⟩ := List.mem_map.1 hx
          rw [hI'.2.out y hy] at ht
          cases ht
        case stop =>
          rintro D c pre W' hD ⟨post, hSp⟩ ⟨rfl, pre0, x, hpre, hno, hyes, hP⟩ hK
          refine (wpIn_wide (n := 5)).2 ?_
          obtain ⟨q1, d1⟩ := cells_of hP.ho
          obtain ⟨q2, d2⟩ := cells_of hP.wa
          go_wp2
          have hfi : (stepsL R s).find? (takes R g n s want) = some x.1 := by
            refine find_first (pre0 := pre0.map (fun x => x.1)) (post := post) (Eq.trans (by rw [hpre]; simp) hSp) ?_ hyes.out
            intro y hy
            obtain ⟨z, hz, rfl⟩ := List.mem_map.1 hy
            exact hno.out z hz
          have hfs : found R g n x.1.2 = some ((found R g n x.1.2).getD 0) := by
            have := hyes.out
            unfold takes at this
            split at this
            · rename_i hy; rw [hy]; rfl
            · cases this
          obtain ⟨hxo, hxh, hxn⟩ := step_ok hs (by have := hsh.out; omega) x.2
          have hsh1 := hsh.out
          have hll1 := hll.out
          refine ⟨n, by omega, _, _, D :: ds, ⟨⟨rfl, rfl⟩, rfl⟩, k + 1, x.1.2, (found R g n x.1.2).getD 0, l.set k x.1.1, ?_, by omega, by omega, hxo, hid (by omega), hid ?_, hid (by simpa using hll1), hid ?_⟩
          · have hPn := hP.next (W' := ((W'.alloc (.cells #[.int .i64 (k + 1)] 3)).alloc (.cells #[.int .i64 ((found R g n x.1.2).getD 0)] 3))) (k' := k + 1) (want' := (found R g n x.1.2).getD 0) (below_alloc (below_alloc (Below.refl _ _) _) _) (Nat.le_refl _) (Nat.le_succ _) (by omega) (alloc_old (by simp) (alloc_at rfl)) (alloc_at (by simp))
            exact (hPn.mark (D := D) (by omega) hD ((alloc_old (by simp; have := heap_lt hK; omega) (alloc_old (heap_lt hK) hK)))).wider (by simp) (by simp)
          · rw [show R.hours.toNat - (k + 1) = n by omega]; exact hfs
          · rw [hpk.out, hn, show R.hours.toNat - (k + 1) = n by omega, take_set_succ (by omega)]
            conv => lhs; unfold pick
            rw [hfi]
            simp
      · go_wp2
        go_quiet (fail)
        have hID := hI.drewN nq
        have hmk := make_ints R.hours hh.1 (by omega)
        have hll' := hll.out
        have hbz : ∀ o, Below W.heap.size (W.drewN nq) ((W.drewN nq).alloc o) := fun o => below_alloc (a := W.drewN nq) (Below.refl _ _) o
        go_wp2_with (with_reducible refine wpList_copy_splice (o := ⟨some 81, _, _, _, _, _⟩) rfl (.tmp 79) (.tmp 80) 27 27 rfl 3 (by kernel_rfl) (by kernel_rfl) _ _ _ _ _ _ rfl rfl W.heap.size 0 ((List.replicate R.hours.toNat 0).map (Value.int .i64)) 3 (alloc_at rfl) ((l.take R.hours.toNat).map (Value.int .i64)) ?c1 ?c2 ?c3 ?c4 W.heap.size (W.drewN nq) (hbz _) (Nat.le_refl _) ?c5)
        case c1 => simp [hll', Nat.min_comm]
        case c2 =>
          intro _ j u hj
          have hli := alloc_old (o := .cells (intsV (List.replicate R.hours.toNat 0)) 3) (heap_lt hID.li) hID.li
          have h2 := (cells_of hli).2 j
          have h4 : (intsV l)[j]? = some u := by
            rw [List.getElem?_take] at hj
            split at hj
            · simpa [intsV] using hj
            · cases hj
          exact h2.trans h4
        case c3 => simp; omega
        case c4 =>
          intro u hu
          obtain ⟨i, _, rfl⟩ := List.mem_map.1 hu
          rfl
        case c5 =>
          intro w' hw5 hb5
          go_wp2
          have hPf := hID.below hb5
          have hpl : pick R g R.hours.toNat St.begin v = l.take R.hours.toNat := by
            rw [hpk.out, show R.hours.toNat - k = 0 by omega, show k = R.hours.toNat by omega]
            simp [pick]
          refine leaves_marks w.heap.size .returning (by simp) ds w' hPf.nd (fun D hD => ⟨(hPf.dd D hD).1, (hPf.dd D hD).2.2⟩) ?_
          rintro w6 ⟨h1, h2, h3, h4, h5⟩
          have hbl := hPf.bel
          refine ⟨_, results_tmp2 rfl _ _ _, _, rfl, ⟨W.heap.size, hI.bel.size, ?_, ?_⟩, ⟨h2.trans hbl.os, h3.trans hbl.tape, h4.trans hbl.output, by rw [h1]; exact hbl.size, fun i hi => (h5 i (fun D hD e => by have := (hPf.dd D hD).1; omega)).trans (hbl.block i hi)⟩⟩
          · rw [hpl]
            simp only [List.length_take, hll']
            rw [Nat.min_eq_left (by omega)]
            rfl
          · rw [h5 _ (fun D hD e => by have := (hPf.dd D hD).2.1; omega), hw5.out, hpl]
            have hml : min R.hours.toNat 16 = R.hours.toNat := Nat.min_eq_left (by omega)
            simp [splice, intsV, hll', hml]

end Go.Proofs.Ytkgdejhooghknaa
