/- Rows of integers; a copy of a row that is an argument; the reference's 'Longer'. -/
import Derived.Test.YtcgkglonnmkfcaaR3
namespace Go.Proofs.Ytcgkglonnmkfcaa
open Go.RowKit Go.Lap Go.Shelf

/-- Rows of integers. -/
def intK : RowKind Try.prog Int where
  t := 22
  e := 3
  size := 1
  bytes := 8
  z := .int .i64 0
  enc := fun x => [.int .i64 x]
  ht := Try.underlying22
  hi := by kernel_rfl
  hzs := rfl
  hsz := by decide
  hb := by decide
  henc := fun _ => rfl
  hone := fun x u hu => by
    simp only [List.mem_cons, List.not_mem_nil, or_false] at hu
    rcases hu with rfl; rfl
theorem ints_at {W : World} {v : Value} {L : List Int} : IntsAt W v L ↔ intK.at W v L := by
  constructor
  · rintro ⟨a, cap, rfl, h⟩
    refine ⟨a, cap, rfl, fun hne => ?_⟩
    obtain ⟨b, off, rfl, hc⟩ := h hne
    refine ⟨b, off, rfl, fun k x hk f u hu => ?_⟩
    have hf : f = 0 := by have := (List.getElem?_eq_some_iff.1 hu).1; simp [intK] at this; omega
    subst hf
    obtain rfl : Value.int .i64 x = u := by simpa [intK] using hu
    have h1 := hc k (List.getElem?_eq_some_iff.1 hk).1
    have e1 : L.getD k 0 = x := by rw [List.getD_eq_getElem?_getD, hk]; rfl
    rw [e1] at h1
    simpa [intK] using h1
  · rintro ⟨a, cap, rfl, h⟩
    refine ⟨a, cap, rfl, fun hne => ?_⟩
    obtain ⟨b, off, rfl, hc⟩ := h hne
    refine ⟨b, off, rfl, fun k hk => ?_⟩
    have h1 := hc k _ (List.getElem?_eq_getElem hk) 0 _ rfl
    have e1 : L.getD k 0 = L[k] := by rw [List.getD_eq_getElem?_getD, List.getElem?_eq_getElem hk]; rfl
    rw [e1]
    simpa [intK] using h1

/-- A slice that is nil has nothing at all. -/
def NilOk (v : Value) : Prop := ∀ n cap, v = .slice none n cap → n = 0 ∧ cap = 0

/-- An append to a row of the call's own, of a row that lies anywhere. -/
theorem wpList_append_arg {P : Program} {α : Type} {w : World} {ops : Array Oper} {rest : List Oper} {o : Oper} {a : Act} {Q : Exit → Act → World → Prop} (K : RowKind P α) (hgd : o.guard = none) (s x : Operand)
    (ho : o.op = .call { callee := .builtin .append, args := #[s, x], argTypes := #[K.t, K.t] }) (B : Nat) (v : Value) (xs ys : List α) (hs : a.eval s = v) (hown : K.own B w v xs)
    (u : Value) (hx : a.eval x = u) (hu : K.at w u ys) (hnil : NilOk u) (hlen : xs.length + ys.length ≤ 1000) (hB : B ≤ w.heap.size)
    (h : ∀ v' w', K.own B w' v' (xs ++ ys) → Below B w w' → wpList P ops Q rest (a.put o.dst v') w') : wpList P ops Q (o :: rest) a w := by
  obtain ⟨ad, cap, rfl, hc⟩ := hu
  cases ad with
  | none =>
    have hy : ys = [] := by
      by_cases e : ys = []
      · exact e
      · obtain ⟨_, _, h, _⟩ := hc e; cases h
    subst hy
    obtain ⟨_, rfl⟩ := hnil _ _ rfl
    obtain ⟨i0, hi3, _, _, _⟩ := info_parts K.hi
    refine wpList_append_own_none hgd s x K.t ho B K.e i0 K.size K.ht hi3 v xs.length (xs.flatMap K.enc) hs hown hx ?_
    exact h v w (by simpa using hown) (Below.refl _ _)
  | some ad =>
    refine wpList_append_rows K hgd s x ho B v xs ys hs hown ad ys.length cap hx rfl ?_ hlen hB (fun v' w' h1 h2 _ => h v' w' h1 h2)
    intro k y hk f u hu
    obtain ⟨b, off, e, hq⟩ := hc (fun e => by rw [e] at hk; simp at hk)
    cases e
    rw [addr_add, ← Nat.add_assoc]
    exact hq k y hk f u hu

set_option maxRecDepth 100000 in
set_option maxHeartbeats 4000000 in
theorem refLonger_any (M : Mend) (hM : M.valid = true) (n : Int) (h0 : 0 ≤ n) (h1 : n ≤ 900) (sv jv : Value) (w : World) (hS : IntsAt w sv M.setup) (hJ : JobsAt w jv M.jobs) (hN : NilOk jv) :
    Calls Try.prog 41 #[.agg #[sv, jv], .int .i64 n] w fun e w' => ∃ a cap, e = .returned (.agg #[sv, .slice a M.jobs.length cap]) ∧ jobK.own w.heap.size w' (.slice a M.jobs.length cap) (M.longer n).jobs ∧ Below w.heap.size w w' := by
  have hlen : M.jobs.length ≤ 6 := (Mend.valid_ok hM).len
  have hhn : Hid (∀ k, k < M.jobs.length → 0 ≤ (M.job k).hi ∧ (M.job k).hi ≤ 30) := hid (fun k hk => by
    have := valid_job hM hk
    simp only [Job.ok, Job.okA, Bool.and_eq_true, inB_iff, decide_eq_true_eq] at this
    omega)
  obtain ⟨sa, scap, rfl, _⟩ := hS
  have hj' := hid (jobs_at.1 hJ)
  obtain ⟨ja, jcap, rfl, _⟩ := hJ
  have hlen' := hid hlen
  have hN' := hid hN
  clear hM hN
  go_enter Try.func41, Try.ntmps41
  go_upto_region 2 with fail
  have hm2 : (((w.alloc (.cells #[.slice sa M.setup.length scap, .slice ja M.jobs.length jcap] 25)).alloc (.cells #[.slice none 0 0, .slice none 0 0] 25)).alloc (.cells #[.slice sa M.setup.length scap, .slice ja M.jobs.length jcap] 25)).heap[w.heap.size]? = some (.cells #[.slice sa M.setup.length scap, .slice ja M.jobs.length jcap] 25 (0, 0)) := alloc_old (by simp; omega) (alloc_old (by simp) (alloc_at rfl))
  have hm4 : (((w.alloc (.cells #[.slice sa M.setup.length scap, .slice ja M.jobs.length jcap] 25)).alloc (.cells #[.slice none 0 0, .slice none 0 0] 25)).alloc (.cells #[.slice sa M.setup.length scap, .slice ja M.jobs.length jcap] 25)).heap[w.heap.size + 1]? = some (.cells #[.slice none 0 0, .slice none 0 0] 25 (0, 0)) := alloc_old (by simp) (alloc_at (by simp))
  have hm5 : (((w.alloc (.cells #[.slice sa M.setup.length scap, .slice ja M.jobs.length jcap] 25)).alloc (.cells #[.slice none 0 0, .slice none 0 0] 25)).alloc (.cells #[.slice sa M.setup.length scap, .slice ja M.jobs.length jcap] 25)).heap[w.heap.size + 1 + 1]? = some (.cells #[.slice sa M.setup.length scap, .slice ja M.jobs.length jcap] 25 (0, 0)) := alloc_at (by simp)
  have hb1 : Below w.heap.size w (((w.alloc (.cells #[.slice sa M.setup.length scap, .slice ja M.jobs.length jcap] 25)).alloc (.cells #[.slice none 0 0, .slice none 0 0] 25)).alloc (.cells #[.slice sa M.setup.length scap, .slice ja M.jobs.length jcap] 25)) := below_alloc (below_alloc (below_alloc (Below.refl _ _) _) _) _
  have hz1 : (((w.alloc (.cells #[.slice sa M.setup.length scap, .slice ja M.jobs.length jcap] 25)).alloc (.cells #[.slice none 0 0, .slice none 0 0] 25)).alloc (.cells #[.slice sa M.setup.length scap, .slice ja M.jobs.length jcap] 25)).heap.size = w.heap.size + 3 := by simp
  generalize ((w.alloc (.cells #[.slice sa M.setup.length scap, .slice ja M.jobs.length jcap] 25)).alloc (.cells #[.slice none 0 0, .slice none 0 0] 25)).alloc (.cells #[.slice sa M.setup.length scap, .slice ja M.jobs.length jcap] 25) = w1 at hm2 hm4 hm5 hb1 hz1 ⊢
  obtain ⟨l2, c2⟩ := cells_of hm2
  have hz1' := hid hz1
  clear hz1
  go_upto_region 3 with (at_builtin; refine wpList_append_arg jobK rfl _ _ rfl w1.heap.size (.slice (some ⟨w1.heap.size, 0, none⟩) 0 0) [] M.jobs rfl (jobK.own_made (Nat.le_refl _)) (.slice ja M.jobs.length jcap) rfl ((hj'.out.below hb1).below (below_alloc (Below.refl _ _) _)) hN'.out (by simp; omega) (by simp) ?_; intro v' w' hown' hb'; replace hown' : jobK.own w1.heap.size w' v' M.jobs := hown'; have hbw' := below_low hb' (below_alloc (Below.refl _ _) _) (Nat.le_refl _); obtain ⟨ca, ccap, rfl, _⟩ := hown'.at; have hm5' := (hbw'.block _ (heap_lt hm5)).trans hm5; obtain ⟨l5, c5⟩ := cells_of hm5'; have z5 := free_of hm5')
  have hm5w := heap_set_same (o := 1) (v := .slice ca M.jobs.length ccap) hm5'
  have hm4w := (Below.heap_setCell w' ⟨w.heap.size + 1 + 1, 1, none⟩ (.slice ca M.jobs.length ccap) _ (by simp)).trans ((hbw'.block _ (heap_lt hm4)).trans hm4)
  have hb3 := below_set (below_via hbw' hb1) (p := ⟨w.heap.size + 1 + 1, 1, none⟩) (.slice ca M.jobs.length ccap) (by simp only; omega)
  have hown3 := hown'.set (b := w.heap.size + 1 + 1) (o := 1) (u := .slice ca M.jobs.length ccap) (heap_lt hm5)
  have hz3 : w1.heap.size ≤ (w'.setCell ⟨w.heap.size + 1 + 1, 1, none⟩ (.slice ca M.jobs.length ccap)).heap.size := by simpa using hbw'.size
  clear hown' c2 c5 z5 l5 hm5' hb' hbw'
  generalize w'.setCell ⟨w.heap.size + 1 + 1, 1, none⟩ (.slice ca M.jobs.length ccap) = w3 at hm5w hm4w hb3 hown3 hz3 ⊢
  replace hm5w : w3.heap[w.heap.size + 1 + 1]? = some (.cells #[.slice sa M.setup.length scap, .slice ca M.jobs.length ccap] 25 (0, 0)) := by simpa using hm5w
  have hown3' := hid hown3
  have lx5 := heap_lt hm5
  have lx4 := heap_lt hm4
  clear hown3
  go_wp2
  go_loopw [6] (fun i wr => ∃ k : Nat, k ≤ M.jobs.length ∧ i = .int .i64 k ∧ jobK.own w1.heap.size wr (.slice ca M.jobs.length ccap) (mixed n M.jobs k) ∧ Below w1.heap.size w3 wr) (fun i _ => M.jobs.length - (intOf i).toNat)
  case atStart => exact ⟨0, by omega, rfl, by simpa [mixed] using hown3'.out, Below.refl _ _⟩
  case round =>
    obtain ⟨k, hkk, rfl, hrow, hbr⟩ := hrel
    have hm5r := (hbr.block _ lx5).trans hm5w
    obtain ⟨lxr, cxr⟩ := cells_of hm5r
    have hbr' := hid hbr
    have hlen6 := hlen'.out
    by_cases hlt : k < M.jobs.length
    · obtain ⟨g, cap', cur, e, hBg, hg, hc⟩ := hrow.block (fun e => by have := congrArg List.length e; rw [mixed_length _ hkk, List.length_nil] at this; omega)
      injection e with e1 e2 e3
      subst e1
      clear e2 e3 hbr
      have hxk := mixed_get n hlt
      have hck : wr.cell? ⟨g, k * 8 + 1 + 1, none⟩ = some (.int .i64 (M.jobs.getD k Job.none).hi) := hc k _ hxk 2 _ rfl
      have lg := (cells_of hg).1
      have zg := free_of hg
      have hhk := hhn.out k hlt
      have hrow' := hid hrow
      have hBg' := hid hBg
      have hg' := hid hg
      clear hc hrow hg hBg zg
      obtain ⟨hi, hhi⟩ : ∃ x, (M.job k).hi = x := ⟨_, rfl⟩
      have hjk : M.jobs.getD k Job.none = M.job k := rfl
      rw [hjk, hhi] at hck
      rw [hhi] at hhk
      have hhi' := hid hhi
      have hxk' := hid hxk
      clear hhi hxk hjk
      have hki : (k : Int) < (M.jobs.length : Int) := by omega
      have hhw : IntKind.i64.wrap (hi + n) = hi + n := IntWalk.i64_in _ (by omega)
      go_wp2
      refine wp_region_later_tail 15 (by kernel_rfl) (by kernel_rfl) ?_
      intro hx
      simp only [List.take_succ_cons, List.take_zero, List.drop_succ_cons, List.drop_zero]
      repeat (any_goals (first | go_big_quiet_step (fail) | quiet_step (fail)))
      refine wpQuiet_nil ?_
      rintro w4 ⟨x, hxw⟩
      have hb4 := x.below
      rw [← hxw] at hb4
      clear hx hxw x
      have hg4 := (hb4.block _ lg).trans hg'.out
      have hck4 := (hb4.cell (p := ⟨g, k * 8 + 1 + 1, none⟩) lg).trans hck
      have l4 := (cells_of hg4).1
      have z4 := free_of hg4
      have hrow4 := hid (hrow'.out.below hb4)
      have hbr4 := hid (hbr'.out.trans (hb4.mono (Nat.le_trans hz3 hbr'.out.size)))
      clear hck cxr hg4
      go_wp2
      go_roundw
      case rel =>
        refine ⟨k + 1, by omega, by go_num, ?_, hbr4.out.setCell hBg'.out _⟩
        rw [← mixed_set n hlt, ← hhi'.out]
        have hset : ∀ (j : Job) (z : Int), jobK.enc { j with hi := z } = (jobK.enc j).set 2 (.int .i64 z) := fun _ _ => rfl
        exact hrow4.out.put (k := k) (f := 2) (x := M.jobs.getD k Job.none) hxk'.out (show 2 < 8 by decide) (hset _ _)
      case measure => simp [intOf]; omega
    · obtain rfl : k = M.jobs.length := by omega
      rw [mixed_all] at hrow
      have hm4r := (hbr.block _ lx4).trans hm4w
      obtain ⟨l4, c4⟩ := cells_of hm4r
      have z4 := free_of hm4r
      have hbw := below_low hbr hb3 hb1.size
      have hm4z := heap_set_same (o := 1) (v := .slice ca M.jobs.length ccap) (heap_set_same (o := 0) (v := .slice sa M.setup.length scap) hm4r)
      have hownz := ((hrow.set (b := w.heap.size + 1) (o := 0) (u := .slice sa M.setup.length scap) lx4).set (b := w.heap.size + 1) (o := 1) (u := .slice ca M.jobs.length ccap) lx4).low hb1.size
      have hbz := below_set (below_set hbw (p := ⟨w.heap.size + 1, 0, none⟩) (.slice sa M.setup.length scap) (by simp only; omega)) (p := ⟨w.heap.size + 1, 1, none⟩) (.slice ca M.jobs.length ccap) (by simp only; omega)
      have hown9 := hid hownz
      have hb9 := hid hbz
      have cz := (cells_of hm4z).2
      clear hownz hbz hrow hbr hbw
      go_wp2
      refine bodyPost_ret (v := .agg #[.slice sa M.setup.length scap, .slice ca M.jobs.length ccap]) (by simp [results, Try.results41, go_sem, cz]) rfl ⟨_, _, rfl, hown9.out, hb9.out⟩

end Go.Proofs.Ytcgkglonnmkfcaa
