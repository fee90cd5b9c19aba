/- The walks of 'Clone' and 'longer' of package mend. -/
import Derived.Test.YtcgkglonnmkfcaaN8
import Derived.Test.YtcgkglonnmkfcaaGK
namespace Go.Proofs.Ytcgkglonnmkfcaa
open Go.RowKit Go.Lap Go.Shelf

/-- Rows of jobs. -/
def jobK : RowKind Try.prog Job where
  t := 23
  e := 48
  size := 8
  bytes := 64
  z := .agg #[.int .i64 0, .int .i64 0, .int .i64 0, .int .i64 0, .int .i64 0, .int .i64 0, .int .i64 0, .int .i64 0]
  enc := fun j => [.int .i64 j.kind, .int .i64 j.lo, .int .i64 j.hi, .int .i64 j.from_, .int .i64 j.soft, .int .i64 j.by_, .int .i64 j.cost, .int .i64 j.after]
  ht := Try.underlying23
  hi := by kernel_rfl
  hzs := rfl
  hsz := by decide
  hb := by decide
  henc := fun _ => rfl
  hone := fun x u hu => by
    simp only [List.mem_cons, List.not_mem_nil, or_false] at hu
    rcases hu with rfl | rfl | rfl | rfl | rfl | rfl | rfl | rfl <;> rfl

theorem job_enc (j : Job) (f : Nat) : (jobK.enc j)[f]? = (j.cells[f]?).map (Value.int .i64) := by
  have : jobK.enc j = j.cells.map (Value.int .i64) := rfl
  rw [this, List.getElem?_map]
theorem jobs_at {W : World} {v : Value} {L : List Job} : JobsAt W v L ↔ jobK.at W v L := by
  constructor
  · rintro ⟨a, cap, rfl, h⟩
    refine ⟨a, cap, rfl, fun hne => ?_⟩
    obtain ⟨b, off, rfl, hc⟩ := h hne
    refine ⟨b, off, rfl, fun k x hk f u hu => ?_⟩
    rw [job_enc] at hu
    obtain ⟨c, hc1, rfl⟩ := Option.map_eq_some_iff.1 hu
    have hf : f < 8 := by simpa [Job.cells] using (List.getElem?_eq_some_iff.1 hc1).1
    have := hc k (List.getElem?_eq_some_iff.1 hk).1 f hf
    have e1 : L.getD k Job.none = x := by rw [List.getD_eq_getElem?_getD, hk]; rfl
    have e2 : x.cells.getD f 0 = c := by rw [List.getD_eq_getElem?_getD, hc1]; rfl
    rw [e1, e2] at this
    exact this
  · rintro ⟨a, cap, rfl, h⟩
    refine ⟨a, cap, rfl, fun hne => ?_⟩
    obtain ⟨b, off, rfl, hc⟩ := h hne
    refine ⟨b, off, rfl, fun k hk f hf => ?_⟩
    refine hc k _ (List.getElem?_eq_getElem hk) f _ ?_
    have h8 : f < (L[k]).cells.length := by simpa [Job.cells] using hf
    have e1 : L.getD k Job.none = L[k] := by rw [List.getD_eq_getElem?_getD, List.getElem?_eq_getElem hk]; rfl
    rw [job_enc, e1, List.getD_eq_getElem?_getD, List.getElem?_eq_getElem h8]; rfl

theorem eql_nil (n cap : Nat) (w : World) : (binOp .eql 23 (.slice none n cap) (.slice none 0 0)).run Try.prog w = .ok (.bool true) w := by kernel_rfl
theorem eql_some (ad : Addr) (n cap : Nat) (w : World) : (binOp .eql 23 (.slice (some ad) n cap) (.slice none 0 0)).run Try.prog w = .ok (.bool false) w := by kernel_rfl

set_option maxRecDepth 100000 in
set_option maxHeartbeats 1000000 in
theorem clone_any (L : List Job) (hl : L.length ≤ 1000) (jv : Value) (w : World) (hJ : JobsAt w jv L) :
    Calls Try.prog 80 #[jv] w fun e w' => ∃ v, e = .returned v ∧ jobK.own w.heap.size w' v L ∧ Below w.heap.size w w' := by
  obtain ⟨a, cap, rfl, h⟩ := jobs_at.1 hJ
  have h' := hid h
  clear h hJ
  cases a with
  | none =>
    have hL : L = [] := by
      by_cases e : L = []
      · exact e
      · obtain ⟨_, _, h, _⟩ := h'.out e; cases h
    subst hL
    have he := eql_nil
    go_enter Try.func80, Try.ntmps80
    go_wp2
    go_ret
    exact ⟨_, rfl, jobK.own_nil _ _, Below.refl _ _⟩
  | some ad =>
    have he := eql_some
    have hys' : Hid (∀ k y, L[k]? = some y → ∀ f u, (jobK.enc y)[f]? = some u → (w.alloc (.cells #[] 48)).cell? (ad.add (k * jobK.size + f)) = some u) := hid (by
      intro k y hk f u hu
      obtain ⟨b, off, e, hc⟩ := h'.out (fun e => by rw [e] at hk; simp at hk)
      cases e
      have := hc k y hk f u hu
      rw [addr_add, World.cell?_alloc_past _ _ _ (cell_lt this), ← Nat.add_assoc]
      exact this)
    go_enter Try.func80, Try.ntmps80
    go_wp2_with (at_builtin; refine wpList_append_rows jobK rfl _ _ rfl w.heap.size (.slice (some ⟨w.heap.size, 0, none⟩) 0 0) [] L rfl (jobK.own_made (Nat.le_refl _)) ad L.length cap rfl rfl hys'.out (by simpa using hl) (by simp) ?_; intro v' w' hown' hb' _; replace hown' : jobK.own w.heap.size w' v' L := hown')
    go_ret
    exact ⟨_, rfl, hown', below_low hb' (below_alloc (Below.refl _ _) _) (Nat.le_refl _)⟩

theorem clone_as (L : List Job) (hl : L.length ≤ 1000) (jv : Value) (w : World) (hJ : JobsAt w jv L) :
    Calls Try.prog 80 #[jv] w fun e w' => ∃ a cap, e = .returned (.slice a L.length cap) ∧ jobK.own w.heap.size w' (.slice a L.length cap) L ∧ Below w.heap.size w w' :=
  (clone_any L hl jv w hJ).mono fun e w' ⟨v, he, ho, hb⟩ => by
    obtain ⟨a, cap, rfl, _⟩ := ho.at
    exact ⟨a, cap, he, ho, hb⟩

/-- The first k jobs take longer, the others do not. -/
def mixed (n : Int) (L : List Job) (k : Nat) : List Job := (L.take k).map (fun j => { j with hi := j.hi + n }) ++ L.drop k
theorem mixed_length (n : Int) {L : List Job} {k : Nat} (hk : k ≤ L.length) : (mixed n L k).length = L.length := by
  simp [mixed]; omega
theorem mixed_get (n : Int) {L : List Job} {k : Nat} (hk : k < L.length) : (mixed n L k)[k]? = some (L.getD k Job.none) := by
  unfold mixed
  rw [List.getElem?_append_right (by simp; omega), List.getElem?_drop, List.getD_eq_getElem?_getD]
  have : k + (k - (List.map (fun j : Job => { j with hi := j.hi + n }) (L.take k)).length) = k := by simp; omega
  rw [this, List.getElem?_eq_getElem hk]; rfl
theorem mixed_set (n : Int) {L : List Job} {k : Nat} (hk : k < L.length) : (mixed n L k).set k { L.getD k Job.none with hi := (L.getD k Job.none).hi + n } = mixed n L (k + 1) := by
  unfold mixed
  have hl : (List.map (fun j : Job => { j with hi := j.hi + n }) (L.take k)).length = k := by simp; omega
  rw [List.set_append_right _ _ (by omega), hl, Nat.sub_self, List.drop_eq_getElem_cons hk, List.set_cons_zero, List.take_succ_eq_append_getElem hk, List.map_append, List.append_assoc]
  simp [List.getElem?_eq_getElem hk]
theorem mixed_all (n : Int) (L : List Job) : mixed n L L.length = L.map (fun j => { j with hi := j.hi + n }) := by simp [mixed]

/-- A mend each of whose jobs can take longer. -/
def Job.longer (n : Int) (j : Job) : Job := { j with hi := j.hi + n }
def Mend.longer (M : Mend) (n : Int) : Mend := { M with jobs := M.jobs.map (Job.longer n) }
theorem longer_job (M : Mend) (n : Int) {i : Nat} (hi : i < M.jobs.length) : (M.longer n).job i = (M.job i).longer n := by
  unfold Mend.job Mend.longer
  simp only
  rw [List.getD_eq_getElem?_getD, List.getD_eq_getElem?_getD, List.getElem?_map, List.getElem?_eq_getElem hi]; rfl
theorem longer_ok {M : Mend} (hM : M.valid = true) {n : Int} (h0 : 0 ≤ n) (h1 : n ≤ 900) : (M.longer n).Ok := by
  have ho := Mend.valid_ok hM
  have hl : (M.longer n).jobs.length = M.jobs.length := by simp [Mend.longer]
  have hh : ∀ i, i < M.jobs.length → (M.job i).hi ≤ 30 ∧ 0 ≤ (M.job i).hi := fun i hi => by
    have := valid_job hM hi
    simp only [Job.ok, Job.okA, Bool.and_eq_true, inB_iff, decide_eq_true_eq] at this
    omega
  refine ⟨by rw [hl]; exact ho.len, ho.ks, ho.set, ?_, ?_, ?_, ?_, ?_, ?_, ?_, ?_, ?_⟩
  all_goals
    intro i hi
    rw [hl] at *
    rw [longer_job M n hi]
  · exact ho.kind i hi
  · exact ho.lo i hi
  · have := hh i hi
    simp only [Job.longer]; omega
  · exact ho.from_ i hi
  · exact ho.soft i hi
  · exact ho.by_ i hi
  · exact ho.cost i hi
  · exact ho.after i hi
  · exact ho.own i hi

set_option maxRecDepth 100000 in
set_option maxHeartbeats 4000000 in
theorem longer_as (M : Mend) (hM : M.valid = true) (n : Int) (h0 : 0 ≤ n) (h1 : n ≤ 900) (sv jv lv : Value) (p : List Nat) (bj br : Int) (hbad : badOf (M.longer n) 0 p = (bj, br)) (hp : ∀ i, i ∈ p → i < M.jobs.length) (hpl : p.length ≤ 50) (w : World) (hS : IntsAt w sv M.setup) (hJ : JobsAt w jv M.jobs) (hlv : IntsAt w lv (ints p)) :
    Calls Try.prog 54 #[.agg #[sv, jv, .int .u64 0], lv, .int .i64 n] w fun e w' => e = .returned (.bool (decide (br = 0))) ∧ Below w.heap.size w w' := by
  have hlen : M.jobs.length ≤ 6 := (Mend.valid_ok hM).len
  have hcl := hid (fun w hJ => clone_as M.jobs (by omega) jv w hJ)
  have hru := hid (fun sb w hs hL => run_any (M.longer n) (longer_ok hM h0 h1) 0 (by decide) sb lv p (by simpa [Mend.longer] using hp) hpl w hs hL)
  rw [hbad] at hru
  clear hbad
  have hS' := hid hS
  have hJ' := hid hJ
  have hL' := hid hlv
  have hlen' := hid hlen
  have hM' := hid hM
  obtain ⟨sa, scap, rfl, _⟩ := hS
  obtain ⟨ja, jcap, rfl, _⟩ := hJ
  obtain ⟨la, lcap, rfl, _⟩ := hlv
  have hli : (ints p).length = p.length := by simp [ints]
  rw [hli] at hru hL' ⊢
  clear hli
  have hbx := alloc_at (w := w) (o := .cells #[.slice sa M.setup.length scap, .slice ja M.jobs.length jcap, .int .u64 0] 103) rfl
  have hb1 := below_alloc (Below.refl _ w) (.cells #[.slice sa M.setup.length scap, .slice ja M.jobs.length jcap, .int .u64 0] 103)
  clear hM hp hlen
  go_enter Try.func54, Try.ntmps54
  go_upto_region 1 with fail
  generalize w.alloc (.cells #[.slice sa M.setup.length scap, .slice ja M.jobs.length jcap, .int .u64 0] 103) = w1 at hbx hb1 ⊢
  obtain ⟨lx, cx⟩ := cells_of hbx
  go_upto_region 2 with (go_at_call 80; with_reducible refine (hcl.out w1 (hJ'.out.below hb1)).mono ?_; rintro e w2 ⟨ca, ccap, rfl, hown, hb2⟩; have hbx2 := (hb2.block _ lx).trans hbx; obtain ⟨lx2, cx2⟩ := cells_of hbx2; have zx2 := free_of hbx2)
  have hbx3 := heap_set_same (o := 1) (v := .slice ca M.jobs.length ccap) hbx2
  have hb3 := below_set (below_via hb2 hb1) (p := ⟨w.heap.size, 1, none⟩) (.slice ca M.jobs.length ccap) (Nat.le_refl _)
  have hown3 := hown.set (b := w.heap.size) (o := 1) (u := .slice ca M.jobs.length ccap) lx
  clear hown cx cx2 zx2 lx2 hbx2 hbx hb2
  generalize w2.setCell ⟨w.heap.size, 1, none⟩ (.slice ca M.jobs.length ccap) = w3 at hbx3 hb3 hown3 ⊢
  replace hbx3 : w3.heap[w.heap.size]? = some (.cells #[.slice sa M.setup.length scap, .slice ca M.jobs.length ccap, .int .u64 0] 103 (0, 0)) := by simpa using hbx3
  obtain ⟨lx3, cx3⟩ := cells_of hbx3
  have hhn : Hid (∀ k, k < M.jobs.length → wrap64 ((M.job k).hi + n) = (M.job k).hi + n) := hid (fun k hk => by
    have := valid_job hM'.out hk
    simp only [Job.ok, Job.okA, Bool.and_eq_true, inB_iff, decide_eq_true_eq] at this
    exact IntWalk.wrap64_in _ (by omega))
  have hown3' := hid hown3
  clear hown3
  go_wp2
  go_loopw [7, 21] (fun _ i wr => ∃ k : Nat, k ≤ M.jobs.length ∧ i = .int .i64 k ∧ jobK.own w1.heap.size wr (.slice ca M.jobs.length ccap) (mixed n M.jobs k) ∧ Below w1.heap.size w3 wr) (fun _ i _ => M.jobs.length - (intOf i).toNat)
  case atStart => exact ⟨0, by omega, rfl, by simpa [mixed] using hown3'.out, Below.refl _ _⟩
  case round =>
    obtain ⟨k, hkk, rfl, hrow, hbr⟩ := hrel
    have hbxr := (hbr.block _ lx).trans hbx3
    obtain ⟨lxr, cxr⟩ := cells_of hbxr
    have hbr' := hid hbr
    have hlen6 := hlen'.out
    by_cases hlt : k < M.jobs.length
    · obtain ⟨g, cap', cur, e, hBg, hg, hc⟩ := hrow.block (fun e => by have := congrArg List.length e; rw [mixed_length _ hkk, List.length_nil] at this; omega)
      injection e with e1 e2 e3
      subst e1
      clear e2 e3 hbr
      have hxk := mixed_get n hlt
      have hck : wr.cell? ⟨g, k * 8 + 1 + 1, none⟩ = some (.int .i64 (M.jobs.getD k Job.none).hi) := hc k _ hxk 2 _ rfl
      have lg := (cells_of hg).1
      have zg := free_of hg
      have hhk := hhn.out k hlt
      have hrow' := hid hrow
      have hBg' := hid hBg
      clear hc hrow hg hBg
      obtain ⟨hi, hhi⟩ : ∃ x, (M.job k).hi = x := ⟨_, rfl⟩
      have hjk : M.jobs.getD k Job.none = M.job k := rfl
      rw [hjk, hhi] at hck
      rw [hhi] at hhk
      have hhi' := hid hhi
      have hxk' := hid hxk
      clear hhi hxk hjk
      have hki : (k : Int) < (M.jobs.length : Int) := by omega
      go_wp2
      go_roundw
      case rel =>
        refine ⟨k + 1, by omega, by go_num, ?_, hbr'.out.setCell hBg'.out _⟩
        rw [← mixed_set n hlt, ← hhi'.out]
        have hset : ∀ (j : Job) (z : Int), jobK.enc { j with hi := z } = (jobK.enc j).set 2 (.int .i64 z) := fun _ _ => rfl
        exact hrow'.out.put (k := k) (f := 2) (x := M.jobs.getD k Job.none) hxk'.out (show 2 < 8 by decide) (hset _ _)
      case measure => simp [intOf]; omega
    · obtain rfl : k = M.jobs.length := by omega
      rw [mixed_all] at hrow
      have hbw := below_low hbr hb3 hb1.size
      have hjl : (M.longer n).jobs.length = M.jobs.length := by simp [Mend.longer]
      have hsh : ShopAt wr w.heap.size (M.longer n) 0 := ⟨_, _, hbxr, hS'.out.below hbw, jobs_at.2 hrow.at⟩
      have hsh' := hid hsh
      have hbw' := hid hbw
      clear hrow hsh hbw hjl
      go_wp2_with (go_at_call 49; with_reducible refine (hru.out _ _ hsh'.out (hL'.out.below hbw'.out)).mono ?_; rintro e w9 ⟨v, rfl, _, hb9⟩)
      go_ret
      exact ⟨rfl, below_via hb9 hbw'.out⟩

theorem longer_any (M : Mend) (hM : M.valid = true) (n : Int) (h0 : 0 ≤ n) (h1 : n ≤ 900) (sv jv lv : Value) (p : List Nat) (hp : ∀ i, i ∈ p → i < M.jobs.length) (hpl : p.length ≤ 50) (w : World) (hS : IntsAt w sv M.setup) (hJ : JobsAt w jv M.jobs) (hlv : IntsAt w lv (ints p)) :
    Calls Try.prog 54 #[.agg #[sv, jv, .int .u64 0], lv, .int .i64 n] w fun e w' => e = .returned (.bool (decide ((badOf (M.longer n) 0 p).2 = 0))) ∧ Below w.heap.size w w' :=
  longer_as M hM n h0 h1 sv jv lv p _ _ rfl hp hpl w hS hJ hlv

end Go.Proofs.Ytcgkglonnmkfcaa
