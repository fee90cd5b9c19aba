/- The reference's Done, walked. The reference's Broken, walked. The reference's Right, walked. The reference's check and Check, walked. The reference's Coins, walked. -/
import Derived.Test.YtcgkglonnmkfcaaPX
import Derived.Test.YtcgkglonnmkfcaaR5
import Derived.Test.YtcgkglonnmkfcaaR8
import Derived.Test.YtcgkglonnmkfcaaGD
import Derived.Test.YtcgkglonnmkfcaaR7
import Derived.Test.YtcgkglonnmkfcaaR1
import Derived.Test.YtcgkglonnmkfcaaN7
import Derived.OwnWalk
namespace Go.Proofs.Ytcgkglonnmkfcaa
open Go.RowKit Go.Lap Go.Shelf

theorem getD_intsK (p : List Nat) (k : Nat) : (ints p).getD k 0 = ((p.getD k 0 : Nat) : Int) := by
  rw [List.getD_eq_getElem?_getD, List.getD_eq_getElem?_getD, List.getElem?_map]
  cases p[k]? <;> rfl
/-- When jobs are done, at the least, or at the most. -/
def doneL (M : Mend) (most : Bool) (p : List Nat) : List Int := (worksL M Sit.begin p).map fun x => if most then x.1.1.late else x.1.2
def nowAt (M : Mend) (most : Bool) (p : List Nat) (k : Nat) : Int := if most then (sitOf M (p.take k)).1.late else (sitOf M (p.take k)).2
theorem own_eq {B : Nat} {W : World} {v : Value} {l : List Int} {z z' : Int} (h : intK.own B W v (l ++ [z])) (e : z = z') : intK.own B W v (l ++ [z']) := e ▸ h
theorem doneL_length (M : Mend) (most : Bool) (p : List Nat) : (doneL M most p).length = p.length := by simp [doneL, worksL_length]
theorem doneL_take (M : Mend) (most : Bool) {p : List Nat} {k : Nat} (hk : k < p.length) : doneL M most (p.take (k + 1)) = doneL M most (p.take k) ++ [nowAt M most p (k + 1)] := by
  unfold doneL nowAt
  rw [sitOf_succ M hk, take_snoc hk, worksL_snoc, List.map_append]
  rfl
theorem sit_kind (M : Mend) {p : List Nat} {k : Nat} (hk : k < p.length) : (sitOf M (p.take (k + 1))).1.kind = (M.job (p.getD k 0)).kind := by
  rw [sitOf_succ M hk]; rfl
theorem now_step (M : Mend) (most : Bool) {p : List Nat} {k : Nat} (hk : k < p.length) (hkd : 0 ≤ (M.job (p.getD k 0)).kind) :
    nowAt M most p (k + 1) = max (if k ≠ 0 ∧ (M.job (p.getD (k - 1) 0)).kind = (M.job (p.getD k 0)).kind then nowAt M most p k else nowAt M most p k + M.set (M.job (p.getD k 0)).kind) (M.job (p.getD k 0)).from_ + (if most then (M.job (p.getD k 0)).hi else (M.job (p.getD k 0)).lo) := by
  have hkind : ((sitOf M (p.take k)).1.kind = (M.job (p.getD k 0)).kind) ↔ (k ≠ 0 ∧ (M.job (p.getD (k - 1) 0)).kind = (M.job (p.getD k 0)).kind) := by
    cases k with
    | zero =>
      have : (sitOf M (p.take 0)).1.kind = -1 := rfl
      rw [this]
      constructor
      · intro h; omega
      · intro h; exact (h.1 rfl).elim
    | succ k =>
      rw [sit_kind M (show k < p.length by omega)]
      simp
  unfold nowAt
  rw [sitOf_succ M hk]
  cases most
  · simp only [Mend.nextS, Mend.ends, Bool.false_eq_true, if_false]
    by_cases h : (sitOf M (p.take k)).1.kind = (M.job (p.getD k 0)).kind
    · rw [if_pos h, if_pos (hkind.1 h)]
    · rw [if_neg h, if_neg (fun h2 => h (hkind.2 h2))]
  · simp only [Mend.nextS, Mend.next, Mend.ends, if_true]
    by_cases h : (sitOf M (p.take k)).1.kind = (M.job (p.getD k 0)).kind
    · rw [if_pos h, if_pos (hkind.1 h)]
    · rw [if_neg h, if_neg (fun h2 => h (hkind.2 h2))]
theorem now_small {M : Mend} (hM : M.Ok) (most : Bool) {p : List Nat} (hp : ∀ i, i ∈ p → i < M.jobs.length) (hl : p.length ≤ 6) (k : Nat) : 0 ≤ nowAt M most p k ∧ nowAt M most p k ≤ 12000 := by
  have := sit_small hM hp hl k
  unfold nowAt
  cases most <;> simp <;> omega

set_option maxRecDepth 100000 in
set_option maxHeartbeats 4000000 in
theorem refDone_false (M : Mend) (hM : M.Ok) (sv jv lv : Value) (p : List Nat) (hp : ∀ i, i ∈ p → i < M.jobs.length) (hpl : p.length ≤ 6) (w : World) (hS : IntsAt w sv M.setup) (hJ : JobsAt w jv M.jobs) (hlv : IntsAt w lv (ints p)) :
    Calls Try.prog 51 #[.agg #[sv, jv], lv, .bool false] w fun e w' => ∃ v, e = .returned v ∧ intK.own w.heap.size w' v (doneL M false p) ∧ Below w.heap.size w w' := by
  have hS' := hid hS
  have hJ' := hid hJ
  have hlv' := hid hlv
  obtain ⟨sa, scap, rfl, _⟩ := hS
  obtain ⟨ja, jcap, rfl, _⟩ := hJ
  obtain ⟨la, lcap, rfl, _⟩ := hlv
  have hpL : (ints p).length = p.length := by simp
  rw [hpL] at hlv' ⊢
  have hk1 := KeepB.start w (.slice sa M.setup.length scap) (.slice ja M.jobs.length jcap)
  have hM' := hid hM
  have hp' := hid hp
  clear hpL hM hp
  go_enter Try.func51, Try.ntmps51
  go_upto_region 1 with fail
  have hx := hk1
  generalize w.alloc (.cells #[.slice sa M.setup.length scap, .slice ja M.jobs.length jcap] 25) = w1 at hx ⊢
  clear hk1
  have hxi := hid hx
  clear hx
  go_wp2
  go_loopw [7, 8, 9, 10] (fun rv nw ix _ wr => ∃ k : Nat, k ≤ p.length ∧ ix = .int .i64 k ∧ nw = .int .i64 (nowAt M false p k) ∧ Hid (intK.own w1.heap.size wr rv (doneL M false (p.take k))) ∧ Hid (Below w1.heap.size w1 wr)) (fun _ _ ix _ _ => p.length - (intOf ix).toNat)
  case atStart => exact ⟨0, by omega, rfl, rfl, hid (intK.own_nil _ _), hid (Below.refl _ _)⟩
  case round =>
    obtain ⟨k, hkk, rfl, rfl, hrow, hbr⟩ := hrel
    by_cases hlt : k < p.length
    · have hki : (k : Int) < (p.length : Int) := by omega
      have hx := hxi.out.below hbr.out
      have lm := (cells_of hx.m).1
      have cm := (cells_of hx.m).2
      obtain ⟨rb, ro, rcap, e1, lrb, hrc⟩ := (hlv'.out.below hx.bel).some (fun e => by have := congrArg List.length e; simp only [List.length_map, List.length_nil] at this; omega)
      injection e1 with e1 e2 e3
      subst e1
      subst e3
      clear e2
      have hrj := hrc k (by simpa using hlt)
      rw [getD_intsK] at hrj
      obtain ⟨i, hi⟩ : ∃ i, p.getD k 0 = i := ⟨_, rfl⟩
      rw [hi] at hrj
      have him : i < M.jobs.length := hp'.out i (by
        rw [← hi, List.getD_eq_getElem?_getD, List.getElem?_eq_getElem hlt]
        exact List.getElem_mem _)
      have hii : (i : Int) < (M.jobs.length : Int) := by omega
      obtain ⟨a', c', e1, hjc⟩ := hJ'.out.below hx.bel
      injection e1 with e1 e2 e3
      subst e1
      subst e3
      clear e2
      obtain ⟨jb, jo, rfl, hjq⟩ := hjc (fun e => by rw [e] at him; simp at him)
      have hc0 := hjq i him 0 (by decide)
      have hc1 := hjq i him 1 (by decide)
      have hc2 := hjq i him 2 (by decide)
      have hc3 := hjq i him 3 (by decide)
      have hc4 := hjq i him 4 (by decide)
      have hc5 := hjq i him 5 (by decide)
      have hc6 := hjq i him 6 (by decide)
      have hc7 := hjq i him 7 (by decide)
      rw [show M.jobs.getD i Job.none = M.job i from rfl] at hc0 hc1 hc2 hc3 hc4 hc5 hc6 hc7
      simp only [Job.cells, List.getD_cons_zero, List.getD_cons_succ, Nat.add_zero] at hc0 hc1 hc2 hc3 hc4 hc5 hc6 hc7
      have ljb := cell_lt hc0
      have hkd := hM'.out.kind i him
      have hset := set_in hM'.out (M.job i).kind
      have hfr := hM'.out.from_ i him
      have hlo := hM'.out.lo i him
      have hhi := hM'.out.hi i him
      have hns := now_step M false hlt (by rw [hi]; exact hkd.1)
      have hnb := now_small hM'.out false hp'.out hpl k
      have hnb2 := now_small hM'.out false hp'.out hpl (k + 1)
      have hdt := hid (doneL_take M false hlt)
      rw [hi] at hns
      obtain ⟨kn, hknn⟩ : ∃ kn : Nat, (M.job i).kind = (kn : Int) := ⟨(M.job i).kind.toNat, by omega⟩
      obtain ⟨lo, eloo⟩ : ∃ x, (M.job i).lo = x := ⟨_, rfl⟩
      obtain ⟨hi', ehii⟩ : ∃ x, (M.job i).hi = x := ⟨_, rfl⟩
      obtain ⟨fr, efrr⟩ : ∃ x, (M.job i).from_ = x := ⟨_, rfl⟩
      obtain ⟨so, esoo⟩ : ∃ x, (M.job i).soft = x := ⟨_, rfl⟩
      obtain ⟨byy, ebyy⟩ : ∃ x, (M.job i).by_ = x := ⟨_, rfl⟩
      obtain ⟨co, ecoo⟩ : ∃ x, (M.job i).cost = x := ⟨_, rfl⟩
      obtain ⟨af, eaff⟩ : ∃ x, (M.job i).after = x := ⟨_, rfl⟩
      rw [hknn] at hc0 hkd hset hns
      rw [eloo] at hc1 hlo
      rw [ehii] at hc2 hhi
      rw [efrr] at hc3 hfr hns
      rw [esoo] at hc4
      rw [ebyy] at hc5
      rw [ecoo] at hc6
      rw [eaff] at hc7
      obtain ⟨xb, xo, xc, e1, lxb, hsc⟩ := (hS'.out.below hx.bel).some (fun e => by rw [e] at hkd; simp at hkd; omega)
      injection e1 with e1 e2 e3
      subst e1
      subst e3
      clear e2
      have hsk := hsc kn (by omega)
      rw [show M.setup.getD kn 0 = M.set (kn : Int) from rfl] at hsk
      obtain ⟨st, hst⟩ : ∃ st, M.set (kn : Int) = st := ⟨_, rfl⟩
      rw [hst] at hsk hset hns
      go_upto_region 6 with fail
      refine wp_region_held (S := fun W => Below wr.heap.size wr W) (by kernel_rfl) ?_
      have hz : Below wr.heap.size wr wr.drew := (Below.refl _ _).drew
      refine wpAnyH_quiet (i := 0) (v := .pointer (some ⟨w.heap.size, 1, none⟩)) rfl (by kernel_rfl) (by kernel_rfl) (by kernel_rfl) (fun _ _ _ h => h) rfl (fun W h => by go_simp) hz ?_
      refine wpAnyH_quiet (i := 1) (v := .slice (some ⟨jb, jo, none⟩) M.jobs.length jcap) rfl (by kernel_rfl) (by kernel_rfl) (by kernel_rfl) (fun _ _ _ h => h) rfl (fun W h => by have hm1 := (h.cell (p := ⟨w.heap.size, 1, none⟩) lm).trans (cm 1); go_simp) hz ?_
      refine wpAnyH_quiet (i := 2) (v := .slice (some ⟨rb, ro, none⟩) p.length lcap) rfl (by kernel_rfl) (by kernel_rfl) (by kernel_rfl) (fun _ _ _ h => h) rfl (fun W h => by go_simp) hz ?_
      refine wpAnyH_quiet (i := 3) (v := .int .i64 (k : Int)) rfl (by kernel_rfl) (by kernel_rfl) (by kernel_rfl) (fun _ _ _ h => h) rfl (fun W h => by go_simp) hz ?_
      refine wpAnyH_quiet (i := 4) (v := .pointer (some ⟨rb, ro + k, none⟩)) rfl (by kernel_rfl) (by kernel_rfl) (by kernel_rfl) (fun _ _ _ h => h) rfl (fun W h => by go_simp) hz ?_
      refine wpAnyH_quiet (i := 5) (v := .int .i64 (i : Int)) rfl (by kernel_rfl) (by kernel_rfl) (by kernel_rfl) (fun _ _ _ h => h) rfl (fun W h => by have hm1 := (h.cell (p := ⟨rb, ro + k, none⟩) lrb).trans hrj; go_simp) hz ?_
      refine wpAnyH_quiet (i := 6) (v := .pointer (some ⟨jb, jo + i * 8, none⟩)) rfl (by kernel_rfl) (by kernel_rfl) (by kernel_rfl) (fun _ _ _ h => h) rfl (fun W h => by go_simp) hz ?_
      refine wpAnyH_quiet (i := 7) (v := .agg #[.int .i64 (kn : Int), .int .i64 lo, .int .i64 hi', .int .i64 fr, .int .i64 so, .int .i64 byy, .int .i64 co, .int .i64 af]) rfl (by kernel_rfl) (by kernel_rfl) (by kernel_rfl) (fun _ _ _ h => h) rfl (fun W h => by have g0 := (h.cell (p := ⟨jb, jo + i * 8, none⟩) ljb).trans hc0; have g1 := (h.cell (p := ⟨jb, jo + i * 8 + 1, none⟩) ljb).trans hc1; have g2 := (h.cell (p := ⟨jb, jo + i * 8 + 2, none⟩) ljb).trans hc2; have g3 := (h.cell (p := ⟨jb, jo + i * 8 + 3, none⟩) ljb).trans hc3; have g4 := (h.cell (p := ⟨jb, jo + i * 8 + 4, none⟩) ljb).trans hc4; have g5 := (h.cell (p := ⟨jb, jo + i * 8 + 5, none⟩) ljb).trans hc5; have g6 := (h.cell (p := ⟨jb, jo + i * 8 + 6, none⟩) ljb).trans hc6; have g7 := (h.cell (p := ⟨jb, jo + i * 8 + 7, none⟩) ljb).trans hc7; go_simp) hz ?_
      refine wpAnyH_step (i := 8) (by kernel_rfl) rfl ?_
      go_wp2
      refine ⟨(below_alloc (Below.refl _ _) _).drew, ?_⟩
      refine wpAnyH_step (i := 9) (by kernel_rfl) rfl ?_
      go_wp2
      refine ⟨(below_alloc (Below.refl _ _) _).drew, ?_⟩
      refine wpAnyH_done (by kernel_rfl) ?_ _
      have hbq := (below_alloc (Below.refl _ wr) (.cells #[.int .i64 (kn : Int), .int .i64 lo, .int .i64 hi', .int .i64 fr, .int .i64 so, .int .i64 byy, .int .i64 co, .int .i64 af] 48)).drew
      have hq : (wr.alloc (.cells #[.int .i64 (kn : Int), .int .i64 lo, .int .i64 hi', .int .i64 fr, .int .i64 so, .int .i64 byy, .int .i64 co, .int .i64 af] 48)).drew.heap[wr.heap.size]? = some (.cells #[.int .i64 (kn : Int), .int .i64 lo, .int .i64 hi', .int .i64 fr, .int .i64 so, .int .i64 byy, .int .i64 co, .int .i64 af] 48 (0, 0)) := alloc_at (w := wr) (o := .cells #[.int .i64 (kn : Int), .int .i64 lo, .int .i64 hi', .int .i64 fr, .int .i64 so, .int .i64 byy, .int .i64 co, .int .i64 af] 48) (n := wr.heap.size) rfl
      have hxq := hx.below hbq
      have hsk2 := (hbq.cell (p := ⟨xb, xo + kn, none⟩) lxb).trans hsk
      have lxb2 := Nat.lt_of_lt_of_le lxb hbq.size
      have hbqr := hid (below_low hbq hbr.out (by have := hbr.out.size; omega))
      have hrow2 := hid (hrow.out.below hbq)
      obtain ⟨qb, hqb⟩ : ∃ qb, wr.heap.size = qb := ⟨_, rfl⟩
      simp only [hqb] at hq ⊢
      have hrl : ∀ q, q < p.length → (wr.alloc (.cells #[.int .i64 (kn : Int), .int .i64 lo, .int .i64 hi', .int .i64 fr, .int .i64 so, .int .i64 byy, .int .i64 co, .int .i64 af] 48)).drew.cell? ⟨rb, ro + q, none⟩ = some (.int .i64 ((p.getD q 0 : Nat) : Int)) := fun q hq => by
        have := hrc q (by simpa using hq)
        rw [getD_intsK] at this
        exact (hbq.cell (p := ⟨rb, ro + q, none⟩) lrb).trans this
      have him2 : ∀ q, q < p.length → p.getD q 0 < M.jobs.length := fun q hq => hp'.out _ (by
        rw [List.getD_eq_getElem?_getD, List.getElem?_eq_getElem hq]
        exact List.getElem_mem _)
      have hjl : ∀ i, i < M.jobs.length → (wr.alloc (.cells #[.int .i64 (kn : Int), .int .i64 lo, .int .i64 hi', .int .i64 fr, .int .i64 so, .int .i64 byy, .int .i64 co, .int .i64 af] 48)).drew.cell? ⟨jb, jo + i * 8, none⟩ = some (.int .i64 (M.job i).kind) := fun i hi => (hbq.cell (p := ⟨jb, jo + i * 8, none⟩) ljb).trans (hjq i hi 0 (by decide))
      have lrb2 := Nat.lt_of_lt_of_le lrb hbq.size
      have ljb2 := Nat.lt_of_lt_of_le ljb hbq.size
      clear hc0 hc1 hc2 hc3 hc4 hc5 hc6 hc7 lm cm hx hsk lxb hrc hjq hjc lrb ljb
      generalize (wr.alloc (.cells #[.int .i64 (kn : Int), .int .i64 lo, .int .i64 hi', .int .i64 fr, .int .i64 so, .int .i64 byy, .int .i64 co, .int .i64 af] 48)).drew = wq at hq hxq hsk2 lxb2 hbqr hrow2 hrl hjl lrb2 ljb2 hbq ⊢
      clear hbq
      have lm := (cells_of hxq.m).1
      have cm := (cells_of hxq.m).2
      have lq := (cells_of hq).1
      have cq := (cells_of hq).2
      generalize nowAt M false p k = now at hns hnb ⊢
      obtain ⟨now2, hn2⟩ : ∃ now2, nowAt M false p (k + 1) = now2 := ⟨_, rfl⟩
      have hnk1 := hid hn2
      rw [hn2] at hns hnb2
      clear hn2
      by_cases hk0 : k = 0
      · have ht0 : ((k : Int) == 0) = true := by rw [beq_iff_eq]; omega
        rw [if_neg (fun h => h.1 hk0)] at hns
        simp only [Bool.false_eq_true, if_false] at hns
        go_upto_region 7 with fail
        refine wp_region_later (by kernel_rfl) (by kernel_rfl) ?_
        intro hxl
        repeat (go_big_quiet_step (fail))
        refine wpQuiet_nil ?_
        rintro w9 ⟨x, hxw⟩
        have hb9 := x.below
        rw [← hxw] at hb9
        clear hxl hxw x
        have hrow3 := hid (hrow2.out.below hb9)
        have hbqr3 := hid (below_via hb9 hbqr.out)
        have hq := (hb9.block _ lq).trans hq
        have hsk2 := (hb9.cell (p := ⟨xb, xo + kn, none⟩) lxb2).trans hsk2
        have hm2 := (hb9.block _ (by have := (cells_of hxq.m).1; omega)).trans hxq.m
        clear lq cq lm cm
        have lq := (cells_of hq).1
        have cq := (cells_of hq).2
        have lm := (cells_of hm2).1
        have cm := (cells_of hm2).2
        clear hq hm2
        go_wp2_with (at_builtin; refine wpList_append_row intK rfl _ _ rfl w1.heap.size u7 (doneL M false (p.take k)) [_] rfl (hrow3.out.below (below_alloc (Below.refl _ _) _)) _ 0 1 1 rfl rfl (row_one intK _ _ _ _ rfl) (by simp only [doneL_length, List.length_take, List.length_cons, List.length_nil]; omega) (by have := hbqr3.out.size; simp; omega) ?_; intro v' w6 hown6 hb6 _)
        all_goals
          go_roundw
          case rel =>
            refine ⟨k + 1, by omega, by go_num, by rw [hnk1.out]; exact congrArg (Value.int .i64) (by split <;> omega), hid ?_, hid (below_low hb6 (below_alloc hbqr3.out _) (Nat.le_refl _))⟩
            rw [hdt.out]
            exact own_eq hown6 (by rw [hnk1.out]; split <;> omega)
          case measure => simp [intOf]; omega
      · obtain ⟨q, hqk⟩ : ∃ q, k = q + 1 := ⟨k - 1, by omega⟩
        have ht0 : ((k : Int) == 0) = false := by rw [beq_eq_false_iff_ne]; omega
        have hw1 : IntKind.i64.wrap ((k : Int) - 1) = (q : Int) := by rw [IntWalk.i64_in _ (by omega)]; omega
        have hqi : (q : Int) < (p.length : Int) := by omega
        have hrq := hrl q (by omega)
        have hii2 := him2 q (by omega)
        have hjc2 := hjl _ hii2
        rw [show k - 1 = q by omega] at hns
        clear hqk
        obtain ⟨kq, hkq0⟩ : ∃ kq, (M.job (p.getD q 0)).kind = kq := ⟨_, rfl⟩
        rw [hkq0] at hns hjc2
        clear hkq0
        obtain ⟨i2, hi20⟩ : ∃ i2, p.getD q 0 = i2 := ⟨_, rfl⟩
        rw [hi20] at hrq hii2 hjc2
        clear hi20
        have hi2i : (i2 : Int) < (M.jobs.length : Int) := by omega
        clear hrl hjl him2
        by_cases hkq : kq = (kn : Int)
        · have ht1 : (kq != (kn : Int)) = false := by rw [bne_eq_false_iff_eq]; exact hkq
          have ht2 : (kq == (kn : Int)) = true := by rw [beq_iff_eq]; exact hkq
          rw [if_pos ⟨hk0, hkq⟩] at hns
          simp only [Bool.false_eq_true, if_false] at hns
          go_upto_region 7 with fail
          refine wp_region_later (by kernel_rfl) (by kernel_rfl) ?_
          intro hxl
          repeat (go_big_quiet_step (fail))
          refine wpQuiet_nil ?_
          rintro w9 ⟨x, hxw⟩
          have hb9 := x.below
          rw [← hxw] at hb9
          clear hxl hxw x
          have hrow3 := hid (hrow2.out.below hb9)
          have hbqr3 := hid (below_via hb9 hbqr.out)
          have hq := (hb9.block _ lq).trans hq
          have hsk2 := (hb9.cell (p := ⟨xb, xo + kn, none⟩) lxb2).trans hsk2
          have hm2 := (hb9.block _ (by have := (cells_of hxq.m).1; omega)).trans hxq.m
          clear lq cq lm cm
          have lq := (cells_of hq).1
          have cq := (cells_of hq).2
          have lm := (cells_of hm2).1
          have cm := (cells_of hm2).2
          clear hq hm2
          go_wp2_with (at_builtin; refine wpList_append_row intK rfl _ _ rfl w1.heap.size u7 (doneL M false (p.take k)) [_] rfl (hrow3.out.below (below_alloc (Below.refl _ _) _)) _ 0 1 1 rfl rfl (row_one intK _ _ _ _ rfl) (by simp only [doneL_length, List.length_take, List.length_cons, List.length_nil]; omega) (by have := hbqr3.out.size; simp; omega) ?_; intro v' w6 hown6 hb6 _)
          all_goals
            go_roundw
            case rel =>
              refine ⟨k + 1, by omega, by go_num, by rw [hnk1.out]; exact congrArg (Value.int .i64) (by split <;> omega), hid ?_, hid (below_low hb6 (below_alloc hbqr3.out _) (Nat.le_refl _))⟩
              rw [hdt.out]
              exact own_eq hown6 (by rw [hnk1.out]; split <;> omega)
            case measure => simp [intOf]; omega
        · have ht1 : (kq != (kn : Int)) = true := by rw [bne_iff_ne]; exact hkq
          have ht2 : (kq == (kn : Int)) = false := by rw [beq_eq_false_iff_ne]; exact hkq
          rw [if_neg (fun h => hkq h.2)] at hns
          simp only [Bool.false_eq_true, if_false] at hns
          go_upto_region 7 with fail
          refine wp_region_later (by kernel_rfl) (by kernel_rfl) ?_
          intro hxl
          repeat (go_big_quiet_step (fail))
          refine wpQuiet_nil ?_
          rintro w9 ⟨x, hxw⟩
          have hb9 := x.below
          rw [← hxw] at hb9
          clear hxl hxw x
          have hrow3 := hid (hrow2.out.below hb9)
          have hbqr3 := hid (below_via hb9 hbqr.out)
          have hq := (hb9.block _ lq).trans hq
          have hsk2 := (hb9.cell (p := ⟨xb, xo + kn, none⟩) lxb2).trans hsk2
          have hm2 := (hb9.block _ (by have := (cells_of hxq.m).1; omega)).trans hxq.m
          clear lq cq lm cm
          have lq := (cells_of hq).1
          have cq := (cells_of hq).2
          have lm := (cells_of hm2).1
          have cm := (cells_of hm2).2
          clear hq hm2
          go_wp2_with (at_builtin; refine wpList_append_row intK rfl _ _ rfl w1.heap.size u7 (doneL M false (p.take k)) [_] rfl (hrow3.out.below (below_alloc (Below.refl _ _) _)) _ 0 1 1 rfl rfl (row_one intK _ _ _ _ rfl) (by simp only [doneL_length, List.length_take, List.length_cons, List.length_nil]; omega) (by have := hbqr3.out.size; simp; omega) ?_; intro v' w6 hown6 hb6 _)
          all_goals
            go_roundw
            case rel =>
              refine ⟨k + 1, by omega, by go_num, by rw [hnk1.out]; exact congrArg (Value.int .i64) (by split <;> omega), hid ?_, hid (below_low hb6 (below_alloc hbqr3.out _) (Nat.le_refl _))⟩
              rw [hdt.out]
              exact own_eq hown6 (by rw [hnk1.out]; split <;> omega)
            case measure => simp [intOf]; omega
    · obtain rfl : k = p.length := by omega
      have hr1 := hrow.out
      rw [List.take_length] at hr1
      go_wp2
      go_ret
      exact ⟨_, rfl, hr1.low hxi.out.bel.size, below_low hbr.out hxi.out.bel hxi.out.bel.size⟩

set_option maxRecDepth 100000 in
set_option maxHeartbeats 4000000 in
theorem refDone_true (M : Mend) (hM : M.Ok) (sv jv lv : Value) (p : List Nat) (hp : ∀ i, i ∈ p → i < M.jobs.length) (hpl : p.length ≤ 6) (w : World) (hS : IntsAt w sv M.setup) (hJ : JobsAt w jv M.jobs) (hlv : IntsAt w lv (ints p)) :
    Calls Try.prog 51 #[.agg #[sv, jv], lv, .bool true] w fun e w' => ∃ v, e = .returned v ∧ intK.own w.heap.size w' v (doneL M true p) ∧ Below w.heap.size w w' := by
  have hS' := hid hS
  have hJ' := hid hJ
  have hlv' := hid hlv
  obtain ⟨sa, scap, rfl, _⟩ := hS
  obtain ⟨ja, jcap, rfl, _⟩ := hJ
  obtain ⟨la, lcap, rfl, _⟩ := hlv
  have hpL : (ints p).length = p.length := by simp
  rw [hpL] at hlv' ⊢
  have hk1 := KeepB.start w (.slice sa M.setup.length scap) (.slice ja M.jobs.length jcap)
  have hM' := hid hM
  have hp' := hid hp
  clear hpL hM hp
  go_enter Try.func51, Try.ntmps51
  go_upto_region 1 with fail
  have hx := hk1
  generalize w.alloc (.cells #[.slice sa M.setup.length scap, .slice ja M.jobs.length jcap] 25) = w1 at hx ⊢
  clear hk1
  have hxi := hid hx
  clear hx
  go_wp2
  go_loopw [7, 8, 9, 10] (fun rv nw ix _ wr => ∃ k : Nat, k ≤ p.length ∧ ix = .int .i64 k ∧ nw = .int .i64 (nowAt M true p k) ∧ Hid (intK.own w1.heap.size wr rv (doneL M true (p.take k))) ∧ Hid (Below w1.heap.size w1 wr)) (fun _ _ ix _ _ => p.length - (intOf ix).toNat)
  case atStart => exact ⟨0, by omega, rfl, rfl, hid (intK.own_nil _ _), hid (Below.refl _ _)⟩
  case round =>
    obtain ⟨k, hkk, rfl, rfl, hrow, hbr⟩ := hrel
    by_cases hlt : k < p.length
    · have hki : (k : Int) < (p.length : Int) := by omega
      have hx := hxi.out.below hbr.out
      have lm := (cells_of hx.m).1
      have cm := (cells_of hx.m).2
      obtain ⟨rb, ro, rcap, e1, lrb, hrc⟩ := (hlv'.out.below hx.bel).some (fun e => by have := congrArg List.length e; simp only [List.length_map, List.length_nil] at this; omega)
      injection e1 with e1 e2 e3
      subst e1
      subst e3
      clear e2
      have hrj := hrc k (by simpa using hlt)
      rw [getD_intsK] at hrj
      obtain ⟨i, hi⟩ : ∃ i, p.getD k 0 = i := ⟨_, rfl⟩
      rw [hi] at hrj
      have him : i < M.jobs.length := hp'.out i (by
        rw [← hi, List.getD_eq_getElem?_getD, List.getElem?_eq_getElem hlt]
        exact List.getElem_mem _)
      have hii : (i : Int) < (M.jobs.length : Int) := by omega
      obtain ⟨a', c', e1, hjc⟩ := hJ'.out.below hx.bel
      injection e1 with e1 e2 e3
      subst e1
      subst e3
      clear e2
      obtain ⟨jb, jo, rfl, hjq⟩ := hjc (fun e => by rw [e] at him; simp at him)
      have hc0 := hjq i him 0 (by decide)
      have hc1 := hjq i him 1 (by decide)
      have hc2 := hjq i him 2 (by decide)
      have hc3 := hjq i him 3 (by decide)
      have hc4 := hjq i him 4 (by decide)
      have hc5 := hjq i him 5 (by decide)
      have hc6 := hjq i him 6 (by decide)
      have hc7 := hjq i him 7 (by decide)
      rw [show M.jobs.getD i Job.none = M.job i from rfl] at hc0 hc1 hc2 hc3 hc4 hc5 hc6 hc7
      simp only [Job.cells, List.getD_cons_zero, List.getD_cons_succ, Nat.add_zero] at hc0 hc1 hc2 hc3 hc4 hc5 hc6 hc7
      have ljb := cell_lt hc0
      have hkd := hM'.out.kind i him
      have hset := set_in hM'.out (M.job i).kind
      have hfr := hM'.out.from_ i him
      have hlo := hM'.out.lo i him
      have hhi := hM'.out.hi i him
      have hns := now_step M true hlt (by rw [hi]; exact hkd.1)
      have hnb := now_small hM'.out true hp'.out hpl k
      have hnb2 := now_small hM'.out true hp'.out hpl (k + 1)
      have hdt := hid (doneL_take M true hlt)
      rw [hi] at hns
      obtain ⟨kn, hknn⟩ : ∃ kn : Nat, (M.job i).kind = (kn : Int) := ⟨(M.job i).kind.toNat, by omega⟩
      obtain ⟨lo, eloo⟩ : ∃ x, (M.job i).lo = x := ⟨_, rfl⟩
      obtain ⟨hi', ehii⟩ : ∃ x, (M.job i).hi = x := ⟨_, rfl⟩
      obtain ⟨fr, efrr⟩ : ∃ x, (M.job i).from_ = x := ⟨_, rfl⟩
      obtain ⟨so, esoo⟩ : ∃ x, (M.job i).soft = x := ⟨_, rfl⟩
      obtain ⟨byy, ebyy⟩ : ∃ x, (M.job i).by_ = x := ⟨_, rfl⟩
      obtain ⟨co, ecoo⟩ : ∃ x, (M.job i).cost = x := ⟨_, rfl⟩
      obtain ⟨af, eaff⟩ : ∃ x, (M.job i).after = x := ⟨_, rfl⟩
      rw [hknn] at hc0 hkd hset hns
      rw [eloo] at hc1 hlo
      rw [ehii] at hc2 hhi
      rw [efrr] at hc3 hfr hns
      rw [esoo] at hc4
      rw [ebyy] at hc5
      rw [ecoo] at hc6
      rw [eaff] at hc7
      obtain ⟨xb, xo, xc, e1, lxb, hsc⟩ := (hS'.out.below hx.bel).some (fun e => by rw [e] at hkd; simp at hkd; omega)
      injection e1 with e1 e2 e3
      subst e1
      subst e3
      clear e2
      have hsk := hsc kn (by omega)
      rw [show M.setup.getD kn 0 = M.set (kn : Int) from rfl] at hsk
      obtain ⟨st, hst⟩ : ∃ st, M.set (kn : Int) = st := ⟨_, rfl⟩
      rw [hst] at hsk hset hns
      go_upto_region 6 with fail
      refine wp_region_held (S := fun W => Below wr.heap.size wr W) (by kernel_rfl) ?_
      have hz : Below wr.heap.size wr wr.drew := (Below.refl _ _).drew
      refine wpAnyH_quiet (i := 0) (v := .pointer (some ⟨w.heap.size, 1, none⟩)) rfl (by kernel_rfl) (by kernel_rfl) (by kernel_rfl) (fun _ _ _ h => h) rfl (fun W h => by go_simp) hz ?_
      refine wpAnyH_quiet (i := 1) (v := .slice (some ⟨jb, jo, none⟩) M.jobs.length jcap) rfl (by kernel_rfl) (by kernel_rfl) (by kernel_rfl) (fun _ _ _ h => h) rfl (fun W h => by have hm1 := (h.cell (p := ⟨w.heap.size, 1, none⟩) lm).trans (cm 1); go_simp) hz ?_
      refine wpAnyH_quiet (i := 2) (v := .slice (some ⟨rb, ro, none⟩) p.length lcap) rfl (by kernel_rfl) (by kernel_rfl) (by kernel_rfl) (fun _ _ _ h => h) rfl (fun W h => by go_simp) hz ?_
      refine wpAnyH_quiet (i := 3) (v := .int .i64 (k : Int)) rfl (by kernel_rfl) (by kernel_rfl) (by kernel_rfl) (fun _ _ _ h => h) rfl (fun W h => by go_simp) hz ?_
      refine wpAnyH_quiet (i := 4) (v := .pointer (some ⟨rb, ro + k, none⟩)) rfl (by kernel_rfl) (by kernel_rfl) (by kernel_rfl) (fun _ _ _ h => h) rfl (fun W h => by go_simp) hz ?_
      refine wpAnyH_quiet (i := 5) (v := .int .i64 (i : Int)) rfl (by kernel_rfl) (by kernel_rfl) (by kernel_rfl) (fun _ _ _ h => h) rfl (fun W h => by have hm1 := (h.cell (p := ⟨rb, ro + k, none⟩) lrb).trans hrj; go_simp) hz ?_
      refine wpAnyH_quiet (i := 6) (v := .pointer (some ⟨jb, jo + i * 8, none⟩)) rfl (by kernel_rfl) (by kernel_rfl) (by kernel_rfl) (fun _ _ _ h => h) rfl (fun W h => by go_simp) hz ?_
      refine wpAnyH_quiet (i := 7) (v := .agg #[.int .i64 (kn : Int), .int .i64 lo, .int .i64 hi', .int .i64 fr, .int .i64 so, .int .i64 byy, .int .i64 co, .int .i64 af]) rfl (by kernel_rfl) (by kernel_rfl) (by kernel_rfl) (fun _ _ _ h => h) rfl (fun W h => by have g0 := (h.cell (p := ⟨jb, jo + i * 8, none⟩) ljb).trans hc0; have g1 := (h.cell (p := ⟨jb, jo + i * 8 + 1, none⟩) ljb).trans hc1; have g2 := (h.cell (p := ⟨jb, jo + i * 8 + 2, none⟩) ljb).trans hc2; have g3 := (h.cell (p := ⟨jb, jo + i * 8 + 3, none⟩) ljb).trans hc3; have g4 := (h.cell (p := ⟨jb, jo + i * 8 + 4, none⟩) ljb).trans hc4; have g5 := (h.cell (p := ⟨jb, jo + i * 8 + 5, none⟩) ljb).trans hc5; have g6 := (h.cell (p := ⟨jb, jo + i * 8 + 6, none⟩) ljb).trans hc6; have g7 := (h.cell (p := ⟨jb, jo + i * 8 + 7, none⟩) ljb).trans hc7; go_simp) hz ?_
      refine wpAnyH_step (i := 8) (by kernel_rfl) rfl ?_
      go_wp2
      refine ⟨(below_alloc (Below.refl _ _) _).drew, ?_⟩
      refine wpAnyH_step (i := 9) (by kernel_rfl) rfl ?_
      go_wp2
      refine ⟨(below_alloc (Below.refl _ _) _).drew, ?_⟩
      refine wpAnyH_done (by kernel_rfl) ?_ _
      have hbq := (below_alloc (Below.refl _ wr) (.cells #[.int .i64 (kn : Int), .int .i64 lo, .int .i64 hi', .int .i64 fr, .int .i64 so, .int .i64 byy, .int .i64 co, .int .i64 af] 48)).drew
      have hq : (wr.alloc (.cells #[.int .i64 (kn : Int), .int .i64 lo, .int .i64 hi', .int .i64 fr, .int .i64 so, .int .i64 byy, .int .i64 co, .int .i64 af] 48)).drew.heap[wr.heap.size]? = some (.cells #[.int .i64 (kn : Int), .int .i64 lo, .int .i64 hi', .int .i64 fr, .int .i64 so, .int .i64 byy, .int .i64 co, .int .i64 af] 48 (0, 0)) := alloc_at (w := wr) (o := .cells #[.int .i64 (kn : Int), .int .i64 lo, .int .i64 hi', .int .i64 fr, .int .i64 so, .int .i64 byy, .int .i64 co, .int .i64 af] 48) (n := wr.heap.size) rfl
      have hxq := hx.below hbq
      have hsk2 := (hbq.cell (p := ⟨xb, xo + kn, none⟩) lxb).trans hsk
      have lxb2 := Nat.lt_of_lt_of_le lxb hbq.size
      have hbqr := hid (below_low hbq hbr.out (by have := hbr.out.size; omega))
      have hrow2 := hid (hrow.out.below hbq)
      obtain ⟨qb, hqb⟩ : ∃ qb, wr.heap.size = qb := ⟨_, rfl⟩
      simp only [hqb] at hq ⊢
      have hrl : ∀ q, q < p.length → (wr.alloc (.cells #[.int .i64 (kn : Int), .int .i64 lo, .int .i64 hi', .int .i64 fr, .int .i64 so, .int .i64 byy, .int .i64 co, .int .i64 af] 48)).drew.cell? ⟨rb, ro + q, none⟩ = some (.int .i64 ((p.getD q 0 : Nat) : Int)) := fun q hq => by
        have := hrc q (by simpa using hq)
        rw [getD_intsK] at this
        exact (hbq.cell (p := ⟨rb, ro + q, none⟩) lrb).trans this
      have him2 : ∀ q, q < p.length → p.getD q 0 < M.jobs.length := fun q hq => hp'.out _ (by
        rw [List.getD_eq_getElem?_getD, List.getElem?_eq_getElem hq]
        exact List.getElem_mem _)
      have hjl : ∀ i, i < M.jobs.length → (wr.alloc (.cells #[.int .i64 (kn : Int), .int .i64 lo, .int .i64 hi', .int .i64 fr, .int .i64 so, .int .i64 byy, .int .i64 co, .int .i64 af] 48)).drew.cell? ⟨jb, jo + i * 8, none⟩ = some (.int .i64 (M.job i).kind) := fun i hi => (hbq.cell (p := ⟨jb, jo + i * 8, none⟩) ljb).trans (hjq i hi 0 (by decide))
      have lrb2 := Nat.lt_of_lt_of_le lrb hbq.size
      have ljb2 := Nat.lt_of_lt_of_le ljb hbq.size
      clear hc0 hc1 hc2 hc3 hc4 hc5 hc6 hc7 lm cm hx hsk lxb hrc hjq hjc lrb ljb
      generalize (wr.alloc (.cells #[.int .i64 (kn : Int), .int .i64 lo, .int .i64 hi', .int .i64 fr, .int .i64 so, .int .i64 byy, .int .i64 co, .int .i64 af] 48)).drew = wq at hq hxq hsk2 lxb2 hbqr hrow2 hrl hjl lrb2 ljb2 hbq ⊢
      clear hbq
      have lm := (cells_of hxq.m).1
      have cm := (cells_of hxq.m).2
      have lq := (cells_of hq).1
      have cq := (cells_of hq).2
      generalize nowAt M true p k = now at hns hnb ⊢
      obtain ⟨now2, hn2⟩ : ∃ now2, nowAt M true p (k + 1) = now2 := ⟨_, rfl⟩
      have hnk1 := hid hn2
      rw [hn2] at hns hnb2
      clear hn2
      by_cases hk0 : k = 0
      · have ht0 : ((k : Int) == 0) = true := by rw [beq_iff_eq]; omega
        rw [if_neg (fun h => h.1 hk0)] at hns
        simp only [if_true] at hns
        go_upto_region 7 with fail
        refine wp_region_later (by kernel_rfl) (by kernel_rfl) ?_
        intro hxl
        repeat (go_big_quiet_step (fail))
        refine wpQuiet_nil ?_
        rintro w9 ⟨x, hxw⟩
        have hb9 := x.below
        rw [← hxw] at hb9
        clear hxl hxw x
        have hrow3 := hid (hrow2.out.below hb9)
        have hbqr3 := hid (below_via hb9 hbqr.out)
        have hq := (hb9.block _ lq).trans hq
        have hsk2 := (hb9.cell (p := ⟨xb, xo + kn, none⟩) lxb2).trans hsk2
        have hm2 := (hb9.block _ (by have := (cells_of hxq.m).1; omega)).trans hxq.m
        clear lq cq lm cm
        have lq := (cells_of hq).1
        have cq := (cells_of hq).2
        have lm := (cells_of hm2).1
        have cm := (cells_of hm2).2
        clear hq hm2
        go_wp2_with (at_builtin; refine wpList_append_row intK rfl _ _ rfl w1.heap.size u7 (doneL M true (p.take k)) [_] rfl (hrow3.out.below (below_alloc (Below.refl _ _) _)) _ 0 1 1 rfl rfl (row_one intK _ _ _ _ rfl) (by simp only [doneL_length, List.length_take, List.length_cons, List.length_nil]; omega) (by have := hbqr3.out.size; simp; omega) ?_; intro v' w6 hown6 hb6 _)
        all_goals
          go_roundw
          case rel =>
            refine ⟨k + 1, by omega, by go_num, by rw [hnk1.out]; exact congrArg (Value.int .i64) (by split <;> omega), hid ?_, hid (below_low hb6 (below_alloc hbqr3.out _) (Nat.le_refl _))⟩
            rw [hdt.out]
            exact own_eq hown6 (by rw [hnk1.out]; split <;> omega)
          case measure => simp [intOf]; omega
      · obtain ⟨q, hqk⟩ : ∃ q, k = q + 1 := ⟨k - 1, by omega⟩
        have ht0 : ((k : Int) == 0) = false := by rw [beq_eq_false_iff_ne]; omega
        have hw1 : IntKind.i64.wrap ((k : Int) - 1) = (q : Int) := by rw [IntWalk.i64_in _ (by omega)]; omega
        have hqi : (q : Int) < (p.length : Int) := by omega
        have hrq := hrl q (by omega)
        have hii2 := him2 q (by omega)
        have hjc2 := hjl _ hii2
        rw [show k - 1 = q by omega] at hns
        clear hqk
        obtain ⟨kq, hkq0⟩ : ∃ kq, (M.job (p.getD q 0)).kind = kq := ⟨_, rfl⟩
        rw [hkq0] at hns hjc2
        clear hkq0
        obtain ⟨i2, hi20⟩ : ∃ i2, p.getD q 0 = i2 := ⟨_, rfl⟩
        rw [hi20] at hrq hii2 hjc2
        clear hi20
        have hi2i : (i2 : Int) < (M.jobs.length : Int) := by omega
        clear hrl hjl him2
        by_cases hkq : kq = (kn : Int)
        · have ht1 : (kq != (kn : Int)) = false := by rw [bne_eq_false_iff_eq]; exact hkq
          have ht2 : (kq == (kn : Int)) = true := by rw [beq_iff_eq]; exact hkq
          rw [if_pos ⟨hk0, hkq⟩] at hns
          simp only [if_true] at hns
          go_upto_region 7 with fail
          refine wp_region_later (by kernel_rfl) (by kernel_rfl) ?_
          intro hxl
          repeat (go_big_quiet_step (fail))
          refine wpQuiet_nil ?_
          rintro w9 ⟨x, hxw⟩
          have hb9 := x.below
          rw [← hxw] at hb9
          clear hxl hxw x
          have hrow3 := hid (hrow2.out.below hb9)
          have hbqr3 := hid (below_via hb9 hbqr.out)
          have hq := (hb9.block _ lq).trans hq
          have hsk2 := (hb9.cell (p := ⟨xb, xo + kn, none⟩) lxb2).trans hsk2
          have hm2 := (hb9.block _ (by have := (cells_of hxq.m).1; omega)).trans hxq.m
          clear lq cq lm cm
          have lq := (cells_of hq).1
          have cq := (cells_of hq).2
          have lm := (cells_of hm2).1
          have cm := (cells_of hm2).2
          clear hq hm2
          go_wp2_with (at_builtin; refine wpList_append_row intK rfl _ _ rfl w1.heap.size u7 (doneL M true (p.take k)) [_] rfl (hrow3.out.below (below_alloc (Below.refl _ _) _)) _ 0 1 1 rfl rfl (row_one intK _ _ _ _ rfl) (by simp only [doneL_length, List.length_take, List.length_cons, List.length_nil]; omega) (by have := hbqr3.out.size; simp; omega) ?_; intro v' w6 hown6 hb6 _)
          all_goals
            go_roundw
            case rel =>
              refine ⟨k + 1, by omega, by go_num, by rw [hnk1.out]; exact congrArg (Value.int .i64) (by split <;> omega), hid ?_, hid (below_low hb6 (below_alloc hbqr3.out _) (Nat.le_refl _))⟩
              rw [hdt.out]
              exact own_eq hown6 (by rw [hnk1.out]; split <;> omega)
            case measure => simp [intOf]; omega
        · have ht1 : (kq != (kn : Int)) = true := by rw [bne_iff_ne]; exact hkq
          have ht2 : (kq == (kn : Int)) = false := by rw [beq_eq_false_iff_ne]; exact hkq
          rw [if_neg (fun h => hkq h.2)] at hns
          simp only [if_true] at hns
          go_upto_region 7 with fail
          refine wp_region_later (by kernel_rfl) (by kernel_rfl) ?_
          intro hxl
          repeat (go_big_quiet_step (fail))
          refine wpQuiet_nil ?_
          rintro w9 ⟨x, hxw⟩
          have hb9 := x.below
          rw [← hxw] at hb9
          clear hxl hxw x
          have hrow3 := hid (hrow2.out.below hb9)
          have hbqr3 := hid (below_via hb9 hbqr.out)
          have hq := (hb9.block _ lq).trans hq
          have hsk2 := (hb9.cell (p := ⟨xb, xo + kn, none⟩) lxb2).trans hsk2
          have hm2 := (hb9.block _ (by have := (cells_of hxq.m).1; omega)).trans hxq.m
          clear lq cq lm cm
          have lq := (cells_of hq).1
          have cq := (cells_of hq).2
          have lm := (cells_of hm2).1
          have cm := (cells_of hm2).2
          clear hq hm2
          go_wp2_with (at_builtin; refine wpList_append_row intK rfl _ _ rfl w1.heap.size u7 (doneL M true (p.take k)) [_] rfl (hrow3.out.below (below_alloc (Below.refl _ _) _)) _ 0 1 1 rfl rfl (row_one intK _ _ _ _ rfl) (by simp only [doneL_length, List.length_take, List.length_cons, List.length_nil]; omega) (by have := hbqr3.out.size; simp; omega) ?_; intro v' w6 hown6 hb6 _)
          all_goals
            go_roundw
            case rel =>
              refine ⟨k + 1, by omega, by go_num, by rw [hnk1.out]; exact congrArg (Value.int .i64) (by split <;> omega), hid ?_, hid (below_low hb6 (below_alloc hbqr3.out _) (Nat.le_refl _))⟩
              rw [hdt.out]
              exact own_eq hown6 (by rw [hnk1.out]; split <;> omega)
            case measure => simp [intOf]; omega
    · obtain rfl : k = p.length := by omega
      have hr1 := hrow.out
      rw [List.take_length] at hr1
      go_wp2
      go_ret
      exact ⟨_, rfl, hr1.low hxi.out.bel.size, below_low hbr.out hxi.out.bel hxi.out.bel.size⟩
end Go.Proofs.Ytcgkglonnmkfcaa

namespace Go.Proofs.Ytcgkglonnmkfcaa
open Go.RowKit Go.Lap Go.Shelf

theorem worksL_take (M : Mend) : ∀ (p : List Nat) (x : Sit) (n : Nat), worksL M x (p.take n) = (worksL M x p).take n
  | [], _, n => by simp [worksL]
  | i :: p, x, 0 => rfl
  | i :: p, x, n + 1 => by simp [worksL, worksL_take M p]
theorem doneL_get (M : Mend) (most : Bool) {p : List Nat} {k : Nat} (hk : k < p.length) : (doneL M most p).getD k 0 = nowAt M most p (k + 1) := by
  have h1 := doneL_take M most hk
  have h2 : doneL M most (p.take (k + 1)) = (doneL M most p).take (k + 1) := by unfold doneL; rw [worksL_take, List.map_take]
  rw [h2] at h1
  have h3 : ((doneL M most p).take (k + 1)).getD k 0 = nowAt M most p (k + 1) := by
    rw [h1, List.getD_eq_getElem?_getD, List.getElem?_append_right (by simp [doneL_length]; omega)]
    simp [doneL_length, Nat.min_eq_left (Nat.le_of_lt hk)]
  rw [← h3, List.getD_eq_getElem?_getD, List.getD_eq_getElem?_getD, List.getElem?_take_of_lt (by omega)]

set_option maxRecDepth 100000 in
set_option maxHeartbeats 4000000 in
theorem refBroken_any (M : Mend) (hM : M.Ok) (sv jv lv : Value) (p : List Nat) (hp : ∀ i, i ∈ p → i < M.jobs.length) (hpl : p.length ≤ 6) (k : Nat) (hlt : k < p.length) (R : Nat) (hR : R ≤ 63) (w : World) (hS : IntsAt w sv M.setup) (hJ : JobsAt w jv M.jobs) (hlv : IntsAt w lv (ints p)) :
    Calls Try.prog 53 #[.agg #[sv, jv], lv, .int .i64 (k : Int), .int .i64 (R : Int)] w fun e w' => e = .returned (.int .i64 (brokenAt M R p k)) ∧ Below w.heap.size w w' := by
  have hlate : nowAt M true p (k + 1) = (benchOf M (p.take (k + 1))).late := by rw [← benchOf_sit]; rfl
  have him : p.getD k 0 < M.jobs.length := hp _ (by
    rw [List.getD_eq_getElem?_getD, List.getElem?_eq_getElem hlt]
    exact List.getElem_mem _)
  have hbk := brokenAt_eq M hM R p k him
  rw [← hlate] at hbk
  obtain ⟨late, hla⟩ : ∃ x, nowAt M true p (k + 1) = x := ⟨_, rfl⟩
  obtain ⟨ob, hob⟩ : ∃ x, brokenAt M R p k = x := ⟨_, rfl⟩
  rw [hla, hob] at hbk
  rw [hob]
  have hlate' := hid ((doneL_get M true hlt).trans hla)
  clear hlate hla hob
  have hS' := hid hS
  have hJ' := hid hJ
  have hlv' := hid hlv
  have HD := hid (fun W (h : Below w.heap.size w W) => refDone_true M hM sv jv lv p hp hpl W (hS.below h) (hJ.below h) (hlv.below h))
  obtain ⟨sa, scap, rfl, _⟩ := hS
  obtain ⟨ja, jcap, rfl, _⟩ := hJ
  obtain ⟨la, lcap, rfl, _⟩ := hlv
  have hpL : (ints p).length = p.length := by simp
  rw [hpL] at hlv' HD ⊢
  have HAt := hid (fun W (h : Below w.heap.size w W) (n : Nat) => at_any (.slice la p.length lcap) (ints p) (by simp; omega) (n : Int) W (hlv'.out.below h))
  have hx := KeepB.start w (.slice sa M.setup.length scap) (.slice ja M.jobs.length jcap)
  have hlen := hM.len
  have hkind := hM.kind _ him
  have hbyy := hM.by_ _ him
  have haft := hM.after _ him
  have hM' := hid hM
  clear hpL hM hp
  go_enter Try.func53, Try.ntmps53
  go_upto_region 1 with fail
  generalize w.alloc (.cells #[.slice sa M.setup.length scap, .slice ja M.jobs.length jcap] 25) = w1 at hx ⊢
  have lm := (cells_of hx.m).1
  have cm := (cells_of hx.m).2
  have hki : (k : Int) < (p.length : Int) := by omega
  obtain ⟨rb, ro, rcap, e1, lrb, hrc⟩ := (hlv'.out.below hx.bel).some (fun e => by have := congrArg List.length e; simp only [List.length_map, List.length_nil] at this; omega)
  injection e1 with e1 e2 e3
  subst e1
  subst e3
  clear e2
  have hrj := hrc k (by simpa using hlt)
  rw [getD_intsK] at hrj
  obtain ⟨i, hi⟩ : ∃ i, p.getD k 0 = i := ⟨_, rfl⟩
  rw [hi] at hrj him hkind hbyy haft hbk
  have hi' := hid hi
  clear hi
  have hii : (i : Int) < (M.jobs.length : Int) := by omega
  obtain ⟨a', c', e1, hjc⟩ := hJ'.out.below hx.bel
  injection e1 with e1 e2 e3
  subst e1
  subst e3
  clear e2
  obtain ⟨jb, jo, rfl, hjq⟩ := hjc (fun e => by rw [e] at him; simp at him)
  have hc0 := hjq i him 0 (by decide)
  have hc1 := hjq i him 1 (by decide)
  have hc2 := hjq i him 2 (by decide)
  have hc3 := hjq i him 3 (by decide)
  have hc4 := hjq i him 4 (by decide)
  have hc5 := hjq i him 5 (by decide)
  have hc6 := hjq i him 6 (by decide)
  have hc7 := hjq i him 7 (by decide)
  rw [show M.jobs.getD i Job.none = M.job i from rfl] at hc0 hc1 hc2 hc3 hc4 hc5 hc6 hc7
  simp only [Job.cells, List.getD_cons_zero, List.getD_cons_succ, Nat.add_zero] at hc0 hc1 hc2 hc3 hc4 hc5 hc6 hc7
  have ljb := cell_lt hc0
  obtain ⟨kn, hknn⟩ : ∃ kn : Nat, (M.job i).kind = (kn : Int) := ⟨(M.job i).kind.toNat, by omega⟩
  obtain ⟨A, hA⟩ : ∃ A : Nat, (M.job i).after = (A : Int) := ⟨(M.job i).after.toNat, by omega⟩
  obtain ⟨lo, eloo⟩ : ∃ x, (M.job i).lo = x := ⟨_, rfl⟩
  obtain ⟨hh, ehii⟩ : ∃ x, (M.job i).hi = x := ⟨_, rfl⟩
  obtain ⟨fr, efrr⟩ : ∃ x, (M.job i).from_ = x := ⟨_, rfl⟩
  obtain ⟨so, esoo⟩ : ∃ x, (M.job i).soft = x := ⟨_, rfl⟩
  obtain ⟨byy, ebyy⟩ : ∃ x, (M.job i).by_ = x := ⟨_, rfl⟩
  obtain ⟨co, ecoo⟩ : ∃ x, (M.job i).cost = x := ⟨_, rfl⟩
  rw [hknn] at hc0
  rw [eloo] at hc1
  rw [ehii] at hc2
  rw [efrr] at hc3
  rw [esoo] at hc4
  rw [ebyy] at hc5 hbyy hbk
  rw [ecoo] at hc6
  rw [hA] at hc7 haft
  have hA64 : (2 : Int) ^ M.jobs.length ≤ 64 := by
    have h6 : (2 : Nat) ^ M.jobs.length ≤ 2 ^ 6 := Nat.pow_le_pow_right (by decide) hlen
    have h7 : (2 : Nat) ^ 6 = 64 := by decide
    have h8 : ((2 : Int) ^ M.jobs.length) = ((2 ^ M.jobs.length : Nat) : Int) := by simp
    rw [h8]; omega
  have hAl : A < 64 := by omega
  have hbk := hid hbk
  clear hA64 haft hknn eloo ehii efrr esoo ebyy ecoo hkind
  refine wp_region_held (S := fun W => Below w1.heap.size w1 W) (by kernel_rfl) ?_
  have hz : Below w1.heap.size w1 w1.drew := (Below.refl _ _).drew
  refine wpAnyH_quiet (i := 0) (v := .pointer (some ⟨w.heap.size, 1, none⟩)) rfl (by kernel_rfl) (by kernel_rfl) (by kernel_rfl) (fun _ _ _ h => h) rfl (fun W h => by go_simp) hz ?_
  refine wpAnyH_quiet (i := 1) (v := .slice (some ⟨jb, jo, none⟩) M.jobs.length jcap) rfl (by kernel_rfl) (by kernel_rfl) (by kernel_rfl) (fun _ _ _ h => h) rfl (fun W h => by have hm1 := (h.cell (p := ⟨w.heap.size, 1, none⟩) lm).trans (cm 1); go_simp) hz ?_
  refine wpAnyH_quiet (i := 2) (v := .slice (some ⟨rb, ro, none⟩) p.length lcap) rfl (by kernel_rfl) (by kernel_rfl) (by kernel_rfl) (fun _ _ _ h => h) rfl (fun W h => by go_simp) hz ?_
  refine wpAnyH_quiet (i := 3) (v := .int .i64 (k : Int)) rfl (by kernel_rfl) (by kernel_rfl) (by kernel_rfl) (fun _ _ _ h => h) rfl (fun W h => by go_simp) hz ?_
  refine wpAnyH_quiet (i := 4) (v := .pointer (some ⟨rb, ro + k, none⟩)) rfl (by kernel_rfl) (by kernel_rfl) (by kernel_rfl) (fun _ _ _ h => h) rfl (fun W h => by go_simp) hz ?_
  refine wpAnyH_quiet (i := 5) (v := .int .i64 (i : Int)) rfl (by kernel_rfl) (by kernel_rfl) (by kernel_rfl) (fun _ _ _ h => h) rfl (fun W h => by have hm1 := (h.cell (p := ⟨rb, ro + k, none⟩) lrb).trans hrj; go_simp) hz ?_
  refine wpAnyH_quiet (i := 6) (v := .pointer (some ⟨jb, jo + i * 8, none⟩)) rfl (by kernel_rfl) (by kernel_rfl) (by kernel_rfl) (fun _ _ _ h => h) rfl (fun W h => by go_simp) hz ?_
  refine wpAnyH_quiet (i := 7) (v := .agg #[.int .i64 (kn : Int), .int .i64 lo, .int .i64 hh, .int .i64 fr, .int .i64 so, .int .i64 byy, .int .i64 co, .int .i64 (A : Int)]) rfl (by kernel_rfl) (by kernel_rfl) (by kernel_rfl) (fun _ _ _ h => h) rfl (fun W h => by have g0 := (h.cell (p := ⟨jb, jo + i * 8, none⟩) ljb).trans hc0; have g1 := (h.cell (p := ⟨jb, jo + i * 8 + 1, none⟩) ljb).trans hc1; have g2 := (h.cell (p := ⟨jb, jo + i * 8 + 2, none⟩) ljb).trans hc2; have g3 := (h.cell (p := ⟨jb, jo + i * 8 + 3, none⟩) ljb).trans hc3; have g4 := (h.cell (p := ⟨jb, jo + i * 8 + 4, none⟩) ljb).trans hc4; have g5 := (h.cell (p := ⟨jb, jo + i * 8 + 5, none⟩) ljb).trans hc5; have g6 := (h.cell (p := ⟨jb, jo + i * 8 + 6, none⟩) ljb).trans hc6; have g7 := (h.cell (p := ⟨jb, jo + i * 8 + 7, none⟩) ljb).trans hc7; go_simp) hz ?_
  refine wpAnyH_step (i := 8) (by kernel_rfl) rfl ?_
  go_wp2
  refine ⟨(below_alloc (Below.refl _ _) _).drew, ?_⟩
  refine wpAnyH_step (i := 9) (by kernel_rfl) rfl ?_
  go_wp2
  refine ⟨(below_alloc (Below.refl _ _) _).drew, ?_⟩
  refine wpAnyH_done (by kernel_rfl) ?_ _
  have hbq := (below_alloc (Below.refl _ w1) (.cells #[.int .i64 (kn : Int), .int .i64 lo, .int .i64 hh, .int .i64 fr, .int .i64 so, .int .i64 byy, .int .i64 co, .int .i64 (A : Int)] 48)).drew
  have hq : (w1.alloc (.cells #[.int .i64 (kn : Int), .int .i64 lo, .int .i64 hh, .int .i64 fr, .int .i64 so, .int .i64 byy, .int .i64 co, .int .i64 (A : Int)] 48)).drew.heap[w1.heap.size]? = some (.cells #[.int .i64 (kn : Int), .int .i64 lo, .int .i64 hh, .int .i64 fr, .int .i64 so, .int .i64 byy, .int .i64 co, .int .i64 (A : Int)] 48 (0, 0)) := alloc_at (w := w1) (o := .cells #[.int .i64 (kn : Int), .int .i64 lo, .int .i64 hh, .int .i64 fr, .int .i64 so, .int .i64 byy, .int .i64 co, .int .i64 (A : Int)] 48) (n := w1.heap.size) rfl
  have hxq := hx.below hbq
  obtain ⟨qb, hqb⟩ : ∃ qb, w1.heap.size = qb := ⟨_, rfl⟩
  simp only [hqb] at hq ⊢
  clear hc0 hc1 hc2 hc3 hc4 hc5 hc6 hc7 lm cm hx hrc hjq hjc lrb ljb hrj
  generalize (w1.alloc (.cells #[.int .i64 (kn : Int), .int .i64 lo, .int .i64 hh, .int .i64 fr, .int .i64 so, .int .i64 byy, .int .i64 co, .int .i64 (A : Int)] 48)).drew = wq at hq hxq hbq ⊢
  clear hbq
  have lm := (cells_of hxq.m).1
  have cm := (cells_of hxq.m).2
  have lq := (cells_of hq).1
  have cq := (cells_of hq).2
  have HAt1 := hid (HAt.out wq hxq.bel)
  have HD1 := hid (HD.out wq.drew hxq.bel.drew)
  clear HAt HD
  go_wp2
  go_loopw [10, 11] (fun ix _ wr => ∃ n : Nat, n ≤ M.jobs.length ∧ ix = .int .i64 n ∧ Hid (∀ j, j < n → waitsAt M R p k j = false) ∧ wq = wr) (fun ix _ _ => M.jobs.length - (intOf ix).toNat)
  case atStart => exact ⟨0, by omega, rfl, hid (fun j hj => by omega), rfl⟩
  case round =>
    obtain ⟨n, hn, rfl, hwt, rfl⟩ := hrel
    by_cases hltn : n < M.jobs.length
    · have hni : (n : Int) < (M.jobs.length : Int) := by omega
      have HAk := HAt1.out n
      have H1 := has_any (A : Int) n (by omega) (by omega) (by omega) wq
      have H2 := has_any (R : Int) n (by omega) (by omega) (by omega) wq
      have hwk : waitsAt M R p k n = (A.testBit n && !R.testBit n && (decide (atOf (n : Int) 0 (ints p) < 0) || decide ((k : Int) < atOf (n : Int) 0 (ints p)))) := by
        unfold waitsAt
        rw [hi'.out, hA]
        rfl
      rw [Int.toNat_natCast] at H1 H2
      obtain ⟨y, hy⟩ : ∃ y, atOf (n : Int) 0 (ints p) = y := ⟨_, rfl⟩
      rw [hy] at HAk hwk
      clear hy
      obtain ⟨b1, hb1⟩ : ∃ y, A.testBit n = y := ⟨_, rfl⟩
      obtain ⟨b2, hb2⟩ : ∃ y, R.testBit n = y := ⟨_, rfl⟩
      rw [hb1] at H1 hwk
      rw [hb2] at H2 hwk
      clear hb1 hb2
      have HAk := hid HAk
      have H1 := hid H1
      have H2 := hid H2
      obtain ⟨wk, hwk0⟩ : ∃ x, waitsAt M R p k n = x := ⟨_, rfl⟩
      rw [hwk0] at hwk
      have hwk0 := hid hwk0
      cases b1 <;> cases b2 <;> (by_cases hy0 : y < 0) <;> (by_cases hyk : (k : Int) < y)
      all_goals (try (exfalso; omega))
      all_goals
        simp only [hy0, hyk, decide_true, decide_false, Bool.and_true, Bool.and_false, Bool.not_true, Bool.not_false, Bool.or_true, Bool.or_false] at hwk
        first
          | (have hw1 : waitsAt M R p k n = true := hwk0.out.trans hwk; have hob1 : ob = 1 := (by rw [hbk.out, if_pos (List.any_eq_true.2 ⟨n, List.mem_range.2 hltn, hw1⟩)]))
          | have hw1 := hid (show waitsAt M R p k n = false from hwk0.out.trans hwk)
        clear hwk
        first
          | have hy1 : decide (y < 0) = true := decide_eq_true hy0
          | have hy1 : decide (y < 0) = false := decide_eq_false hy0
        first
          | have hy2 : decide ((k : Int) < y) = true := decide_eq_true hyk
          | have hy2 : decide ((k : Int) < y) = false := decide_eq_false hyk
        go_wp2_with (first | (go_at_call 75; with_reducible refine HAk.out.mono ?_; rintro e w2 ⟨rfl, rfl⟩) | (go_at_call 61; first | (with_reducible refine H1.out.mono ?_; rintro e w2 ⟨rfl, rfl⟩) | (with_reducible refine H2.out.mono ?_; rintro e w2 ⟨rfl, rfl⟩)))
      all_goals first
        | (go_ret
           exact ⟨by rw [hob1]; rfl, hxq.bel⟩)
        | (go_roundw
           case rel =>
             exact ⟨n + 1, by omega, by go_num, hid (fun j hj => by
               rcases Nat.lt_or_ge j n with h | h
               · exact hwt.out j h
               · obtain rfl : j = n := by omega
                 exact hw1.out), by simp⟩
           case measure => simp [intOf]; omega)
    · obtain rfl : n = M.jobs.length := by omega
      have hany : (List.range M.jobs.length).any (fun k' => waitsAt M R p k k') = false := by
        rw [List.any_eq_false]
        intro j hj
        rw [hwt.out j (List.mem_range.1 hj)]
        decide
      have hob2 : ob = if byy < late then 2 else 0 := by rw [hbk.out, hany]; rfl
      have hob2 := hid hob2
      clear hany
      have hz0 : Below wq.heap.size wq wq.drew := (Below.refl _ _).drew
      have hxS := hid hxq
      have hqS := hid hq
      go_upto_region 8 with fail
      refine wp_region_held (S := fun W => Below wq.heap.size wq W) (by kernel_rfl) ?_
      refine wpAnyH_quiet (i := 0) (v := .agg #[.slice sa M.setup.length scap, .slice (some ⟨jb, jo, none⟩) M.jobs.length jcap]) rfl (by kernel_rfl) (by kernel_rfl) (by kernel_rfl) (fun _ _ _ h => h) rfl (fun W h => by have hm3 := (h.block _ lm).trans hxS.out.m; have lm3 := (cells_of hm3).1; have cm3 := (cells_of hm3).2; go_simp) hz0 ?_
      refine wpAnyH_quiet (i := 1) (v := .slice (some ⟨rb, ro, none⟩) p.length lcap) rfl (by kernel_rfl) (by kernel_rfl) (by kernel_rfl) (fun _ _ _ h => h) rfl (fun W h => by go_simp) hz0 ?_
      refine wpAnyH_quiet (i := 3) (v := .int .i64 (k : Int)) rfl (by kernel_rfl) (by kernel_rfl) (by kernel_rfl) (fun _ _ _ h => h) rfl (fun W h => by go_simp) hz0 ?_
      refine wpAnyH_quiet (i := 6) (v := .pointer (some ⟨qb, 5, none⟩)) rfl (by kernel_rfl) (by kernel_rfl) (by kernel_rfl) (fun _ _ _ h => h) rfl (fun W h => by have hm3 := (h.block _ lq).trans hqS.out; have lm3 := (cells_of hm3).1; have cm3 := (cells_of hm3).2; go_simp) hz0 ?_
      refine wpAnyH_quiet (i := 7) (v := .int .i64 byy) rfl (by kernel_rfl) (by kernel_rfl) (by kernel_rfl) (fun _ _ _ h => h) rfl (fun W h => by have hm3 := (h.block _ lq).trans hqS.out; have lm3 := (cells_of hm3).1; have cm3 := (cells_of hm3).2; go_simp) hz0 ?_
      refine wpAnyH_step (i := 2) (by kernel_rfl) rfl ?_
      go_wp2_with (go_at_call 51; refine (HD1.out).mono ?_; rintro e w9 ⟨v9, rfl, hown9, hb9⟩)
      have hI9 := ints_at.2 hown9.at
      obtain ⟨cb, cof, ccap, rfl, lcb, hcc⟩ := hI9.some (fun e => by have := congrArg List.length e; rw [doneL_length] at this; simp only [List.length_nil] at this; omega)
      have hck := hcc k (by rw [doneL_length]; exact hlt)
      rw [hlate'.out] at hck
      rw [doneL_length]
      clear hcc hI9 hown9
      have hz9 := below_via hb9 hz0
      refine ⟨hz9, ?_⟩
      refine wpAnyH_step (i := 4) (by kernel_rfl) rfl ?_
      go_wp2
      refine ⟨hz9, ?_⟩
      refine wpAnyH_step (i := 5) (by kernel_rfl) rfl ?_
      go_wp2
      refine ⟨hz9, ?_⟩
      have hbw := hid (below_via hz9 hxq.bel)
      by_cases hll : byy < late
      · have hd1 : decide (byy < late) = true := decide_eq_true hll
        obtain rfl : ob = 2 := by rw [hob2.out, if_pos hll]
        refine wpAnyH_step (i := 8) (by kernel_rfl) rfl ?_
        go_wp2
        first
          | (refine ⟨hz9, ?_⟩
             refine wpAnyH_done (by kernel_rfl) ?_ _)
          | refine ⟨by kernel_rfl, ?_⟩
        go_wp2
        go_ret
        exact ⟨rfl, hbw.out⟩
      · have hd1 : decide (byy < late) = false := decide_eq_false hll
        obtain rfl : ob = 0 := by rw [hob2.out, if_neg hll]
        refine wpAnyH_step (i := 8) (by kernel_rfl) rfl ?_
        go_wp2
        first
          | (refine ⟨hz9, ?_⟩
             refine wpAnyH_done (by kernel_rfl) ?_ _)
          | refine ⟨by kernel_rfl, ?_⟩
        go_wp2
        go_ret
        exact ⟨rfl, hbw.out⟩
end Go.Proofs.Ytcgkglonnmkfcaa

namespace Go.Proofs.Ytcgkglonnmkfcaa
open Go.RowKit Go.Lap Go.Shelf

set_option maxRecDepth 100000 in
set_option maxHeartbeats 4000000 in
theorem refRight_any (M : Mend) (hM : M.Ok) (sv jv lv : Value) (p : List Nat) (hp : ∀ i, i ∈ p → i < M.jobs.length) (hpl : p.length ≤ 6) (R : Nat) (hR : R ≤ 63) (w : World) (hS : IntsAt w sv M.setup) (hJ : JobsAt w jv M.jobs) (hlv : IntsAt w lv (ints p)) :
    Calls Try.prog 55 #[.agg #[sv, jv], lv, .int .i64 (R : Int)] w fun e w' => e = .returned (.bool (goodB M R Bench.begin p)) ∧ Below w.heap.size w w' := by
  have HB := hid (fun W (h : Below w.heap.size w W) (k : Nat) (hk : k < p.length) => refBroken_any M hM sv jv lv p hp hpl k hk R hR W (hS.below h) (hJ.below h) (hlv.below h))
  obtain ⟨sa, scap, rfl, _⟩ := hS
  obtain ⟨ja, jcap, rfl, _⟩ := hJ
  obtain ⟨la, lcap, rfl, _⟩ := hlv
  have hpL : (ints p).length = p.length := by simp
  rw [hpL] at HB ⊢
  have hx := KeepB.start w (.slice sa M.setup.length scap) (.slice ja M.jobs.length jcap)
  obtain ⟨ob, hob⟩ : ∃ x, goodB M R Bench.begin p = x := ⟨_, rfl⟩
  rw [hob]
  have hob' := hid hob
  clear hpL hM hp hob hR
  go_enter Try.func55, Try.ntmps55
  go_upto_region 1 with fail
  generalize w.alloc (.cells #[.slice sa M.setup.length scap, .slice ja M.jobs.length jcap] 25) = w1 at hx ⊢
  go_wp2
  go_loopw [7] (fun ix wr => ∃ k : Nat, k ≤ p.length ∧ ix = .int .i64 k ∧ Hid (goodB M R (benchOf M (p.take k)) (p.drop k) = ob) ∧ KeepB w (.slice sa M.setup.length scap) (.slice ja M.jobs.length jcap) wr) (fun ix _ => p.length - (intOf ix).toNat)
  case atStart => exact ⟨0, by omega, rfl, hid hob'.out, hx⟩
  case round =>
    obtain ⟨k, hkk, rfl, hgd, hxr⟩ := hrel
    clear hx
    have lm := (cells_of hxr.m).1
    have cm := (cells_of hxr.m).2
    by_cases hlt : k < p.length
    · have hki : (k : Int) < (p.length : Int) := by omega
      have HBk := HB.out wr hxr.bel k hlt
      have hg2 := hid ((good_from M R p k hlt).symm.trans hgd.out)
      obtain ⟨b, hb⟩ : ∃ x, brokenAt M R p k = x := ⟨_, rfl⟩
      rw [hb] at HBk
      have HBk := hid HBk
      by_cases hb0 : b = 0
      · have hbt : (b != 0) = false := by rw [bne_eq_false_iff_eq]; exact hb0
        have hg3 : Hid (goodB M R (benchOf M (p.take (k + 1))) (p.drop (k + 1)) = ob) := hid (by
          have := hg2.out
          rw [hb, decide_eq_true hb0, Bool.true_and] at this
          exact this)
        clear hb0 hb hg2
        go_wp2_with (go_at_call 53; with_reducible refine HBk.out.mono ?_; rintro e w2 ⟨rfl, hb2⟩)
        go_roundw
        case rel => exact ⟨k + 1, by omega, by go_num, hg3, hxr.below hb2⟩
        case measure => simp [intOf]; omega
      · have hbt : (b != 0) = true := by rw [bne_iff_ne]; exact hb0
        obtain rfl : ob = false := by
          have := hg2.out
          rw [hb, decide_eq_false hb0, Bool.false_and] at this
          exact this.symm
        clear hb0 hb hg2
        go_wp2_with (go_at_call 53; with_reducible refine HBk.out.mono ?_; rintro e w2 ⟨rfl, hb2⟩)
        go_ret
        exact ⟨rfl, (hxr.below hb2).bel⟩
    · obtain rfl : k = p.length := by omega
      obtain rfl : ob = true := by
        have := hgd.out
        rw [List.drop_length] at this
        exact this.symm
      go_wp2
      go_ret
      exact ⟨rfl, hxr.bel⟩
end Go.Proofs.Ytcgkglonnmkfcaa

namespace Go.Proofs.Ytcgkglonnmkfcaa
open Go.RowKit Go.Lap Go.Shelf

/-- What is wrong with a mend or with an order. -/
def codeOf (M : Mend) (l : List Int) : Int := if M.valid then if ordB M.jobs.length l then 0 else 2 else 1

set_option maxRecDepth 100000 in
set_option maxHeartbeats 4000000 in
theorem refcheck_any (M : Mend) (sv jv lv : Value) (l : List Int) (hl : l.length ≤ 1000) (w : World) (hS : IntsAt w sv M.setup) (hJ : JobsAt w jv M.jobs) (hlv : IntsAt w lv l) :
    Calls Try.prog 50 #[.agg #[sv, jv], lv] w fun e w' => e = .returned (.int .i64 (codeOf M l)) ∧ Below w.heap.size w w' := by
  have HM := hid (fun W (h : Below w.heap.size w W) => refMend_any M sv jv W (hS.below h) (hJ.below h))
  have HO := hid (fun (hn : M.jobs.length ≤ 1000) W (h : Below w.heap.size w W) => refOrder_any M hn sv jv lv l hl W (hS.below h) (hJ.below h) (hlv.below h))
  obtain ⟨sa, scap, rfl, _⟩ := hS
  obtain ⟨ja, jcap, rfl, _⟩ := hJ
  obtain ⟨la, lcap, rfl, _⟩ := hlv
  have hx := KeepB.start w (.slice sa M.setup.length scap) (.slice ja M.jobs.length jcap)
  unfold codeOf
  cases hv : M.valid
  · go_enter Try.func50, Try.ntmps50
    go_upto_region 1 with fail
    generalize w.alloc (.cells #[.slice sa M.setup.length scap, .slice ja M.jobs.length jcap] 25) = w1 at hx ⊢
    have lm := (cells_of hx.m).1
    have cm := (cells_of hx.m).2
    have H1 := HM.out w1 hx.bel
    rw [hv] at H1
    have H1 := hid H1
    go_wp2_with (go_at_call 25; with_reducible refine H1.out.mono ?_; rintro e w2 ⟨rfl, hb2⟩)
    go_ret
    exact ⟨rfl, (hx.below hb2).bel⟩
  · have HO1 := hid (HO.out (by have := (Mend.valid_ok hv).len; omega))
    obtain ⟨ob, hob⟩ : ∃ x, ordB M.jobs.length l = x := ⟨_, rfl⟩
    rw [hob] at HO1 ⊢
    go_enter Try.func50, Try.ntmps50
    go_upto_region 1 with fail
    generalize w.alloc (.cells #[.slice sa M.setup.length scap, .slice ja M.jobs.length jcap] 25) = w1 at hx ⊢
    have lm := (cells_of hx.m).1
    have cm := (cells_of hx.m).2
    have H1 := HM.out w1 hx.bel
    rw [hv] at H1
    have H1 := hid H1
    cases ob
    all_goals
      go_wp2_with (first | (go_at_call 25; with_reducible refine H1.out.mono ?_; rintro e w2 ⟨rfl, hb2⟩; have hx := hx.below hb2; have lm := (cells_of hx.m).1; have cm := (cells_of hx.m).2; have HO2 := hid (HO1.out _ hx.bel)) | (go_at_call 38; with_reducible refine HO2.out.mono ?_; rintro e w3 ⟨rfl, hb3⟩; have hx := hx.below hb3))
      go_ret
      exact ⟨rfl, hx.bel⟩

theorem check_none {M : Mend} {p : List Nat} (hv : M.valid = true) (ho : ordB M.jobs.length (ints p) = true) (h : firstBad M 0 Bench.begin p = none) : checkOf M (ints p) = (0, 0, 4) := by
  unfold checkOf
  rw [if_pos hv, if_pos ho, ints_toNat, if_pos (badOf_zero.2 h)]
theorem check_some {M : Mend} {p : List Nat} {i : Nat} {b : Int} (hv : M.valid = true) (ho : ordB M.jobs.length (ints p) = true) (h : firstBad M 0 Bench.begin p = some (i, b)) : checkOf M (ints p) = ((i : Int), b, 0) := by
  have hb : badOf M 0 p = ((i : Int), b) := by unfold badOf; rw [h]
  have hn : ¬ (badOf M 0 p).2 = 0 := fun h2 => by rw [badOf_zero.1 h2] at h; cases h
  unfold checkOf
  rw [if_pos hv, if_pos ho, ints_toNat, if_neg hn, hb]
theorem check_code {M : Mend} {l : List Int} (h : ¬ (M.valid = true ∧ ordB M.jobs.length l = true)) : codeOf M l ≠ 0 ∧ checkOf M l = (0, 0, codeOf M l) := by
  unfold checkOf codeOf
  cases hv : M.valid
  · simp
  · cases ho : ordB M.jobs.length l
    · simp
    · exact (h ⟨hv, ho⟩).elim

set_option maxRecDepth 100000 in
set_option maxHeartbeats 4000000 in
theorem refCheck_any (M : Mend) (sv jv lv : Value) (l : List Int) (hl : l.length ≤ 1000) (w : World) (hS : IntsAt w sv M.setup) (hJ : JobsAt w jv M.jobs) (hlv : IntsAt w lv l) :
    Calls Try.prog 17 #[.agg #[sv, jv], lv] w fun e w' => e = .returned (.tuple #[.int .i64 (checkOf M l).1, .int .i64 (checkOf M l).2.1, .int .i64 (checkOf M l).2.2]) ∧ Below w.heap.size w w' := by
  have HC := hid (fun W (h : Below w.heap.size w W) => refcheck_any M sv jv lv l hl W (hS.below h) (hJ.below h) (hlv.below h))
  by_cases hgood : M.valid = true ∧ ordB M.jobs.length l = true
  · obtain ⟨hv, ho⟩ := hgood
    have hcode : codeOf M l = 0 := by unfold codeOf; rw [if_pos hv, if_pos ho]
    rw [hcode] at HC
    obtain ⟨p, rfl, hfr, hpn⟩ := ordB_ints.1 ho
    have hM := Mend.valid_ok hv
    have hp : ∀ i, i ∈ p → i < M.jobs.length := fun i hi => ((freshB_iff.1 hfr).2 i hi).1
    have hpl : p.length ≤ 6 := by have := hM.len; omega
    have HB := hid (show ∀ (W : World), Below w.heap.size w W → ∀ (k : Nat), k < p.length → Calls Try.prog 53 #[.agg #[sv, jv], lv, .int .i64 (k : Int), .int .i64 0] W fun e w' => e = .returned (.int .i64 (brokenAt M 0 p k)) ∧ Below W.heap.size W w' from fun W (h : Below w.heap.size w W) (k : Nat) (hk : k < p.length) => refBroken_any M hM sv jv lv p hp hpl k hk 0 (by omega) W (hS.below h) (hJ.below h) (hlv.below h))
    have hlv' := hid hlv
    obtain ⟨sa, scap, rfl, _⟩ := hS
    obtain ⟨ja, jcap, rfl, _⟩ := hJ
    obtain ⟨la, lcap, rfl, _⟩ := hlv
    have hpL : (ints p).length = p.length := by simp
    rw [hpL] at HB HC hlv' ⊢
    have hx := KeepB.start w (.slice sa M.setup.length scap) (.slice ja M.jobs.length jcap)
    obtain ⟨⟨z1, z2, z3⟩, hz⟩ : ∃ z, checkOf M (ints p) = z := ⟨_, rfl⟩
    rw [hz]
    have hn0 : Hid (firstBad M 0 Bench.begin p = none → z1 = 0 ∧ z2 = 0 ∧ z3 = 4) := hid (fun h => by
      have := hz.symm.trans (check_none hv ho h)
      injection this with h1 h2
      injection h2 with h2 h3
      exact ⟨h1, h2, h3⟩)
    have hs0 : Hid (∀ (i : Nat) (b : Int), firstBad M 0 Bench.begin p = some (i, b) → z1 = (i : Int) ∧ z2 = b ∧ z3 = 0) := hid (fun i b h => by
      have := hz.symm.trans (check_some hv ho h)
      injection this with h1 h2
      injection h2 with h2 h3
      exact ⟨h1, h2, h3⟩)
    dsimp only
    clear hpL hM hp hv ho hcode hfr hpn hz
    go_enter Try.func17, Try.ntmps17
    go_upto_region 1 with fail
    generalize w.alloc (.cells #[.slice sa M.setup.length scap, .slice ja M.jobs.length jcap] 25) = w1 at hx ⊢
    have lm := (cells_of hx.m).1
    have cm := (cells_of hx.m).2
    have H1 := hid (HC.out w1 hx.bel)
    clear HC
    go_wp2_with (go_at_call 50; with_reducible refine H1.out.mono ?_; rintro e w2 ⟨rfl, hb2⟩; have hx := hx.below hb2)
    go_loopw [8, 9] (fun ix _ wr => ∃ k : Nat, k ≤ p.length ∧ ix = .int .i64 k ∧ Hid (firstBad M 0 Bench.begin p = firstBad M 0 (benchOf M (p.take k)) (p.drop k)) ∧ KeepB w (.slice sa M.setup.length scap) (.slice ja M.jobs.length jcap) wr) (fun ix _ _ => p.length - (intOf ix).toNat)
    case atStart => exact ⟨0, by omega, rfl, hid rfl, hx⟩
    case round =>
      obtain ⟨k, hkk, rfl, hgd, hxr⟩ := hrel
      clear hx lm cm
      have lm := (cells_of hxr.m).1
      have cm := (cells_of hxr.m).2
      by_cases hlt : k < p.length
      · have hki : (k : Int) < (p.length : Int) := by omega
        have HBk := HB.out wr hxr.bel k hlt
        have hg2 := hid (hgd.out.trans (bad_from M 0 p k hlt))
        obtain ⟨b, hb⟩ : ∃ x, brokenAt M 0 p k = x := ⟨_, rfl⟩
        rw [hb] at HBk
        have HBk := hid HBk
        by_cases hb0 : b = 0
        · have hbt : (b != 0) = false := by rw [bne_eq_false_iff_eq]; exact hb0
          have hg3 : Hid (firstBad M 0 Bench.begin p = firstBad M 0 (benchOf M (p.take (k + 1))) (p.drop (k + 1))) := hid (by
            have := hg2.out
            rw [hb, if_pos hb0] at this
            exact this)
          clear hb0 hb hg2
          go_wp2_with (go_at_call 53; with_reducible refine HBk.out.mono ?_; rintro e w2 ⟨rfl, hb2⟩)
          go_roundw
          case rel => exact ⟨k + 1, by omega, by go_num, hg3, hxr.below hb2⟩
          case measure => simp [intOf]; omega
        · have hbt : (b != 0) = true := by rw [bne_iff_ne]; exact hb0
          have hg3 : Hid (firstBad M 0 Bench.begin p = some (p.getD k 0, b)) := hid (by
            have := hg2.out
            rw [hb, if_neg hb0] at this
            exact this)
          have hz0 := hid (hs0.out _ _ hg3.out)
          clear hb0 hb hg2
          obtain ⟨rb, ro, rcap, e1, lrb, hrc⟩ := (hlv'.out.below hxr.bel).some (fun e => by have := congrArg List.length e; simp only [List.length_map, List.length_nil] at this; omega)
          injection e1 with e1 e2 e3
          subst e1
          subst e3
          clear e2
          have hrj := hrc k (by simpa using hlt)
          rw [getD_intsK] at hrj
          obtain ⟨i, hi⟩ : ∃ i, p.getD k 0 = i := ⟨_, rfl⟩
          rw [hi] at hrj
          clear hrc
          have hi := hid hi
          go_wp2_with (go_at_call 53; with_reducible refine HBk.out.mono ?_; rintro e w2 ⟨rfl, hb2⟩; have hrj := (hb2.cell (p := ⟨rb, ro + k, none⟩) lrb).trans hrj; have lrb := Nat.lt_of_lt_of_le lrb hb2.size)
          go_ret3
          exact ⟨by rw [hz0.out.1, hz0.out.2.1, hz0.out.2.2, hi.out]; rfl, (hxr.below hb2).bel⟩
      · obtain rfl : k = p.length := by omega
        obtain ⟨rfl, rfl, rfl⟩ := hn0.out (hgd.out.trans (by rw [List.drop_length]; rfl))
        go_wp2
        go_ret3
        exact ⟨rfl, hxr.bel⟩
  · obtain ⟨h1, h2⟩ := check_code hgood
    rw [h2]
    obtain ⟨c, hc⟩ : ∃ c, codeOf M l = c := ⟨_, rfl⟩
    rw [hc] at HC h1 ⊢
    clear hc h2 hgood
    have hct : (c != 0) = true := by rw [bne_iff_ne]; exact h1
    obtain ⟨sa, scap, rfl, _⟩ := hS
    obtain ⟨ja, jcap, rfl, _⟩ := hJ
    obtain ⟨la, lcap, rfl, _⟩ := hlv
    have hx := KeepB.start w (.slice sa M.setup.length scap) (.slice ja M.jobs.length jcap)
    dsimp only
    go_enter Try.func17, Try.ntmps17
    go_upto_region 1 with fail
    generalize w.alloc (.cells #[.slice sa M.setup.length scap, .slice ja M.jobs.length jcap] 25) = w1 at hx ⊢
    have lm := (cells_of hx.m).1
    have cm := (cells_of hx.m).2
    have H1 := hid (HC.out w1 hx.bel)
    clear HC
    go_wp2_with (go_at_call 50; with_reducible refine H1.out.mono ?_; rintro e w2 ⟨rfl, hb2⟩; have hx := hx.below hb2)
    go_ret3
    exact ⟨rfl, hx.bel⟩
end Go.Proofs.Ytcgkglonnmkfcaa

namespace Go.Proofs.Ytcgkglonnmkfcaa
open Go.RowKit Go.Lap Go.Shelf

set_option maxRecDepth 100000 in
set_option maxHeartbeats 4000000 in
theorem refCoins_any (M : Mend) (hv : M.valid = true) (sv jv lv : Value) (p : List Nat) (hp : ∀ i, i ∈ p → i < M.jobs.length) (hpl : p.length ≤ 6) (w : World) (hS : IntsAt w sv M.setup) (hJ : JobsAt w jv M.jobs) (hlv : IntsAt w lv (ints p)) :
    Calls Try.prog 71 #[.agg #[sv, jv], lv] w fun e w' => e = .returned (.int .i64 (costFrom M Bench.begin p)) ∧ Below w.heap.size w w' := by
  have hM := Mend.valid_ok hv
  have hJ' := hid hJ
  have hlv' := hid hlv
  have HD := hid (fun W (h : Below w.heap.size w W) => refDone_true M hM sv jv lv p hp hpl W (hS.below h) (hJ.below h) (hlv.below h))
  obtain ⟨sa, scap, rfl, _⟩ := hS
  obtain ⟨ja, jcap, rfl, _⟩ := hJ
  obtain ⟨la, lcap, rfl, _⟩ := hlv
  have hpL : (ints p).length = p.length := by simp
  rw [hpL] at hlv' HD ⊢
  have hx := KeepB.start w (.slice sa M.setup.length scap) (.slice ja M.jobs.length jcap)
  have hsm := hid (fun k (hk : k ≤ p.length) => cost_small hv hp hpl k hk)
  have hp' := hid hp
  have hv' := hid hv
  have hM' := hid hM
  clear hpL hM hp hv
  go_enter Try.func71, Try.ntmps71
  go_upto_region 1 with fail
  generalize w.alloc (.cells #[.slice sa M.setup.length scap, .slice ja M.jobs.length jcap] 25) = w1 at hx ⊢
  have lm := (cells_of hx.m).1
  have cm := (cells_of hx.m).2
  have H1 := hid (HD.out w1 hx.bel)
  clear HD
  go_upto_region 2 with (go_at_call 51; with_reducible refine H1.out.mono ?_; rintro e w2 ⟨v2, rfl, hown2, hb2⟩; have hx := hx.below hb2; have hI2 := hid (ints_at.2 hown2.at))
  go_wp2
  go_loopw [6, 7] (fun sx ix wr => ∃ k : Nat, k ≤ p.length ∧ ix = .int .i64 k ∧ sx = .int .i64 (costFrom M Bench.begin (p.take k)) ∧ Below w2.heap.size w2 wr) (fun _ ix _ => p.length - (intOf ix).toNat)
  case atStart => exact ⟨0, by omega, rfl, rfl, Below.refl _ _⟩
  case round =>
    obtain ⟨k, hkk, rfl, rfl, hbr⟩ := hrel
    clear lm cm
    have hxr := hx.below hbr
    have lm := (cells_of hxr.m).1
    have cm := (cells_of hxr.m).2
    by_cases hlt : k < p.length
    · have hki : (k : Int) < (p.length : Int) := by omega
      obtain ⟨rb, ro, rcap, e1, lrb, hrc⟩ := (hlv'.out.below hxr.bel).some (fun e => by have := congrArg List.length e; simp only [List.length_map, List.length_nil] at this; omega)
      injection e1 with e1 e2 e3
      subst e1
      subst e3
      clear e2
      have hrj := hrc k (by simpa using hlt)
      rw [getD_intsK] at hrj
      clear hrc
      obtain ⟨cb, cof, ccap, e1, lcb, hcc⟩ := (hI2.out.below hbr).some (fun e => by have := congrArg List.length e; rw [doneL_length] at this; simp only [List.length_nil] at this; omega)
      rw [doneL_length] at e1
      subst e1
      have hck := hcc k (by rw [doneL_length]; exact hlt)
      rw [doneL_get M true hlt] at hck
      clear hcc
      have hlate : nowAt M true p (k + 1) = (benchOf M (p.take (k + 1))).late := by rw [← benchOf_sit]; rfl
      have hnb := now_small hM'.out true hp'.out hpl (k + 1)
      have hct := cost_take M hlt
      have hmem : p.getD k 0 < M.jobs.length := hp'.out _ (by
        rw [List.getD_eq_getElem?_getD, List.getElem?_eq_getElem hlt]
        exact List.getElem_mem _)
      have hpy := pays_small hv'.out hmem (b := benchOf M (p.take (k + 1))) (by rw [← hlate]; exact hnb.2)
      have hs1 := hsm.out k (by omega)
      unfold Mend.pays at hct hpy
      rw [← hlate] at hct hpy
      obtain ⟨late, hla⟩ : ∃ x, nowAt M true p (k + 1) = x := ⟨_, rfl⟩
      rw [hla] at hct hpy hck hnb
      clear hla hlate
      have hnm := valid_nums hv'.out hmem
      obtain ⟨a', c', e1, hjc⟩ := hJ'.out.below hxr.bel
      injection e1 with e1 e2 e3
      subst e1
      subst e3
      clear e2
      obtain ⟨jb, jo, rfl, hjq⟩ := hjc (fun e => by rw [e] at hmem; simp at hmem)
      have hc4 := hjq _ hmem 4 (by decide)
      have hc6 := hjq _ hmem 6 (by decide)
      obtain ⟨i, hi⟩ : ∃ i, p.getD k 0 = i := ⟨_, rfl⟩
      rw [hi] at hrj hmem hct hpy hnm hc4 hc6
      clear hi
      rw [show M.jobs.getD i Job.none = M.job i from rfl] at hc4 hc6
      simp only [Job.cells, List.getD_cons_zero, List.getD_cons_succ] at hc4 hc6
      have hii : (i : Int) < (M.jobs.length : Int) := by omega
      have ljb := cell_lt hc4
      obtain ⟨so, esoo⟩ : ∃ x, (M.job i).soft = x := ⟨_, rfl⟩
      obtain ⟨co, ecoo⟩ : ∃ x, (M.job i).cost = x := ⟨_, rfl⟩
      rw [esoo] at hct hpy hnm hc4
      rw [ecoo] at hct hpy hnm hc6
      clear hjq hjc esoo ecoo
      have hct := hid hct
      obtain ⟨sm, hsm0⟩ : ∃ x, costFrom M Bench.begin (p.take k) = x := ⟨_, rfl⟩
      rw [hsm0]
      rw [hsm0] at hs1
      have hsm0 := hid hsm0
      have hk6 : (k : Int) ≤ 6 := by omega
      have hw1 : IntKind.i64.wrap (late - so) = late - so := IntWalk.i64_in _ (by omega)
      go_upto_region 5 with fail
      refine wp_region_later (by kernel_rfl) (by kernel_rfl) ?_
      intro hxl
      repeat (go_big_quiet_step (fail))
      refine wpQuiet_nil ?_
      rintro w9 ⟨x, hxw⟩
      have hb9 := x.below
      rw [← hxw] at hb9
      clear hxl hxw x
      go_wp2
      go_roundw
      case rel =>
        refine ⟨k + 1, by omega, by go_num, ?_, below_via hb9 hbr⟩
        rw [hct.out, hsm0.out]
        have h6 : (if so < late then late - so else 0) = max 0 (late - so) := by split <;> omega
        rw [h6, IntWalk.wrap64_in (co * max 0 (late - so)) (by omega), IntWalk.wrap64_in _ (by omega)]
      case measure => simp [intOf]; omega
    · obtain rfl : k = p.length := by omega
      rw [List.take_length]
      go_wp2
      go_ret
      exact ⟨rfl, hxr.bel⟩
end Go.Proofs.Ytcgkglonnmkfcaa
