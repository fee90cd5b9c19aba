/- 'coins' of the law's package, and when the last job of an order is done, walked. -/
import Derived.Test.YtcgkglonnmkfcaaPX
import Derived.Test.YtcgkglonnmkfcaaR5
import Derived.Test.YtcgkglonnmkfcaaGD
namespace Go.Proofs.Ytcgkglonnmkfcaa
open Go.RowKit Go.Lap Go.Shelf

theorem cost_snoc (M : Mend) (i : Nat) : ∀ (p : List Nat) (b : Bench), costFrom M b (p ++ [i]) = costFrom M b p + M.pays (M.next (p.foldl M.next b) i) i
  | [], b => by simp [costFrom]
  | j :: p, b => by simp only [List.cons_append, costFrom, cost_snoc M i p, List.foldl_cons]; omega
theorem cost_take (M : Mend) {p : List Nat} {k : Nat} (hk : k < p.length) : costFrom M Bench.begin (p.take (k + 1)) = costFrom M Bench.begin (p.take k) + M.pays (benchOf M (p.take (k + 1))) (p.getD k 0) := by
  rw [benchOf_succ M hk, take_snoc hk, cost_snoc]
theorem valid_nums {M : Mend} (hv : M.valid = true) {i : Nat} (hi : i < M.jobs.length) : 0 ≤ (M.job i).cost ∧ (M.job i).cost ≤ 50 ∧ 0 ≤ (M.job i).soft ∧ (M.job i).soft ≤ 300 ∧ 0 ≤ (M.job i).by_ ∧ (M.job i).by_ ≤ 300 ∧ 0 ≤ (M.job i).from_ ∧ (M.job i).from_ ≤ 300 := by
  have h := valid_job hv hi
  unfold Job.ok Job.okB Job.okC at h
  simp only [Bool.and_eq_true, inB_iff] at h
  omega
theorem pays_small {M : Mend} (hv : M.valid = true) {i : Nat} (hi : i < M.jobs.length) {b : Bench} (hb : b.late ≤ 12000) : 0 ≤ M.pays b i ∧ M.pays b i ≤ 600000 := by
  obtain ⟨h1, h2, h3, _⟩ := valid_nums hv hi
  unfold Mend.pays
  have h6 : 0 ≤ max 0 (b.late - (M.job i).soft) := by omega
  have h7 : max 0 (b.late - (M.job i).soft) ≤ 12000 := by omega
  refine ⟨Int.mul_nonneg h1 h6, ?_⟩
  calc (M.job i).cost * max 0 (b.late - (M.job i).soft) ≤ 50 * 12000 := Int.mul_le_mul h2 h7 h6 (by omega)
    _ ≤ _ := by omega
theorem cost_small {M : Mend} (hv : M.valid = true) {p : List Nat} (hp : ∀ i, i ∈ p → i < M.jobs.length) (hl : p.length ≤ 6) : ∀ k, k ≤ p.length → 0 ≤ costFrom M Bench.begin (p.take k) ∧ costFrom M Bench.begin (p.take k) ≤ 600000 * k
  | 0, _ => by simp [costFrom]
  | k + 1, hk => by
    have h1 := cost_small hv hp hl k (by omega)
    rw [cost_take M (by omega)]
    have hm : p.getD k 0 ∈ p := by
      rw [List.getD_eq_getElem?_getD, List.getElem?_eq_getElem (by omega)]
      exact List.getElem_mem _
    have h2 := pays_small hv (hp _ hm) (b := benchOf M (p.take (k + 1))) (by
      rw [← benchOf_sit]
      exact (sit_small (Mend.valid_ok hv) hp hl (k + 1)).2.2.2)
    omega

set_option maxRecDepth 100000 in
set_option maxHeartbeats 2000000 in
theorem lawCoins_any (M : Mend) (hv : M.valid = true) (sv jv lv : Value) (p : List Nat) (hl : ordB M.jobs.length (ints p) = true) (w : World) (hS : IntsAt w sv M.setup) (hJ : JobsAt w jv M.jobs) (hlv : IntsAt w lv (ints p)) :
    Calls Try.prog 39 #[.agg #[sv, jv], lv] w fun e w' => e = .returned (.int .i64 (costFrom M Bench.begin p)) ∧ Below w.heap.size w w' := by
  obtain ⟨p', e1, e2, hpi, hpl, _⟩ := ord_nat hl
  obtain rfl : p = p' := ints_inj e1
  have hlen6 := (Mend.valid_ok hv).len
  have hS' := hid hS
  have hJ' := hid hJ
  have hlv' := hid hlv
  obtain ⟨sa, scap, rfl, _⟩ := hS
  obtain ⟨ja, jcap, rfl, _⟩ := hJ
  obtain ⟨la, lcap, rfl, _⟩ := hlv
  have hpl' : (ints p).length = M.jobs.length := by simpa using hpl
  rw [hpl'] at hlv' ⊢
  have hk1 := KeepB.start w (.slice sa M.setup.length scap) (.slice ja M.jobs.length jcap)
  have hTi := hid (fun W (hk : KeepB w (.slice sa M.setup.length scap) (.slice ja M.jobs.length jcap) W) => Times_any M _ _ (.slice la M.jobs.length lcap) (ints p) (by rw [hpl']; omega) W (hS'.out.below hk.bel) (hJ'.out.below hk.bel) (hlv'.out.below hk.bel))
  have et : timesOf M (ints p) = (spansOf M p, 0) := by
    unfold timesOf
    rw [if_pos hv, if_pos hl, e2]
  rw [et] at hTi
  have hv' := hid hv
  have hpi' := hid hpi
  have hpq := hid hpl
  have hsl := hid (spans_length M p)
  clear hv hl et e1 e2 hpl hpl' hpi
  go_enter Try.func39, Try.ntmps39
  go_upto_region 1 with fail
  generalize w.alloc (.cells #[.slice sa M.setup.length scap, .slice ja M.jobs.length jcap] 25) = w1 at hk1 ⊢
  have l1 := (cells_of hk1.m).1
  have c1 := (cells_of hk1.m).2
  go_upto_region 2 with (go_at_call 14; (refine (hTi.out _ hk1).mono ?_; rintro e w2 ⟨tv, rfl, hto, hb2⟩; obtain ⟨ta, tcap, rfl, _⟩ := hto.at; have hk2 := hk1.below hb2))
  have hta := hid hto.at
  simp only [hsl.out, hpq.out] at hta ⊢
  clear l1 c1 hk1 hto hTi hb2
  have l1 := (cells_of hk2.m).1
  have c1 := (cells_of hk2.m).2
  go_wp2
  clear l1 c1
  go_loopw [7, 8, 9, 27] (fun n _ _ i wr => ∃ k : Nat, k ≤ M.jobs.length ∧ i = .int .i64 k ∧ n = .int .i64 (costFrom M Bench.begin (p.take k)) ∧ Below w2.heap.size w2 wr) (fun _ _ _ i _ => M.jobs.length - (intOf i).toNat)
  case atStart => exact ⟨0, by omega, rfl, rfl, Below.refl _ _⟩
  case round =>
    obtain ⟨k, hkk, rfl, rfl, hbr⟩ := hrel
    have hkr := hk2.below hbr
    have lr := (cells_of hkr.m).1
    have cr := (cells_of hkr.m).2
    have hbr' := hid hbr
    by_cases hlt : k < M.jobs.length
    · have hki : (k : Int) < (M.jobs.length : Int) := by omega
      have hkp : k < p.length := by rw [hpq.out]; exact hlt
      obtain ⟨i, hi⟩ : ∃ i, p.getD k 0 = i := ⟨_, rfl⟩
      have him : i < M.jobs.length := hpi'.out i (by
        rw [← hi, List.getD_eq_getElem?_getD, List.getElem?_eq_getElem hkp]
        exact List.getElem_mem _)
      have hsc := cost_take M hkp
      have hsm := sit_small (Mend.valid_ok hv'.out) hpi'.out (by rw [hpq.out]; exact hlen6) (k + 1)
      have hcs := cost_small hv'.out hpi'.out (by rw [hpq.out]; exact hlen6) k (by omega)
      have hgs := spans_get M p k hkp
      rw [benchOf_sit] at hsm
      obtain ⟨lb, lo, lc, e1, _, hlc⟩ := (hlv'.out.below hkr.bel).some (fun e => by have := congrArg List.length e; simp at this; rw [this] at hkp; simp at hkp)
      injection e1 with e1 e2 e3
      subst e1
      clear e2 e3
      have hcl := hlc k (by simpa using hkp)
      rw [show (ints p).getD k 0 = (i : Int) by rw [← hi]; simp [List.getD_eq_getElem?_getD, hkp]] at hcl
      obtain ⟨tb, tof, tc, e1, ltb, htc⟩ := spans_some (hta.out.below hbr) (fun e => by have := hsl.out; rw [e] at this; simp at this; omega)
      injection e1 with e1 e2 e3
      subst e1
      clear e2 e3
      have hct := (htc k (by rw [hsl.out]; exact hkp)).2
      rw [hgs] at hct
      simp only at hct
      obtain ⟨a', c', e1, hjc⟩ := hJ'.out.below hkr.bel
      injection e1 with e1 e2 e3
      subst e1
      clear e2 e3
      obtain ⟨jb, jo, rfl, hjq⟩ := hjc (fun e => by rw [e] at hlt; simp at hlt)
      have hj5 := hjq i him 6 (by decide)
      have hj3 := hjq i him 4 (by decide)
      rw [show (M.jobs.getD i Job.none).cells.getD 6 0 = (M.job i).cost from rfl] at hj5
      rw [show (M.jobs.getD i Job.none).cells.getD 4 0 = (M.job i).soft from rfl] at hj3
      have ljb := cell_lt hj5
      have hnm := valid_nums hv'.out him
      have hpay := pays_small hv'.out him (b := benchOf M (p.take (k + 1))) hsm.2.2.2
      rw [hi] at hsc
      unfold Mend.pays at hsc hpay
      rw [benchOf_sit] at hct
      generalize hh : (benchOf M (p.take (k + 1))).late = h at hct hsm hsc hpay
      generalize hc0 : (M.job i).cost = c at hj5 hnm hsc hpay
      generalize hs0 : (M.job i).soft = s at hj3 hnm hsc hpay
      clear hh hc0 hs0
      obtain ⟨d, hd⟩ : ∃ d, h - s = d := ⟨_, rfl⟩
      have hw1 : IntKind.i64.wrap (h - s) = d := by rw [hd]; exact IntWalk.i64_in _ (by omega)
      rw [hd] at hsc hpay
      obtain ⟨m, hm⟩ : ∃ m, c * max 0 d = m := ⟨_, rfl⟩
      rw [hm] at hsc hpay
      have hw2 : wrap64 (c * max 0 d) = m := by rw [hm]; exact IntWalk.wrap64_in _ (by omega)
      have hmx : (if 0 < d then d else 0) = max 0 d := by split <;> omega
      generalize hac : costFrom M Bench.begin (p.take k) = acc at hcs hsc ⊢
      generalize hac2 : costFrom M Bench.begin (p.take (k + 1)) = acc2 at hsc
      have hfin := hid (show wrap64 (acc + wrap64 (c * if 0 < d then d else 0)) = costFrom M Bench.begin (p.take (k + 1)) by rw [hmx, hw2, hac2, hsc]; exact IntWalk.wrap64_in _ (by omega))
      clear hlc htc hjc hjq hi hgs hkr hbr hsc hcs hpay hnm hsm hd hm hac hac2 hw2 hmx
      go_wp2
      refine wp_region_later (by kernel_rfl) (by kernel_rfl) ?_
      intro hx
      repeat (go_big_quiet_step (fail))
      refine wpQuiet_nil ?_
      rintro w8 ⟨x, hxw⟩
      have hb8 := x.below
      rw [← hxw] at hb8
      clear hx hxw x
      go_wp2
      go_roundw
      case rel => exact ⟨k + 1, by omega, by go_num, by rw [hfin.out], below_via hb8 hbr'.out⟩
      case measure => simp [intOf]; omega
    · obtain rfl : k = M.jobs.length := by omega
      have he : p.take M.jobs.length = p := by rw [← hpq.out]; simp
      rw [he]
      clear he lr cr hkr hbr
      go_wp2
      go_ret
      exact ⟨rfl, below_via hbr'.out hk2.bel⟩

set_option maxRecDepth 100000 in
set_option maxHeartbeats 2000000 in
/-- When the last job is done. -/
theorem last_any (M : Mend) (hv : M.valid = true) (sv jv lv : Value) (p : List Nat) (hl : ordB M.jobs.length (ints p) = true) (mb : Nat) (w : World) (hm : w.heap[mb]? = some (.cells #[sv, jv] 25 (0, 0))) (hS : IntsAt w sv M.setup) (hJ : JobsAt w jv M.jobs) (hlv : IntsAt w lv (ints p)) :
    Calls Try.prog 40 #[lv, .pointer (some ⟨mb, 0, none⟩)] w fun e w' => e = .returned (.int .i64 (benchOf M p).late) ∧ Below w.heap.size w w' := by
  obtain ⟨p', e1, e2, hpi, hpl, _⟩ := ord_nat hl
  obtain rfl : p = p' := ints_inj e1
  have hlen6 := (Mend.valid_ok hv).len
  have hpl' : (ints p).length = M.jobs.length := by simpa using hpl
  have hTi := Times_any M sv jv lv (ints p) (by rw [hpl']; omega) w hS hJ hlv
  obtain ⟨la, lcap, rfl, _⟩ := hlv
  obtain ⟨sa, scap, rfl, _⟩ := hS
  obtain ⟨ja, jcap, rfl, _⟩ := hJ
  have et : timesOf M (ints p) = (spansOf M p, 0) := by
    unfold timesOf
    rw [if_pos hv, if_pos hl, e2]
  rw [et] at hTi
  rw [hpl'] at hTi ⊢
  have hTi' := hid hTi
  have hsl := hid (spans_length M p)
  obtain ⟨lm, cm⟩ := cells_of hm
  have hpq := hid hpl
  have hpl2 := hid hpl'
  clear hTi hv hl et e1 e2 hpl hpl' hm
  go_enter Try.func40, Try.ntmps40
  by_cases h0 : M.jobs.length = 0
  · have hp0 : p = [] := List.eq_nil_of_length_eq_zero (by rw [hpq.out]; exact h0)
    subst hp0
    have h0' := hid h0
    clear h0
    go_upto_region 2 with (go_at_call 14; (refine hTi'.out.mono ?_; rintro e w2 ⟨tv, rfl, hto, hb2⟩; obtain ⟨ta, tcap, rfl, _⟩ := hto.at))
    have e0 : (spansOf M ([] : List Nat)).length = 0 := rfl
    simp only [e0]
    clear e0
    go_wp2
    go_ret
    exact ⟨rfl, hb2⟩
  · go_upto_region 2 with (go_at_call 14; (refine hTi'.out.mono ?_; rintro e w2 ⟨tv, rfl, hto, hb2⟩; obtain ⟨ta, tcap, rfl, _⟩ := hto.at))
    have hta := hto.at
    obtain ⟨tb, tof, tc, e1, _, htc⟩ := spans_some hta (fun e => by have := hsl.out; rw [e] at this; simp at this; have := hpq.out; omega)
    injection e1 with e1 e2 e3
    subst e1
    clear e2 e3
    have hn1 := hid (spans_get M p (p.length - 1) (by have := hpq.out; omega))
    have hct := (htc (p.length - 1) (by rw [hsl.out]; have := hpq.out; omega)).2
    rw [hn1.out] at hct
    have e2 : p.length - 1 + 1 = p.length := by have := hpq.out; omega
    rw [e2, List.take_length] at hct
    simp only [benchOf_sit] at hct
    obtain ⟨z, hz⟩ : ∃ z, (benchOf M p).late = z := ⟨_, rfl⟩
    rw [hz] at hct
    have hz' := hid hz
    clear hz
    have e3 : (spansOf M p).length = M.jobs.length := by rw [hsl.out, hpq.out]
    have e4 : p.length = M.jobs.length := hpq.out
    rw [e4] at hct
    simp only [e3]
    have h1 : ((M.jobs.length : Int) == 0) = false := by rw [beq_eq_false_iff_ne]; omega
    have h2 : IntKind.i64.wrap ((M.jobs.length : Int) - 1) = (M.jobs.length : Int) - 1 := IntWalk.i64_in _ (by omega)
    have h3 : (0 : Int) ≤ (M.jobs.length : Int) - 1 := by omega
    have h4 : ((M.jobs.length : Int) - 1).toNat = M.jobs.length - 1 := by omega
    have h5 : 1 ≤ (M.jobs.length : Int) := by omega
    clear e2 e3 e4 hta htc hto hn1
    go_wp2
    go_ret
    refine ⟨?_, hb2⟩
    rw [hz'.out]
    rfl
end Go.Proofs.Ytcgkglonnmkfcaa
