/- The walks of the reference's 'Ints', 'Spans', and of the law's small functions. -/
import Derived.Test.YtcgkglonnmkfcaaR1
import Derived.Test.YtcgkglonnmkfcaaGI
namespace Go.Proofs.Ytcgkglonnmkfcaa
open Go.RowKit Go.Lap Go.Shelf

theorem drop_getD {xs : List Int} {k : Nat} (h : k < xs.length) : xs.drop k = xs.getD k 0 :: xs.drop (k + 1) := by
  rw [List.drop_eq_getElem_cons h]; simp [h]

set_option maxRecDepth 100000 in
set_option maxHeartbeats 1000000 in
theorem ints_any (v1 v2 : Value) (xs ys : List Int) (hl : xs.length ≤ 1000) (w : World) (h1 : IntsAt w v1 xs) (h2 : IntsAt w v2 ys) :
    Calls Try.prog 32 #[v1, v2] w fun e w' => e = .returned (.bool (xs == ys)) ∧ Below w.heap.size w w' := by
  by_cases hlen : xs.length = ys.length
  case neg =>
    obtain ⟨a1, c1, rfl, _⟩ := h1
    obtain ⟨a2, c2, rfl, _⟩ := h2
    have hne : ((xs.length : Int) == (ys.length : Int)) = false := by simp; omega
    have hne2 : ¬ (xs.length : Int) = (ys.length : Int) := by omega
    have hlen' := hid hlen
    clear hlen
    go_enter Try.func32, Try.ntmps32
    go_wp2
    go_ret
    refine ⟨?_, Below.refl _ _⟩
    have : (xs == ys) = false := by simpa using fun e => hlen'.out (congrArg List.length e)
    rw [this]
    rfl
  case pos =>
    cases hxs : xs with
    | nil =>
      subst hxs
      obtain rfl : ys = [] := List.eq_nil_of_length_eq_zero hlen.symm
      obtain ⟨a1, c1, rfl⟩ := h1.nil
      obtain ⟨a2, c2, rfl⟩ := h2.nil
      go_enter Try.func32, Try.ntmps32
      go_wp2
      refine wp_loop_rounds 1 ?_
      rw [rounds_succ]
      go_wp2
      go_ret
      exact ⟨rfl, Below.refl _ _⟩
    | cons x0 l0 =>
      have hne : xs ≠ [] := by rw [hxs]; simp
      have hne2 : ys ≠ [] := by intro e; rw [hxs, e] at hlen; simp at hlen
      rw [← hxs]
      clear hxs
      obtain ⟨b, off, cap, rfl, hb0, hc⟩ := h1.some hne
      obtain ⟨b2, off2, cap2, rfl, hb02, hc2⟩ := h2.some hne2
      clear h1 h2
      rw [← hlen] at hc2 ⊢
      have hc' := hid hc
      have hc2' := hid hc2
      have hlen' := hid hlen
      clear hc hc2 hlen
      go_enter Try.func32, Try.ntmps32
      go_wp2
      go_loopw [5] (fun i wr => ∃ k : Nat, k ≤ xs.length ∧ i = .int .i64 k ∧ Hid ((xs == ys) = (xs.drop k == ys.drop k)) ∧ Below w.heap.size w wr) (fun i _ => xs.length - (intOf i).toNat)
      case atStart => exact ⟨0, by omega, rfl, hid (by simp), Below.refl _ _⟩
      case round =>
        obtain ⟨k, hk, rfl, he, hbr⟩ := hrel
        by_cases hlt : k < xs.length
        · have hck := (hbr.cell (p := ⟨b, off + k, none⟩) hb0).trans (hc'.out k hlt)
          have hck2 := (hbr.cell (p := ⟨b2, off2 + k, none⟩) hb02).trans (hc2'.out k hlt)
          have hd1 := drop_getD hlt
          have hd2 := drop_getD (xs := ys) (k := k) (by rw [← hlen'.out]; exact hlt)
          generalize xs.getD k 0 = x at hck hd1
          generalize ys.getD k 0 = y at hck2 hd2
          have hd1' := hid hd1
          have hd2' := hid hd2
          have hbr' := hid hbr
          clear hd1 hd2 hbr
          by_cases hxy : x = y
          · subst hxy
            go_wp2
            go_quiet (fail)
            go_wp2
            go_roundw
            case rel =>
              refine ⟨k + 1, by omega, by go_num, hid ?_, below_drewN hbr'.out _⟩
              rw [he.out, hd1'.out, hd2'.out]
              simp
            case measure => simp [intOf]; omega
          · have hn1 : (x == y) = false := by simpa using hxy
            go_wp2
            go_quiet (fail)
            go_wp2
            go_ret
            refine ⟨?_, below_drewN hbr'.out _⟩
            rw [he.out, hd1'.out, hd2'.out]
            simp [hxy]
        · obtain rfl : k = xs.length := by omega
          go_wp2
          go_ret
          refine ⟨?_, hbr⟩
          have : ys.drop xs.length = [] := by rw [hlen'.out]; simp
          rw [he.out, this]
          simp

theorem eq_span (d : Nat) (a b a' b' : Int) (w : World) : (Op.equalIn (d + 2) 46 (.agg #[.int .i64 a, .int .i64 b]) (.agg #[.int .i64 a', .int .i64 b'])).run Try.prog w = .ok (a == a' && b == b') w := by
  rw [run_equalIn_agg _ _ _ _ _ (by kernel_rfl) (by kernel_rfl)]
  go_simp
  by_cases h1 : a = a' <;> by_cases h2 : b = b' <;> simp [h1, h2]
theorem neq_span (a b a' b' : Int) (w : World) : (binOp .neq 46 (.agg #[.int .i64 a, .int .i64 b]) (.agg #[.int .i64 a', .int .i64 b'])).run Try.prog w = .ok (.bool (!(a == a' && b == b'))) w := by
  have h : (Op.equalIn Op.maxDepth 46 (.agg #[.int .i64 a, .int .i64 b]) (.agg #[.int .i64 a', .int .i64 b'])).run Try.prog w = .ok (a == a' && b == b') w := eq_span 9998 a b a' b' w
  simp only [binOp, Op.equal]
  rw [Sem.run_bind, h]
  rfl

theorem spans_some {w : World} {v : Value} {xs : List (Int × Int)} (h : spanK.at w v xs) (hne : xs ≠ []) : ∃ b off cap, v = .slice (some ⟨b, off, none⟩) xs.length cap ∧ b < w.heap.size ∧ ∀ k, k < xs.length → w.cell? ⟨b, off + k * 2, none⟩ = some (.int .i64 (xs.getD k (0, 0)).1) ∧ w.cell? ⟨b, off + k * 2 + 1, none⟩ = some (.int .i64 (xs.getD k (0, 0)).2) := by
  obtain ⟨a, cap, hv, hx⟩ := h
  obtain ⟨b, off, rfl, hc⟩ := hx hne
  have h0 : 0 < xs.length := List.length_pos_iff.2 hne
  have key : ∀ k, k < xs.length → w.cell? ⟨b, off + k * 2, none⟩ = some (.int .i64 (xs.getD k (0, 0)).1) ∧ w.cell? ⟨b, off + k * 2 + 1, none⟩ = some (.int .i64 (xs.getD k (0, 0)).2) := by
    intro k hk
    have h1 := hc k _ (List.getElem?_eq_getElem hk) 0 _ rfl
    have h2 := hc k _ (List.getElem?_eq_getElem hk) 1 _ rfl
    have e : xs.getD k (0, 0) = xs[k] := by simp [hk]
    rw [e]
    exact ⟨h1, h2⟩
  exact ⟨b, off, cap, hv, cell_lt (key 0 h0).1, key⟩
theorem drop_getS {xs : List (Int × Int)} {k : Nat} (h : k < xs.length) : xs.drop k = xs.getD k (0, 0) :: xs.drop (k + 1) := by
  rw [List.drop_eq_getElem_cons h]; simp [h]

set_option maxRecDepth 100000 in
set_option maxHeartbeats 1000000 in
theorem spans_any (v1 v2 : Value) (xs ys : List (Int × Int)) (hl : xs.length ≤ 1000) (w : World) (h1 : spanK.at w v1 xs) (h2 : spanK.at w v2 ys) :
    Calls Try.prog 24 #[v1, v2] w fun e w' => e = .returned (.bool (xs == ys)) ∧ Below w.heap.size w w' := by
  by_cases hlen : xs.length = ys.length
  case neg =>
    obtain ⟨a1, c1, rfl, _⟩ := h1
    obtain ⟨a2, c2, rfl, _⟩ := h2
    have hne : ((xs.length : Int) == (ys.length : Int)) = false := by simp; omega
    have hne2 : ¬ (xs.length : Int) = (ys.length : Int) := by omega
    have hlen' := hid hlen
    clear hlen
    go_enter Try.func24, Try.ntmps24
    go_wp2
    go_ret
    refine ⟨?_, Below.refl _ _⟩
    have : (xs == ys) = false := by simpa using fun e => hlen'.out (congrArg List.length e)
    rw [this]
    rfl
  case pos =>
    cases hxs : xs with
    | nil =>
      subst hxs
      obtain rfl : ys = [] := List.eq_nil_of_length_eq_zero hlen.symm
      obtain ⟨a1, c1, rfl, _⟩ := h1
      obtain ⟨a2, c2, rfl, _⟩ := h2
      go_enter Try.func24, Try.ntmps24
      go_wp2
      refine wp_loop_rounds 1 ?_
      rw [rounds_succ]
      go_wp2
      go_ret
      exact ⟨rfl, Below.refl _ _⟩
    | cons x0 l0 =>
      have hne : xs ≠ [] := by rw [hxs]; simp
      have hne2 : ys ≠ [] := by intro e; rw [hxs, e] at hlen; simp at hlen
      rw [← hxs]
      clear hxs
      obtain ⟨b, off, cap, rfl, hb0, hc⟩ := spans_some h1 hne
      obtain ⟨b2, off2, cap2, rfl, hb02, hc2⟩ := spans_some h2 hne2
      clear h1 h2
      rw [← hlen] at hc2 ⊢
      have hc' := hid hc
      have hc2' := hid hc2
      have hlen' := hid hlen
      clear hc hc2 hlen
      go_enter Try.func24, Try.ntmps24
      go_wp2
      go_loopw [5] (fun i wr => ∃ k : Nat, k ≤ xs.length ∧ i = .int .i64 k ∧ Hid ((xs == ys) = (xs.drop k == ys.drop k)) ∧ Below w.heap.size w wr) (fun i _ => xs.length - (intOf i).toNat)
      case atStart => exact ⟨0, by omega, rfl, hid (by simp), Below.refl _ _⟩
      case round =>
        obtain ⟨k, hk, rfl, he, hbr⟩ := hrel
        by_cases hlt : k < xs.length
        · have hck := (hbr.cell (p := ⟨b, off + k * 2, none⟩) hb0).trans (hc'.out k hlt).1
          have hck2 := (hbr.cell (p := ⟨b2, off2 + k * 2, none⟩) hb02).trans (hc2'.out k hlt).1
          have hck3 := (hbr.cell (p := ⟨b, off + k * 2 + 1, none⟩) hb0).trans (hc'.out k hlt).2
          have hck4 := (hbr.cell (p := ⟨b2, off2 + k * 2 + 1, none⟩) hb02).trans (hc2'.out k hlt).2
          have hd1 := drop_getS hlt
          have hd2 := drop_getS (xs := ys) (k := k) (by rw [← hlen'.out]; exact hlt)
          generalize xs.getD k (0, 0) = x at hck hck3 hd1
          generalize ys.getD k (0, 0) = y at hck2 hck4 hd2
          obtain ⟨x1, x2⟩ := x
          obtain ⟨y1, y2⟩ := y
          simp only at hck hck2 hck3 hck4
          have hd1' := hid hd1
          have hd2' := hid hd2
          have hbr' := hid hbr
          clear hd1 hd2 hbr
          have hq0 := neq_span x1 x2 y1 y2
          cases hxy : (x1 == y1 && x2 == y2)
          · rw [hxy] at hq0
            have hxy' := hid hxy
            clear hxy
            go_wp2
            go_quiet (fail)
            go_wp2
            go_ret
            refine ⟨?_, below_drewN hbr'.out _⟩
            rw [he.out, hd1'.out, hd2'.out]
            have := hxy'.out
            have e : ((x1, x2) == (y1, y2)) = false := this
            simp only [List.cons_beq_cons, e, Bool.false_and]
            rfl
          · rw [hxy] at hq0
            have hxy' := hid hxy
            clear hxy
            go_wp2
            go_quiet (fail)
            go_wp2
            go_roundw
            case rel =>
              refine ⟨k + 1, by omega, by go_num, hid ?_, below_drewN hbr'.out _⟩
              rw [he.out, hd1'.out, hd2'.out]
              have e : ((x1, x2) == (y1, y2)) = true := hxy'.out
              simp only [List.cons_beq_cons, e, Bool.true_and]
            case measure => simp [intOf]; omega
        · obtain rfl : k = xs.length := by omega
          go_wp2
          go_ret
          refine ⟨?_, hbr⟩
          have : ys.drop xs.length = [] := by rw [hlen'.out]; simp
          rw [he.out, this]
          simp

/-- Is there far too much of something? -/
def farB (M : Mend) (l : List Int) : Bool := decide (40 < max (max (M.setup.length : Int) M.jobs.length) l.length)
set_option maxHeartbeats 1000000 in
theorem far_any (M : Mend) (l : List Int) (sv jv lv : Value) (w : World) (hS : IntsAt w sv M.setup) (hJ : JobsAt w jv M.jobs) (hl : IntsAt w lv l) :
    Calls Try.prog 12 #[.agg #[sv, jv], lv] w fun e w' => e = .returned (.bool (farB M l)) ∧ Below w.heap.size w w' := by
  obtain ⟨sa, scap, rfl, _⟩ := hS
  obtain ⟨ja, jcap, rfl, _⟩ := hJ
  obtain ⟨la, lcap, rfl, _⟩ := hl
  unfold farB
  go_enter Try.func12, Try.ntmps12
  go_wp2
  all_goals
    go_ret
    exact ⟨congrArg (fun b => Ending.returned (.bool b)) (decide_eq_decide.2 (by omega)), below_alloc (Below.refl _ _) _⟩
theorem far_valid {M : Mend} (h : M.valid = true) : farB M [] = false := by
  have h1 := (Mend.valid_ok h).len
  have h2 := (Mend.valid_ok h).ks
  simp only [farB, decide_eq_false_iff_not, List.length_nil]
  omega
theorem IntsAt.none (w : World) : IntsAt w (.slice none 0 0) [] := ⟨Option.none, 0, rfl, fun h => (h rfl).elim⟩

set_option maxHeartbeats 1000000 in
theorem fine_any (M : Mend) (sv jv : Value) (w : World) (hS : IntsAt w sv M.setup) (hJ : JobsAt w jv M.jobs) :
    Calls Try.prog 33 #[.agg #[sv, jv]] w fun e w' => e = .returned (.bool M.valid) ∧ Below w.heap.size w w' := by
  obtain ⟨sa, scap, rfl, hs⟩ := hS
  obtain ⟨ja, jcap, rfl, hj⟩ := hJ
  have hb0 := below_alloc (Below.refl w.heap.size w) (.cells #[.slice sa M.setup.length scap, .slice ja M.jobs.length jcap] 25)
  have hm0 : (w.alloc (.cells #[.slice sa M.setup.length scap, .slice ja M.jobs.length jcap] 25)).heap[w.heap.size]? = some (.cells #[.slice sa M.setup.length scap, .slice ja M.jobs.length jcap] 25 (0, 0)) := alloc_at rfl
  have hS' := hid ((show IntsAt w (.slice sa M.setup.length scap) M.setup from ⟨_, _, rfl, hs⟩).below hb0)
  have hJ' := hid ((show JobsAt w (.slice ja M.jobs.length jcap) M.jobs from ⟨_, _, rfl, hj⟩).below hb0)
  clear hs hj
  cases hf : farB M []
  · have hf' := hid hf
    clear hf
    go_enter Try.func33, Try.ntmps33
    go_upto_region 1 with fail
    generalize w.alloc (.cells #[.slice sa M.setup.length scap, .slice ja M.jobs.length jcap] 25) = w0 at hb0 hm0 hS' hJ' ⊢
    obtain ⟨l0, c0⟩ := cells_of hm0
    go_wp2_with (first
      | (go_at_call 12; with_reducible refine (far_any M [] _ _ _ _ hS'.out hJ'.out (IntsAt.none _)).mono ?_; rw [hf'.out]; rintro e w1 ⟨rfl, hb1⟩; have hm1 := (hb1.block _ l0).trans hm0; have hbw1 := below_via hb1 hb0; obtain ⟨l1, c1⟩ := cells_of hm1)
      | (go_at_call 25; with_reducible refine (refMend_any M _ _ _ (hS'.out.below hb1) (hJ'.out.below hb1)).mono ?_; rintro e w2 ⟨rfl, hb2⟩))
    go_ret
    exact ⟨rfl, below_via hb2 hbw1⟩
  · have hf' := hid hf
    have hv : M.valid = false := by
      cases hv : M.valid
      · rfl
      · rw [far_valid hv] at hf; cases hf
    have hv' := hid hv
    clear hf hv
    go_enter Try.func33, Try.ntmps33
    go_upto_region 1 with fail
    generalize w.alloc (.cells #[.slice sa M.setup.length scap, .slice ja M.jobs.length jcap] 25) = w0 at hb0 hm0 hS' hJ' ⊢
    obtain ⟨l0, c0⟩ := cells_of hm0
    go_wp2_with (first
      | (go_at_call 12; with_reducible refine (far_any M [] _ _ _ _ hS'.out hJ'.out (IntsAt.none _)).mono ?_; rw [hf'.out]; rintro e w1 ⟨rfl, hb1⟩; have hm1 := (hb1.block _ l0).trans hm0; have hbw1 := below_via hb1 hb0; obtain ⟨l1, c1⟩ := cells_of hm1))
    go_ret
    exact ⟨by rw [hv'.out]; rfl, hbw1⟩

/-- Is an order right, by what is told? -/
def rightB (M : Mend) (l : List Int) : Bool := (checkOf M l).2.2 == 4
set_option maxHeartbeats 1000000 in
theorem lawRight_any (M : Mend) (sv jv lv : Value) (l : List Int) (hl : l.length ≤ 1000) (w : World) (hS : IntsAt w sv M.setup) (hJ : JobsAt w jv M.jobs) (hlv : IntsAt w lv l) :
    Calls Try.prog 37 #[.agg #[sv, jv], lv] w fun e w' => e = .returned (.bool (rightB M l)) ∧ Below w.heap.size w w' := by
  obtain ⟨sa, scap, rfl, hs⟩ := hS
  obtain ⟨ja, jcap, rfl, hj⟩ := hJ
  have hb0 := below_alloc (Below.refl w.heap.size w) (.cells #[.slice sa M.setup.length scap, .slice ja M.jobs.length jcap] 25)
  have hm0 : (w.alloc (.cells #[.slice sa M.setup.length scap, .slice ja M.jobs.length jcap] 25)).heap[w.heap.size]? = some (.cells #[.slice sa M.setup.length scap, .slice ja M.jobs.length jcap] 25 (0, 0)) := alloc_at rfl
  have hS' := hid ((show IntsAt w (.slice sa M.setup.length scap) M.setup from ⟨_, _, rfl, hs⟩).below hb0)
  have hJ' := hid ((show JobsAt w (.slice ja M.jobs.length jcap) M.jobs from ⟨_, _, rfl, hj⟩).below hb0)
  have hL' := hid (hlv.below hb0)
  clear hs hj hlv
  unfold rightB
  obtain ⟨c1, hc1⟩ : ∃ c, checkOf M l = c := ⟨_, rfl⟩
  rw [hc1]
  have hC := hid (fun w0 hS hJ hL => (show Calls Try.prog 16 #[.agg #[.slice sa M.setup.length scap, .slice ja M.jobs.length jcap], lv] w0 fun e w' => e = .returned (.tuple #[.int .i64 c1.1, .int .i64 c1.2.1, .int .i64 c1.2.2]) ∧ Below w0.heap.size w0 w' by rw [← hc1]; exact Check_any M _ _ lv l hl w0 hS hJ hL))
  clear hc1
  go_enter Try.func37, Try.ntmps37
  go_upto_region 1 with fail
  generalize w.alloc (.cells #[.slice sa M.setup.length scap, .slice ja M.jobs.length jcap] 25) = w0 at hb0 hm0 hS' hJ' hL' ⊢
  obtain ⟨l0, c0⟩ := cells_of hm0
  go_wp2_with (go_at_call 16; refine (hC.out _ hS'.out hJ'.out hL'.out).mono ?_; rintro e w1 ⟨rfl, hb1⟩)
  go_ret
  exact ⟨rfl, below_via hb1 hb0⟩

set_option maxHeartbeats 1000000 in
theorem span_any (a b : Int) (w : World) : Calls Try.prog 36 #[.int .i64 a, .int .i64 b] w fun e w' => e = .returned (.agg #[.int .i64 a, .int .i64 b]) ∧ Below w.heap.size w w' := by
  go_enter Try.func36, Try.ntmps36
  go_wp2
  refine bodyPost_ret (v := .agg #[.int .i64 a, .int .i64 b]) (by simp [results, Try.results36, go_sem]) rfl ⟨rfl, ?_⟩
  repeat (first | exact Below.refl _ _ | refine Below.drew ?_ | refine below_set ?_ _ (by simp) | refine below_alloc ?_ _)

end Go.Proofs.Ytcgkglonnmkfcaa
