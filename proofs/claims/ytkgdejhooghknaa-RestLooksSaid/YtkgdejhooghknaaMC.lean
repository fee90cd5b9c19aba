/- The walks of the reference's 'Fewest' and 'Even'. The walk of 'RestPlans'. -/
import Derived.Test.YtkgdejhooghknaaMB
import Derived.Test.YtkgdejhooghknaaMV
namespace Go.Proofs.Ytkgdejhooghknaa
open Go.RowKit Go.Lap Go.Shelf

/-- One plan of a list of plans. -/
theorem rows_at {B : Nat} {w : World} {a : Option Addr} {n cap : Nat} {L : List (List Int)} (h : PlanRows B w (.slice a n cap) L) {i : Nat} (hi : i < L.length) :
    ∃ g u, a = some ⟨g, 0, none⟩ ∧ w.cell? ⟨g, i, none⟩ = some u ∧ OwnRow 0 w u (L.getD i []) := by
  obtain ⟨vs, h1, h2, h3⟩ := h
  rcases h2.2 with ⟨e, hn⟩ | ⟨g, cap', cur, e, _⟩
  · omega
  · cases e
    have hiv : i < vs.length := by omega
    have hc := h2.cells (g := g) rfl i vs[i] (by simp [hiv])
    have hadd : (⟨g, 0, none⟩ : Addr).add i = ⟨g, i, none⟩ := by unfold Addr.add; split <;> simp_all
    rw [hadd] at hc
    exact ⟨g, vs[i], rfl, hc, h3 i vs[i] _ (by simp [hiv]) (by simp [hi])⟩

/-- The best of some, the first one of those that are as good. -/
def bestF (f : List Int → Int) (b : List Int) (L : List (List Int)) : List Int := L.foldl (fun b x => if f x < f b then x else b) b
theorem bestF_snoc (f : List Int → Int) (b : List Int) (L : List (List Int)) (x : List Int) : bestF f b (L ++ [x]) = if f x < f (bestF f b L) then x else bestF f b L := by unfold bestF; rw [List.foldl_append]; rfl
theorem bestF_mem (f : List Int → Int) : ∀ (L : List (List Int)) (b : List Int), bestF f b L = b ∨ bestF f b L ∈ L
  | [], b => .inl rfl
  | x :: L, b => by
    unfold bestF
    simp only [List.foldl_cons]
    split
    · rcases bestF_mem f L x with h | h
      · exact .inr (by unfold bestF at h; rw [h]; simp)
      · exact .inr (by unfold bestF at h; simp [h])
    · rcases bestF_mem f L b with h | h
      · exact .inl h
      · exact .inr (by unfold bestF at h; simp [h])
theorem bestF_keep (f : List Int → Int) : ∀ (L : List (List Int)) (b : List Int), (∀ x, x ∈ L → f b ≤ f x) → bestF f b L = b
  | [], b, _ => rfl
  | x :: L, b, h => by
    unfold bestF
    simp only [List.foldl_cons]
    rw [if_neg (by have := h x (by simp); omega)]
    exact bestF_keep f L b (fun y hy => h y (by simp [hy]))
theorem bestF_find (f : List Int → Int) (v : Int) (p : List Int) : ∀ (L : List (List Int)) (b : List Int), (∀ q, q ∈ b :: L → v ≤ f q) → (b :: L).find? (fun q => f q == v) = some p → bestF f b L = p
  | [], b, _, h => by
    rw [List.find?_cons] at h
    cases hb : f b == v
    · rw [hb] at h; simp at h
    · rw [hb] at h; simpa [bestF] using h
  | x :: L, b, hmin, h => by
    by_cases hb : f b = v
    · rw [List.find?_cons] at h
      have hb2 : (f b == v) = true := by simpa using hb
      rw [hb2] at h
      obtain rfl : b = p := by simpa using h
      exact bestF_keep f (x :: L) b (fun y hy => by rw [hb]; exact hmin y (by simp at hy ⊢; exact .inr hy))
    · have hb2 : (f b == v) = false := by simpa using hb
      rw [List.find?_cons, hb2] at h
      have h0 := hmin b (by simp)
      have hx := hmin x (by simp)
      unfold bestF
      simp only [List.foldl_cons]
      split
      · exact bestF_find f v p L x (fun q hq => hmin q (by simp at hq ⊢; exact .inr hq)) h
      · refine bestF_find f v p L b (fun q hq => hmin q (by simp at hq ⊢; rcases hq with h | h; exact .inl h; exact .inr (.inr h))) ?_
        rw [List.find?_cons] at h
        have hx2 : (f x == v) = false := by simp; omega
        rw [hx2] at h
        rw [List.find?_cons, hb2]
        exact h

theorem planR_find {R : Rest} (hv : R.valid = true) {g : Goal Int} {P : Nat → Int → Prop} (hg : g.Low P) {f : List Int → Int} (hf : ∀ q, q ∈ plansL R → val g St.begin q = f q) {L : List (List Int)} (hL : plansL R = L) {x0 : List Int} {L0 : List (List Int)} (hx : L = x0 :: L0) :
    ∃ p, planR R g = (f p, p, 0) ∧ bestF f x0 L = p ∧ p ∈ L := by
  have hb0 := St.begin_ok
  have hb1 : St.begin.hour = 0 := rfl
  have h16 := valid_16 hv
  cases hfo : found R g R.hours.toNat St.begin with
  | none =>
    have := (found_none hg.alg hb0 (by omega)).1 hfo
    have e : plansL R = [] := this
    rw [hL, hx] at e; cases e
  | some v =>
    obtain ⟨p1, p2, p3, _⟩ := picked hg hb0 (by omega) hfo
    have hp := pick_first hg R R.hours.toNat St.begin v hb0 (by omega) hfo
    have hpm : pick R g R.hours.toNat St.begin v ∈ plansL R := p1
    have hfp : f (pick R g R.hours.toNat St.begin v) = v := by rw [← hf _ hpm]; exact p2
    refine ⟨pick R g R.hours.toNat St.begin v, by rw [hfp]; simp only [planR, hv, hfo]; rfl, ?_, by rw [← hL]; exact hpm⟩
    have hmin : ∀ q, q ∈ L → v ≤ f q := fun q hq => by rw [← hf q (by rw [hL]; exact hq)]; exact p3 q (by show q ∈ plansL R; rw [hL]; exact hq)
    have hp2 : L.find? (fun q => f q == v) = some (pick R g R.hours.toNat St.begin v) := by
      rw [← hL, ← hp]
      exact find_congr (fun q hq => by rw [hf q hq])
    refine bestF_find f v _ L x0 (fun q hq => ?_) ?_
    · rcases List.mem_cons.1 hq with rfl | h
      · exact hmin q (by rw [hx]; simp)
      · exact hmin q h
    · rw [List.find?_cons]
      cases h0 : f x0 == v
      · exact hp2
      · rw [hx, List.find?_cons, h0] at hp2
        exact hp2

theorem own_as {w : World} {v : Value} {xs ys : List Int} (e : xs = ys) (h : OwnRow 0 w v xs) : OwnRow 0 w v ys := by subst e; exact h

set_option maxRecDepth 100000 in
set_option maxHeartbeats 4000000 in
theorem refFewest_any (R : Rest) (w : World) : Calls Try.prog 22 #[restV R] w fun e w' => ∃ a cap, e = .returned (.tuple #[.int .i64 (planR R changesG).1, .slice a (planR R changesG).2.1.length cap, .int .i64 (planR R changesG).2.2]) ∧ IntsAt w' (.slice a (planR R changesG).2.1.length cap) (planR R changesG).2.1 ∧ Below w.heap.size w w' := by
  cases hv : R.valid
  · have hc : planR R changesG = (0, [], 1) := by simp [planR, hv]
    rw [hc]
    have c62 := hid (fun w => plans_bad R hv w)
    clear hv hc
    have hk := KeepR.start w R
    go_enter Try.func22, Try.ntmps22
    go_wp2_with (first | (go_at_call 62; with_reducible refine (c62.out _).mono ?_; rintro e w1 ⟨rfl, hb1⟩; have hk := hk.below hb1; obtain ⟨lx, cx⟩ := cells_of hk.x))
    go_ret3
    exact ⟨none, 0, rfl, nil_ints _, hk.bel⟩
  · cases hL : plansL R with
    | nil =>
      have hc : planR R changesG = (0, [], 4) := by
        rcases told_plan hv changes_low with ⟨_, h⟩ | ⟨h, _⟩
        · exact h
        · exact (h hL).elim
      rw [hc]
      have c62 := hid (fun w => plans_none R hv hL w)
      clear hv hc hL
      have hk := KeepR.start w R
      go_enter Try.func22, Try.ntmps22
      go_wp2_with (first | (go_at_call 62; with_reducible refine (c62.out _).mono ?_; rintro e w1 ⟨rfl, hb1⟩; have hk := hk.below hb1; obtain ⟨lx, cx⟩ := cells_of hk.x))
      go_ret3
      exact ⟨none, 0, rfl, nil_ints _, hk.bel⟩
    | cons x0 L0 =>
      obtain ⟨L, hLd⟩ : ∃ L, L = x0 :: L0 := ⟨_, rfl⟩
      rw [← hLd] at hL
      obtain ⟨p, hp, hbest, hpm⟩ := planR_find hv changes_low (f := chg) (fun q hq => val_chg hv hq) hL hLd
      have h16 := valid_16 hv
      have hlens : ∀ q, q ∈ L → q.length ≤ 1000 := fun q hq => by rw [← hL] at hq; rw [(mem_plans hq).1]; omega
      have hne : L ≠ [] := by rw [hLd]; simp
      have hpos : 0 < L.length := List.length_pos_iff.2 hne
      have hmax : L.length ≤ 65536 := by
        have h9 := length_rightL R R.hours.toNat St.begin
        have h8 : (plansL R).length ≤ 2 ^ R.hours.toNat := h9
        rw [hL] at h8
        have := Nat.pow_le_pow_right (n := 2) (by decide) h16
        omega
      have hx0 : L.getD 0 [] = x0 := by rw [hLd]; rfl
      rw [hp]
      have c62 := hid (fun w => plans_some R hv L hL hne w)
      have c37p := hid (fun (v : Value) w h => changes_as (v := v) (xs := p) rfl (hlens p hpm) w h)
      have hlens' := hid hlens
      have hbest' := hid hbest
      have hx0' := hid hx0
      have hLd' := hid hLd
      clear hv hL hp hlens hbest hne hx0 hLd hpm
      have hk := KeepR.start w R
      go_enter Try.func22, Try.ntmps22
      go_upto_region 4 with (first | (go_at_call 62; with_reducible refine (c62.out _).mono ?_; rintro e w1 ⟨la, lc, rfl, hr0, hb1⟩; have hk := hk.below hb1; obtain ⟨lx, cx⟩ := cells_of hk.x; have hr := hid hr0; clear hr0))
      obtain ⟨g, u0, rfl, hcg, hu0⟩ := rows_at hr.out hpos
      rw [hx0'.out] at hu0
      have hu0' := hid hu0
      clear hu0
      have hpos2 : (0 : Int) < (L.length : Int) := by omega
      go_wp2
      go_loopw [7, 8] (fun bv i wr => ∃ k : Nat, k ≤ L.length ∧ i = .int .i64 k ∧ Hid (OwnRow 0 wr bv (bestF chg x0 (L.take k))) ∧ Hid (PlanRows w.heap.size wr (.slice (some ⟨g, 0, none⟩) L.length lc) L) ∧ KeepR w R wr) (fun _ i _ => L.length - (intOf i).toNat)
      case atStart => exact ⟨0, by omega, rfl, hu0', hid (PlanRows.low hr.out (Nat.le_of_lt (by simp))), hk⟩
      case round =>
        obtain ⟨k, hkk, rfl, hbst, hr, hk⟩ := hrel
        obtain ⟨lx, cx⟩ := cells_of hk.x
        by_cases hlt : k < L.length
        · obtain ⟨g', u, hg, hcg, hu0⟩ := rows_at hr.out hlt
          cases hg
          have hu := hid hu0
          have htk : L.take (k + 1) = L.take k ++ [L.getD k []] := by rw [List.take_add_one]; simp [hlt]
          have hsn := bestF_snoc chg x0 (L.take k) (L.getD k [])
          rw [← htk] at hsn
          have hmem : L.getD k [] ∈ L := by
            have e : L.getD k [] = L[k] := by simp [hlt]
            rw [e]
            exact List.getElem_mem hlt
          have hly : (L.getD k []).length ≤ 1000 := hlens'.out _ hmem
          have hlb : (bestF chg x0 (L.take k)).length ≤ 1000 := by
            rcases bestF_mem chg (L.take k) x0 with h | h
            · rw [h]; exact hlens'.out x0 (by rw [hLd'.out]; simp)
            · exact hlens'.out _ (List.mem_of_mem_take h)
          clear hu0 htk hmem
          generalize L.getD k [] = y at *
          generalize bestF chg x0 (L.take k) = bst at *
          have hsn' := hid hsn
          clear hsn
          have c37u := hid (fun (v : Value) w h => changes_as (v := v) (xs := y) rfl hly w h)
          have c37b := hid (fun (v : Value) w h => changes_as (v := v) (xs := bst) rfl hlb w h)
          clear hly hlb
          have hk2 : (k : Int) < (L.length : Int) := by omega
          by_cases hcmp : chg y < chg bst
          · have hsn2 := hid (show bestF chg x0 (L.take (k + 1)) = y by rw [hsn'.out, if_pos hcmp])
            go_wp2_with (first | (go_at_call 37; with_reducible refine (c37u.out _ _ (OwnRow.ints hu.out)).mono ?_; rintro e w1 ⟨rfl, hb1⟩; have hk := hk.below hb1; obtain ⟨lx, cx⟩ := cells_of hk.x; have hr := hid (PlanRows.below hr.out hb1); have hu := hid (OwnRow.below hu.out hb1); have hbst := hid (OwnRow.below hbst.out hb1); have hcg := (hb1.cell (p := ⟨g, k, none⟩) (cell_lt hcg)).trans hcg) | (go_at_call 37; with_reducible refine (c37b.out _ _ (OwnRow.ints hbst.out)).mono ?_; rintro e w1 ⟨rfl, hb1⟩; have hk := hk.below hb1; obtain ⟨lx, cx⟩ := cells_of hk.x; have hr := hid (PlanRows.below hr.out hb1); have hu := hid (OwnRow.below hu.out hb1); have hbst := hid (OwnRow.below hbst.out hb1); have hcg := (hb1.cell (p := ⟨g, k, none⟩) (cell_lt hcg)).trans hcg))
            go_roundw
            case rel => exact ⟨k + 1, by omega, by go_num, by rw [hsn2.out]; exact hu, hr, hk⟩
            case measure => simp [intOf]; omega
          · have hsn2 := hid (show bestF chg x0 (L.take (k + 1)) = bst by rw [hsn'.out, if_neg hcmp])
            have hd : decide (chg y < chg bst) = false := by simpa using hcmp
            go_wp2_with (first | (go_at_call 37; with_reducible refine (c37u.out _ _ (OwnRow.ints hu.out)).mono ?_; rintro e w1 ⟨rfl, hb1⟩; have hk := hk.below hb1; obtain ⟨lx, cx⟩ := cells_of hk.x; have hr := hid (PlanRows.below hr.out hb1); have hu := hid (OwnRow.below hu.out hb1); have hbst := hid (OwnRow.below hbst.out hb1); have hcg := (hb1.cell (p := ⟨g, k, none⟩) (cell_lt hcg)).trans hcg) | (go_at_call 37; with_reducible refine (c37b.out _ _ (OwnRow.ints hbst.out)).mono ?_; rintro e w1 ⟨rfl, hb1⟩; have hk := hk.below hb1; obtain ⟨lx, cx⟩ := cells_of hk.x; have hr := hid (PlanRows.below hr.out hb1); have hu := hid (OwnRow.below hu.out hb1); have hbst := hid (OwnRow.below hbst.out hb1); have hcg := (hb1.cell (p := ⟨g, k, none⟩) (cell_lt hcg)).trans hcg))
            go_roundw
            case rel => exact ⟨k + 1, by omega, by go_num, by rw [hsn2.out]; exact hbst, hr, hk⟩
            case measure => simp [intOf]; omega
        · obtain rfl : k = L.length := by omega
          have hfin := hid (show bestF chg x0 (L.take L.length) = p by rw [List.take_length]; exact hbest'.out)
          have hbst := hid (own_as hfin.out hbst.out)
          go_wp2_with (first | (go_at_call 37; with_reducible refine (c37p.out _ _ (OwnRow.ints hbst.out)).mono ?_; rintro e w1 ⟨rfl, hb1⟩; have hk := hk.below hb1; obtain ⟨lx, cx⟩ := cells_of hk.x; have hbst := hid (OwnRow.below hbst.out hb1)))
          go_ret3
          obtain ⟨a, cap, e, hi⟩ := intsAt_dest (OwnRow.ints hbst.out)
          exact ⟨a, cap, by rw [← e]; rfl, hi, hk.bel⟩

set_option maxRecDepth 100000 in
set_option maxHeartbeats 4000000 in
theorem refEven_any (R : Rest) (w : World) : Calls Try.prog 24 #[restV R] w fun e w' => ∃ a cap, e = .returned (.tuple #[.int .i64 (planR R evenG).1, .slice a (planR R evenG).2.1.length cap, .int .i64 (planR R evenG).2.2]) ∧ IntsAt w' (.slice a (planR R evenG).2.1.length cap) (planR R evenG).2.1 ∧ Below w.heap.size w w' := by
  cases hv : R.valid
  · have hc : planR R evenG = (0, [], 1) := by simp [planR, hv]
    rw [hc]
    have c62 := hid (fun w => plans_bad R hv w)
    clear hv hc
    have hk := KeepR.start w R
    go_enter Try.func24, Try.ntmps24
    go_wp2_with (first | (go_at_call 62; with_reducible refine (c62.out _).mono ?_; rintro e w1 ⟨rfl, hb1⟩; have hk := hk.below hb1; obtain ⟨lx, cx⟩ := cells_of hk.x))
    go_ret3
    exact ⟨none, 0, rfl, nil_ints _, hk.bel⟩
  · cases hL : plansL R with
    | nil =>
      have hc : planR R evenG = (0, [], 4) := by
        rcases told_plan hv even_low with ⟨_, h⟩ | ⟨h, _⟩
        · exact h
        · exact (h hL).elim
      rw [hc]
      have c62 := hid (fun w => plans_none R hv hL w)
      clear hv hc hL
      have hk := KeepR.start w R
      go_enter Try.func24, Try.ntmps24
      go_wp2_with (first | (go_at_call 62; with_reducible refine (c62.out _).mono ?_; rintro e w1 ⟨rfl, hb1⟩; have hk := hk.below hb1; obtain ⟨lx, cx⟩ := cells_of hk.x))
      go_ret3
      exact ⟨none, 0, rfl, nil_ints _, hk.bel⟩
    | cons x0 L0 =>
      obtain ⟨L, hLd⟩ : ∃ L, L = x0 :: L0 := ⟨_, rfl⟩
      rw [← hLd] at hL
      obtain ⟨p, hp, hbest, hpm⟩ := planR_find hv even_low (f := dif) (fun q hq => val_even (plan_two hq)) hL hLd
      have h16 := valid_16 hv
      have hlens : ∀ q, q ∈ L → q.length ≤ 1000 := fun q hq => by rw [← hL] at hq; rw [(mem_plans hq).1]; omega
      have hne : L ≠ [] := by rw [hLd]; simp
      have hpos : 0 < L.length := List.length_pos_iff.2 hne
      have hmax : L.length ≤ 65536 := by
        have h9 := length_rightL R R.hours.toNat St.begin
        have h8 : (plansL R).length ≤ 2 ^ R.hours.toNat := h9
        rw [hL] at h8
        have := Nat.pow_le_pow_right (n := 2) (by decide) h16
        omega
      have hx0 : L.getD 0 [] = x0 := by rw [hLd]; rfl
      rw [hp]
      have c62 := hid (fun w => plans_some R hv L hL hne w)
      have c38p := hid (fun (v : Value) w h => difference_as (v := v) (xs := p) rfl (hlens p hpm) w h)
      have hlens' := hid hlens
      have hbest' := hid hbest
      have hx0' := hid hx0
      have hLd' := hid hLd
      clear hv hL hp hlens hbest hne hx0 hLd hpm
      have hk := KeepR.start w R
      go_enter Try.func24, Try.ntmps24
      go_upto_region 4 with (first | (go_at_call 62; with_reducible refine (c62.out _).mono ?_; rintro e w1 ⟨la, lc, rfl, hr0, hb1⟩; have hk := hk.below hb1; obtain ⟨lx, cx⟩ := cells_of hk.x; have hr := hid hr0; clear hr0))
      obtain ⟨g, u0, rfl, hcg, hu0⟩ := rows_at hr.out hpos
      rw [hx0'.out] at hu0
      have hu0' := hid hu0
      clear hu0
      have hpos2 : (0 : Int) < (L.length : Int) := by omega
      go_wp2
      go_loopw [7, 8] (fun bv i wr => ∃ k : Nat, k ≤ L.length ∧ i = .int .i64 k ∧ Hid (OwnRow 0 wr bv (bestF dif x0 (L.take k))) ∧ Hid (PlanRows w.heap.size wr (.slice (some ⟨g, 0, none⟩) L.length lc) L) ∧ KeepR w R wr) (fun _ i _ => L.length - (intOf i).toNat)
      case atStart => exact ⟨0, by omega, rfl, hu0', hid (PlanRows.low hr.out (Nat.le_of_lt (by simp))), hk⟩
      case round =>
        obtain ⟨k, hkk, rfl, hbst, hr, hk⟩ := hrel
        obtain ⟨lx, cx⟩ := cells_of hk.x
        by_cases hlt : k < L.length
        · obtain ⟨g', u, hg, hcg, hu0⟩ := rows_at hr.out hlt
          cases hg
          have hu := hid hu0
          have htk : L.take (k + 1) = L.take k ++ [L.getD k []] := by rw [List.take_add_one]; simp [hlt]
          have hsn := bestF_snoc dif x0 (L.take k) (L.getD k [])
          rw [← htk] at hsn
          have hmem : L.getD k [] ∈ L := by
            have e : L.getD k [] = L[k] := by simp [hlt]
            rw [e]
            exact List.getElem_mem hlt
          have hly : (L.getD k []).length ≤ 1000 := hlens'.out _ hmem
          have hlb : (bestF dif x0 (L.take k)).length ≤ 1000 := by
            rcases bestF_mem dif (L.take k) x0 with h | h
            · rw [h]; exact hlens'.out x0 (by rw [hLd'.out]; simp)
            · exact hlens'.out _ (List.mem_of_mem_take h)
          clear hu0 htk hmem
          generalize L.getD k [] = y at *
          generalize bestF dif x0 (L.take k) = bst at *
          have hsn' := hid hsn
          clear hsn
          have c38u := hid (fun (v : Value) w h => difference_as (v := v) (xs := y) rfl hly w h)
          have c38b := hid (fun (v : Value) w h => difference_as (v := v) (xs := bst) rfl hlb w h)
          clear hly hlb
          have hk2 : (k : Int) < (L.length : Int) := by omega
          by_cases hcmp : dif y < dif bst
          · have hsn2 := hid (show bestF dif x0 (L.take (k + 1)) = y by rw [hsn'.out, if_pos hcmp])
            go_wp2_with (first | (go_at_call 38; with_reducible refine (c38u.out _ _ (OwnRow.ints hu.out)).mono ?_; rintro e w1 ⟨rfl, hb1⟩; have hk := hk.below hb1; obtain ⟨lx, cx⟩ := cells_of hk.x; have hr := hid (PlanRows.below hr.out hb1); have hu := hid (OwnRow.below hu.out hb1); have hbst := hid (OwnRow.below hbst.out hb1); have hcg := (hb1.cell (p := ⟨g, k, none⟩) (cell_lt hcg)).trans hcg) | (go_at_call 38; with_reducible refine (c38b.out _ _ (OwnRow.ints hbst.out)).mono ?_; rintro e w1 ⟨rfl, hb1⟩; have hk := hk.below hb1; obtain ⟨lx, cx⟩ := cells_of hk.x; have hr := hid (PlanRows.below hr.out hb1); have hu := hid (OwnRow.below hu.out hb1); have hbst := hid (OwnRow.below hbst.out hb1); have hcg := (hb1.cell (p := ⟨g, k, none⟩) (cell_lt hcg)).trans hcg))
            go_roundw
            case rel => exact ⟨k + 1, by omega, by go_num, by rw [hsn2.out]; exact hu, hr, hk⟩
            case measure => simp [intOf]; omega
          · have hsn2 := hid (show bestF dif x0 (L.take (k + 1)) = bst by rw [hsn'.out, if_neg hcmp])
            have hd : decide (dif y < dif bst) = false := by simpa using hcmp
            go_wp2_with (first | (go_at_call 38; with_reducible refine (c38u.out _ _ (OwnRow.ints hu.out)).mono ?_; rintro e w1 ⟨rfl, hb1⟩; have hk := hk.below hb1; obtain ⟨lx, cx⟩ := cells_of hk.x; have hr := hid (PlanRows.below hr.out hb1); have hu := hid (OwnRow.below hu.out hb1); have hbst := hid (OwnRow.below hbst.out hb1); have hcg := (hb1.cell (p := ⟨g, k, none⟩) (cell_lt hcg)).trans hcg) | (go_at_call 38; with_reducible refine (c38b.out _ _ (OwnRow.ints hbst.out)).mono ?_; rintro e w1 ⟨rfl, hb1⟩; have hk := hk.below hb1; obtain ⟨lx, cx⟩ := cells_of hk.x; have hr := hid (PlanRows.below hr.out hb1); have hu := hid (OwnRow.below hu.out hb1); have hbst := hid (OwnRow.below hbst.out hb1); have hcg := (hb1.cell (p := ⟨g, k, none⟩) (cell_lt hcg)).trans hcg))
            go_roundw
            case rel => exact ⟨k + 1, by omega, by go_num, by rw [hsn2.out]; exact hbst, hr, hk⟩
            case measure => simp [intOf]; omega
        · obtain rfl : k = L.length := by omega
          have hfin := hid (show bestF dif x0 (L.take L.length) = p by rw [List.take_length]; exact hbest'.out)
          have hbst := hid (own_as hfin.out hbst.out)
          go_wp2_with (first | (go_at_call 38; with_reducible refine (c38p.out _ _ (OwnRow.ints hbst.out)).mono ?_; rintro e w1 ⟨rfl, hb1⟩; have hk := hk.below hb1; obtain ⟨lx, cx⟩ := cells_of hk.x; have hbst := hid (OwnRow.below hbst.out hb1)))
          go_ret3
          obtain ⟨a, cap, e, hi⟩ := intsAt_dest (OwnRow.ints hbst.out)
          exact ⟨a, cap, by rw [← e]; rfl, hi, hk.bel⟩

end Go.Proofs.Ytkgdejhooghknaa

namespace Go.Proofs.Ytkgdejhooghknaa
open Go.RowKit Go.Lap Go.Shelf

theorem refFewest_as {R : Rest} {k e : Int} {p : List Int} (h : planR R changesG = (k, p, e)) (w : World) :
    Calls Try.prog 22 #[restV R] w fun e' w' => ∃ a cap, e' = .returned (.tuple #[.int .i64 k, .slice a p.length cap, .int .i64 e]) ∧ IntsAt w' (.slice a p.length cap) p ∧ Below w.heap.size w w' := by
  have := refFewest_any R w
  rw [h] at this
  exact this
theorem refEven_as {R : Rest} {k e : Int} {p : List Int} (h : planR R evenG = (k, p, e)) (w : World) :
    Calls Try.prog 24 #[restV R] w fun e' w' => ∃ a cap, e' = .returned (.tuple #[.int .i64 k, .slice a p.length cap, .int .i64 e]) ∧ IntsAt w' (.slice a p.length cap) p ∧ Below w.heap.size w w' := by
  have := refEven_any R w
  rw [h] at this
  exact this
theorem planR_len {R : Rest} {g : Goal Int} {P : Nat → Int → Prop} (hg : g.Low P) : (planR R g).2.1.length ≤ 1000 := by
  cases hv : R.valid
  · simp [planR, hv]
  · have h16 := valid_16 hv
    rcases told_plan hv hg with ⟨_, h⟩ | ⟨_, v, p, h, hp, _⟩
    · rw [h]; simp
    · rw [h]
      have := (mem_plans hp).1
      show p.length ≤ 1000
      omega

set_option maxRecDepth 100000 in
set_option maxHeartbeats 4000000 in
theorem restPlans_any (R : Rest) (w : World) : Calls Try.prog 4 #[restV R] w fun e w' => e = .returned (.bool true) ∧ Below w.heap.size w w' := by
  have hk := KeepR.start w R
  have c14 := hid awake_any
  have c13 := hid (fun w => long_any R 11 w)
  cases hb : (decide (11 < R.hours) && R.valid)
  · rw [hb] at c13
    obtain ⟨k1, p1, e1, hc1⟩ : ∃ k p e, planR R changesG = (k, p, e) := ⟨_, _, _, rfl⟩
    obtain ⟨k2, p2, e2, hc2⟩ : ∃ k p e, planR R evenG = (k, p, e) := ⟨_, _, _, rfl⟩
    have hl1 : p1.length ≤ 1000 := by have := planR_len (R := R) changes_low; rw [hc1] at this; exact this
    have hl2 : p2.length ≤ 1000 := by have := planR_len (R := R) even_low; rw [hc2] at this; exact this
    have c21 := hid (fun w => fewest_as hc1 w)
    have c22 := hid (fun w => refFewest_as hc1 w)
    have c23 := hid (fun w => even_as hc2 w)
    have c24 := hid (fun w => refEven_as hc2 w)
    have c25a := hid (fun (v1 v2 : Value) w h1 h2 => aw_ints w p1 hl1 v1 v2 h1 h2)
    have c25b := hid (fun (v1 v2 : Value) w h1 h2 => aw_ints w p2 hl2 v1 v2 h1 h2)
    clear hb hc1 hc2
    go_enter Try.func4, Try.ntmps4
    go_wp2_with (first | (go_at_call 13; with_reducible refine (c13.out _).mono ?_; rintro e w1 ⟨rfl, hb1⟩; have hk := hk.below hb1; obtain ⟨lx, cx⟩ := cells_of hk.x) | (go_at_call 21; with_reducible refine (c21.out _).mono ?_; rintro e w1 ⟨aB, nB, rfl, hB0, hb1⟩; have hk := hk.below hb1; obtain ⟨lx, cx⟩ := cells_of hk.x; have hB := hid hB0; clear hB0) | (go_at_call 22; with_reducible refine (c22.out _).mono ?_; rintro e w1 ⟨aD, nD, rfl, hD0, hb1⟩; have hk := hk.below hb1; obtain ⟨lx, cx⟩ := cells_of hk.x; have hB := hid (hB.out.below hb1); have hD := hid hD0; clear hD0) | (go_at_call 23; with_reducible refine (c23.out _).mono ?_; rintro e w1 ⟨aH, nH, rfl, hH0, hb1⟩; have hk := hk.below hb1; obtain ⟨lx, cx⟩ := cells_of hk.x; have hB := hid (hB.out.below hb1); have hD := hid (hD.out.below hb1); have hH := hid hH0; clear hH0) | (go_at_call 24; with_reducible refine (c24.out _).mono ?_; rintro e w1 ⟨aK, nK, rfl, hK0, hb1⟩; have hk := hk.below hb1; obtain ⟨lx, cx⟩ := cells_of hk.x; have hB := hid (hB.out.below hb1); have hD := hid (hD.out.below hb1); have hH := hid (hH.out.below hb1); have hK := hid hK0; clear hK0) | (go_at_call 25; with_reducible refine (c25a.out _ _ _ hB.out hD.out).mono ?_; rintro e w1 ⟨rfl, hb1⟩; have hk := hk.below hb1; obtain ⟨lx, cx⟩ := cells_of hk.x; have hH := hid (hH.out.below hb1); have hK := hid (hK.out.below hb1)) | (go_at_call 25; with_reducible refine (c25b.out _ _ _ hH.out hK.out).mono ?_; rintro e w1 ⟨rfl, hb1⟩; have hk := hk.below hb1; obtain ⟨lx, cx⟩ := cells_of hk.x) | (go_at_call 14; with_reducible refine (c14.out _).mono ?_; rintro e w1 ⟨rfl, hb1⟩; have hk := hk.below hb1; obtain ⟨lx, cx⟩ := cells_of hk.x))
    go_ret
    exact ⟨rfl, hk.bel⟩
  · rw [hb] at c13
    clear hb
    go_enter Try.func4, Try.ntmps4
    go_wp2_with (first | (go_at_call 13; with_reducible refine (c13.out _).mono ?_; rintro e w1 ⟨rfl, hb1⟩; have hk := hk.below hb1; obtain ⟨lx, cx⟩ := cells_of hk.x) | (go_at_call 14; with_reducible refine (c14.out _).mono ?_; rintro e w1 ⟨rfl, hb1⟩; have hk := hk.below hb1; obtain ⟨lx, cx⟩ := cells_of hk.x))
    go_ret
    exact ⟨rfl, hk.bel⟩

end Go.Proofs.Ytkgdejhooghknaa
