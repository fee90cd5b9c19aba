/- What is broken in an hour, by the words of the chapter; and the walk of 'broken' of the law. -/
import Derived.Test.YtkgdejhooghknaaV0
namespace Go.Proofs.Ytkgdejhooghknaa
open Go.RowKit Go.Lap Go.Shelf

/-- How it is after some hours of a plan. -/
def after (l : List Int) : St := l.foldl St.next St.begin
theorem after_snoc (l : List Int) (x : Int) : after (l ++ [x]) = (after l).next x := by simp [after]

/-- For how many hours a rider rode at the end. -/
def tailRun (r : Int) (l : List Int) : Int := l.foldl (fun n x => if x = r then n + 1 else 0) 0
/-- The last hour in which a rider rode, from an hour on; below 0: none. -/
def lastAt (r : Int) (l : List Int) : Int × Int := l.foldl (fun a x => (a.1 + 1, if x = r then a.1 else a.2)) (0, -1)
theorem tailRun_snoc (r : Int) (l : List Int) (x : Int) : tailRun r (l ++ [x]) = if x = r then tailRun r l + 1 else 0 := by simp [tailRun]
theorem lastAt_snoc (r : Int) (l : List Int) (x : Int) : lastAt r (l ++ [x]) = ((lastAt r l).1 + 1, if x = r then (lastAt r l).1 else (lastAt r l).2) := by simp [lastAt]
theorem lastAt_fst (r : Int) (l : List Int) : (lastAt r l).1 = l.length := by
  induction l using snoc_ind with
  | hn => rfl
  | hs l x ih => rw [lastAt_snoc]; simp [ih]
theorem tailRun_bd (r : Int) (l : List Int) : 0 ≤ tailRun r l ∧ tailRun r l ≤ l.length := by
  induction l using snoc_ind with
  | hn => simp [tailRun]
  | hs l x ih => rw [tailRun_snoc]; simp; split <;> omega
theorem tailRun_rid (r : Int) (l : List Int) : tailRun r l ≤ rid r l := by
  induction l using snoc_ind with
  | hn => simp [tailRun, rid]
  | hs l x ih =>
    have := rid_bound r l
    rw [tailRun_snoc, rid_append]
    simp only [rid]
    split <;> omega
theorem lastAt_bd (r : Int) (l : List Int) : -1 ≤ (lastAt r l).2 ∧ (lastAt r l).2 < l.length := by
  induction l using snoc_ind with
  | hn => simp [lastAt]
  | hs l x ih => rw [lastAt_snoc, lastAt_fst]; simp; split <;> omega

/-- What the state tells of a list of riders. -/
structure Tells (l : List Int) (s : St) : Prop where
  hour : s.hour = l.length
  of : ∀ r, (r = 0 ∨ r = 1) → s.of r = rid r l
  none : l = [] → s.rider = -1 ∧ s.run = 0
  who : l ≠ [] → (s.rider = 0 ∨ s.rider = 1) ∧ 1 ≤ s.run ∧ s.run ≤ l.length
  run : ∀ r, (r = 0 ∨ r = 1) → tailRun r l = if s.rider = r then s.run else 0
  last : ∀ r, (r = 0 ∨ r = 1) → l ≠ [] → (lastAt r l).2 = if s.rider = r then (l.length : Int) - 1 else if 0 < rid r l then (l.length : Int) - 1 - s.run else -1

theorem tells : ∀ (l : List Int), (∀ x, x ∈ l → x = 0 ∨ x = 1) → Tells l (after l) := by
  intro l
  induction l using snoc_ind with
  | hn =>
    intro _
    refine ⟨rfl, fun r hr => ?_, fun _ => ⟨rfl, rfl⟩, fun h => (h rfl).elim, fun r hr => ?_, fun _ _ h => (h rfl).elim⟩
    · rcases hr with rfl | rfl <;> rfl
    · rcases hr with rfl | rfl <;> rfl
  | hs l x ih =>
    intro h
    have hl := ih (fun y hy => h y (by simp [hy]))
    have hx := h x (by simp)
    rw [after_snoc]
    generalize after l = s at *
    have hb := rid_bound
    have e1 : (s.next x).rider = x := rfl
    have e2 : (s.next x).run = if x = s.rider then s.run + 1 else 1 := rfl
    refine ⟨?_, fun r hr => ?_, fun h => by simp at h, fun _ => ?_, fun r hr => ?_, fun r hr _ => ?_⟩
    · show s.hour + 1 = _
      rw [hl.hour]; simp
    · rw [rid_append, ← hl.of r hr]
      rcases hr with rfl | rfl <;> rcases hx with rfl | rfl <;> simp [St.next, St.of, rid]
    · refine ⟨hx, ?_⟩
      rw [e2]
      by_cases hn : l = []
      · obtain ⟨h1, h2⟩ := hl.none hn
        rw [h1, h2]
        split <;> simp <;> omega
      · obtain ⟨_, h2, h3⟩ := hl.who hn
        simp
        split <;> omega
    · rw [tailRun_snoc, e1, e2, hl.run r hr]
      by_cases hxr : x = r
      · subst hxr
        simp only [if_true]
        by_cases hs : s.rider = x
        · rw [if_pos hs, if_pos hs.symm]
        · rw [if_neg hs, if_neg (fun e => hs e.symm)]; rfl
      · rw [if_neg hxr, if_neg hxr]
    · rw [lastAt_snoc, lastAt_fst, e1, e2]
      have hlen : ((l ++ [x]).length : Int) = l.length + 1 := by simp
      rw [hlen, rid_append]
      by_cases hxr : x = r
      · subst hxr
        simp
      · simp only [if_neg hxr]
        have hz : rid r [x] = 0 := by simp [rid, hxr]
        rw [hz, Int.add_zero]
        by_cases hn : l = []
        · subst hn
          simp [lastAt, rid]
        · have hw := (hl.who hn).1
          rw [hl.last r hr hn]
          have hor : x ≠ r := hxr
          by_cases hs : s.rider = r
          · have h1 : x ≠ s.rider := by rw [hs]; exact hxr
            rw [if_pos hs, if_neg h1]
            have hp : 0 < rid r l := by
              have h2 := hl.run r hr
              rw [if_pos hs] at h2
              have h3 := (hl.who hn).2.1
              have key : ∀ l : List Int, 0 < tailRun r l → 0 < rid r l := by
                intro l
                induction l using snoc_ind with
                | hn => simp [tailRun]
                | hs l x ih =>
                  rw [tailRun_snoc, rid_append]
                  intro h
                  have := rid_bound r l
                  split at h
                  · rename_i e; simp [rid, e]; omega
                  · omega
              exact key l (by omega)
            rw [if_pos hp]; omega
          · have h1 : x = s.rider := by omega
            rw [if_neg hs, if_pos h1]
            split <;> omega

/-- The first rule that a plan breaks in an hour, by the words of the chapter. -/
def lawB (R : Rest) (l : List Int) (x : Int) : Int :=
  if hasBit (R.rider x).out l.length then 1
  else if (R.rider x).total < rid x l + 1 then 2
  else if (R.rider x).run < tailRun x l + 1 then 3
  else if 0 ≤ (lastAt x l).2 ∧ (lastAt x l).2 < (l.length : Int) - 1 ∧ (l.length : Int) - 1 - (lastAt x l).2 < (R.rider x).off then 4
  else 0

theorem lawB_eq (R : Rest) {l : List Int} (h : ∀ x, x ∈ l → x = 0 ∨ x = 1) {x : Int} (hx : x = 0 ∨ x = 1) : lawB R l x = broken R ((after l).next x) := by
  have ht := tells l h
  generalize after l = s at *
  have e0 : (s.next x).rider = x := rfl
  have e1 : (s.next x).hour - 1 = l.length := by show s.hour + 1 - 1 = _; rw [ht.hour]; omega
  have e2 : (s.next x).own = rid x l + 1 := by
    rw [← ht.of x hx]
    rcases hx with rfl | rfl <;> simp [St.next, St.own, St.of]
  have e3 : (s.next x).run = tailRun x l + 1 := by
    show (if x = s.rider then s.run + 1 else 1) = _
    rw [ht.run x hx]
    by_cases hs : s.rider = x
    · rw [if_pos hs, if_pos hs.symm]
    · rw [if_neg hs, if_neg (fun e => hs e.symm)]; rfl
  have e4 : (s.next x).before = if x = s.rider then s.before else s.run := rfl
  have hb := rid_bound x l
  have e5 : ((s.next x).again && decide ((s.next x).before < (R.rider x).off)) = decide (0 ≤ (lastAt x l).2 ∧ (lastAt x l).2 < (l.length : Int) - 1 ∧ (l.length : Int) - 1 - (lastAt x l).2 < (R.rider x).off) := by
    rw [Bool.eq_iff_iff]
    simp only [St.again, e2, e3, e4, Bool.and_eq_true, decide_eq_true_eq]
    by_cases hn : l = []
    · subst hn
      obtain ⟨h1, h2⟩ := ht.none rfl
      rw [h1, h2]
      simp [lastAt]
      rcases hx with rfl | rfl <;> simp
    · have hw := ht.who hn
      have hl := ht.last x hx hn
      have hr := ht.run x hx
      rw [hl, hr]
      by_cases hs : s.rider = x
      · rw [if_pos hs, if_pos hs, if_pos hs.symm]
        constructor
        · intro h; omega
        · intro h; omega
      · rw [if_neg hs, if_neg hs, if_neg (fun e => hs e.symm)]
        have h2 := rid_two h
        have hfit : rid x l + s.run ≤ l.length := by
          rcases hw.1 with hr0 | hr0
          · have h3 := ht.run 0 (.inl rfl)
            have h4 := tailRun_rid 0 l
            rw [if_pos hr0] at h3
            have : x = 1 := by omega
            subst this; omega
          · have h3 := ht.run 1 (.inr rfl)
            have h4 := tailRun_rid 1 l
            rw [if_pos hr0] at h3
            have : x = 0 := by omega
            subst this; omega
        by_cases hp : 0 < rid x l
        · rw [if_pos hp]
          constructor
          · intro h; omega
          · intro h; omega
        · rw [if_neg hp]
          constructor
          · intro h; omega
          · intro h; omega
  unfold lawB broken
  rw [e0, e1, e2, e3, e5]
  simp only [decide_eq_true_eq]

/-- What is told of a plan: the first hour in which it breaks a rule, or that there is none. -/
theorem checkFrom_told (R : Rest) : ∀ (l : List Int) (pre : List Int) (h : Int), (pre.length : Int) = h →
    (checkFrom R (after pre) h l = (0, 0, 4) ∧ ∀ j, j < l.length → broken R ((after (pre ++ l.take j)).next (l.getD j 0)) = 0) ∨
    (∃ j : Nat, j < l.length ∧ checkFrom R (after pre) h l = (h + j, broken R ((after (pre ++ l.take j)).next (l.getD j 0)), 0) ∧ broken R ((after (pre ++ l.take j)).next (l.getD j 0)) ≠ 0 ∧ ∀ i, i < j → broken R ((after (pre ++ l.take i)).next (l.getD i 0)) = 0)
  | [], pre, h, _ => .inl ⟨rfl, fun j hj => by simp at hj⟩
  | x :: l, pre, h, hp => by
    unfold checkFrom
    by_cases hb : broken R ((after pre).next x) = 0
    · rw [if_pos hb, ← after_snoc]
      have ih := checkFrom_told R l (pre ++ [x]) (h + 1) (by simp; omega)
      have shift : ∀ j, pre ++ [x] ++ l.take j = pre ++ (x :: l).take (j + 1) := by intro j; simp
      rcases ih with ⟨h1, h2⟩ | ⟨j, hj, h1, h2, h3⟩
      · refine .inl ⟨h1, fun j hj => ?_⟩
        cases j with
        | zero => simpa using hb
        | succ j =>
          have := h2 j (by simpa using hj)
          rw [shift] at this
          simpa using this
      · refine .inr ⟨j + 1, by simpa using hj, ?_, ?_, ?_⟩
        · rw [shift] at h1
          rw [h1]
          simp only [List.getD_cons_succ, Prod.mk.injEq, and_true]
          omega
        · rw [shift] at h2
          simpa using h2
        · intro i hi
          cases i with
          | zero => simpa using hb
          | succ i =>
            have := h3 i (by omega)
            rw [shift] at this
            simpa using this
    · rw [if_neg hb]
      refine .inr ⟨0, by simp, by simp, by simpa using hb, fun i hi => by omega⟩

theorem broken_bd (R : Rest) (s : St) : 0 ≤ broken R s ∧ broken R s ≤ 4 := by
  unfold broken
  split
  · omega
  · split
    · omega
    · split
      · omega
      · split <;> omega

theorem check_told {R : Rest} (hv : R.valid = true) {Q : List Int} (hQ : ∀ x, x ∈ Q → x = 0 ∨ x = 1) (hl : (Q.length : Int) = R.hours) :
    (checkOf R Q = (0, 0, 4) ∧ ∀ j, j < Q.length → lawB R (Q.take j) (Q.getD j 0) = 0) ∨
    (∃ (j : Nat) (n : Int), j < Q.length ∧ checkOf R Q = ((j : Int), n, 0) ∧ 1 ≤ n ∧ n ≤ 4 ∧ lawB R (Q.take j) (Q.getD j 0) = n ∧ ∀ i, i < j → lawB R (Q.take i) (Q.getD i 0) = 0) := by
  have hk : planOk R Q = true := by
    unfold planOk
    have : Q.any badB = false := by
      rw [List.any_eq_false]
      intro x hx
      rcases hQ x hx with rfl | rfl <;> simp [badB, inB]
    rw [this]; simp [hl]
  have hc : checkOf R Q = checkFrom R St.begin 0 Q := by simp [checkOf, hv, hk]
  have e : ∀ j, j < Q.length → lawB R (Q.take j) (Q.getD j 0) = broken R ((after (Q.take j)).next (Q.getD j 0)) := fun j hj =>
    lawB_eq R (fun x hx => hQ x (List.mem_of_mem_take hx)) (getD_two hQ hj)
  rw [hc]
  have := checkFrom_told R Q [] 0 rfl
  simp only [List.nil_append] at this
  rcases this with ⟨h1, h2⟩ | ⟨j, hj, h1, h2, h3⟩
  · exact .inl ⟨h1, fun j hj => by rw [e j hj]; exact h2 j hj⟩
  · have hb := broken_bd R ((after (Q.take j)).next (Q.getD j 0))
    refine .inr ⟨j, _, hj, by rw [show St.begin = after [] from rfl, h1]; simp, by omega, hb.2, e j hj, fun i hi => by rw [e i (by omega)]; exact h3 i hi⟩

set_option maxRecDepth 100000 in
set_option maxHeartbeats 4000000 in
theorem lawBroken_0 (R : Rest) (hv : R.valid = true) (a : Option Addr) (cap : Nat) (Q : List Int) (h : Nat) (hlt : h < Q.length) (hl : Q.length ≤ 16) (hx : Q.getD h 0 = 0) (w : World) (hq : IntsAt w (.slice a Q.length cap) Q) :
    Calls Try.prog 34 #[restV R, .slice a Q.length cap, .int .i64 h] w fun e w' => e = .returned (.int .i64 (lawB R (Q.take h) 0)) ∧ Below w.heap.size w w' := by
  have ho := Rest.valid_ok hv
  obtain ⟨b, off, rfl, _, hc⟩ := intsAt_cell hq hlt
  obtain ⟨q0, q1, q2, q3, q4, q5, q6, q7⟩ := ho.1
  have hch := hc h hlt
  rw [hx] at hch
  have hc' := hid hc
  have lb := cell_lt hch
  have hlt2 : (h : Int) < Q.length := by omega
  have hW0 := hid (show Below w.heap.size w ((w.alloc (.cells #[.int .i64 R.hours, .int .i64 R.r0.out, .int .i64 R.r0.total, .int .i64 R.r0.run, .int .i64 R.r0.off, .int .i64 R.r1.out, .int .i64 R.r1.total, .int .i64 R.r1.run, .int .i64 R.r1.off] 26)).alloc (.cells #[.int .i64 R.r0.out, .int .i64 R.r0.total, .int .i64 R.r0.run, .int .i64 R.r0.off] 23)) from below_alloc (below_alloc (Below.refl _ _) _) _)
  clear hc hq ho hx
  go_enter Try.func34, Try.ntmps34
  go_wp2
  go_loopw [9, 10, 11, 22] (fun al la ru x wr => ∃ k : Nat, k ≤ h ∧ x = .int .i64 k ∧ al = .int .i64 (rid 0 (Q.take k)) ∧ la = .int .i64 (lastAt 0 (Q.take k)).2 ∧ ru = .int .i64 (tailRun 0 (Q.take k)) ∧ Hid (wr = ((w.alloc (.cells #[.int .i64 R.hours, .int .i64 R.r0.out, .int .i64 R.r0.total, .int .i64 R.r0.run, .int .i64 R.r0.off, .int .i64 R.r1.out, .int .i64 R.r1.total, .int .i64 R.r1.run, .int .i64 R.r1.off] 26)).alloc (.cells #[.int .i64 R.r0.out, .int .i64 R.r0.total, .int .i64 R.r0.run, .int .i64 R.r0.off] 23)))) (fun _ _ _ x _ => h - (intOf x).toNat)
  case atStart => exact ⟨0, by omega, rfl, rfl, rfl, rfl, hid rfl⟩
  case round =>
    obtain ⟨k, hk, rfl, rfl, rfl, rfl, hwr⟩ := hrel
    have hlen : (Q.take k).length = k := by simp; omega
    have b1 := rid_bound 0 (Q.take k)
    have b2 := lastAt_bd 0 (Q.take k)
    have b3 := tailRun_bd 0 (Q.take k)
    by_cases hlt3 : k < h
    · have s0 := take_one (xs := Q) (k := k) (by omega)
      have s1 := rid_append 0 (Q.take k) [Q.getD k 0]
      have s2 := lastAt_snoc 0 (Q.take k) (Q.getD k 0)
      have s3 := tailRun_snoc 0 (Q.take k) (Q.getD k 0)
      have s4 := lastAt_fst 0 (Q.take k)
      rw [← s0] at s1 s2 s3
      rw [hlen] at b1 b2 b3 s4
      have hck : wr.cell? ⟨b, off + k, none⟩ = some (.int .i64 (Q.getD k 0)) := by rw [hwr.out]; exact (hW0.out.cell (p := ⟨b, off + k, none⟩) lb).trans (hc'.out k (by omega))
      have hkq : (k : Int) < Q.length := by omega
      rw [s4] at s2
      generalize hr1 : rid 0 (Q.take k) = n1 at *
      generalize hr2 : (lastAt 0 (Q.take k)).2 = n2 at *
      generalize hr3 : tailRun 0 (Q.take k) = n3 at *
      generalize Q.getD k 0 = y at *
      have s1' := hid s1
      have s2' := hid s2
      have s3' := hid s3
      clear s0 s1 s2 s3 s4 hr1 hr2 hr3 hlen hch
      by_cases hy : y = 0
      · subst hy
        go_wp2
        go_roundw
        case rel => exact ⟨k + 1, by omega, by go_num, by rw [s1'.out]; simp [rid], by rw [s2'.out]; simp, by rw [s3'.out]; simp, hwr⟩
        case measure => simp [intOf]; omega
      · have hy2 : (y == 0) = false := by simpa using hy
        have hy' := hid hy
        clear hy
        go_wp2
        go_roundw
        case rel => exact ⟨k + 1, by omega, by go_num, by rw [s1'.out]; simp [rid, hy'.out], by rw [s2'.out]; simp [hy'.out], by rw [s3'.out]; simp [hy'.out], hwr⟩
        case measure => simp [intOf]; omega
    · obtain rfl : k = h := by omega
      rw [hlen] at b1 b2 b3
      have hL : lawB R (Q.take k) 0 = if hasBit R.r0.out k then 1 else if R.r0.total < rid 0 (Q.take k) + 1 then 2 else if R.r0.run < tailRun 0 (Q.take k) + 1 then 3 else if 0 ≤ (lastAt 0 (Q.take k)).2 ∧ (lastAt 0 (Q.take k)).2 < (k : Int) - 1 ∧ (k : Int) - 1 - (lastAt 0 (Q.take k)).2 < R.r0.off then 4 else 0 := by
        unfold lawB
        rw [hlen]
        rfl
      have hL' := hid hL
      have hcx := hid (cells_of (show wr.heap[w.heap.size + 1]? = some (.cells #[.int .i64 R.r0.out, .int .i64 R.r0.total, .int .i64 R.r0.run, .int .i64 R.r0.off] 23 (0, 0)) by rw [hwr.out]; exact alloc_at (by simp)))
      obtain ⟨lz, cz⟩ := hcx.out
      have hbel := hid (show Below w.heap.size w wr by rw [hwr.out]; exact hW0.out)
      clear hL hlen hch hcx
      generalize rid 0 (Q.take k) = n1 at *
      generalize (lastAt 0 (Q.take k)).2 = n2 at *
      generalize tailRun 0 (Q.take k) = n3 at *
      cases hA : hasBit R.r0.out k
      · have hA2 := bit_walk hA
        have hA' := hid hA
        clear hA
        by_cases h2 : R.r0.total < n1 + 1
        · have h2' := hid h2
          have hval := hid (show lawB R (Q.take k) 0 = 2 by rw [hL'.out, hA'.out]; simp [h2'.out])
          go_wp2
          go_ret
          exact ⟨ret_int hval.out.symm, hbel.out⟩
        · by_cases h3 : R.r0.run < n3 + 1
          · have h3' := hid h3
            have h2' := hid h2
            have hval := hid (show lawB R (Q.take k) 0 = 3 by rw [hL'.out, hA'.out]; simp [h2'.out, h3'.out])
            go_wp2
            go_ret
            exact ⟨ret_int hval.out.symm, hbel.out⟩
          · have h2' := hid h2
            have h3' := hid h3
            by_cases h4 : 0 ≤ n2
            · by_cases h5 : n2 < (k : Int) - 1
              · by_cases h6 : (k : Int) - 1 - n2 < R.r0.off
                · have h6' := hid (show 0 ≤ n2 ∧ n2 < (k : Int) - 1 ∧ (k : Int) - 1 - n2 < R.r0.off from ⟨h4, h5, h6⟩)
                  have hval := hid (show lawB R (Q.take k) 0 = 4 by rw [hL'.out, hA'.out, if_neg (by simp), if_neg h2'.out, if_neg h3'.out, if_pos h6'.out])
                  go_wp2
                  go_ret
                  exact ⟨ret_int hval.out.symm, hbel.out⟩
                · have h6' := hid (show ¬ (0 ≤ n2 ∧ n2 < (k : Int) - 1 ∧ (k : Int) - 1 - n2 < R.r0.off) from fun h => h6 h.2.2)
                  have hval := hid (show lawB R (Q.take k) 0 = 0 by rw [hL'.out, hA'.out, if_neg (by simp), if_neg h2'.out, if_neg h3'.out, if_neg h6'.out])
                  go_wp2
                  go_ret
                  exact ⟨ret_int hval.out.symm, hbel.out⟩
              · have h6' := hid (show ¬ (0 ≤ n2 ∧ n2 < (k : Int) - 1 ∧ (k : Int) - 1 - n2 < R.r0.off) from fun h => h5 h.2.1)
                have d5 : decide (n2 < (k : Int) - 1) = false := by simpa using h5
                have hval := hid (show lawB R (Q.take k) 0 = 0 by rw [hL'.out, hA'.out, if_neg (by simp), if_neg h2'.out, if_neg h3'.out, if_neg h6'.out])
                go_wp2
                go_ret
                exact ⟨ret_int hval.out.symm, hbel.out⟩
            · have h6' := hid (show ¬ (0 ≤ n2 ∧ n2 < (k : Int) - 1 ∧ (k : Int) - 1 - n2 < R.r0.off) from fun h => h4 h.1)
              have d4 : decide (0 ≤ n2) = false := by simpa using h4
              have hval := hid (show lawB R (Q.take k) 0 = 0 by rw [hL'.out, hA'.out, if_neg (by simp), if_neg h2'.out, if_neg h3'.out, if_neg h6'.out])
              go_wp2
              go_ret
              exact ⟨ret_int hval.out.symm, hbel.out⟩
      · have hA2 := bit_walk hA
        have hA' := hid hA
        clear hA
        have hval := hid (show lawB R (Q.take k) 0 = 1 by rw [hL'.out, hA'.out]; simp)
        go_wp2
        go_ret
        exact ⟨ret_int hval.out.symm, hbel.out⟩

set_option maxRecDepth 100000 in
set_option maxHeartbeats 4000000 in
theorem lawBroken_1 (R : Rest) (hv : R.valid = true) (a : Option Addr) (cap : Nat) (Q : List Int) (h : Nat) (hlt : h < Q.length) (hl : Q.length ≤ 16) (hx : Q.getD h 0 = 1) (w : World) (hq : IntsAt w (.slice a Q.length cap) Q) :
    Calls Try.prog 34 #[restV R, .slice a Q.length cap, .int .i64 h] w fun e w' => e = .returned (.int .i64 (lawB R (Q.take h) 1)) ∧ Below w.heap.size w w' := by
  have ho := Rest.valid_ok hv
  obtain ⟨b, off, rfl, _, hc⟩ := intsAt_cell hq hlt
  obtain ⟨q0, q1, q2, q3, q4, q5, q6, q7⟩ := ho.2
  have hch := hc h hlt
  rw [hx] at hch
  have hc' := hid hc
  have lb := cell_lt hch
  have hlt2 : (h : Int) < Q.length := by omega
  have hW0 := hid (show Below w.heap.size w ((w.alloc (.cells #[.int .i64 R.hours, .int .i64 R.r0.out, .int .i64 R.r0.total, .int .i64 R.r0.run, .int .i64 R.r0.off, .int .i64 R.r1.out, .int .i64 R.r1.total, .int .i64 R.r1.run, .int .i64 R.r1.off] 26)).alloc (.cells #[.int .i64 R.r1.out, .int .i64 R.r1.total, .int .i64 R.r1.run, .int .i64 R.r1.off] 23)) from below_alloc (below_alloc (Below.refl _ _) _) _)
  clear hc hq ho hx
  go_enter Try.func34, Try.ntmps34
  go_wp2
  go_loopw [9, 10, 11, 22] (fun al la ru x wr => ∃ k : Nat, k ≤ h ∧ x = .int .i64 k ∧ al = .int .i64 (rid 1 (Q.take k)) ∧ la = .int .i64 (lastAt 1 (Q.take k)).2 ∧ ru = .int .i64 (tailRun 1 (Q.take k)) ∧ Hid (wr = ((w.alloc (.cells #[.int .i64 R.hours, .int .i64 R.r0.out, .int .i64 R.r0.total, .int .i64 R.r0.run, .int .i64 R.r0.off, .int .i64 R.r1.out, .int .i64 R.r1.total, .int .i64 R.r1.run, .int .i64 R.r1.off] 26)).alloc (.cells #[.int .i64 R.r1.out, .int .i64 R.r1.total, .int .i64 R.r1.run, .int .i64 R.r1.off] 23)))) (fun _ _ _ x _ => h - (intOf x).toNat)
  case atStart => exact ⟨0, by omega, rfl, rfl, rfl, rfl, hid rfl⟩
  case round =>
    obtain ⟨k, hk, rfl, rfl, rfl, rfl, hwr⟩ := hrel
    have hlen : (Q.take k).length = k := by simp; omega
    have b1 := rid_bound 1 (Q.take k)
    have b2 := lastAt_bd 1 (Q.take k)
    have b3 := tailRun_bd 1 (Q.take k)
    by_cases hlt3 : k < h
    · have s0 := take_one (xs := Q) (k := k) (by omega)
      have s1 := rid_append 1 (Q.take k) [Q.getD k 0]
      have s2 := lastAt_snoc 1 (Q.take k) (Q.getD k 0)
      have s3 := tailRun_snoc 1 (Q.take k) (Q.getD k 0)
      have s4 := lastAt_fst 1 (Q.take k)
      rw [← s0] at s1 s2 s3
      rw [hlen] at b1 b2 b3 s4
      have hck : wr.cell? ⟨b, off + k, none⟩ = some (.int .i64 (Q.getD k 0)) := by rw [hwr.out]; exact (hW0.out.cell (p := ⟨b, off + k, none⟩) lb).trans (hc'.out k (by omega))
      have hkq : (k : Int) < Q.length := by omega
      rw [s4] at s2
      generalize hr1 : rid 1 (Q.take k) = n1 at *
      generalize hr2 : (lastAt 1 (Q.take k)).2 = n2 at *
      generalize hr3 : tailRun 1 (Q.take k) = n3 at *
      generalize Q.getD k 0 = y at *
      have s1' := hid s1
      have s2' := hid s2
      have s3' := hid s3
      clear s0 s1 s2 s3 s4 hr1 hr2 hr3 hlen hch
      by_cases hy : y = 1
      · subst hy
        go_wp2
        go_roundw
        case rel => exact ⟨k + 1, by omega, by go_num, by rw [s1'.out]; simp [rid], by rw [s2'.out]; simp, by rw [s3'.out]; simp, hwr⟩
        case measure => simp [intOf]; omega
      · have hy2 : (y == 1) = false := by simpa using hy
        have hy' := hid hy
        clear hy
        go_wp2
        go_roundw
        case rel => exact ⟨k + 1, by omega, by go_num, by rw [s1'.out]; simp [rid, hy'.out], by rw [s2'.out]; simp [hy'.out], by rw [s3'.out]; simp [hy'.out], hwr⟩
        case measure => simp [intOf]; omega
    · obtain rfl : k = h := by omega
      rw [hlen] at b1 b2 b3
      have hL : lawB R (Q.take k) 1 = if hasBit R.r1.out k then 1 else if R.r1.total < rid 1 (Q.take k) + 1 then 2 else if R.r1.run < tailRun 1 (Q.take k) + 1 then 3 else if 0 ≤ (lastAt 1 (Q.take k)).2 ∧ (lastAt 1 (Q.take k)).2 < (k : Int) - 1 ∧ (k : Int) - 1 - (lastAt 1 (Q.take k)).2 < R.r1.off then 4 else 0 := by
        unfold lawB
        rw [hlen]
        rfl
      have hL' := hid hL
      have hcx := hid (cells_of (show wr.heap[w.heap.size + 1]? = some (.cells #[.int .i64 R.r1.out, .int .i64 R.r1.total, .int .i64 R.r1.run, .int .i64 R.r1.off] 23 (0, 0)) by rw [hwr.out]; exact alloc_at (by simp)))
      obtain ⟨lz, cz⟩ := hcx.out
      have hbel := hid (show Below w.heap.size w wr by rw [hwr.out]; exact hW0.out)
      clear hL hlen hch hcx
      generalize rid 1 (Q.take k) = n1 at *
      generalize (lastAt 1 (Q.take k)).2 = n2 at *
      generalize tailRun 1 (Q.take k) = n3 at *
      cases hA : hasBit R.r1.out k
      · have hA2 := bit_walk hA
        have hA' := hid hA
        clear hA
        by_cases h2 : R.r1.total < n1 + 1
        · have h2' := hid h2
          have hval := hid (show lawB R (Q.take k) 1 = 2 by rw [hL'.out, hA'.out]; simp [h2'.out])
          go_wp2
          go_ret
          exact ⟨ret_int hval.out.symm, hbel.out⟩
        · by_cases h3 : R.r1.run < n3 + 1
          · have h3' := hid h3
            have h2' := hid h2
            have hval := hid (show lawB R (Q.take k) 1 = 3 by rw [hL'.out, hA'.out]; simp [h2'.out, h3'.out])
            go_wp2
            go_ret
            exact ⟨ret_int hval.out.symm, hbel.out⟩
          · have h2' := hid h2
            have h3' := hid h3
            by_cases h4 : 0 ≤ n2
            · by_cases h5 : n2 < (k : Int) - 1
              · by_cases h6 : (k : Int) - 1 - n2 < R.r1.off
                · have h6' := hid (show 0 ≤ n2 ∧ n2 < (k : Int) - 1 ∧ (k : Int) - 1 - n2 < R.r1.off from ⟨h4, h5, h6⟩)
                  have hval := hid (show lawB R (Q.take k) 1 = 4 by rw [hL'.out, hA'.out, if_neg (by simp), if_neg h2'.out, if_neg h3'.out, if_pos h6'.out])
                  go_wp2
                  go_ret
                  exact ⟨ret_int hval.out.symm, hbel.out⟩
                · have h6' := hid (show ¬ (0 ≤ n2 ∧ n2 < (k : Int) - 1 ∧ (k : Int) - 1 - n2 < R.r1.off) from fun h => h6 h.2.2)
                  have hval := hid (show lawB R (Q.take k) 1 = 0 by rw [hL'.out, hA'.out, if_neg (by simp), if_neg h2'.out, if_neg h3'.out, if_neg h6'.out])
                  go_wp2
                  go_ret
                  exact ⟨ret_int hval.out.symm, hbel.out⟩
              · have h6' := hid (show ¬ (0 ≤ n2 ∧ n2 < (k : Int) - 1 ∧ (k : Int) - 1 - n2 < R.r1.off) from fun h => h5 h.2.1)
                have d5 : decide (n2 < (k : Int) - 1) = false := by simpa using h5
                have hval := hid (show lawB R (Q.take k) 1 = 0 by rw [hL'.out, hA'.out, if_neg (by simp), if_neg h2'.out, if_neg h3'.out, if_neg h6'.out])
                go_wp2
                go_ret
                exact ⟨ret_int hval.out.symm, hbel.out⟩
            · have h6' := hid (show ¬ (0 ≤ n2 ∧ n2 < (k : Int) - 1 ∧ (k : Int) - 1 - n2 < R.r1.off) from fun h => h4 h.1)
              have d4 : decide (0 ≤ n2) = false := by simpa using h4
              have hval := hid (show lawB R (Q.take k) 1 = 0 by rw [hL'.out, hA'.out, if_neg (by simp), if_neg h2'.out, if_neg h3'.out, if_neg h6'.out])
              go_wp2
              go_ret
              exact ⟨ret_int hval.out.symm, hbel.out⟩
      · have hA2 := bit_walk hA
        have hA' := hid hA
        clear hA
        have hval := hid (show lawB R (Q.take k) 1 = 1 by rw [hL'.out, hA'.out]; simp)
        go_wp2
        go_ret
        exact ⟨ret_int hval.out.symm, hbel.out⟩

theorem lawBroken_any (R : Rest) (hv : R.valid = true) (a : Option Addr) (cap : Nat) (Q : List Int) (h : Nat) (hlt : h < Q.length) (hl : Q.length ≤ 16) (hQ : ∀ x, x ∈ Q → x = 0 ∨ x = 1) (w : World) (hq : IntsAt w (.slice a Q.length cap) Q) :
    Calls Try.prog 34 #[restV R, .slice a Q.length cap, .int .i64 h] w fun e w' => e = .returned (.int .i64 (lawB R (Q.take h) (Q.getD h 0))) ∧ Below w.heap.size w w' := by
  rcases getD_two hQ hlt with hx | hx
  · rw [hx]; exact lawBroken_0 R hv a cap Q h hlt hl hx w hq
  · rw [hx]; exact lawBroken_1 R hv a cap Q h hlt hl hx w hq

end Go.Proofs.Ytkgdejhooghknaa
