/- The walk of 'Check' of package rest: a plan for all hours. -/
import Derived.Test.YtkgdejhooghknaaH2
namespace Go.Proofs.Ytkgdejhooghknaa
open Go.RowKit Go.Lap Go.Shelf

/-- A state's cells. -/
abbrev scells (s : St) : Array Value := #[.int .i64 s.rider, .int .i64 s.run, .int .i64 s.before, .int .i64 s.hour, .int .i64 s.h0, .int .i64 s.h1]
/-- A state that is stored. -/
abbrev sput (W : World) (b : Nat) (t : St) : World := (((((W.setCell ⟨b, 0, none⟩ (.int .i64 t.rider)).setCell ⟨b, 1, none⟩ (.int .i64 t.run)).setCell ⟨b, 2, none⟩ (.int .i64 t.before)).setCell ⟨b, 3, none⟩ (.int .i64 t.hour)).setCell ⟨b, 4, none⟩ (.int .i64 t.h0)).setCell ⟨b, 5, none⟩ (.int .i64 t.h1)
theorem sput_other {W : World} {b k : Nat} {t : St} (h : k ≠ b) : (sput W b t).heap[k]? = W.heap[k]? := by
  unfold sput
  repeat rw [Below.heap_setCell _ _ _ _ h]
theorem sput_own {W : World} {b : Nat} {s t : St} (h : W.heap[b]? = some (.cells (scells s) 71 (0, 0))) : (sput W b t).heap[b]? = some (.cells (scells t) 71 (0, 0)) := by
  unfold sput
  rw [heap_setCell_same (heap_setCell_same (heap_setCell_same (heap_setCell_same (heap_setCell_same (heap_setCell_same h)))))]
  simp
theorem sput_below {a W : World} {b : Nat} {t : St} (h : Below a.heap.size a W) (hb : a.heap.size ≤ b) : Below a.heap.size a (sput W b t) :=
  below_set (below_set (below_set (below_set (below_set (below_set h _ hb) _ hb) _ hb) _ hb) _ hb) _ hb

set_option maxRecDepth 100000 in
set_option maxHeartbeats 2000000 in
theorem Check_ok (R : Rest) (v : Value) (xs : List Int) (hl : xs.length ≤ 1000) (hv : R.valid = true) (hk : planOk R xs = true) (w : World) (h : IntsAt w v xs) : Calls Try.prog 15 #[restV R, v] w fun e w' => e = .returned (.tuple #[.int .i64 (checkOf R xs).1, .int .i64 (checkOf R xs).2.1, .int .i64 (checkOf R xs).2.2]) ∧ Below w.heap.size w w' := by
  have hmf := hmf
  have h' := hid h
  obtain ⟨a, cap, rfl, hx⟩ := h
  have hx' := hid hx
  clear hx
  have hAw : Below w.heap.size w ((((w.alloc (.cells #[.int .i64 R.hours, .int .i64 R.r0.out, .int .i64 R.r0.total, .int .i64 R.r0.run, .int .i64 R.r0.off, .int .i64 R.r1.out, .int .i64 R.r1.total, .int .i64 R.r1.run, .int .i64 R.r1.off] 26)).alloc (.cells #[.slice a xs.length cap] 27)).alloc (.cells #[.int .i64 0] 30)).alloc (.cells #[.func (.func 45) #[] #[]] 63)) := below_alloc (below_alloc (below_alloc (below_alloc (Below.refl _ _) _) _) _) _
  have hA0 : ((((w.alloc (.cells #[.int .i64 R.hours, .int .i64 R.r0.out, .int .i64 R.r0.total, .int .i64 R.r0.run, .int .i64 R.r0.off, .int .i64 R.r1.out, .int .i64 R.r1.total, .int .i64 R.r1.run, .int .i64 R.r1.off] 26)).alloc (.cells #[.slice a xs.length cap] 27)).alloc (.cells #[.int .i64 0] 30)).alloc (.cells #[.func (.func 45) #[] #[]] 63)).heap[w.heap.size]? = some (.cells (restA R) 26 (0, 0)) := alloc_old (by simp <;> omega) (alloc_old (by simp <;> omega) (alloc_old (by simp) (alloc_at rfl)))
  have hA1 : ((((w.alloc (.cells #[.int .i64 R.hours, .int .i64 R.r0.out, .int .i64 R.r0.total, .int .i64 R.r0.run, .int .i64 R.r0.off, .int .i64 R.r1.out, .int .i64 R.r1.total, .int .i64 R.r1.run, .int .i64 R.r1.off] 26)).alloc (.cells #[.slice a xs.length cap] 27)).alloc (.cells #[.int .i64 0] 30)).alloc (.cells #[.func (.func 45) #[] #[]] 63)).heap[w.heap.size + 1]? = some (.cells #[.slice a xs.length cap] 27 (0, 0)) := alloc_old (by simp <;> omega) (alloc_old (by simp) (alloc_at (by simp)))
  have hA2 : ((((w.alloc (.cells #[.int .i64 R.hours, .int .i64 R.r0.out, .int .i64 R.r0.total, .int .i64 R.r0.run, .int .i64 R.r0.off, .int .i64 R.r1.out, .int .i64 R.r1.total, .int .i64 R.r1.run, .int .i64 R.r1.off] 26)).alloc (.cells #[.slice a xs.length cap] 27)).alloc (.cells #[.int .i64 0] 30)).alloc (.cells #[.func (.func 45) #[] #[]] 63)).heap[w.heap.size + 1 + 1]? = some (.cells #[.int .i64 0] 30 (0, 0)) := alloc_old (by simp) (alloc_at (by simp))
  have hA3 : ((((w.alloc (.cells #[.int .i64 R.hours, .int .i64 R.r0.out, .int .i64 R.r0.total, .int .i64 R.r0.run, .int .i64 R.r0.off, .int .i64 R.r1.out, .int .i64 R.r1.total, .int .i64 R.r1.run, .int .i64 R.r1.off] 26)).alloc (.cells #[.slice a xs.length cap] 27)).alloc (.cells #[.int .i64 0] 30)).alloc (.cells #[.func (.func 45) #[] #[]] 63)).heap[w.heap.size + 1 + 1 + 1]? = some (.cells #[.func (.func 45) #[] #[]] 63 (0, 0)) := alloc_at (by simp)
  have hopen := open_any R (planOk R xs) 48 #[.pointer (some ⟨w.heap.size + 1, 0, none⟩), .pointer (some ⟨w.heap.size, 0, none⟩), .pointer (some ⟨w.heap.size + 1 + 1 + 1, 0, none⟩)] ((((w.alloc (.cells #[.int .i64 R.hours, .int .i64 R.r0.out, .int .i64 R.r0.total, .int .i64 R.r0.run, .int .i64 R.r0.off, .int .i64 R.r1.out, .int .i64 R.r1.total, .int .i64 R.r1.run, .int .i64 R.r1.off] 26)).alloc (.cells #[.slice a xs.length cap] 27)).alloc (.cells #[.int .i64 0] 30)).alloc (.cells #[.func (.func 45) #[] #[]] 63)) (enters_of Try.func48 (by kernel_rfl) rfl)
    (fun _ w' hw' => check2_any (w.heap.size + 1) w.heap.size (w.heap.size + 1 + 1 + 1) R _ xs hl w' ((h'.out.below hAw).below hw') ((hw'.block _ (cells_of hA1).1).trans hA1) ((hw'.block _ (cells_of hA0).1).trans hA0) ((hw'.block _ (cells_of hA3).1).trans hA3))
  rw [hk] at hopen
  have hAw' := hid hAw
  clear hAw
  have hA0' := hid hA0
  clear hA0
  have hA1' := hid hA1
  clear hA1
  have hA2' := hid hA2
  clear hA2
  have hA3' := hid hA3
  clear hA3
  have hopen' := hid hopen
  clear hopen
  have hC : checkOf R xs = checkFrom R St.begin 0 xs := by simp [checkOf, hv, hk]
  have hC' := hid hC
  have hv' := hid hv
  have hk' := hid hk
  clear hv hC hk
  have hlen : (xs.length : Int) ≤ 16 := by
    have h1 := hk'.out
    simp only [planOk, Bool.and_eq_true, decide_eq_true_eq] at h1
    have := (Rest.valid_hours hv'.out).2
    omega
  have hin : ∀ k, k < xs.length → 0 ≤ xs.getD k 0 ∧ xs.getD k 0 ≤ 1 := by
    intro k hk
    have h1 := hk'.out
    simp only [planOk, Bool.and_eq_true, Bool.not_eq_true', List.any_eq_false] at h1
    have h2 := h1.2 (xs.getD k 0) (by rw [List.getD_eq_getElem?_getD, List.getElem?_eq_getElem hk]; exact List.getElem_mem hk)
    simpa [badB, inB] using h2
  have hin' := hid hin
  clear hin
  have hRo := Rest.valid_ok hv'.out
  go_enter_defers Try.func15, Try.ntmps15
  go_wp2_with (first
    | (go_at_call 47; refine (hopen'.out).mono ?_; intro e w1 hp; obtain ⟨rb, he, hrb, hrc, hb⟩ := openPost_valid hv'.out hp; subst he; clear hp)
    | (go_at_call 50; refine (begin_any _).mono ?_; rintro e w2 ⟨rfl, hb2⟩; have hbA2 := below_via hb2 hb; have hq1 := (hbA2.block _ (cells_of hA1'.out).1).trans hA1'.out; obtain ⟨lq1, cq1⟩ := cells_of hq1; have hq1' := hid hq1; clear hq1))
  have hrc2 := (hb2.block rb (cells_of hrc).1).trans hrc
  have hrl2 := (cells_of hrc2).1
  have hA9 : ((((w.alloc (.cells #[.int .i64 R.hours, .int .i64 R.r0.out, .int .i64 R.r0.total, .int .i64 R.r0.run, .int .i64 R.r0.off, .int .i64 R.r1.out, .int .i64 R.r1.total, .int .i64 R.r1.run, .int .i64 R.r1.off] 26)).alloc (.cells #[.slice a xs.length cap] 27)).alloc (.cells #[.int .i64 0] 30)).alloc (.cells #[.func (.func 45) #[] #[]] 63)).heap.size ≤ w2.heap.size := hbA2.size
  have hbw2 : Below w.heap.size w w2 := below_via hbA2 hAw'.out
  have hrc2' := hid hrc2
  have hbA2' := hid hbA2
  clear hrc2 hrc hbA2 hb2 hb
  go_loopw [19] (fun i wr => ∃ (k : Nat) (s : St), k ≤ xs.length ∧ i = .int .i64 k ∧ s.Ok ∧ Hid (s.hour = k) ∧ Hid (checkFrom R St.begin 0 xs = checkFrom R s k (xs.drop k)) ∧ Below w2.heap.size w2 wr ∧
      Hid (wr.heap[w2.heap.size]? = some (.cells #[.int .i64 s.rider, .int .i64 s.run, .int .i64 s.before, .int .i64 s.hour, .int .i64 s.h0, .int .i64 s.h1] 71 (0, 0)))) (fun i _ => xs.length - (intOf i).toNat)
  case atStart => exact ⟨0, St.begin, by omega, rfl, St.begin_ok, hid rfl, hid rfl, (Below.refl _ _).alloc (Nat.le_refl _) _, hid (alloc_at rfl)⟩
  case round =>
    obtain ⟨k, s, hkl, rfl, hs, hsh, hcf, hbr, hbox⟩ := hrel
    obtain ⟨lb, cb⟩ := cells_of hbox.out
    have zb := free_of hbox.out
    have hbr' := hid hbr
    clear hbr
    by_cases hlt : k < xs.length
    · obtain ⟨b, off, rfl, hcell⟩ := hx'.out (by intro e; rw [e] at hlt; simp at hlt)
      have hck := hcell k hlt
      have hcr : wr.cell? ⟨b, off + k, none⟩ = some (.int .i64 (xs.getD k 0)) := (hbr'.out.cell (p := ⟨b, off + k, none⟩) (Nat.lt_of_lt_of_le (cell_lt hck) hbw2.size)).trans ((hbw2.cell (p := ⟨b, off + k, none⟩) (cell_lt hck)).trans hck)
      have hd : xs.drop k = xs.getD k 0 :: xs.drop (k + 1) := by
        rw [List.drop_eq_getElem_cons hlt]; simp [hlt]
      have hxb := hin'.out k hlt
      generalize xs.getD k 0 = x at hcr hd hxb
      have hd' := hid hd
      clear hd hcell hck
      have hh16 : s.hour < 16 := by rw [hsh.out]; omega
      have hnok := hid (St.next_ok hs hxb.1 hxb.2 hh16)
      have hn1 : 1 ≤ (s.next x).hour := by show 1 ≤ s.hour + 1; rw [hsh.out]; omega
      have hn0 : 0 ≤ (s.next x).rider := hxb.1
      have hput : ∀ w4, Below wr.heap.size wr w4 → (sput w4 w2.heap.size (s.next x)).heap[rb]? = some (.cells (restCells R) 82 (0, 0)) := fun w4 h4 =>
        (sput_other (by omega)).trans ((h4.block rb (Nat.lt_of_lt_of_le hrl2 hbr'.out.size)).trans ((hbr'.out.block rb hrl2).trans hrc2'.out))
      have hput' := hid hput
      have hsput : ∀ w4, Below wr.heap.size wr w4 → Below w2.heap.size w2 (sput w4 w2.heap.size (s.next x)) := fun w4 h4 => sput_below (below_via h4 hbr'.out) (Nat.le_refl _)
      have hsput' := hid hsput
      have hown : ∀ w4, Below wr.heap.size wr w4 → (sput w4 w2.heap.size (s.next x)).heap[w2.heap.size]? = some (.cells (scells (s.next x)) 71 (0, 0)) := fun w4 h4 => sput_own ((h4.block _ lb).trans hbox.out)
      have hown' := hid hown
      clear hput hsput hown
      cases hB : decide (broken R (s.next x) = 0)
      · have hB1 : ¬ broken R (s.next x) = 0 := by simpa using hB
        have hN : (broken R (s.next x) != 0) = true := by simpa using hB1
        have hB1' := hid hB1
        clear hB hB1
        go_wp2_with (first
          | (go_at_call 51; refine (next_any s x _ hs hxb.1 hxb.2 hh16).mono ?_; rintro e w4 ⟨rfl, hb4⟩; obtain ⟨hc4, hf4⟩ := bcell hb4; have lb4 := Nat.lt_of_lt_of_le lb hb4.size)
          | (go_at_call 52; refine (broken_any rb R (s.next x) (sput w4 w2.heap.size (s.next x)) hRo.1 hRo.2 hnok.out hn0 hn1 (hput'.out w4 hb4)).mono ?_; rintro e w5 ⟨rfl, hb5⟩; have hb25 := below_via hb5 (hsput'.out w4 hb4); have hbE := below_via hb25 hbA2'.out; have hA2r := (hbE.block _ (cells_of hA2'.out).1).trans hA2'.out; obtain ⟨l9, c9⟩ := cells_of hA2r; have z9 := free_of hA2r; clear hc4 hf4 cb zb))
        have hN' := hid hN
        clear hN
        refine leaves_cons (f := 44) (args := #[.pointer (some ⟨w.heap.size + 1 + 1, 0, none⟩)]) (by simp) (by simp [go_sem]) ?_
        refine (told_idle ⟨w.heap.size + 1 + 1, 0, none⟩ _).mono ?_
        rintro e u' w'' ⟨rfl, rfl, rfl⟩
        have hfin : Below w.heap.size w (w5.setCell ⟨w.heap.size + 1 + 1, 0, none⟩ (.int .i64 0)) := below_set (below_via hbE hAw'.out) _ (by simp; omega)
        rw [hC'.out]
        simp [Leaves, settle, results, Try.results15, go_sem, hfin, c9]

        rw [hcf.out, hd'.out]
        simp [checkFrom, hB1'.out]
      · have hB1 : broken R (s.next x) = 0 := by simpa using hB
        have hN : (broken R (s.next x) != 0) = false := by simpa using hB1
        have hB1' := hid hB1
        clear hB hB1
        go_wp2_with (first
          | (go_at_call 51; refine (next_any s x _ hs hxb.1 hxb.2 hh16).mono ?_; rintro e w4 ⟨rfl, hb4⟩; obtain ⟨hc4, hf4⟩ := bcell hb4; have lb4 := Nat.lt_of_lt_of_le lb hb4.size)
          | (go_at_call 52; refine (broken_any rb R (s.next x) (sput w4 w2.heap.size (s.next x)) hRo.1 hRo.2 hnok.out hn0 hn1 (hput'.out w4 hb4)).mono ?_; rintro e w5 ⟨rfl, hb5⟩; have hb25 := below_via hb5 (hsput'.out w4 hb4); clear hc4 hf4 cb zb))
        go_roundw
        case rel =>
          refine ⟨k + 1, s.next x, by omega, by go_num, hnok.out, hid ?_, hid ?_, hb25, hid ((hb5.block _ (cells_of (hown'.out w4 hb4)).1).trans (hown'.out w4 hb4))⟩
          · show s.hour + 1 = _; rw [hsh.out]; omega
          · rw [hcf.out, hd'.out]
            simp [checkFrom, hB1'.out]
        case measure => simp [intOf]; omega
    · obtain rfl : k = xs.length := by omega
      have hbE := below_via hbr'.out hbA2'.out
      have hA2r := (hbE.block _ (cells_of hA2'.out).1).trans hA2'.out
      obtain ⟨l9, c9⟩ := cells_of hA2r
      have z9 := free_of hA2r
      have hcf2 : checkFrom R St.begin 0 xs = (0, 0, 4) := by rw [hcf.out]; simp [checkFrom]
      have hcf2' := hid hcf2
      clear hcf2
      go_wp2
      refine leaves_cons (f := 44) (args := #[.pointer (some ⟨w.heap.size + 1 + 1, 0, none⟩)]) (by simp) (by simp [go_sem]) ?_
      refine (told_idle ⟨w.heap.size + 1 + 1, 0, none⟩ _).mono ?_
      rintro e u' w'' ⟨rfl, rfl, rfl⟩
      have hfin : Below w.heap.size w (wr.setCell ⟨w.heap.size + 1 + 1, 0, none⟩ (.int .i64 4)) := below_set (below_via hbE hAw'.out) _ (by simp; omega)
      rw [hC'.out]
      simp [Leaves, settle, results, Try.results15, go_sem, hfin, c9, hcf2'.out]


end Go.Proofs.Ytkgdejhooghknaa
