/- The arguments of the laws of layer 10: opened. -/
import Derived.Test.YtcgkglonnmkfcaaRows
import Derived.Test.YtcgkglonnmkfcaaR5
import Derived.Test.YtcgkglonnmkfcaaGK
namespace Go.Proofs.Ytcgkglonnmkfcaa
open Go.ChangeShapes Go.WideShapes Go.ChangeAt Go.RowKit Go.Lap

theorem Try.own : ownKnob Try.prog.godebug = none := by kernel_rfl
theorem Try.laidOut : laidOutB Try.prog = true := by kernel_rfl
theorem cells_3 : Try.prog.cellsOf 3 = 1 := by kernel_rfl
theorem cells_5 : Try.prog.cellsOf 5 = 1 := by kernel_rfl
theorem cells_25 : Try.prog.cellsOf 25 = 2 := by kernel_rfl
theorem cells_22 : Try.prog.cellsOf 22 = 1 := by kernel_rfl
theorem cells_23 : Try.prog.cellsOf 23 = 1 := by kernel_rfl
theorem cells_46 : Try.prog.cellsOf 46 = 2 := by kernel_rfl
theorem cells_48 : Try.prog.cellsOf 48 = 8 := by kernel_rfl

section
variable {H : Type} {enc : TypeId × Value → H} {w : World} {base : Nat} {spare : Nat → Bool} {held : Bool}

set_option maxRecDepth 100000 in
theorem open_int3 {n : Nat} {cs : List Value} {y : DataW H × List MemPlace} (h : DataW.trod enc Try.prog w base spare held n 3 cs = some y) : ∃ k : Int, cs = [.int .i64 k] := by
  obtain ⟨k, e, _, _⟩ := DataW.trod_int Try.underlying3 h
  exact ⟨k, e⟩
set_option maxRecDepth 100000 in
theorem open_byte {n : Nat} {cs : List Value} {y : DataW H × List MemPlace} (h : DataW.trod enc Try.prog w base spare held n 5 cs = some y) : ∃ k : Int, cs = [.int .u8 k] ∧ 0 ≤ k ∧ k ≤ 255 := by
  obtain ⟨k, e, _, hw⟩ := DataW.trod_int Try.underlying5 h
  have := bounds_u8 hw
  exact ⟨k, e, this.1, this.2⟩
set_option maxRecDepth 100000 in
theorem open_span {n : Nat} {cs : List Value} {y : DataW H × List MemPlace} (h : DataW.trod enc Try.prog w base spare held n 46 cs = some y) : ∃ a b : Int, cs = [.int .i64 a, .int .i64 b] := by
  obtain ⟨xs, m, _, rfl, hl, hlen, hf⟩ := DataW.trod_struct Try.underlying46 h
  rw [cells_46] at hl
  match cs, hl with
  | [c0, c1], _ =>
    match xs, hlen with
    | [x0, x1], _ =>
      have h0 : DataW.trod enc Try.prog w base spare held m 3 (([c0, c1].drop 0).take (Try.prog.cellsOf 3)) = some x0 := hf 0 _ rfl
      have h1 : DataW.trod enc Try.prog w base spare held m 3 (([c0, c1].drop 1).take (Try.prog.cellsOf 3)) = some x1 := hf 1 _ rfl
      rw [cells_3] at h0 h1
      obtain ⟨n0, e0⟩ := open_int3 h0
      obtain ⟨n1, e1⟩ := open_int3 h1
      simp at e0 e1
      subst e0 e1
      exact ⟨n0, n1, rfl⟩
set_option maxRecDepth 100000 in
theorem open_job {n : Nat} {cs : List Value} {y : DataW H × List MemPlace} (h : DataW.trod enc Try.prog w base spare held n 48 cs = some y) : ∃ j : Job, cs = jobK.enc j := by
  obtain ⟨xs, m, _, rfl, hl, hlen, hf⟩ := DataW.trod_struct Try.underlying48 h
  rw [cells_48] at hl
  match cs, hl with
  | [c0, c1, c2, c3, c4, c5, c6, c7], _ =>
    match xs, hlen with
    | [x0, x1, x2, x3, x4, x5, x6], _ =>
      have h0 : DataW.trod enc Try.prog w base spare held m 3 (([c0, c1, c2, c3, c4, c5, c6, c7].drop 0).take (Try.prog.cellsOf 3)) = some x0 := hf 0 _ rfl
      have h1 : DataW.trod enc Try.prog w base spare held m 46 (([c0, c1, c2, c3, c4, c5, c6, c7].drop 1).take (Try.prog.cellsOf 46)) = some x1 := hf 1 _ rfl
      have h2 : DataW.trod enc Try.prog w base spare held m 3 (([c0, c1, c2, c3, c4, c5, c6, c7].drop 3).take (Try.prog.cellsOf 3)) = some x2 := hf 2 _ rfl
      have h3 : DataW.trod enc Try.prog w base spare held m 3 (([c0, c1, c2, c3, c4, c5, c6, c7].drop 4).take (Try.prog.cellsOf 3)) = some x3 := hf 3 _ rfl
      have h4 : DataW.trod enc Try.prog w base spare held m 3 (([c0, c1, c2, c3, c4, c5, c6, c7].drop 5).take (Try.prog.cellsOf 3)) = some x4 := hf 4 _ rfl
      have h5 : DataW.trod enc Try.prog w base spare held m 3 (([c0, c1, c2, c3, c4, c5, c6, c7].drop 6).take (Try.prog.cellsOf 3)) = some x5 := hf 5 _ rfl
      have h6 : DataW.trod enc Try.prog w base spare held m 3 (([c0, c1, c2, c3, c4, c5, c6, c7].drop 7).take (Try.prog.cellsOf 3)) = some x6 := hf 6 _ rfl
      rw [cells_3] at h0 h2 h3 h4 h5 h6
      rw [cells_46] at h1
      obtain ⟨n0, e0⟩ := open_int3 h0
      obtain ⟨a, b, e1⟩ := open_span h1
      obtain ⟨n2, e2⟩ := open_int3 h2
      obtain ⟨n3, e3⟩ := open_int3 h3
      obtain ⟨n4, e4⟩ := open_int3 h4
      obtain ⟨n5, e5⟩ := open_int3 h5
      obtain ⟨n6, e6⟩ := open_int3 h6
      simp at e0 e1 e2 e3 e4 e5 e6
      obtain ⟨rfl, rfl⟩ := e1
      subst e0 e2 e3 e4 e5 e6
      exact ⟨⟨n0, a, b, n2, n3, n4, n5, n6⟩, rfl⟩
end

section
variable {H : Type} {enc : TypeId × Value → H} {W : World}
set_option maxRecDepth 100000 in
theorem open_ints22 {fuel : Nat} {c : Value} {x : DataW H × List MemPlace} (h : DataW.trod enc Try.prog W 0 (fun _ => true) true fuel 22 [c] = some x) : ∃ xs, IntsAt W c xs ∧ NilOk c ∧ xs.length ≤ maxLen := by
  obtain ⟨xs, h1, h2, _, h3⟩ := open_row intK (c := c) cells_3 (fun _ => True) (fun n cs y hy => by obtain ⟨k, rfl⟩ := open_int3 hy; exact ⟨k, rfl, trivial⟩) h
  exact ⟨xs, ints_at.2 h1, h2, h3⟩
set_option maxRecDepth 100000 in
theorem open_bytes {d : DataW H} {ps : List MemPlace} {r : Reach} {b0 : Nat} {v : Value} (hv : Value.okWide Try.prog W r b0 42 v) (hd : DataW.Trod enc Try.prog W 0 (fun _ => true) true 42 v d ps) : ∃ xs, BytesAt W v xs ∧ NilOk v := by
  obtain ⟨fuel, hf⟩ := hd
  obtain ⟨a, len, cap, rfl⟩ := okWide_slice Try.underlying42 hv
  have hf' : DataW.trod enc Try.prog W 0 (fun _ => true) true fuel 42 [.slice a len cap] = some (d, ps) := by simpa [Value.cells] using hf
  obtain ⟨xs, h1, h2, h3, h4⟩ := open_row byteK (c := .slice a len cap) cells_5 (fun k => 0 ≤ k ∧ k ≤ 255) (fun n cs y hy => by obtain ⟨k, rfl, h⟩ := open_byte hy; exact ⟨k, rfl, h⟩) hf'
  exact ⟨xs, ⟨h1, h3, by unfold maxLen at h4; omega⟩, h2⟩
set_option maxRecDepth 100000 in
theorem open_ints {d : DataW H} {ps : List MemPlace} {r : Reach} {b0 : Nat} {v : Value} (hv : Value.okWide Try.prog W r b0 22 v) (hd : DataW.Trod enc Try.prog W 0 (fun _ => true) true 22 v d ps) : ∃ xs, IntsAt W v xs ∧ NilOk v ∧ xs.length ≤ maxLen := by
  obtain ⟨fuel, hf⟩ := hd
  obtain ⟨a, len, cap, rfl⟩ := okWide_slice Try.underlying22 hv
  exact open_ints22 (by simpa [Value.cells] using hf)
set_option maxRecDepth 100000 in
theorem open_mend {d : DataW H} {ps : List MemPlace} {r : Reach} {b0 : Nat} {v : Value} (hv : Value.okWide Try.prog W r b0 25 v) (hd : DataW.Trod enc Try.prog W 0 (fun _ => true) true 25 v d ps) :
    ∃ (M : Mend) (sv jv : Value), v = .agg #[sv, jv] ∧ IntsAt W sv M.setup ∧ JobsAt W jv M.jobs ∧ NilOk sv ∧ NilOk jv ∧ M.setup.length ≤ maxLen ∧ M.jobs.length ≤ maxLen := by
  obtain ⟨cs, rfl, hsz⟩ := okWide_struct Try.underlying25 hv
  obtain ⟨fuel, hf⟩ := hd
  obtain ⟨y0, y1, n, hx, hl, g0, g1⟩ := trod_struct2 Try.underlying25 hf
  obtain ⟨l⟩ := cs
  rw [cells_25] at hsz
  match l, hsz with
  | [c0, c1], _ =>
    have g0' : DataW.trod enc Try.prog W 0 (fun _ => true) true n 22 (([c0, c1].drop 0).take (Try.prog.cellsOf 22)) = some y0 := g0
    have g1' : DataW.trod enc Try.prog W 0 (fun _ => true) true n 23 (([c0, c1].drop 1).take (Try.prog.cellsOf 23)) = some y1 := g1
    rw [cells_22] at g0'
    rw [cells_23] at g1'
    obtain ⟨xs, h1, h2, h3⟩ := open_ints22 g0'
    obtain ⟨js, h4, h5, _, h6⟩ := open_row jobK (c := c1) cells_48 (fun _ => True) (fun n cs y hy => by obtain ⟨k, rfl⟩ := open_job hy; exact ⟨k, rfl, trivial⟩) g1'
    exact ⟨⟨xs, js⟩, c0, c1, rfl, h1, jobs_at.2 h4, h2, h5, h3, h6⟩
end
end Go.Proofs.Ytcgkglonnmkfcaa
