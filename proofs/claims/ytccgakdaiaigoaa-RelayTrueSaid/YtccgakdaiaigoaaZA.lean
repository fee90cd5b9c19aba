/- The arguments of the laws of layer 2: opened. -/
import Derived.Test.YtccgakdaiaigoaaRows
import Derived.Test.YtccgakdaiaigoaaKS
import Derived.Test.YtccgakdaiaigoaaGK
import Derived.OpenShut
namespace Go.Proofs.Ytccgakdaiaigoaa
open Go.ChangeShapes Go.WideShapes Go.ChangeAt Go.RowKit Go.Lap

theorem Try.own : ownKnob Try.prog.godebug = none := by kernel_rfl
theorem Try.laidOut : laidOutB Try.prog = true := by kernel_rfl
theorem cells_3 : Try.prog.cellsOf 3 = 1 := by kernel_rfl
theorem cells_22 : Try.prog.cellsOf 22 = 1 := by kernel_rfl
theorem cells_24 : Try.prog.cellsOf 24 = 2 := by kernel_rfl
theorem cells_28 : Try.prog.cellsOf 28 = 2 := by kernel_rfl
theorem cells_44 : Try.prog.cellsOf 44 = 4 := by kernel_rfl
theorem cells_46 : Try.prog.cellsOf 46 = 9 := by kernel_rfl
theorem cells_50 : Try.prog.cellsOf 50 = 1 := by kernel_rfl

section
variable {H : Type} {enc : TypeId × Value → H} {w : World} {base : Nat} {spare : Nat → Bool} {held : Bool}

set_option maxRecDepth 100000 in
theorem open_int3 {n : Nat} {cs : List Value} {y : DataW H × List MemPlace} (h : DataW.trod enc Try.prog w base spare held n 3 cs = some y) : ∃ k : Int, cs = [.int .i64 k] := by
  obtain ⟨k, e, _, _⟩ := DataW.trod_int Try.underlying3 h
  exact ⟨k, e⟩
set_option maxRecDepth 100000 in
theorem open_span {n : Nat} {cs : List Value} {y : DataW H × List MemPlace} (h : DataW.trod enc Try.prog w base spare held n 28 cs = some y) : ∃ a b : Int, cs = [.int .i64 a, .int .i64 b] := by
  obtain ⟨xs, m, _, rfl, hl, hlen, hf⟩ := DataW.trod_struct Try.underlying28 h
  rw [cells_28] at hl
  match cs, hl with
  | [c0, c1], _ =>
    match xs, hlen with
    | [x0, x1], _ =>
      have h0 : DataW.trod enc Try.prog w base spare held m 3 (([c0, c1].drop 0).take (Try.prog.cellsOf 3)) = some x0 := hf 0 _ rfl
      have h1 : DataW.trod enc Try.prog w base spare held m 3 (([c0, c1].drop 1).take (Try.prog.cellsOf 3)) = some x1 := hf 1 _ rfl
      rw [cells_3] at h0 h1
      obtain ⟨n0, e0⟩ := open_int3 h0
      obtain ⟨n1, e1⟩ := open_int3 h1
      simp at e0 e1
      subst e0 e1
      exact ⟨n0, n1, rfl⟩
set_option maxRecDepth 100000 in
theorem open_two {n : Nat} {cs : List Value} {y : DataW H × List MemPlace} (h : DataW.trod enc Try.prog w base spare held n 44 cs = some y) : ∃ a b c d : Int, cs = [.int .i64 a, .int .i64 b, .int .i64 c, .int .i64 d] := by
  obtain ⟨xs, m, _, rfl, hl, hlen, hf⟩ := DataW.trod_array Try.underlying44 h
  rw [cells_44] at hl
  match cs, hl with
  | [c0, c1, c2, c3], _ =>
    match xs, hlen with
    | [x0, x1], _ =>
      have h0 : DataW.trod enc Try.prog w base spare held m 28 (([c0, c1, c2, c3].drop (0 * Try.prog.cellsOf 28)).take (Try.prog.cellsOf 28)) = some x0 := hf 0 (by decide)
      have h1 : DataW.trod enc Try.prog w base spare held m 28 (([c0, c1, c2, c3].drop (1 * Try.prog.cellsOf 28)).take (Try.prog.cellsOf 28)) = some x1 := hf 1 (by decide)
      rw [cells_28] at h0 h1
      obtain ⟨a, b, e0⟩ := open_span h0
      obtain ⟨c, d, e1⟩ := open_span h1
      simp at e0 e1
      obtain ⟨rfl, rfl⟩ := e0
      obtain ⟨rfl, rfl⟩ := e1
      exact ⟨a, b, c, d, rfl⟩
set_option maxRecDepth 100000 in
theorem open_stint {n : Nat} {cs : List Value} {y : DataW H × List MemPlace} (h : DataW.trod enc Try.prog w base spare held n 46 cs = some y) : ∃ s : Stint, cs = stK.enc s := by
  obtain ⟨xs, m, _, rfl, hl, hlen, hf⟩ := DataW.trod_struct Try.underlying46 h
  rw [cells_46] at hl
  match cs, hl with
  | [c0, c1, c2, c3, c4, c5, c6, c7, c8], _ =>
    match xs, hlen with
    | [x0, x1, x2], _ =>
      have h0 : DataW.trod enc Try.prog w base spare held m 3 (([c0, c1, c2, c3, c4, c5, c6, c7, c8].drop 0).take (Try.prog.cellsOf 3)) = some x0 := hf 0 _ rfl
      have h1 : DataW.trod enc Try.prog w base spare held m 44 (([c0, c1, c2, c3, c4, c5, c6, c7, c8].drop 1).take (Try.prog.cellsOf 44)) = some x1 := hf 1 _ rfl
      have h2 : DataW.trod enc Try.prog w base spare held m 44 (([c0, c1, c2, c3, c4, c5, c6, c7, c8].drop 5).take (Try.prog.cellsOf 44)) = some x2 := hf 2 _ rfl
      rw [cells_3] at h0
      rw [cells_44] at h1 h2
      obtain ⟨n0, e0⟩ := open_int3 h0
      obtain ⟨a, b, c, d, e1⟩ := open_two h1
      obtain ⟨a', b', c', d', e2⟩ := open_two h2
      simp at e0 e1 e2
      obtain ⟨rfl, rfl, rfl, rfl⟩ := e1
      obtain ⟨rfl, rfl, rfl, rfl⟩ := e2
      subst e0
      exact ⟨⟨n0, (a, b), (c, d), (a', b'), (c', d')⟩, rfl⟩
end

section
variable {H : Type} {enc : TypeId × Value → H} {W : World}
set_option maxRecDepth 100000 in
theorem open_rel {d : DataW H} {ps : List MemPlace} {r : Reach} {b0 : Nat} {v : Value} (hv : Value.okWide Try.prog W r b0 24 v) (hd : DataW.Trod enc Try.prog W 0 (fun _ => true) true 24 v d ps) :
    ∃ (R : Rel) (sv : Value), v = relV R sv ∧ StintsAt W sv R.stints ∧ NilOk sv ∧ R.n ≤ maxLen := by
  obtain ⟨cs, rfl, hsz⟩ := okWide_struct Try.underlying24 hv
  obtain ⟨fuel, hf⟩ := hd
  obtain ⟨y0, y1, n, hx, hl, g0, g1⟩ := trod_struct2 Try.underlying24 hf
  obtain ⟨l⟩ := cs
  rw [cells_24] at hsz
  match l, hsz with
  | [c0, c1], _ =>
    have g0' : DataW.trod enc Try.prog W 0 (fun _ => true) true n 3 (([c0, c1].drop 0).take (Try.prog.cellsOf 3)) = some y0 := g0
    have g1' : DataW.trod enc Try.prog W 0 (fun _ => true) true n 22 (([c0, c1].drop 1).take (Try.prog.cellsOf 22)) = some y1 := g1
    rw [cells_3] at g0'
    rw [cells_22] at g1'
    obtain ⟨k, e0⟩ := open_int3 g0'
    obtain rfl : c0 = .int .i64 k := by simpa using e0
    obtain ⟨js, h4, h5, _, h6⟩ := open_row stK (c := c1) cells_46 (fun _ => True) (fun n cs y hy => by obtain ⟨k, rfl⟩ := open_stint hy; exact ⟨k, rfl, trivial⟩) g1'
    exact ⟨⟨k, js⟩, c1, rfl, stints_at.1 h4, h5, h6⟩
end
end Go.Proofs.Ytccgakdaiaigoaa
