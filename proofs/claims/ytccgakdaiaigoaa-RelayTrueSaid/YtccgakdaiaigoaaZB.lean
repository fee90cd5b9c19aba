/- An argument of numbers of 16 bits, opened. -/
import Derived.Test.YtccgakdaiaigoaaZA
import Derived.Test.YtccgakdaiaigoaaFE
namespace Go.Proofs.Ytccgakdaiaigoaa
open Go.ChangeShapes Go.WideShapes Go.ChangeAt Go.RowKit Go.Lap

section
variable {H : Type} {enc : TypeId × Value → H} {W w : World} {base : Nat} {spare : Nat → Bool} {held : Bool}
set_option maxRecDepth 100000 in
theorem open_word {n : Nat} {cs : List Value} {y : DataW H × List MemPlace} (h : DataW.trod enc Try.prog w base spare held n 50 cs = some y) : ∃ k : Int, cs = [.int .u16 k] ∧ 0 ≤ k ∧ k ≤ 65535 := by
  obtain ⟨k, e, _, hw⟩ := DataW.trod_int Try.underlying50 h
  have := bounds_u16 hw
  exact ⟨k, e, this.1, this.2⟩
set_option maxRecDepth 100000 in
theorem open_words {d : DataW H} {ps : List MemPlace} {r : Reach} {b0 : Nat} {v : Value} (hv : Value.okWide Try.prog W r b0 38 v) (hd : DataW.Trod enc Try.prog W 0 (fun _ => true) true 38 v d ps) : ∃ xs, WordsAt W v xs ∧ NilOk v := by
  obtain ⟨fuel, hf⟩ := hd
  obtain ⟨a, len, cap, rfl⟩ := okWide_slice Try.underlying38 hv
  have hf' : DataW.trod enc Try.prog W 0 (fun _ => true) true fuel 38 [.slice a len cap] = some (d, ps) := by simpa [Value.cells] using hf
  obtain ⟨xs, h1, h2, h3, h4⟩ := open_row wordK (c := .slice a len cap) cells_50 (fun k => 0 ≤ k ∧ k ≤ 65535) (fun n cs y hy => by obtain ⟨k, rfl, h⟩ := open_word hy; exact ⟨k, rfl, h⟩) hf'
  exact ⟨xs, ⟨h1, h3, by unfold maxLen at h4; omega⟩, h2⟩
end
end Go.Proofs.Ytccgakdaiaigoaa
