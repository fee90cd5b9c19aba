/- Lists of jobs, and of integers, in memory. -/
import Derived.Test.YtcgkglonnmkfcaaGK
import Derived.Test.YtcgkglonnmkfcaaGP
namespace Go.Proofs.Ytcgkglonnmkfcaa
open Go.RowKit Go.Lap

def Job.cells (j : Job) : List Int := [j.kind, j.lo, j.hi, j.from_, j.soft, j.by_, j.cost, j.after]
abbrev jobV (j : Job) : Value := .agg #[.int .i64 j.kind, .int .i64 j.lo, .int .i64 j.hi, .int .i64 j.from_, .int .i64 j.soft, .int .i64 j.by_, .int .i64 j.cost, .int .i64 j.after]

/-- A slice of jobs lies so. -/
def JobsAt (w : World) (v : Value) (L : List Job) : Prop :=
  ∃ a cap, v = .slice a L.length cap ∧ (L ≠ [] → ∃ b off, a = some ⟨b, off, none⟩ ∧ ∀ k, k < L.length → ∀ f, f < 8 → w.cell? ⟨b, off + k * 8 + f, none⟩ = some (.int .i64 ((L.getD k Job.none).cells.getD f 0)))

theorem JobsAt.below {w w' : World} {v : Value} {L : List Job} (h : JobsAt w v L) (hb : Below w.heap.size w w') : JobsAt w' v L := by
  obtain ⟨a, cap, rfl, hx⟩ := h
  refine ⟨a, cap, rfl, fun hne => ?_⟩
  obtain ⟨b, off, rfl, hc⟩ := hx hne
  refine ⟨b, off, rfl, fun k hk f hf => ?_⟩
  have h1 := hc k hk f hf
  have hlt : b < w.heap.size := by
    rcases Nat.lt_or_ge b w.heap.size with h2 | h2
    · exact h2
    · simp [World.cell?, Array.getElem?_eq_none h2] at h1
  exact (hb.cell (p := ⟨b, off + k * 8 + f, none⟩) hlt).trans h1

end Go.Proofs.Ytcgkglonnmkfcaa
