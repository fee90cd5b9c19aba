/- Rows of stints. -/
import Derived.Test.YtccgakdaiaigoaaGB
namespace Go.Proofs.Ytccgakdaiaigoaa
open Go.RowKit Go.Lap Go.Shelf

/-- Rows of stints. -/
def stK : RowKind Try.prog Stint where
  t := 22
  e := 46
  size := 9
  bytes := 72
  z := .agg #[.int .i64 0, .int .i64 0, .int .i64 0, .int .i64 0, .int .i64 0, .int .i64 0, .int .i64 0, .int .i64 0, .int .i64 0]
  enc := fun s => [.int .i64 s.rider, .int .i64 s.on0.1, .int .i64 s.on0.2, .int .i64 s.on1.1, .int .i64 s.on1.2, .int .i64 s.off0.1, .int .i64 s.off0.2, .int .i64 s.off1.1, .int .i64 s.off1.2]
  ht := Try.underlying22
  hi := by kernel_rfl
  hzs := rfl
  hsz := by decide
  hb := by decide
  henc := fun _ => rfl
  hone := fun x u hu => by
    simp only [List.mem_cons, List.not_mem_nil, or_false] at hu
    rcases hu with rfl | rfl | rfl | rfl | rfl | rfl | rfl | rfl | rfl <;> rfl
theorem stK_get (s : Stint) {f : Nat} (hf : f < 9) : (stK.enc s)[f]? = some (.int .i64 (s.cells.getD f 0)) := by
  have : f = 0 ∨ f = 1 ∨ f = 2 ∨ f = 3 ∨ f = 4 ∨ f = 5 ∨ f = 6 ∨ f = 7 ∨ f = 8 := by omega
  rcases this with rfl | rfl | rfl | rfl | rfl | rfl | rfl | rfl | rfl <;> rfl
theorem stints_of {w : World} {v : Value} {L : List Stint} (h : stK.at w v L) : StintsAt w v L := by
  obtain ⟨a, cap, rfl, hc⟩ := h
  refine ⟨a, cap, rfl, fun hne => ?_⟩
  obtain ⟨b, off, rfl, h⟩ := hc hne
  refine ⟨b, off, rfl, fun k hk f hf => ?_⟩
  refine h k (L.getD k Stint.none) ?_ f _ (stK_get _ hf)
  rw [List.getD_eq_getElem?_getD, List.getElem?_eq_getElem hk]; rfl
theorem stints_at {w : World} {v : Value} {L : List Stint} : stK.at w v L ↔ StintsAt w v L := by
  refine ⟨stints_of, ?_⟩
  rintro ⟨a, cap, rfl, hc⟩
  refine ⟨a, cap, rfl, fun hne => ?_⟩
  obtain ⟨b, off, rfl, h⟩ := hc hne
  refine ⟨b, off, rfl, fun k x hx f u hu => ?_⟩
  have hk : k < L.length := (List.getElem?_eq_some_iff.1 hx).1
  have hf : f < 9 := by
    have := (List.getElem?_eq_some_iff.1 hu).1
    rw [stK.henc] at this; exact this
  have e : L.getD k Stint.none = x := by rw [List.getD_eq_getElem?_getD, hx]; rfl
  have h1 := h k hk f hf
  rw [e] at h1
  rw [stK_get x hf] at hu
  cases hu
  exact h1
end Go.Proofs.Ytccgakdaiaigoaa
