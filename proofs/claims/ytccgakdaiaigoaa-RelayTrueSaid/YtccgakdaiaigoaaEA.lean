/- The law RelayEnds, walked. -/
import Derived.Test.YtccgakdaiaigoaaE9
import Derived.Test.YtccgakdaiaigoaaPV
namespace Go.Proofs.Ytccgakdaiaigoaa
open Go.RowKit Go.Lap Go.Shelf

/-- Some blocks lie so. -/
def Has (L : List (Nat × Obj)) (W : World) : Prop := ∀ b o, (b, o) ∈ L → W.heap[b]? = some o
theorem Has.below {L : List (Nat × Obj)} {W W' : World} (h : Has L W) (hb : Below W.heap.size W W') : Has L W' := fun b o hm => by
  have := h b o hm
  exact (hb.block b (Array.getElem?_eq_some_iff.1 this).1).trans this
theorem Has.alloc {L : List (Nat × Obj)} {W : World} (h : Has L W) (o : Obj) : Has ((W.heap.size, o) :: L) (W.alloc o) := fun b o' hm => by
  rcases List.mem_cons.1 hm with e | hm
  · cases e; exact alloc_at rfl
  · have := h b o' hm
    exact alloc_old (Array.getElem?_eq_some_iff.1 this).1 this
theorem Has.lt {L : List (Nat × Obj)} {W : World} (h : Has L W) {b : Nat} {o : Obj} (hm : (b, o) ∈ L) : b < W.heap.size := (Array.getElem?_eq_some_iff.1 (h b o hm)).1
theorem Has.put {L : List (Nat × Obj)} {W : World} {p o : Nat} {c : Array Value} {t : TypeId} {v : Value} (h : Has ((p, .cells c t (0, 0)) :: L) W) (hne : ∀ b o', (b, o') ∈ L → b ≠ p) : Has ((p, .cells (c.setIfInBounds o v) t (0, 0)) :: L) (W.setCell ⟨p, o, none⟩ v) := fun b o' hm => by
  rcases List.mem_cons.1 hm with e | hm2
  · cases e; exact heap_set_same (h _ _ (by simp))
  · exact (Below.heap_setCell W ⟨p, o, none⟩ v b (hne b o' hm2)).trans (h b o' (List.mem_cons_of_mem _ hm2))
theorem KeepM.set {w W : World} {r : Rel} {sv : Value} (h : KeepM w r sv W) (hS : StintsAt w sv r.stints) {p o : Nat} (hp : w.heap.size < p) (v : Value) : KeepM w r sv (W.setCell ⟨p, o, none⟩ v) := by
  have hb := below_set (p := ⟨p, o, none⟩) h.bel v (Nat.le_of_lt hp)
  exact ⟨hb, (Below.heap_setCell W ⟨p, o, none⟩ v _ (show w.heap.size ≠ p by omega)).trans h.m, hS.below hb⟩
theorem KeepM.lt {w W : World} {r : Rel} {sv : Value} (h : KeepM w r sv W) : w.heap.size < W.heap.size := (cells_of h.m).1
theorem said_cells {w : World} {b off cap : Nat} {r : Rel} (h : StintsAt w (.slice (some ⟨b, off, none⟩) r.stints.length cap) r.stints) {i : Nat} (hi : i < r.n) {q : Nat} (hq : q < 4) : b < w.heap.size ∧ w.cell? ⟨b, off + i * 9 + (1 + 2 * q), none⟩ = some (.int .i64 ((r.st i).said q).1) ∧ w.cell? ⟨b, off + i * 9 + (2 + 2 * q), none⟩ = some (.int .i64 ((r.st i).said q).2) := by
  obtain ⟨b', off', h1, h2, h3⟩ := h.at (k := i) hi
  cases h1
  have a := h3 (1 + 2 * q) (by omega)
  have c := h3 (2 + 2 * q) (by omega)
  refine ⟨h2, ?_⟩
  rw [a, c]
  rcases (by omega : q = 0 ∨ q = 1 ∨ q = 2 ∨ q = 3) with rfl | rfl | rfl | rfl <;> exact ⟨rfl, rfl⟩
theorem Has.nil (W : World) : Has [] W := fun b o hm => by cases hm

set_option maxRecDepth 100000 in
set_option maxHeartbeats 4000000 in
theorem inside_as {lo hi m : Int} {x : Bool} (hx : (decide (lo ≤ m) && decide (m ≤ hi)) = x) (w : World) : Calls Try.prog 31 #[.agg #[.int .i64 lo, .int .i64 hi], .int .i64 m] w fun e w' => e = .returned (.bool x) ∧ Below w.heap.size w w' := by
  have hb := hid (below_alloc (Below.refl _ w) (.cells #[.int .i64 lo, .int .i64 hi] 28))
  by_cases h1 : lo ≤ m
  · by_cases h2 : m ≤ hi
    · have e := hid (show x = true by rw [← hx]; simp [h1, h2])
      clear hx
      go_enter Try.func31, Try.ntmps31
      go_wp2
      go_ret
      exact ⟨by rw [e.out]; rfl, hb.out⟩
    · have e := hid (show x = false by rw [← hx]; simp [h1, h2])
      clear hx
      go_enter Try.func31, Try.ntmps31
      go_wp2
      go_ret
      exact ⟨by rw [e.out]; rfl, hb.out⟩
  · have e := hid (show x = false by rw [← hx]; simp [h1])
    clear hx
    go_enter Try.func31, Try.ntmps31
    go_wp2
    go_ret
    exact ⟨by rw [e.out]; rfl, hb.out⟩

end Go.Proofs.Ytccgakdaiaigoaa
