/- The loop over the steps of package mend. -/
import Derived.Test.YtcgkglonnmkfcaaE
namespace Go.Proofs.Ytcgkglonnmkfcaa
open Go.RowKit Go.Lap

/-- What a round of the loop over the steps keeps. -/
def StepKp (sbx rbx : Nat) (B : Nat × Nat) (A C : World) : Prop := A.heap.size ≤ C.heap.size ∧ ∀ k, k = sbx ∨ k = rbx ∨ (k < B.1 ∧ k ≠ B.2) → ∀ o, A.heap[k]? = some o → C.heap[k]? = some o
theorem stepKp_t {sbx rbx : Nat} {B : Nat × Nat} {A C D : World} (h : StepKp sbx rbx B A C) (k : StepKp sbx rbx B C D) : StepKp sbx rbx B A D :=
  ⟨Nat.le_trans h.1 k.1, fun j hj o ho => k.2 j hj o (h.2 j hj o ho)⟩
theorem stepKp_b {sbx rbx : Nat} {B : Nat × Nat} {w : World} (h1 : sbx < w.heap.size) (h2 : rbx < w.heap.size) (h3 : B.1 ≤ w.heap.size) (W : World) (l : Nat) (o o' : Obj) (hl : w.heap.size ≤ l) (_ : W.heap[l]? = some o) (_ : o.isCells = false) (_ : o.isWalk = false) :
    StepKp sbx rbx B W (W.putObj l o') :=
  ⟨by simp, fun k hk p hp => (World.putObj_heap_other (by rcases hk with rfl | rfl | h <;> omega)).trans hp⟩
theorem stepKp_set {sbx rbx kb : Nat} {B : Nat × Nat} (h1 : sbx ≠ kb) (h2 : rbx ≠ kb) (h3 : B.1 ≤ kb ∨ kb = B.2) (W : World) (o : Nat) (v : Value) : StepKp sbx rbx B W (W.setCell ⟨kb, o, none⟩ v) :=
  ⟨by simp [World.setCell], fun k hk p hp => (Below.heap_setCell _ _ _ _ (by rcases hk with rfl | rfl | h <;> (try assumption); simp only; omega)).trans hp⟩
theorem stepKp_below {sbx rbx : Nat} {B : Nat × Nat} {W W' : World} (h : Below W.heap.size W W') : StepKp sbx rbx B W W' :=
  ⟨h.size, fun k _ _o hk => (h.block k (Array.getElem?_eq_some_iff.1 hk).1).trans hk⟩

theorem steps_stops (n : Nat) (hn : 1 ≤ n) (sbx rbx sb : Nat) (B : Nat × Nat) (M : Mend) (hM : M.Ok) (left : Nat) (hl : left < 64) (b : Bench) (soon last : Int) (r : Nat) (hin : M.jobs.length = 0 ∨ WorkIn M left (r + 1) b soon) (w : World)
    (h1 : w.heap[sbx]? = some (.cells (wcells b soon last) 74 (0, 0))) (h2 : w.heap[rbx]? = some (.cells #[.pointer (some ⟨sb, 0, none⟩)] 66 (0, 0))) (h3 : ShopUnder B w sb M left) :
    SeqStopsK Fence.wide n Try.prog 85 #[.pointer (some ⟨rbx, 0, none⟩), .pointer (some ⟨sbx, 0, none⟩)] (encStep (M := M) (left := left) (b := b) soon) (StepKp sbx rbx B) (fun ys => ys.map (fun x => x.1) = stepsL M left b) (fun pre => ∃ post, pre.map (fun x => x.1) ++ post = stepsL M left b) 6 w :=
  fun l J Jx W hW hJ hJx hY h0 => steps1_in n hn l sbx rbx sb B M hM left hl b soon last r hin J Jx (StepKp sbx rbx B) W hJ hJx hY
    ((hW.block _ (cells_of h1).1).trans h1) ((hW.block _ (cells_of h2).1).trans h2) (h3.below hW) (fun _ _ h => h) h0

set_option maxHeartbeats 400000 in
theorem steps_any (sb : Nat) (b : Bench) (soon last : Int) (w : World) :
    Calls Try.prog 60 #[.pointer (some ⟨sb, 0, none⟩), workV b soon last] w fun e w' => e = .returned (.func (.func 85) #[] #[.pointer (some ⟨w.heap.size, 0, none⟩), .pointer (some ⟨w.heap.size + 1, 0, none⟩)]) ∧
      w' = (w.alloc (.cells #[.pointer (some ⟨sb, 0, none⟩)] 66)).alloc (.cells (wcells b soon last) 74) := by
  have hmf := hmf
  go_enter Try.func60, Try.ntmps60
  go_wp2
  go_ret
  exact ⟨rfl, rfl⟩

theorem steps_at (sb : Nat) (b : Bench) (soon last : Int) (w : World) :
    Calls Try.prog 60 #[.pointer (some ⟨sb, 0, none⟩), workV b soon last] w fun e w' => ∃ sbx rbx, e = .returned (.func (.func 85) #[] #[.pointer (some ⟨rbx, 0, none⟩), .pointer (some ⟨sbx, 0, none⟩)]) ∧
      Below w.heap.size w w' ∧ w.heap.size ≤ sbx ∧ w.heap.size ≤ rbx ∧
      w'.heap[sbx]? = some (.cells (wcells b soon last) 74 (0, 0)) ∧ w'.heap[rbx]? = some (.cells #[.pointer (some ⟨sb, 0, none⟩)] 66 (0, 0)) :=
  (steps_any sb b soon last w).mono fun e w' ⟨he, hw⟩ => by
    subst hw
    exact ⟨w.heap.size + 1, w.heap.size, he, below_alloc (below_alloc (Below.refl _ _) _) _, by omega, by omega, alloc_at (by simp), alloc_old (by simp) (alloc_at rfl)⟩

/-- The set of all jobs, as a word. -/
theorem all_word {n left : Nat} (hn : n ≤ 6) (hl : left < 18446744073709551616) : bits .andNot .u64 (((2 ^ n - 1 : Nat) : Int)) (left : Int) = ((allN n left : Nat) : Int) := by
  have h1 : 2 ^ n ≤ 2 ^ 6 := Nat.pow_le_pow_right (by decide) hn
  rw [(bits_u _ left (by omega) hl).2.2]
  congr 1
  apply Nat.eq_of_testBit_eq
  intro k
  rw [andN_bit (by omega), allN_bit, Nat.testBit_two_pow_sub_one]

set_option maxHeartbeats 1000000 in
theorem all_any (sb : Nat) (M : Mend) (hM : M.Ok) (left : Nat) (hl : left < 18446744073709551616) (w : World) (hs : ShopAt w sb M left) :
    Calls Try.prog 87 #[.pointer (some ⟨sb, 0, none⟩)] w fun e w' => e = .returned (.int .u64 (allN M.jobs.length left : Nat)) ∧ Below w.heap.size w w' := by
  obtain ⟨sv, jv, hsb, _, ja, jcap, rfl, _⟩ := hs.ex
  obtain ⟨ls, cs⟩ := cells_of hsb
  have hlen := hM.len
  have hw := hid (all_word (n := M.jobs.length) hlen hl)
  go_enter Try.func87, Try.ntmps87
  go_wp2
  go_region
  go_wp2
  go_ret
  refine ⟨ret_int ?_, (Below.refl _ _).drew⟩
  have e1 : IntKind.u64.wrap (IntKind.u64.wrap (2 ^ M.jobs.length) - 1) = ((2 ^ M.jobs.length - 1 : Nat) : Int) := by
    have h1 : 2 ^ M.jobs.length ≤ 2 ^ 6 := Nat.pow_le_pow_right (by decide) hlen
    have h2 : 0 < 2 ^ M.jobs.length := Nat.pow_pos (by decide)
    rw [(pow_u (c := M.jobs.length) (by omega)).2, IntKind.wrap_u64]
    generalize 2 ^ M.jobs.length = t at h1 h2 ⊢
    omega
  rw [e1]
  exact hw.out

end Go.Proofs.Ytcgkglonnmkfcaa
