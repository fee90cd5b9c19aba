/- 'find' at counts: the closure that it returns tells what is found from each state on. -/
import Derived.Test.YtkgdejhooghknaaF
import Derived.Laws.EntriesVeiled
namespace Go.Proofs.Ytkgdejhooghknaa
open Go.RowKit Go.Lap Go.Shelf

/-- What the map tells of a state. -/
def kvOfI (R : Rest) (g : Goal Int) (til : Int) (s : St) : Value := kvI (found R g (til - s.hour).toNat s)

theorem on_any (ub gb ab rx ob rb m : Nat) (G : GoalFns) (g : Goal Int) (R : Rest) (til : Int) (hG : GoalOkI G g) (hR0 : R.r0.Ok) (hR1 : R.r1.Ok) (htil : til ≤ 16) : ∀ (n : Nat) (s : St) (w : World), s.Ok → s.hour + n = til → EnvI ub gb ab rx ob rb m G R til (kvOfI R g til) w →
    Calls Try.prog 85 (argsI s ub gb ab rx ob) w (OnPostI m (kvOfI R g til) (found R g n s) w) := by
  intro n
  induction n with
  | zero =>
    intro s w hs ht hE
    obtain rfl : s.hour = til := by simpa using ht
    exact on_end ub gb ab rx ob rb m G g R _ hG s hs w hE
  | succ n ih =>
    intro s w hs ht hE
    refine on_step ub gb ab rx ob rb m G g R til _ hG hR0 hR1 n s hs w hE (by omega) htil ?_ (fun s' w' h1 h2 h3 => ih s' w' h1 (by omega) h3)
    unfold kvOfI
    rw [show (til - s.hour).toNat = n + 1 by omega]

/-- Where find's closure lies: what a call of it needs, and keeps. -/
structure OfI (ub gb ab rx ob rb m B : Nat) (G : GoalFns) (g : Goal Int) (R : Rest) (til : Int) (w : World) : Prop where
  env : EnvI ub gb ab rx ob rb m G R til (kvOfI R g til) w
  new : B ≤ m

abbrev ofV (ub gb ab rx ob : Nat) : Value := .func (.func 85) #[] #[.pointer (some ⟨ub, 0, none⟩), .pointer (some ⟨gb, 0, none⟩), .pointer (some ⟨ab, 0, none⟩), .pointer (some ⟨rx, 0, none⟩), .pointer (some ⟨ob, 0, none⟩)]

theorem below_keep {m : Nat} {kv : St → Value} {a w w' : World} (h : Below a.heap.size a w) (hm : a.heap.size ≤ m) (hk : KeepI m kv w w') : Below a.heap.size a w' :=
  ⟨hk.1.os.trans h.os, hk.1.tape.trans h.tape, hk.1.output.trans h.output, Nat.le_trans h.size hk.1.size, fun k hk' => (hk.1.block k (Nat.lt_of_lt_of_le hk' h.size) (fun e => by cases e; omega)).trans (h.block k hk')⟩

def FindPost (_B rb : Nat) (G : GoalFns) (g : Goal Int) (R : Rest) (til : Int) (w : World) (e : Ending) (w' : World) : Prop :=
  ∃ ub gb ab rx ob m, e = .returned (ofV ub gb ab rx ob) ∧ OfI ub gb ab rx ob rb m w.heap.size G g R til w' ∧ Below w.heap.size w w'

set_option maxHeartbeats 1000000 in
theorem find_any (rb : Nat) (G : GoalFns) (g : Goal Int) (R : Rest) (til : Int) (w : World) (h : w.heap[rb]? = some (.cells (restCells R) 82 (0, 0))) :
    Calls Try.prog 55 #[.pointer (some ⟨rb, 0, none⟩), .int .i64 til, .agg #[.func (.func G.fe) #[] G.ce, .func (.func G.fh) #[] G.ch, .func (.func G.fj) #[] G.cj]] w (FindPost w.heap.size rb G g R til w) := by
  have hlt := (cells_of h).1
  have hmf := hmf
  have hmm := @run_makeMap Try.prog
  go_enter Try.func55, Try.ntmps55
  go_wp2
  go_ret
  refine ⟨w.heap.size + 1, w.heap.size + 1 + 1, w.heap.size + 1 + 1 + 1 + 1, w.heap.size, w.heap.size + 1 + 1 + 1 + 1 + 1, w.heap.size + 1 + 1 + 1, rfl, ⟨⟨?_, ?_, ?_, ?_, ?_, ?_, ?_⟩, by omega⟩, ?_⟩
  case refine_7 =>
    refine ⟨#[], 0, ?_, memo_empty _⟩
    repeat (first | exact alloc_at (by simp) | refine alloc_old (by simp <;> omega) ?_)
  case refine_8 => repeat (first | exact Below.refl _ _ | apply below_alloc)
  all_goals (repeat (first | exact h | exact alloc_at (by simp) | refine alloc_old (by first | omega | (simp <;> omega)) ?_))

end Go.Proofs.Ytkgdejhooghknaa
