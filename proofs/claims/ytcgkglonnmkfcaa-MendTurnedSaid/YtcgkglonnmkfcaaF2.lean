/- 'find' of package mend: the closure that it returns tells what is found from each bench on. -/
import Derived.Test.YtcgkglonnmkfcaaF
import Derived.Laws.EntriesVeiled
namespace Go.Proofs.Ytcgkglonnmkfcaa
open Go.RowKit Go.Lap Go.Shelf

/-- What the map tells of a bench. -/
def kvOfI (M : Mend) (left : Nat) (g : Goal Int) (b : Bench) : Value := kvI (found M left g (free M.jobs.length (left ||| b.done)) b)

theorem on_any (rx gb ab ob sb m : Nat) (B : Nat × Nat) (G : GoalFns) (g : Goal Int) (M : Mend) (hM : M.Ok) (left : Nat) (hl : left < 64) (E : World → Prop) (hG : GoalOkI G g M left B E) : ∀ (n : Nat) (b : Bench) (soon last : Int) (w : World), WorkIn M left n b soon → EnvI rx gb ab ob sb m B G M left E (kvOfI M left g) w →
    Calls Try.prog 86 (argsI b soon last rx gb ab ob) w (OnPostI m (kvOfI M left g) (found M left g n b) w) := by
  intro n
  induction n with
  | zero => intro b soon last w hb hE; exact on_end rx gb ab ob sb m B G g M hM left hl E _ hG b soon last hb.b w hE
  | succ n ih =>
    intro b soon last w hb hE
    refine on_step rx gb ab ob sb m B G g M hM left hl E _ hG n b soon last hb w hE ?_ (fun b' soon' last' w' h1 h2 => ih b' soon' last' w' h1 h2)
    unfold kvOfI
    rw [hb.b.free]

theorem below_keep {m : Nat} {kv : Bench → Value} {a w w' : World} (h : Below a.heap.size a w) (hm : a.heap.size ≤ m) (hk : KeepI m kv w w') : Below a.heap.size a w' :=
  ⟨hk.1.os.trans h.os, hk.1.tape.trans h.tape, hk.1.output.trans h.output, Nat.le_trans h.size hk.1.size, fun k hk' => (hk.1.block k (Nat.lt_of_lt_of_le hk' h.size) (fun e => by cases e; omega)).trans (h.block k hk')⟩

abbrev goalV (G : GoalFns) : Value := .agg #[.func (.func G.fe) #[] G.ce, .func (.func G.fh) #[] G.ch, .func (.func G.fj) #[] G.cj]

def FindPost (X sb : Nat) (G : GoalFns) (g : Goal Int) (M : Mend) (left : Nat) (E : World → Prop) (w : World) (e : Ending) (w' : World) : Prop :=
  ∃ rx gb ab ob m, e = .returned (onV rx gb ab ob) ∧ EnvI rx gb ab ob sb m (w.heap.size, X) G M left E (kvOfI M left g) w' ∧ Below w.heap.size w w'

set_option maxHeartbeats 1000000 in
theorem find_any (X sb : Nat) (G : GoalFns) (g : Goal Int) (M : Mend) (left : Nat) (E : World → Prop) (w : World) (hG : GoalOkI G g M left (w.heap.size, X) E) (h : ShopUnder (w.heap.size, X) w sb M left) (he : E w) :
    Calls Try.prog 64 #[.pointer (some ⟨sb, 0, none⟩), goalV G] w (FindPost X sb G g M left E w) := by
  have hmf := hmf
  have hmm := @run_makeMap Try.prog
  have hsh := hid h
  have he' := hid he
  have hG' := hid hG
  clear h he hG
  go_enter Try.func64, Try.ntmps64
  go_wp2
  go_ret
  refine ⟨w.heap.size, w.heap.size + 1, w.heap.size + 1 + 1 + 1, w.heap.size + 1 + 1 + 1 + 1, w.heap.size + 1 + 1, rfl, ⟨?_, ?_, ?_, hsh.out.below ?_, hG'.out.keep _ _ he'.out (fun k hk o ho => ?_), by omega, by simp; omega, ?_, ⟨#[], 0, ?_, memo_empty _⟩⟩, ?_⟩
  case refine_4 => repeat (first | exact Below.refl _ _ | apply below_alloc)
  case refine_8 => repeat (first | exact Below.refl _ _ | apply below_alloc)
  all_goals (repeat (first | exact ho | exact alloc_at (by simp) | refine alloc_old (by first | omega | (simp <;> omega)) ?_))

end Go.Proofs.Ytcgkglonnmkfcaa
