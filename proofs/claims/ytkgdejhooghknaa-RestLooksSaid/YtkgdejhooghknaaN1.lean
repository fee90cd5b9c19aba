/- What the functions of package rest return, each in one contract. -/
import Derived.Test.YtkgdejhooghknaaH3
import Derived.Test.YtkgdejhooghknaaI4
import Derived.Test.YtkgdejhooghknaaK5
import Derived.Test.YtkgdejhooghknaaL2
import Derived.Test.YtkgdejhooghknaaL3
namespace Go.Proofs.Ytkgdejhooghknaa
open Go.RowKit Go.Lap Go.Shelf

/-- A slice of integers that the call itself made; or none. -/
def OwnInts (B : Nat) (W : World) (sv : Value) (xs : List Int) : Prop := (sv = .slice none 0 0 ∧ xs = []) ∨ NewInts B W sv xs

theorem OwnInts.at {B : Nat} {W : World} {sv : Value} {xs : List Int} (h : OwnInts B W sv xs) : IntsAt W sv xs := by
  rcases h with ⟨rfl, rfl⟩ | ⟨b, _, rfl, hb⟩
  · exact ⟨none, 0, rfl, fun h => (h rfl).elim⟩
  · refine ⟨some ⟨b, 0, none⟩, xs.length, rfl, fun _ => ⟨b, 0, rfl, fun k hk => ?_⟩⟩
    rw [(cells_of hb).2 (0 + k)]
    simp [intsV, hk]

def countR (R : Rest) : Int × Int := if R.valid then (countOf R, 0) else (0, 1)
def untilR (R : Rest) : Int × Int := if R.valid then (untilOf R, 0) else (0, 1)
def planR (R : Rest) (g : Goal Int) : Int × List Int × Int :=
  if R.valid then match found R g R.hours.toNat St.begin with
    | some v => (v, pick R g R.hours.toNat St.begin v, 0)
    | none => (0, [], 4)
  else (0, [], 1)
def hoursR (R : Rest) (r : Int) : (Int × Int) × Int :=
  if R.valid then
    if inB r 0 1 then match found R (spanG r) R.hours.toNat St.begin with
      | some v => (v, 0)
      | none => ((0, 0), 4)
    else ((0, 0), 2)
  else ((0, 0), 1)
def mustR (R : Rest) : Int × Int × Int :=
  if R.valid then match found R setsG R.hours.toNat St.begin with
    | some v => (v.1, v.2, 0)
    | none => (0, 0, 4)
  else (0, 0, 1)
def freeR (R : Rest) : Int × Int × Int := if R.valid then if canB R R.hours then (0, 0, 11) else freeOf R else (0, 0, 1)

abbrev tupV (l : List Int) : Value := .tuple (intsV l)

theorem Check_any (R : Rest) (v : Value) (xs : List Int) (hl : xs.length ≤ 1000) (w : World) (h : IntsAt w v xs) :
    Calls Try.prog 15 #[restV R, v] w fun e w' => e = .returned (.tuple #[.int .i64 (checkOf R xs).1, .int .i64 (checkOf R xs).2.1, .int .i64 (checkOf R xs).2.2]) ∧ Below w.heap.size w w' := by
  cases hv : R.valid
  · exact Check_bad R v xs hl hv w h
  · cases hk : planOk R xs
    · exact Check_range R v xs hl hv hk w h
    · exact Check_ok R v xs hl hv hk w h

theorem Count_any (R : Rest) (w : World) : Calls Try.prog 17 #[restV R] w fun e w' => e = .returned (.tuple #[.int .i64 (countR R).1, .int .i64 (countR R).2]) ∧ Below w.heap.size w w' := by
  unfold countR
  cases hv : R.valid
  · exact Count_bad R hv w
  · exact Count_ok R hv w

theorem Until_any (R : Rest) (w : World) : Calls Try.prog 19 #[restV R] w fun e w' => e = .returned (.tuple #[.int .i64 (untilR R).1, .int .i64 (untilR R).2]) ∧ Below w.heap.size w w' := by
  unfold untilR
  cases hv : R.valid
  · exact Until_bad R hv w
  · exact Until_ok R hv w

theorem Fewest_any (R : Rest) (w : World) : Calls Try.prog 21 #[restV R] w fun e w' => ∃ sv, e = .returned (.tuple #[.int .i64 (planR R changesG).1, sv, .int .i64 (planR R changesG).2.2]) ∧ OwnInts w.heap.size w' sv (planR R changesG).2.1 ∧ Below w.heap.size w w' := by
  unfold planR
  cases hv : R.valid
  · exact (Fewest_bad R hv w).mono fun e w' ⟨he, hb⟩ => ⟨_, he, .inl ⟨rfl, rfl⟩, hb⟩
  · cases hf : found R changesG R.hours.toNat St.begin with
    | none => exact (Fewest_none R hv hf w).mono fun e w' ⟨he, hb⟩ => ⟨_, he, .inl ⟨rfl, rfl⟩, hb⟩
    | some v => exact (Fewest_ok R hv v hf w).mono fun e w' ⟨sv, he, hn, hb⟩ => ⟨sv, he, .inr hn, hb⟩

theorem Even_any (R : Rest) (w : World) : Calls Try.prog 23 #[restV R] w fun e w' => ∃ sv, e = .returned (.tuple #[.int .i64 (planR R evenG).1, sv, .int .i64 (planR R evenG).2.2]) ∧ OwnInts w.heap.size w' sv (planR R evenG).2.1 ∧ Below w.heap.size w w' := by
  unfold planR
  cases hv : R.valid
  · exact (Even_bad R hv w).mono fun e w' ⟨he, hb⟩ => ⟨_, he, .inl ⟨rfl, rfl⟩, hb⟩
  · cases hf : found R evenG R.hours.toNat St.begin with
    | none => exact (Even_none R hv hf w).mono fun e w' ⟨he, hb⟩ => ⟨_, he, .inl ⟨rfl, rfl⟩, hb⟩
    | some v => exact (Even_ok R hv v hf w).mono fun e w' ⟨sv, he, hn, hb⟩ => ⟨sv, he, .inr hn, hb⟩

theorem Hours_any (R : Rest) (r : Int) (w : World) : Calls Try.prog 26 #[restV R, .int .i64 r] w fun e w' => e = .returned (.tuple #[pV (hoursR R r).1, .int .i64 (hoursR R r).2]) ∧ Below w.heap.size w w' := by
  unfold hoursR
  cases hv : R.valid
  · exact Hours_bad R r hv w
  · cases hr : inB r 0 1
    · exact Hours_range R r hv hr w
    · have hr2 := hr
      simp only [inB, Bool.and_eq_true, decide_eq_true_eq] at hr2
      cases hf : found R (spanG r) R.hours.toNat St.begin with
      | none => exact Hours_none R r hv hr2.1 hr2.2 hf w
      | some v => exact Hours_ok R r hv hr2.1 hr2.2 v hf w

theorem Must_any (R : Rest) (w : World) : Calls Try.prog 28 #[restV R] w fun e w' => e = .returned (.tuple #[.int .i64 (mustR R).1, .int .i64 (mustR R).2.1, .int .i64 (mustR R).2.2]) ∧ Below w.heap.size w w' := by
  unfold mustR
  cases hv : R.valid
  · exact Must_bad R hv w
  · cases hf : found R setsG R.hours.toNat St.begin with
    | none => exact Must_none R hv hf w
    | some v => exact Must_ok R hv v hf w

theorem Free_any (R : Rest) (w : World) : Calls Try.prog 30 #[restV R] w fun e w' => e = .returned (.tuple #[.int .i64 (freeR R).1, .int .i64 (freeR R).2.1, .int .i64 (freeR R).2.2]) ∧ Below w.heap.size w w' := by
  unfold freeR
  cases hv : R.valid
  · exact Free_bad R hv w
  · cases hc : canB R R.hours
    · exact Free_ok R hv hc w
    · exact Free_refuse R hv hc w

/-- The document's sample. -/
def sampleR (both : Bool) : Rest := ⟨6, ⟨4, 4, 2, 1⟩, ⟨if both then 36 else 32, 3, 2, 1⟩⟩

set_option maxHeartbeats 1000000 in
theorem sample_any (both : Bool) (w : World) : Calls Try.prog 42 #[.bool both] w fun e w' => e = .returned (restV (sampleR both)) ∧ Below w.heap.size w w' := by
  cases both
  · go_enter Try.func42, Try.ntmps42
    go_wp2
    refine bodyPost_ret (v := restV (sampleR false)) (by simp [results, Try.results42, go_sem, sampleR]) rfl ⟨rfl, ?_⟩
    repeat (first | exact Below.refl _ _ | refine Below.drew ?_ | refine below_set ?_ _ (by simp) | refine below_alloc ?_ _)
  · go_enter Try.func42, Try.ntmps42
    go_wp2
    refine bodyPost_ret (v := restV (sampleR true)) (by simp [results, Try.results42, go_sem, sampleR]) rfl ⟨rfl, ?_⟩
    repeat (first | exact Below.refl _ _ | refine Below.drew ?_ | refine below_set ?_ _ (by simp) | refine below_alloc ?_ _)

set_option maxHeartbeats 1000000 in
theorem span_any (a b : Int) (w : World) : Calls Try.prog 43 #[.int .i64 a, .int .i64 b] w fun e w' => e = .returned (pV (a, b)) ∧ Below w.heap.size w w' := by
  go_enter Try.func43, Try.ntmps43
  go_wp2
  refine bodyPost_ret (v := pV (a, b)) (by simp [results, Try.results43, go_sem]) rfl ⟨rfl, ?_⟩
  repeat (first | exact Below.refl _ _ | refine Below.drew ?_ | refine below_set ?_ _ (by simp) | refine below_alloc ?_ _)

end Go.Proofs.Ytkgdejhooghknaa
