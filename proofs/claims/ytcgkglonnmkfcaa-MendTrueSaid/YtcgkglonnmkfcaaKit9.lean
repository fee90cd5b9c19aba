/- General laws over any program: arguments that are rows of any kind, opened; how a call that lays new blocks alone ends. -/
import Derived.Test.YtcgkglonnmkfcaaKit5
import Derived.ProofKit
import Derived.OpenShut
import Derived.Deep.Slices
import Derived.ChangeSame
namespace Go.Lap
open Go.RowKit Go.ChangeShapes Go.WideShapes Go.ChangeAt Go.Deep

/-- A nil slice holds nothing. -/
def NilOk (v : Value) : Prop := ∀ n cap, v = .slice none n cap → n = 0 ∧ cap = 0

section
variable {H : Type} {enc : TypeId × Value → H} {P : Program}
theorem post_of_below {f : Func} {s : ChangeSpec} {apart fresh handsOn again : Bool} {W W' : World} {args : Array Value} {v : Value} {ds gs : List (DataW H)} {before pa pv : List MemPlace}
    (hW : DataW.Whole enc P f.params.toList s.vars apart W args.toList ds gs before)
    (hres : ∀ (b : Nat) (sp : Nat → Bool) (hd : Bool), DataW.TrodAll enc P W' b sp hd f.resultTypes.toList (v.resultList f.resultTypes.size) (s.fn H (ds ++ gs)).results [])
    (hargs : ∀ sp : Nat → Bool, (∀ p ∈ before, sp p.block = true) → DataW.TrodAll enc P W' 0 sp true f.params.toList args.toList (s.fn H (ds ++ gs)).args pa)
    (hvars : ∀ sp : Nat → Bool, (∀ p ∈ before, sp p.block = true) → DataW.TrodVars enc P W' sp s.vars (s.fn H (ds ++ gs)).vars pv)
    (hps : before = pa ++ pv) (hb : Below W.heap.size W W')
    (hok : ∀ (j : Nat) (t : TypeId) (r : Value), f.resultTypes[j]? = some t → (v.resultList f.resultTypes.size)[j]? = some r → Value.okWide P W' .any 0 t r) :
    s.post enc P f apart fresh handsOn again W args v W' := by
  have hlt : ∀ p ∈ before, p.block < W.heap.size := fun p hp => hW.lt p hp
  have hold : ∀ p ∈ before, (fun b => decide (b < W.heap.size)) p.block = true := fun p hp => by simpa using hlt p hp
  refine ⟨ds, gs, before, [], pa, pv, hW, hres _ _ _, hargs _ hold, hvars _ hold, World.keptBut_mono (fun p hp => ⟨hp, ?_⟩) (hb.frame (· ∈ before)), fun _ => ?_⟩
  · rw [hps, List.mem_append] at hp
    exact Or.inr hp
  · obtain ⟨_, _, _, _, _, hz, hn⟩ := hW
    refine ⟨hok, _, _, ([] ++ pa) ++ pv, ⟨[] ++ pa, pv, trodAll_append (hargs _ (fun _ _ => rfl)) (hres _ _ _), hvars _ (fun _ _ => rfl), rfl, ?_, ?_⟩, ?_⟩
    · intro b off hp
      have hin : MemPlace.cell b off ∈ before := by rw [hps]; simpa using hp
      rw [hb.frozen (hlt _ hin)]
      exact hz b off hin
    · intro ha
      have := hn ha
      rw [hps] at this
      simpa using this
    · intro p hp _
      rw [hps]
      simpa using hp

/-- An argument reads behind the call as it did. -/
theorem trod_kept {t : TypeId} {W W' : World} {v : Value} {d : DataW H} {ps : List MemPlace} (hl : laidOutB P = true) (hr : P.readableRec t = true) (hrow : t < P.types.size) (h : DataW.Trod enc P W 0 (fun _ => true) true t v d ps)
    (hb : Below W.heap.size W W') (hlt : ∀ p ∈ ps, p.block < W.heap.size) {sp : Nat → Bool} (hsp : ∀ p ∈ ps, sp p.block = true) : DataW.Trod enc P W' 0 sp true t v d ps :=
  WideElems.Trod_stays hl hr hrow h (fun x hx => hb.same (hlt x hx)) hsp

/-- An argument that is a row of any kind. -/
theorem open_row {α : Type} (K : RowKind P α) {W : World} {fuel : Nat} {c : Value} {x : DataW H × List MemPlace} (hC : P.cellsOf K.e = K.size) (wf : α → Prop)
    (hopen : ∀ (n : Nat) (cs : List Value) (y : DataW H × List MemPlace), DataW.trod enc P W 0 (fun _ => true) true n K.e cs = some y → ∃ a, cs = K.enc a ∧ wf a)
    (h : DataW.trod enc P W 0 (fun _ => true) true fuel K.t [c] = some x) : ∃ xs, K.at W c xs ∧ NilOk c ∧ (∀ a, a ∈ xs → wf a) ∧ xs.length ≤ maxLen := by
  rcases open_slice K.ht h with ⟨e, _⟩ | ⟨a, len, cap, m, n, D, Pl, e, _, hl, hm, hmm, _, hi⟩
  · obtain rfl : c = .slice none 0 0 := by simpa using e
    exact ⟨[], ⟨none, 0, rfl, fun h => (h rfl).elim⟩, fun n cap e => by cases e; exact ⟨rfl, rfl⟩, by simp, by simp⟩
  · obtain rfl : c = .slice (some a) len cap := by simpa using e
    simp only [if_true] at hmm
    have key : ∀ k, k ≤ len → ∃ xs : List α, xs.length = k ∧ ∀ i y, xs[i]? = some y → wf y ∧ W.cells? 0 (a.add (i * K.size)) K.size = some (K.enc y) := by
      intro k
      induction k with
      | zero => intro _; exact ⟨[], rfl, fun i y h => by simp at h⟩
      | succ k ih =>
        intro hk
        obtain ⟨xs, hl, hx⟩ := ih (by omega)
        obtain ⟨cs, h1, h2⟩ := hi k (by omega)
        obtain ⟨y, rfl, hy⟩ := hopen _ _ _ h2
        rw [hC] at h1
        refine ⟨xs ++ [y], by simp [hl], fun i z hz => ?_⟩
        rcases Nat.lt_or_ge i xs.length with hlt | hge
        · rw [List.getElem?_append_left hlt] at hz
          exact hx i z hz
        · rw [List.getElem?_append_right hge] at hz
          have h0 : i - xs.length = 0 := by
            have := (List.getElem?_eq_some_iff.1 hz).1
            simp at this; omega
          rw [h0] at hz
          obtain rfl : y = z := by simpa using hz
          obtain rfl : i = k := by omega
          exact ⟨hy, h1⟩
    obtain ⟨xs, hxl, hx⟩ := key len (Nat.le_refl _)
    subst hxl
    refine ⟨xs, ⟨some a, cap, rfl, fun hne => ?_⟩, (fun n cap e => by cases e), (fun y hy => ?_), by omega⟩
    · obtain ⟨y, hy⟩ : ∃ y, xs[0]? = some y := by
        cases xs with
        | nil => exact (hne rfl).elim
        | cons y l => exact ⟨y, rfl⟩
      have h1 := (World.cells?_some (hx 0 y hy).2).2.2 0 K.hsz
      have h2 : ∃ u, (K.enc y)[0]? = some u := ⟨_, List.getElem?_eq_getElem (by rw [K.henc]; exact K.hsz)⟩
      obtain ⟨u, hu⟩ := h2
      rw [hu] at h1
      obtain ⟨b, off, spot⟩ := a
      have hspot : spot = none := by
        have := World.cell?_spot h1
        simpa [Addr.add] using this
      subst hspot
      refine ⟨b, off, rfl, fun k y hk f u hu => ?_⟩
      have hf : f < K.size := by
        have := (List.getElem?_eq_some_iff.1 hu).1
        rwa [K.henc] at this
      have h3 := (World.cells?_some (hx k y hk).2).2.2 f hf
      rw [hu, addr_add, addr_add] at h3
      exact h3
    · obtain ⟨k, hk⟩ := List.getElem?_of_mem hy
      exact (hx k y hk).1
end
end Go.Lap
