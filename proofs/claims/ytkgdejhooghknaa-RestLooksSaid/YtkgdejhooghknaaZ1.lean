/- A rest as an argument: opened and shut. -/
import Derived.Test.YtkgdejhooghknaaRows
import Derived.Test.YtkgdejhooghknaaN4
import Derived.ProofKit
import Derived.OpenShut
namespace Go.Proofs.Ytkgdejhooghknaa
open Go.ChangeShapes Go.WideShapes Go.ChangeAt Go.RowKit

theorem Try.own : ownKnob Try.prog.godebug = none := by kernel_rfl
theorem Try.laidOut : laidOutB Try.prog = true := by kernel_rfl

section
variable {H : Type} {enc : TypeId × Value → H} {P : Program}
theorem post_of_below {f : Func} {s : ChangeSpec} {apart fresh handsOn again : Bool} {W W' : World} {args : Array Value} {v : Value} {ds gs : List (DataW H)} {before pa pv : List MemPlace}
    (hW : DataW.Whole enc P f.params.toList s.vars apart W args.toList ds gs before)
    (hres : ∀ (b : Nat) (sp : Nat → Bool) (hd : Bool), DataW.TrodAll enc P W' b sp hd f.resultTypes.toList (v.resultList f.resultTypes.size) (s.fn H (ds ++ gs)).results [])
    (hargs : ∀ sp : Nat → Bool, (∀ p ∈ before, sp p.block = true) → DataW.TrodAll enc P W' 0 sp true f.params.toList args.toList (s.fn H (ds ++ gs)).args pa)
    (hvars : ∀ sp : Nat → Bool, (∀ p ∈ before, sp p.block = true) → DataW.TrodVars enc P W' sp s.vars (s.fn H (ds ++ gs)).vars pv)
    (hps : before = pa ++ pv) (hb : Below W.heap.size W W')
    (hok : ∀ (j : Nat) (t : TypeId) (r : Value), f.resultTypes[j]? = some t → (v.resultList f.resultTypes.size)[j]? = some r → Value.okWide P W' .any 0 t r) :
    s.post enc P f apart fresh handsOn again W args v W' := by
  have hlt : ∀ p ∈ before, p.block < W.heap.size := fun p hp => hW.lt p hp
  have hold : ∀ p ∈ before, (fun b => decide (b < W.heap.size)) p.block = true := fun p hp => by simpa using hlt p hp
  refine ⟨ds, gs, before, [], pa, pv, hW, hres _ _ _, hargs _ hold, hvars _ hold, World.keptBut_mono (fun p hp => ⟨hp, ?_⟩) (hb.frame (· ∈ before)), fun _ => ?_⟩
  · rw [hps, List.mem_append] at hp
    exact Or.inr hp
  · obtain ⟨_, _, _, _, _, hz, hn⟩ := hW
    refine ⟨hok, _, _, ([] ++ pa) ++ pv, ⟨[] ++ pa, pv, trodAll_append (hargs _ (fun _ _ => rfl)) (hres _ _ _), hvars _ (fun _ _ => rfl), rfl, ?_, ?_⟩, ?_⟩
    · intro b off hp
      have hin : MemPlace.cell b off ∈ before := by rw [hps]; simpa using hp
      rw [hb.frozen (hlt _ hin)]
      exact hz b off hin
    · intro ha
      have := hn ha
      rw [hps] at this
      simpa using this
    · intro p hp _
      rw [hps]
      simpa using hp
end

section
variable {H : Type} {enc : TypeId × Value → H} {w : World} {base : Nat} {spare : Nat → Bool} {held : Bool}

theorem cells_26 : Try.prog.cellsOf 26 = 9 := by kernel_rfl
theorem cells_24 : Try.prog.cellsOf 24 = 8 := by kernel_rfl
theorem cells_23 : Try.prog.cellsOf 23 = 4 := by kernel_rfl
theorem cells_3 : Try.prog.cellsOf 3 = 1 := by kernel_rfl

/-- All its numbers fit. -/
def Rider.Wf (r : Rider) : Prop := (Lit.int .i64 r.out).wf = true ∧ (Lit.int .i64 r.total).wf = true ∧ (Lit.int .i64 r.run).wf = true ∧ (Lit.int .i64 r.off).wf = true
def Rest.Wf (R : Rest) : Prop := (Lit.int .i64 R.hours).wf = true ∧ R.r0.Wf ∧ R.r1.Wf

abbrev riderD (H : Type) (r : Rider) : DataW H := .agg [.lit (.int .i64 r.out), .lit (.int .i64 r.total), .lit (.int .i64 r.run), .lit (.int .i64 r.off)]
abbrev restD (H : Type) (R : Rest) : DataW H := .agg [.lit (.int .i64 R.hours), .agg [riderD H R.r0, riderD H R.r1]]

set_option maxRecDepth 100000 in
theorem open_rider {fuel : Nat} {cs : List Value} {x : DataW H × List MemPlace} (h : DataW.trod enc Try.prog w base spare held fuel 23 cs = some x) :
    ∃ r : Rider, cs = [.int .i64 r.out, .int .i64 r.total, .int .i64 r.run, .int .i64 r.off] ∧ x = (riderD H r, []) ∧ r.Wf := by
  obtain ⟨xs, n, _, rfl, hl, hlen, hf⟩ := DataW.trod_struct Try.underlying23 h
  rw [cells_23] at hl
  match cs, hl with
  | [c0, c1, c2, c3], _ =>
    match xs, hlen with
    | [x0, x1, x2, x3], _ =>
      have h0 : DataW.trod enc Try.prog w base spare held n 3 (([c0, c1, c2, c3].drop 0).take (Try.prog.cellsOf 3)) = some x0 := hf 0 _ rfl
      have h1 : DataW.trod enc Try.prog w base spare held n 3 (([c0, c1, c2, c3].drop 1).take (Try.prog.cellsOf 3)) = some x1 := hf 1 _ rfl
      have h2 : DataW.trod enc Try.prog w base spare held n 3 (([c0, c1, c2, c3].drop 2).take (Try.prog.cellsOf 3)) = some x2 := hf 2 _ rfl
      have h3 : DataW.trod enc Try.prog w base spare held n 3 (([c0, c1, c2, c3].drop 3).take (Try.prog.cellsOf 3)) = some x3 := hf 3 _ rfl
      rw [cells_3] at h0 h1 h2 h3
      obtain ⟨n0, e0, f0, w0⟩ := DataW.trod_int Try.underlying3 h0
      obtain ⟨n1, e1, f1, w1⟩ := DataW.trod_int Try.underlying3 h1
      obtain ⟨n2, e2, f2, w2⟩ := DataW.trod_int Try.underlying3 h2
      obtain ⟨n3, e3, f3, w3⟩ := DataW.trod_int Try.underlying3 h3
      simp at e0 e1 e2 e3 f0 f1 f2 f3
      subst e0 e1 e2 e3 f0 f1 f2 f3
      exact ⟨⟨n0, n1, n2, n3⟩, rfl, rfl, w0, w1, w2, w3⟩

set_option maxRecDepth 100000 in
theorem open_rest {r : Reach} {b0 : Nat} {v : Value} {d : DataW H} {ps : List MemPlace} (hv : Value.okWide Try.prog w r b0 26 v) (hd : DataW.Trod enc Try.prog w base spare held 26 v d ps) :
    ∃ R : Rest, v = restV R ∧ d = restD H R ∧ ps = [] ∧ R.Wf := by
  obtain ⟨cs, rfl, hsz⟩ := okWide_struct Try.underlying26 hv
  obtain ⟨fuel, hf⟩ := hd
  obtain ⟨y0, y1, n, hx, hl, g0, g1⟩ := trod_struct2 Try.underlying26 hf
  obtain ⟨l⟩ := cs
  rw [cells_26] at hsz
  match l, hsz with
  | [c0, c1, c2, c3, c4, c5, c6, c7, c8], _ =>
    have g0' : DataW.trod enc Try.prog w base spare held n 3 (([c0, c1, c2, c3, c4, c5, c6, c7, c8].drop 0).take (Try.prog.cellsOf 3)) = some y0 := g0
    have g1' : DataW.trod enc Try.prog w base spare held n 24 (([c0, c1, c2, c3, c4, c5, c6, c7, c8].drop 1).take (Try.prog.cellsOf 24)) = some y1 := g1
    rw [cells_3] at g0'
    rw [cells_24] at g1'
    obtain ⟨n0, e0, f0, w0⟩ := DataW.trod_int Try.underlying3 g0'
    obtain ⟨xs, m, _, rfl, _, hlen, ha⟩ := DataW.trod_array Try.underlying24 g1'
    have a0 := ha 0 (by omega)
    have a1 := ha 1 (by omega)
    rw [cells_23] at a0 a1
    match xs, hlen with
    | [x0, x1], _ =>
      obtain ⟨r0, q0, p0, v0⟩ := open_rider a0
      obtain ⟨r1, q1, p1, v1⟩ := open_rider a1
      simp at e0 q0 q1
      obtain ⟨rfl, rfl, rfl, rfl⟩ := q0
      obtain ⟨rfl, rfl, rfl, rfl⟩ := q1
      subst e0 f0 p0 p1
      simp at hx
      obtain ⟨rfl, rfl⟩ := hx
      exact ⟨⟨n0, r0, r1⟩, rfl, rfl, rfl, w0, v0, v1⟩

theorem int_mk {n : Int} (h : (Lit.int .i64 n).wf = true) (k : Nat) : DataW.trod enc Try.prog w base spare held (k + 1) 3 [.int .i64 n] = some (.lit (.int .i64 n), []) := by
  unfold DataW.trod
  rw [Try.underlying3]
  simp [h]

set_option maxRecDepth 100000 in
theorem shut_rider {r : Rider} (h : r.Wf) (k : Nat) : DataW.trod enc Try.prog w base spare held (k + 2) 23 [.int .i64 r.out, .int .i64 r.total, .int .i64 r.run, .int .i64 r.off] = some (riderD H r, []) := by
  obtain ⟨h0, h1, h2, h3⟩ := h
  unfold DataW.trod
  rw [Try.underlying23]
  simp [cells_23, cells_3, int_mk h0, int_mk h1, int_mk h2, int_mk h3]

set_option maxRecDepth 100000 in
theorem shut_rest {R : Rest} (h : R.Wf) : DataW.Trod enc Try.prog w base spare held 26 (restV R) (restD H R) [] := by
  obtain ⟨h0, h1, h2⟩ := h
  refine ⟨4, ?_⟩
  have ha : DataW.trod enc Try.prog w base spare held 3 24 [.int .i64 R.r0.out, .int .i64 R.r0.total, .int .i64 R.r0.run, .int .i64 R.r0.off, .int .i64 R.r1.out, .int .i64 R.r1.total, .int .i64 R.r1.run, .int .i64 R.r1.off] = some (.agg [riderD H R.r0, riderD H R.r1], []) := by
    unfold DataW.trod
    rw [Try.underlying24]
    simp [cells_24, cells_23, List.range_succ, shut_rider h1 0, shut_rider h2 0]
  unfold DataW.trod
  rw [Try.underlying26]
  simp [Value.cells, cells_26, cells_24, cells_3, int_mk h0 2, ha]
end

end Go.Proofs.Ytkgdejhooghknaa
