/- The walk of find's closure, at pairs of numbers: what is shared. -/
import Derived.Test.YtkgdejhooghknaaF2
import Derived.Test.YtkgdejhooghknaaPure3
namespace Go.Proofs.Ytkgdejhooghknaa
open Go.RowKit Go.Lap Go.Shelf

/-- A pair as a value. -/
abbrev pV (x : Int × Int) : Value := .agg #[.int .i64 x.1, .int .i64 x.2]
/-- What is known of a state, as cells. -/
abbrev kcells (o : Option (Int × Int)) : Array Value := #[.int .i64 (o.getD (0, 0)).1, .int .i64 (o.getD (0, 0)).2, .bool o.isSome]
abbrev kvP (o : Option (Int × Int)) : Value := .agg (kcells o)

/-- The functions of a goal compute what the goal says. -/
structure GoalOkP (G : GoalFns) (g : Goal (Int × Int)) : Prop where
  he : ∀ args w, (callFunc G.fe args).run Try.prog w = .ok (.enter G.fe args) w
  hh : ∀ args w, (callFunc G.fh args).run Try.prog w = .ok (.enter G.fh args) w
  hj : ∀ args w, (callFunc G.fj args).run Try.prog w = .ok (.enter G.fj args) w

/-- What a goal's functions return, where some blocks lie. -/
structure GoalRunP (G : GoalFns) (g : Goal (Int × Int)) (C : World → Prop) : Prop where
  ke : ∀ (s : St) w, s.Ok → C w → Calls Try.prog G.fe (#[sval s] ++ G.ce) w fun e w' => e = .returned (pV (g.fin s)) ∧ Below w.heap.size w w'
  kh : ∀ (s nx : St) x w, s.Ok → nx.Ok → 0 ≤ nx.rider → C w → Calls Try.prog G.fh (#[sval s, sval nx, pV x] ++ G.ch) w fun e w' => e = .returned (pV (g.hour s nx x)) ∧ Below w.heap.size w w'
  kj : ∀ a b w, C w → Calls Try.prog G.fj (#[pV a, pV b] ++ G.cj) w fun e w' => e = .returned (pV (g.join a b)) ∧ Below w.heap.size w w'

theorem KeepI.set {m : Nat} {kv : St → Value} {w W : World} (h : KeepI m kv w W) {b o : Nat} {v : Value} (hb : w.heap.size ≤ b) (hm : b ≠ m) : KeepI m kv w (W.setCell ⟨b, o, none⟩ v) := by
  obtain ⟨k1, es, c, k2, k3⟩ := h
  exact ⟨⟨k1.os, k1.tape, k1.output, by simpa [World.setCell] using k1.size, fun k hk hne => (Below.heap_setCell _ _ _ _ (by simp only; omega)).trans (k1.block k hk hne)⟩, es, c, (Below.heap_setCell _ _ _ _ (fun e => hm e.symm)).trans k2, k3⟩

/-- Between two rounds of the loop over the steps. -/
def LoopP (T K : Nat) (m : Nat) (kv : St → Value) (w : World) (b cb kb : Nat) (s : St) (sz : Nat) (o : Option (Int × Int)) (W : World) : Prop :=
  KeepI m kv w W ∧ W.heap[b]? = some (.cells #[.int .i64 s.rider, .int .i64 s.run, .int .i64 s.before, .int .i64 s.hour, .int .i64 s.h0, .int .i64 s.h1] 71 (0, 0)) ∧
    W.heap[kb]? = some (.cells (kcells o) K (0, 0)) ∧ sz ≤ W.heap.size ∧ W.heap[cb]? = some (.cells #[.int .i64 0, .int .i64 0] T (0, 0))

theorem loopP_own {β : Type} {T K : Nat} {m : Nat} {kv : St → Value} {w : World} {b cb kb : Nat} {s : St} {sz : Nat} {f : β → Option (Int × Int)} (h1 : b < sz) (h2 : kb < sz) (h4 : cb < sz) (h3 : w.heap.size ≤ sz) (hm : m < sz) : OwnFrom sz (fun (x : β) W => LoopP T K m kv w b cb kb s sz (f x) W) := by
  intro x A B row hs hg hr
  obtain ⟨⟨k1, es, c, k2, k3⟩, hb, hk, hz, hc⟩ := hs
  have hkeep : ∀ k, k < sz → B.heap[k]? = A.heap[k]? := fun k hk => hg.block k (by omega) (fun e => by have := (hr k e.symm).1; omega)
  refine ⟨⟨⟨hg.os.trans k1.os, hg.tape.trans k1.tape, hg.output.trans k1.output, Nat.le_trans k1.size hg.size, fun k hk hne => (hkeep k (by omega)).trans (k1.block k hk hne)⟩, es, c, (hkeep m hm).trans k2, k3⟩, (hkeep b h1).trans hb, (hkeep kb h2).trans hk, Nat.le_trans hz hg.size, (hkeep cb h4).trans hc⟩

theorem LoopP.below {T K : Nat} {m : Nat} {kv : St → Value} {w W W' : World} {b cb kb : Nat} {s : St} {sz : Nat} {o : Option (Int × Int)} (h : LoopP T K m kv w b cb kb s sz o W) (hb : Below W.heap.size W W') : LoopP T K m kv w b cb kb s sz o W' :=
  ⟨h.1.trans (KeepI.of_below h.1.2 hb), (hb.block b (cells_of h.2.1).1).trans h.2.1, (hb.block kb (cells_of h.2.2.1).1).trans h.2.2.1, Nat.le_trans h.2.2.2.1 hb.size, (hb.block cb (cells_of h.2.2.2.2).1).trans h.2.2.2.2⟩

theorem LoopP.store {T K : Nat} {m : Nat} {kv : St → Value} {w W : World} {b cb kb : Nat} {s : St} {sz : Nat} {o : Option (Int × Int)} (h : LoopP T K m kv w b cb kb s sz o W) (hkb : w.heap.size ≤ kb) (hne : b ≠ kb) (hne2 : cb ≠ kb) (hm : m < w.heap.size) (y : Int × Int) :
    LoopP T K m kv w b cb kb s sz (some y) (((W.setCell ⟨kb, 0, none⟩ (.int .i64 y.1)).setCell ⟨kb, 1, none⟩ (.int .i64 y.2)).setCell ⟨kb, 2, none⟩ (.bool true)) := by
  obtain ⟨k1, hb, hk, hz, hc⟩ := h
  have ho : ∀ k, k ≠ kb → (((W.setCell ⟨kb, 0, none⟩ (.int .i64 y.1)).setCell ⟨kb, 1, none⟩ (.int .i64 y.2)).setCell ⟨kb, 2, none⟩ (.bool true)).heap[k]? = W.heap[k]? := fun k hk => (Below.heap_setCell _ _ _ _ hk).trans ((Below.heap_setCell _ _ _ _ hk).trans (Below.heap_setCell _ _ _ _ hk))
  have hs : (((W.setCell ⟨kb, 0, none⟩ (.int .i64 y.1)).setCell ⟨kb, 1, none⟩ (.int .i64 y.2)).setCell ⟨kb, 2, none⟩ (.bool true)).heap.size = W.heap.size := by simp [World.setCell]
  refine ⟨((k1.set hkb (by omega)).set hkb (by omega)).set hkb (by omega), (ho b hne).trans hb, ?_, by rw [hs]; exact hz, (ho cb hne2).trans hc⟩
  rw [heap_setCell_same (heap_setCell_same (heap_setCell_same hk))]
  simp

/-- What the goal's functions need lies in each world that grew. -/
def Lasts (C : World → Prop) (m : Nat) : Prop := ∀ w w', (∃ es c, w.heap[m]? = some (Obj.map es c)) → w.grownBy w' (some m) → C w → C w'

theorem Lasts.keep {C : World → Prop} {m : Nat} {kv : St → Value} {w w' : World} (h : Lasts C m) (hm : ∃ es c, w.heap[m]? = some (Obj.map es c) ∧ Memo kv es) (hk : KeepI m kv w w') (hc : C w) : C w' := by
  obtain ⟨es, c, h1, _⟩ := hm
  exact h w w' ⟨es, c, h1⟩ hk.1 hc

theorem LoopP.box {T K : Nat} {m : Nat} {kv : St → Value} {w W : World} {b cb kb b' : Nat} {s : St} {sz : Nat} {o : Option (Int × Int)} {y : Int × Int} (h : LoopP T K m kv w b cb kb s sz o W) (hm : w.heap.size ≤ b' ∧ b' ≠ m) (h1 : b ≠ b') (h2 : cb ≠ b') (h3 : kb ≠ b') :
    LoopP T K m kv w b cb kb s sz o ((W.setCell ⟨b', 0, none⟩ (.int .i64 y.1)).setCell ⟨b', 1, none⟩ (.int .i64 y.2)) := by
  obtain ⟨k1, hb, hk, hz, hc⟩ := h
  have ho : ∀ k, k ≠ b' → ((W.setCell ⟨b', 0, none⟩ (.int .i64 y.1)).setCell ⟨b', 1, none⟩ (.int .i64 y.2)).heap[k]? = W.heap[k]? := fun k hk => (Below.heap_setCell _ _ _ _ hk).trans (Below.heap_setCell _ _ _ _ hk)
  exact ⟨(k1.set hm.1 hm.2).set hm.1 hm.2, (ho b h1).trans hb, (ho kb h3).trans hk, by simpa [World.setCell] using hz, (ho cb h2).trans hc⟩

/-- What the map tells of a state. -/
def kvOfP (R : Rest) (g : Goal (Int × Int)) (til : Int) (s : St) : Value := kvP (found R g (til - s.hour).toNat s)

end Go.Proofs.Ytkgdejhooghknaa
