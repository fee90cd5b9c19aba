/- The walk of the iterator of entries: rules first, then what was written. The walk of known: all that is known by the entries of a set. The walks of open, of can of rules, and of setOf. The walks of setOf, and of a table's also. -/
import Derived.Test.YtccgakdaiaigoaaGC
import Derived.Test.YtccgakdaiaigoaaGK
import Derived.Deep.RegionHeld3
namespace Go.Proofs.Ytccgakdaiaigoaa
open Go.RowKit Go.Lap Go.Shelf
attribute [local go_sem] Oper.semAt_some

/-- What lies in memory while the iterator of entries runs. -/
structure EntEnv (B l eb yb : Nat) (r : Rel) (sv : Value) (set : Nat) (W : World) : Prop where
  e : W.heap[eb]? = some (.cells #[.int .i64 r.rest, sv, .int .u64 set] 102 (0, 0))
  y : W.heap[yb]? = some (.cells #[.func (.yield l) #[] #[]] 143 (0, 0))
  st : StU B W sv r.stints
theorem EntEnv.below {B l eb yb : Nat} {r : Rel} {sv : Value} {set : Nat} {W W' : World} (h : EntEnv B l eb yb r sv set W) (hb : Below W.heap.size W W') : EntEnv B l eb yb r sv set W' :=
  ⟨(hb.block _ (cells_of h.e).1).trans h.e, (hb.block _ (cells_of h.y).1).trans h.y, h.st.below hb⟩
theorem EntEnv.kp {B l eb yb tb : Nat} {r : Rel} {sv : Value} {set : Nat} {W W' : World} (h : EntEnv B l eb yb r sv set W) (hk : TabKp tb W W') (hB : B ≤ tb) (h1 : eb ≠ tb) (h2 : yb ≠ tb) : EntEnv B l eb yb r sv set W' :=
  ⟨hk.cells h.e h1, hk.cells h.y h2, h.st.kp hk hB⟩
theorem EntEnv.own {B l eb yb : Nat} {r : Rel} {sv : Value} {set : Nat} {A C : World} {row : Option Nat} (h : EntEnv B l eb yb r sv set A) (hg : A.grownBy C row) (hr : ∀ k, row = some k → ∃ o : Obj, A.heap[k]? = some o ∧ o.isCells = false) : EntEnv B l eb yb r sv set C := by
  have keep : ∀ (k : Nat) (o : Obj), A.heap[k]? = some o → o.isCells = true → C.heap[k]? = some o := fun k o ho hc => (hg.block k (Array.getElem?_eq_some_iff.1 ho).1 (fun e => by
    obtain ⟨o', ho', hc'⟩ := hr k e.symm
    rw [ho] at ho'; cases ho'; rw [hc] at hc'; cases hc')).trans ho
  refine ⟨keep _ _ h.e rfl, keep _ _ h.y rfl, ?_⟩
  obtain ⟨a, cap, rfl, hx⟩ := h.st
  refine ⟨a, cap, rfl, fun hne => ?_⟩
  obtain ⟨b, off, hb, e, hc⟩ := hx hne
  refine ⟨b, off, hb, e, fun k hkk f hf => ?_⟩
  have h1 := hc k hkk f hf
  obtain ⟨o, ho, hoc⟩ := cells_of_cell h1
  rw [← h1]
  exact World.cell?_of_block ((keep _ _ ho hoc).trans ho.symm)

theorem roundIn_wide {m m' l l' : Nat} {f : FuncId} {t : Array Value} {a b : Code} {w : World} {R : Ending → World → Prop} (h : RoundIn Fence.wide m Try.prog l f t a b w R) : RoundIn (Fence.wide.inRound l') m' Try.prog l f t a b w R :=
  ⟨trivial, fun c cs _ => h.2 c cs (fun _ e => by cases e)⟩
theorem Rel.ents_len (r : Rel) (set : Nat) : ∀ k, ((List.range k).flatMap (fun n => if set.testBit n then r.entB n else [])).length ≤ 2 * k
  | 0 => by simp
  | k + 1 => by
    rw [List.range_succ, List.flatMap_append, List.length_append]
    refine Nat.le_trans (Nat.add_le_add (r.ents_len set k) (?_ : _ ≤ 2)) (by omega)
    simp only [List.flatMap_cons, List.flatMap_nil, List.append_nil]
    split
    · simp [Rel.entB]
    · simp
theorem keepsFrom_below {B : Nat} {W W' : World} (h : Below W.heap.size W W') : KeepsFrom B W W' :=
  ⟨h.size, fun k _o _ hk _ => (h.block k (Array.getElem?_eq_some_iff.1 hk).1).trans hk⟩
theorem calls_of_wp_marks {P : Program} {f : FuncId} {fn : Func} {c : Code} {args : Array Value} {w : World} {R : Ending → World → Prop} (n : Nat) (hf : P.funcs[f]? = some fn) (hb : fn.body = some c)
    (h : c.wp P (bodyPostM Fence.wide n P fn R) { tmps := args ++ Array.replicate (fn.ntmps - args.size) undef, defers := [] } w) : Calls P f args w R :=
  (callsIn_wide (n := n)).1 (callsIn_of_wp_marks hf hb trivial ((wpIn_wide (n := n)).2 h) rfl)
theorem rules_stops (n : Nat) (hn : 1 ≤ n) (rb tb B : Nat) (r : Rel) (hv : r.valid = true) (sv : Value) (w : World)
    (h1 : w.heap[rb]? = some (.cells #[.int .i64 r.rest, sv] 87 (0, 0))) (h2 : StU B w sv r.stints) (hB : B ≤ tb) (htb : tb < w.heap.size) (hrb : rb ≠ tb) :
    SeqStopsK Fence.wide n Try.prog 108 #[.pointer (some ⟨rb, 0, none⟩)] encB (TabKp tb) (fun ys => ys.map (fun x => x.1) = r.rulesB) (fun _ => True) 30 w :=
  fun l J Jx W hW hJ hJx hY h0 => (rules1_in n hn l rb tb B r hv sv J Jx W hJ hJx hY ((hW.block _ (cells_of h1).1).trans h1) (h2.below hW) hB (Nat.lt_of_lt_of_le htb hW.size) hrb h0).mono
    fun _ _ ⟨h, k⟩ => ⟨h, k.imp id (fun ⟨p, h⟩ => ⟨p, trivial, h⟩)⟩
theorem entC_own {B' B l eb yb : Nat} {r : Rel} {sv : Value} {set sz : Nat} {β : Type} {J : β → World → Prop} (hJ : OwnFrom B' J) : OwnFrom B' (fun x W => J x W ∧ EntEnv B l eb yb r sv set W ∧ sz ≤ W.heap.size) :=
  fun s A C row h hg hr => ⟨hJ s A C row h.1 hg hr, h.2.1.own hg (fun k e => (hr k e).2), Nat.le_trans h.2.2 hg.size⟩
theorem ownFrom_up {β : Type} {A B : Nat} {J : β → World → Prop} (h : OwnFrom A J) (hAB : A ≤ B) : OwnFrom B J := fun s X Y row hs hg hr => h s X Y row hs hg (fun r e => ⟨Nat.le_trans hAB (hr r e).1, (hr r e).2⟩)

set_option maxRecDepth 100000 in
set_option maxHeartbeats 4000000 in
theorem entries1_in (n : Nat) (hn : 3 ≤ n) (eb tb B : Nat) (r : Rel) (hv : r.valid = true) (set : Nat) (hset : set < 18446744073709551616) (sv : Value) (w : World)
    (h1 : w.heap[eb]? = some (.cells #[.int .i64 r.rest, sv, .int .u64 set] 102 (0, 0))) (h2 : StU B w sv r.stints) (hB : B ≤ tb) (htb : tb < w.heap.size) (heb : eb ≠ tb) :
    SeqO n Try.prog 110 #[.pointer (some ⟨eb, 0, none⟩)] encB (TabKp tb) (fun ys => ys.map (fun x => x.1) = r.knownB set) 100 w := by
  intro l J Jx W hW hJ hJx hY h0
  have hN : Hid (r.n ≤ 5) := hid (r.ok_of hv).2.2.1
  have htW : tb < W.heap.size := Nat.lt_of_lt_of_le htb hW.size
  have heW : eb < W.heap.size := Nat.lt_of_lt_of_le (cells_of h1).1 hW.size
  have henv : EntEnv B l eb W.heap.size r sv set (W.alloc (.cells #[.func (.yield l) #[] #[]] 143)) :=
    ⟨alloc_old heW ((hW.block _ (cells_of h1).1).trans h1), alloc_at rfl, (h2.below hW).below (below_alloc (Below.refl _ _) _)⟩
  have hJ1 : J [] (W.alloc (.cells #[.func (.yield l) #[] #[]] 143)) := hJ.alloc _ h0
  obtain ⟨sa, scap, rfl, _⟩ := id h2
  have hW1 : Hid (Below W.heap.size W (W.alloc (.cells #[.func (.yield l) #[] #[]] 143))) := hid (below_alloc (Below.refl _ _) _)
  clear h1 h2 h0
  refine callsIn_of_wp_marks (n := n) Try.func110 rfl trivial ?_
  simp only [Try.ntmps110, List.size_toArray, List.length_cons, List.length_nil, Nat.reduceAdd, Nat.reduceSub, Array.replicate_succ, Array.replicate_zero, List.push_toArray, List.append_toArray, List.nil_append, List.cons_append]
  refine (wpIn_wide (n := n)).2 ?_
  go_upto_region 1 with fail
  have hyl : W.heap.size < (W.alloc (.cells #[.func (.yield l) #[] #[]] 143)).heap.size := by simp
  generalize W.alloc (.cells #[.func (.yield l) #[] #[]] 143) = W1 at henv hJ1 hW1 hyl ⊢
  obtain ⟨le, ce⟩ := cells_of henv.e
  have henv' := hid henv
  have hJ1' := hid hJ1
  have hY' := hid hY
  have hJ' := hid hJ
  have hJx' := hid hJx
  clear henv hJ1 hY hJ hJx
  refine wp_scope_straight ?_
  go_wp2_with (go_at_call 107; refine (rules_bounds_any r _ ⟨_, _, _, rfl⟩ _).mono ?_; rintro e w' ⟨rfl, rfl⟩)
  have hb2 := below_alloc (Below.refl _ W1) (.cells #[.int .i64 r.rest, .slice sa r.stints.length scap] 87)
  have hr2 := alloc_at (w := W1) (o := .cells #[.int .i64 r.rest, .slice sa r.stints.length scap] 87) rfl
  have henv2 := henv'.out.below hb2
  have hJ2 := hJ'.out.alloc (.cells #[.int .i64 r.rest, .slice sa r.stints.length scap] 87) hJ1'.out
  have hsz2 : (W1.alloc (.cells #[.int .i64 r.rest, .slice sa r.stints.length scap] 87)).heap.size = W1.heap.size + 1 := by simp
  generalize W1.alloc (.cells #[.int .i64 r.rest, .slice sa r.stints.length scap] 87) = W2 at hb2 hr2 henv2 hJ2 hsz2 ⊢
  have hszW : W.heap.size ≤ W2.heap.size := by omega
  refine (wpIn_wide (n := n)).1 (wpIn_rangeFunc_ownH (α := BdF) (encs := encB) (w0 := W2) rfl (by omega) (gf := 108) (lb := #[.pointer (some ⟨W1.heap.size, 0, none⟩)]) rfl trivial (enters_of Try.func108 (by kernel_rfl) rfl)
    (rules_stops (n - 1) (by omega) W1.heap.size tb B r hv _ W2 hr2 henv2.st hB (by omega) (by omega)) (fun h k => h.trans k) (fun X l o o' h1 h2 h3 h4 => tabKp_b (w := W2) X l o o' h1 h2 h3 h4) (Below.refl _ _) (fun _ => rfl)
    (fun pre X => J pre X ∧ EntEnv B l eb W.heap.size r (.slice sa r.stints.length scap) set X ∧ W2.heap.size ≤ X.heap.size) (fun c pre X => c = .ret ∧ Jx pre X) (entC_own (ownFrom_up hJ'.out hszW)) (fun c => fun s X Y row h hg hr => ⟨h.1, ownFrom_up hJx'.out hszW s X Y row h.2 hg hr⟩) ⟨hJ2, henv2, Nat.le_refl _⟩
    (fun x a' X => ∃ bx, W2.heap.size ≤ bx ∧ X.heap[bx]? = some (.cells (bdV x.1) 77 (0, 0)) ∧ a' = { tmps := #[.func (.yield l) #[] #[], .pointer (some ⟨eb, 0, none⟩), .pointer (some ⟨W.heap.size, 0, none⟩), .pointer (some ⟨bx, 0, none⟩), undef, undef, undef, undef, undef, .pointer (some ⟨eb, 0, none⟩), .agg #[.int .i64 r.rest, .slice sa r.stints.length scap], .func (.func 108) #[] #[.pointer (some ⟨W1.heap.size, 0, none⟩)], .agg (bdV x.1), undef, undef, undef, undef, undef, undef, undef, undef, undef, undef, undef, undef, undef, undef, undef, undef, undef, undef, undef, undef, undef, undef, undef, undef, undef, undef, undef, undef, undef, undef, undef, undef, undef, undef, undef, undef, undef, undef, undef, undef, undef, undef, undef, undef, undef, undef, undef, undef, undef, undef, undef, undef, undef, undef, undef, undef], defers := [] })
    ?hAx ?assign ?body ?done ?stop)
  case hAx =>
    rintro x a' _ A C row ⟨bx, h1, h2, h3⟩ hg hr
    refine ⟨bx, h1, (hg.block bx (cells_of h2).1 ?_).trans h2, h3⟩
    intro e
    obtain ⟨_, o, ho, hc⟩ := hr bx e.symm
    rw [h2] at ho; cases ho; cases hc
  case assign =>
    intro l2 pre x X K hi hK
    gi_wp2
    exact hK _ _ (keepsFrom_below (below_alloc (Below.refl _ _) _)) (TabKp.below (below_alloc (Below.refl _ _) _)) ⟨(ownFrom_up hJ'.out hszW).alloc _ hi.1, hi.2.1.below (below_alloc (Below.refl _ _) _), Nat.le_trans hi.2.2 (below_alloc (Below.refl _ _) _).size⟩ ⟨X.heap.size, hi.2.2, alloc_at rfl, rfl⟩
  case body =>
    rintro l2 pre x a' X hl2 _ hI ⟨bx, hbx, hxc, rfl⟩ hlen
    obtain ⟨q1, d1⟩ := cells_of hI.2.1.y
    obtain ⟨q2, d2⟩ := cells_of hxc
    obtain ⟨fn, tm, asg, bdy, hy, hR⟩ := hY'.out pre x X hI.1 (by omega)
    replace hR := hid hR
    have hI' := hid hI
    have hxc' := hid hxc
    clear hI hxc
    gi_wp2_with fail
    refine ⟨by simp [Fence.wide], (roundIn_wide hR.out).mono ?_⟩
    clear hR hy
    rintro e X2 (⟨rfl, hj, hk, hkf⟩ | ⟨rfl, hjx, hkf⟩)
    · have hk' := hid hk
      have hj' := hid hj
      have hkf' := hid hkf
      clear hk hj hkf d1 d2
      gi_wp2
      exact ⟨⟨hkf'.out.size, fun k o hk1 => hkf'.out.same k o (Nat.le_trans hszW hk1)⟩, hk'.out, hj'.out, hI'.out.2.1.kp hk'.out hB heb (by omega), Nat.le_trans hI'.out.2.2 hk'.out.1⟩
    · have hjx' := hid hjx
      have hkf' := hid hkf
      clear hjx hkf d1 d2
      gi_wp2
      exact ⟨⟨hkf'.out.size, fun k o hk1 => hkf'.out.same k o (Nat.le_trans hszW hk1)⟩, rfl, hjx'.out⟩
  case stop =>
    rintro D c pre X hD _ ⟨rfl, hjx⟩ hdf
    have hfin := (ownFrom_up hJx'.out hszW).putObj (.deferred none) hjx hD hdf rfl
    gi_wp2
    unfold Exit.noGoto
    refine ⟨by simp, .inl ⟨_, _, rfl, run_takeDeferred hdf, ?_⟩⟩
    refine ⟨_, results_none rfl _ _ _, ?_⟩
    exact ⟨⟨_, rfl⟩, .inr ⟨_, hfin⟩⟩
  case done =>
    intro D ys X hD hS hI hdf
    have hI' := hid hI
    have hdf' := hid hdf
    have hS' := hid hS
    clear hI hdf hS
    obtain ⟨le3, ce3⟩ := cells_of hI'.out.2.1.e
    go_upto_region 5 with (go_at_call 111; refine (spans_any r hN.out set _ _ hI'.out.2.1.st.at).mono ?_; rintro e X3 ⟨rfl, hsp⟩)
    obtain ⟨es, c, f, hmap, htl, hkn⟩ := hsp.map
    have hC3 : Hid (EntEnv B l eb W.heap.size r (.slice sa r.stints.length scap) set X3 ∧ W2.heap.size ≤ X3.heap.size ∧ X3.heap[X.heap.size + 1]? = some (.map es c) ∧ X3.heap[D]? = some (.deferred (some []))) :=
      hid ⟨hI'.out.2.1.below hsp.below, Nat.le_trans hI'.out.2.2 hsp.below.size, hmap, (hsp.below.block _ (Array.getElem?_eq_some_iff.1 hdf'.out).1).trans hdf'.out⟩
    have hJ3 : Hid (J ys X3) := hid (hJ'.out ys X X3 none hI'.out.1 (grown_of_below hsp.below _) (fun r e => by cases e))
    obtain ⟨m, hm⟩ : ∃ m, X.heap.size + 1 = m := ⟨_, rfl⟩
    rw [hm] at hC3 ⊢
    have hlm : Hid (tb < m ∧ W2.heap.size ≤ m ∧ W2.heap.size ≤ D) := hid ⟨by have := hI'.out.2.2; omega, by have := hI'.out.2.2; omega, hD⟩
    have hkn' := hid hkn
    have hlk := hid (fun (w : World) (h : w.heap[m]? = some (.map es c)) (a : Int × Int × Int) => (lookup_tells entK (T := 146) (E := 28) (by kernel_rfl) (z := spanV (0, 0)) (fun w => by kernel_rfl) h htl a).2)
    clear hsp hmap htl hkn hI' hdf' hm le3 ce3 hD
    obtain ⟨le3, ce3⟩ := cells_of hC3.out.1.e
    have hn5 : (r.stints.length : Int) ≤ 5 := by have := hN.out; have : r.stints.length ≤ 5 := this; omega
    go_wp2
    refine wp_label ?_
    simp only [Exit.then]
    go_wp2
    go_loopw [25] (fun ix wr => ∃ (q : Nat) (pre : List BdF), q ≤ 4 * r.stints.length ∧ ix = .int .i64 q ∧ Hid (pre.map (fun x => x.1) = r.rulesB ++ (List.range q).flatMap (fun n => if set.testBit n then r.entB n else [])) ∧ Hid (J pre wr) ∧ Hid (EntEnv B l eb W.heap.size r (.slice sa r.stints.length scap) set wr ∧ W2.heap.size ≤ wr.heap.size ∧ wr.heap[m]? = some (.map es c) ∧ wr.heap[D]? = some (.deferred (some [])))) (fun ix _ => 4 * r.stints.length - (intOf ix).toNat)
    case atStart => exact ⟨0, ys, by omega, rfl, hid (by rw [hS'.out]; simp), hJ3, hC3⟩
    case round =>
      clear hJ3 hC3 le3 ce3
      obtain ⟨q, pre, hq, rfl, hpre, hjp, hC⟩ := hrel
      obtain ⟨le3, ce3⟩ := cells_of hC.out.1.e
      by_cases hlt : q < 4 * r.stints.length
      · have hqi : (q : Int) < 4 * (r.stints.length : Int) := by omega
        have hq20 : q < 20 := by omega
        have hbit := u64_bit set q hset
        cases hT : set.testBit q
        · have hT' := hid hT
          rw [hT] at hbit
          simp only [Bool.false_eq_true, if_false] at hbit
          clear hT
          go_wp2
          go_roundw
          case rel => exact ⟨q + 1, pre, by omega, by go_num, hid (by rw [hpre.out, List.range_succ, List.flatMap_append]; simp [hT'.out]), hjp, hC⟩
          case measure => simp [intOf]; omega
        · have hT' := hid hT
          rw [hT] at hbit
          simp only [if_true] at hbit
          clear hT
          have hmem : ∀ b, b ∈ r.entB q → b ∈ r.knownB set := fun b hb => Rel.mem_known.2 (.inr ⟨q, hlt, hT'.out, hb⟩)
          have hent := r.entry_ok hv (n := q) hlt
          have hkq := hkn'.out (q / 4) (q % 4) (by omega) (.inl (by have : r.n = r.stints.length := rfl; omega))
          rw [show keyOf (q / 4) (q % 4) = ((q : Int) / 4, (q : Int) / 2 % 2, (q : Int) % 2) by simp only [keyOf, Prod.mk.injEq]; omega] at hkq
          rw [show (r.st (q / 4)).said (q % 4) = r.entry q from rfl] at hkq
          rw [show spanV (r.entry q) = .agg #[.int .i64 (r.entry q).1, .int .i64 (r.entry q).2] from rfl] at hkq
          obtain ⟨lo, hlo⟩ : ∃ z, (r.entry q).1 = z := ⟨_, rfl⟩
          obtain ⟨hh, hhi⟩ : ∃ z, (r.entry q).2 = z := ⟨_, rfl⟩
          rw [hlo, hhi] at hent hkq
          have hfA := hid (r.fit_known (set := set) hv (hmem ⟨10, timeOf q, hh⟩ (by simp [Rel.entB, hhi])))
          have hfB := hid (r.fit_known (set := set) hv (hmem ⟨timeOf q, 10, -lo⟩ (by simp [Rel.entB, hlo])))
          have heq : Hid (r.entB q = [⟨10, timeOf q, hh⟩, ⟨timeOf q, 10, -lo⟩]) := hid (by simp [Rel.entB, hlo, hhi])
          have hlk2 := fun (w : World) (h : w.heap[m]? = some (.map es c)) => hlk.out w h ((q : Int) / 4, (q : Int) / 2 % 2, (q : Int) % 2)
          rw [hkq] at hlk2
          simp only [Option.getD_some] at hlk2
          replace hlk2 := hid hlk2
          clear hlo hhi hkq hmem
          have hneg : IntKind.i64.wrap (-lo) = -lo := Go.IntWalk.i64_in _ (by omega)
          have hw1 : IntKind.i64.wrap (2 * ((q : Int) / 4)) = 2 * ((q : Int) / 4) := Go.IntWalk.i64_in _ (by omega)
          have hw2 : IntKind.i64.wrap (2 * ((q : Int) / 4) + (q : Int) / 2 % 2) = 2 * ((q : Int) / 4) + (q : Int) / 2 % 2 := Go.IntWalk.i64_in _ (by omega)
          go_upto_region 10 with fail
          have hbx := alloc_at (w := wr) (o := .cells #[.int .i64 ((q : Int) / 4), .int .i64 ((q : Int) / 2 % 2), .int .i64 ((q : Int) % 2)] 149) rfl
          have hba := below_alloc (Below.refl _ wr) (.cells #[.int .i64 ((q : Int) / 4), .int .i64 ((q : Int) / 2 % 2), .int .i64 ((q : Int) % 2)] 149)
          generalize wr.alloc (.cells #[.int .i64 ((q : Int) / 4), .int .i64 ((q : Int) / 2 % 2), .int .i64 ((q : Int) % 2)] 149) = wa at hbx hba ⊢
          refine wp_region_noPanic (wp_region_held_at (S := fun W => W.heap[wr.heap.size]? = some (.cells #[.int .i64 ((q : Int) / 4), .int .i64 ((q : Int) / 2 % 2), .int .i64 ((q : Int) % 2)] 149 (0, 0)) ∧ W.heap[m]? = some (.map es c)) (by kernel_rfl) ?_)
          intro v0 hbv hvk
          have hz : v0.heap[wr.heap.size]? = some (.cells #[.int .i64 ((q : Int) / 4), .int .i64 ((q : Int) / 2 % 2), .int .i64 ((q : Int) % 2)] 149 (0, 0)) ∧ v0.heap[m]? = some (.map es c) := ⟨(hvk _).trans hbx, (hvk m).trans ((hba.block m (Array.getElem?_eq_some_iff.1 hC.out.2.2.1).1).trans hC.out.2.2.1)⟩
          have hb0 := hid (below_via hbv hba)
          clear hbx hba hbv hvk ce3 le3
          refine wpAnyH_quiet (i := 0) (v := .map (some m)) rfl (by kernel_rfl) (by kernel_rfl) (by kernel_rfl) (fun _ _ _ h => h) rfl (fun W hW => by go_simp) hz ?_
          refine wpAnyH_quiet (i := 1) (v := .agg #[.int .i64 ((q : Int) / 4), .int .i64 ((q : Int) / 2 % 2), .int .i64 ((q : Int) % 2)]) rfl (by kernel_rfl) (by kernel_rfl) (by kernel_rfl) (fun _ _ _ h => h) rfl (fun W hW => by obtain ⟨lq, cq⟩ := cells_of hW.1; go_simp) hz ?_
          refine wpAnyH_quiet (i := 2) (v := .agg #[.int .i64 lo, .int .i64 hh]) rfl (by kernel_rfl) (by kernel_rfl) (by kernel_rfl) (fun _ _ _ h => h) rfl (fun W hW => by have el := hlk2.out W hW.2; rw [show entK.enc ((q : Int) / 4, (q : Int) / 2 % 2, (q : Int) % 2) = .agg #[.int .i64 ((q : Int) / 4), .int .i64 ((q : Int) / 2 % 2), .int .i64 ((q : Int) % 2)] from rfl] at el; go_simp) hz ?_
          refine wpAnyH_quiet (i := 3) (v := .pointer (some ⟨wr.heap.size, 0, none⟩)) rfl (by kernel_rfl) (by kernel_rfl) (by kernel_rfl) (fun _ _ _ h => h) rfl (fun W hW => by go_simp) hz ?_
          refine wpAnyH_quiet (i := 4) (v := .int .i64 ((q : Int) / 4)) rfl (by kernel_rfl) (by kernel_rfl) (by kernel_rfl) (fun _ _ _ h => h) rfl (fun W hW => by obtain ⟨lq, cq⟩ := cells_of hW.1; go_simp) hz ?_
          refine wpAnyH_quiet (i := 5) (v := .int .i64 (2 * ((q : Int) / 4))) rfl (by kernel_rfl) (by kernel_rfl) (by kernel_rfl) (fun _ _ _ h => h) rfl (fun W hW => by go_simp) hz ?_
          refine wpAnyH_quiet (i := 6) (v := .pointer (some ⟨wr.heap.size, 1, none⟩)) rfl (by kernel_rfl) (by kernel_rfl) (by kernel_rfl) (fun _ _ _ h => h) rfl (fun W hW => by go_simp) hz ?_
          refine wpAnyH_quiet (i := 7) (v := .int .i64 ((q : Int) / 2 % 2)) rfl (by kernel_rfl) (by kernel_rfl) (by kernel_rfl) (fun _ _ _ h => h) rfl (fun W hW => by obtain ⟨lq, cq⟩ := cells_of hW.1; go_simp) hz ?_
          refine wpAnyH_quiet (i := 8) (v := .int .i64 (2 * ((q : Int) / 4) + (q : Int) / 2 % 2)) rfl (by kernel_rfl) (by kernel_rfl) (by kernel_rfl) (fun _ _ _ h => h) rfl (fun W hW => by go_simp) hz ?_
          refine wpAnyH_step (i := 9) (by kernel_rfl) rfl ?_
          go_wp2
          have hz1 : (v0.alloc (.cells #[.int .i64 0, .int .i64 0] 28)).heap[wr.heap.size]? = some (.cells #[.int .i64 ((q : Int) / 4), .int .i64 ((q : Int) / 2 % 2), .int .i64 ((q : Int) % 2)] 149 (0, 0)) ∧ (v0.alloc (.cells #[.int .i64 0, .int .i64 0] 28)).heap[m]? = some (.map es c) := ⟨alloc_old (cells_of hz.1).1 hz.1, alloc_old (Array.getElem?_eq_some_iff.1 hz.2).1 hz.2⟩
          refine ⟨hz1, ?_⟩
          have hnew := alloc_at (w := v0) (o := .cells #[.int .i64 0, .int .i64 0] 28) rfl
          have hb1 := hid (below_alloc hb0.out (.cells #[.int .i64 0, .int .i64 0] 28))
          have hvx : Hid (wr.heap.size ≠ v0.heap.size ∧ m ≠ v0.heap.size ∧ wr.heap.size ≤ v0.heap.size) := hid ⟨by have := (cells_of hz.1).1; omega, by have := (Array.getElem?_eq_some_iff.1 hz.2).1; omega, by have := (cells_of hz.1).1; omega⟩
          generalize v0.alloc (.cells #[.int .i64 0, .int .i64 0] 28) = v1 at hz1 hnew hb1 ⊢
          have hz1 := hid hz1
          obtain ⟨ln, cn⟩ := cells_of hnew
          have zn := free_of hnew
          have hz2 := heap_set_same (o := 1) (v := .int .i64 hh) (heap_set_same (o := 0) (v := .int .i64 lo) hnew)
          have hz2 := hid hz2
          have hb2 := hid (below_set (below_set hb1.out (p := ⟨v0.heap.size, 0, none⟩) (.int .i64 lo) hvx.out.2.2) (p := ⟨v0.heap.size, 1, none⟩) (.int .i64 hh) hvx.out.2.2)
          have hzS : Hid (((v1.setCell ⟨v0.heap.size, 0, none⟩ (.int .i64 lo)).setCell ⟨v0.heap.size, 1, none⟩ (.int .i64 hh)).heap[wr.heap.size]? = some (.cells #[.int .i64 ((q : Int) / 4), .int .i64 ((q : Int) / 2 % 2), .int .i64 ((q : Int) % 2)] 149 (0, 0)) ∧ ((v1.setCell ⟨v0.heap.size, 0, none⟩ (.int .i64 lo)).setCell ⟨v0.heap.size, 1, none⟩ (.int .i64 hh)).heap[m]? = some (.map es c)) :=
            hid ⟨(Below.heap_setCell _ _ _ _ hvx.out.1).trans ((Below.heap_setCell _ _ _ _ hvx.out.1).trans hz1.out.1), (Below.heap_setCell _ _ _ _ hvx.out.2.1).trans ((Below.heap_setCell _ _ _ _ hvx.out.2.1).trans hz1.out.2)⟩
          clear hnew hz
          refine wpAnyH_step (i := 10) (by kernel_rfl) rfl ?_
          go_wp2
          refine ⟨hzS.out, ?_⟩
          refine wpAnyH_quiet (i := 11) (v := .int .i64 (2 * ((q : Int) / 4) + (q : Int) / 2 % 2)) rfl (by kernel_rfl) (by kernel_rfl) (by kernel_rfl) (fun _ _ _ h => h) rfl (fun W hW => by go_simp) hzS.out ?_
          refine wpAnyH_done (by kernel_rfl) ?_ _
          refine NoPanic.normal ?_
          try simp only [Act.put, List.setIfInBounds_toArray]
          have hC5 : Hid (EntEnv B l eb W.heap.size r (.slice sa r.stints.length scap) set ((v1.setCell ⟨v0.heap.size, 0, none⟩ (.int .i64 lo)).setCell ⟨v0.heap.size, 1, none⟩ (.int .i64 hh)) ∧ W2.heap.size ≤ ((v1.setCell ⟨v0.heap.size, 0, none⟩ (.int .i64 lo)).setCell ⟨v0.heap.size, 1, none⟩ (.int .i64 hh)).heap.size ∧ ((v1.setCell ⟨v0.heap.size, 0, none⟩ (.int .i64 lo)).setCell ⟨v0.heap.size, 1, none⟩ (.int .i64 hh)).heap[m]? = some (.map es c) ∧ ((v1.setCell ⟨v0.heap.size, 0, none⟩ (.int .i64 lo)).setCell ⟨v0.heap.size, 1, none⟩ (.int .i64 hh)).heap[D]? = some (.deferred (some []))) :=
            hid ⟨hC.out.1.below hb2.out, Nat.le_trans hC.out.2.1 hb2.out.size, hzS.out.2, (hb2.out.block _ (Array.getElem?_eq_some_iff.1 hC.out.2.2.2).1).trans hC.out.2.2.2⟩
          have hJ5 : Hid (J pre ((v1.setCell ⟨v0.heap.size, 0, none⟩ (.int .i64 lo)).setCell ⟨v0.heap.size, 1, none⟩ (.int .i64 hh))) := hid (hJ'.out pre wr _ none hjp.out (grown_of_below hb2.out _) (fun r e => by cases e))
          have hsbt : Hid (tb < v0.heap.size) := hid (by have := hvx.out.2.2; have := hC.out.2.1; omega)
          obtain ⟨sb, hsb⟩ : ∃ b, b = v0.heap.size := ⟨_, rfl⟩
          rw [← hsb] at hz2 hC5 hJ5 hsbt ⊢
          clear hsb hb0 hb1 hb2 hvx hz1 hzS ln cn zn
          generalize ((v1.setCell ⟨sb, 0, none⟩ (.int .i64 lo)).setCell ⟨sb, 1, none⟩ (.int .i64 hh)) = v5 at hz2 hC5 hJ5 ⊢
          have hlen : pre.length < 90 := by
            obtain ⟨T, hT1, hT2⟩ : ∃ T, pre.map (fun x => x.1) = r.rulesB ++ T ∧ T.length ≤ 2 * q := ⟨_, hpre.out, r.ents_len set q⟩
            have h1 := congrArg List.length hT1
            rw [List.length_map, List.length_append] at h1
            have h5 : r.rulesB.length ≤ 5 * r.n := r.flat_len r.n
            have h6 := hN.out
            omega
          have en1 : encB ⟨⟨10, timeOf q, hh⟩, hfA.out⟩ = #[.agg #[.int .i64 10, .int .i64 (2 * ((q : Int) / 4) + (q : Int) / 2 % 2), .int .i64 hh]] := by
            have : ((timeOf q : Nat) : Int) = 2 * ((q : Int) / 4) + (q : Int) / 2 % 2 := by simp only [timeOf]; omega
            simp only [encB, bdV, this]; rfl
          have en2 : encB ⟨⟨timeOf q, 10, -lo⟩, hfB.out⟩ = #[.agg #[.int .i64 (2 * ((q : Int) / 4) + (q : Int) / 2 % 2), .int .i64 10, .int .i64 (-lo)]] := by
            have : ((timeOf q : Nat) : Int) = 2 * ((q : Int) / 4) + (q : Int) / 2 % 2 := by simp only [timeOf]; omega
            simp only [encB, bdV, this]; rfl
          have hzc := hz2.out
          rw [show ((#[Value.int .i64 0, .int .i64 0] : Array Value).setIfInBounds 0 (.int .i64 lo)).setIfInBounds 1 (.int .i64 hh) = #[.int .i64 lo, .int .i64 hh] by simp] at hzc
          obtain ⟨lsb, csb⟩ := cells_of hzc
          obtain ⟨lyb, cyb⟩ := cells_of hC5.out.1.y
          replace hzc := hid hzc
          obtain ⟨fn, tm, asg, bdy, hy, hR⟩ := hY'.out pre ⟨⟨10, timeOf q, hh⟩, hfA.out⟩ v5 hJ5.out (by omega)
          rw [en1] at hy
          replace hR := hid hR
          replace en1 := hid en1
          replace en2 := hid en2
          clear hz2
          go_upto_region 11 with fail
          refine (wpIn_wide (n := n)).1 ?_
          gi_wp2_with fail
          refine ⟨by simp [Fence.wide], hR.out.mono ?_⟩
          clear hR hy
          rintro e v6 (⟨rfl, hj6, hk6, hkf6⟩ | ⟨rfl, hjx6, hkf6⟩)
          · have hC6 : Hid (EntEnv B l eb W.heap.size r (.slice sa r.stints.length scap) set v6 ∧ W2.heap.size ≤ v6.heap.size ∧ v6.heap[m]? = some (.map es c) ∧ v6.heap[D]? = some (.deferred (some []))) :=
              hid ⟨hC5.out.1.kp hk6 hB heb (by omega), Nat.le_trans hC5.out.2.1 hk6.1, hk6.map hC5.out.2.2.1 (by have := hlm.out; omega), hkf6.same _ _ (by have := hlm.out; omega) hC5.out.2.2.2 rfl⟩
            have hzc6 := hk6.cells hzc.out (by have := hsbt.out; omega)
            replace hj6 := hid hj6
            clear hk6 hkf6 lsb csb lyb cyb hC5 hzc
            obtain ⟨lsb, csb⟩ := cells_of hzc6
            obtain ⟨lyb, cyb⟩ := cells_of hC6.out.1.y
            replace hzc6 := hid hzc6
            obtain ⟨fn, tm, asg, bdy, hy, hR⟩ := hY'.out _ ⟨⟨timeOf q, 10, -lo⟩, hfB.out⟩ v6 hj6.out (by simp; omega)
            rw [en2.out] at hy
            replace hR := hid hR
            gi_wp2_with fail
            refine ⟨by simp [Fence.wide], hR.out.mono ?_⟩
            clear hR hy
            rintro e v7 (⟨rfl, hj7, hk7, hkf7⟩ | ⟨rfl, hjx7, hkf7⟩)
            · have hC7 : Hid (EntEnv B l eb W.heap.size r (.slice sa r.stints.length scap) set v7 ∧ W2.heap.size ≤ v7.heap.size ∧ v7.heap[m]? = some (.map es c) ∧ v7.heap[D]? = some (.deferred (some []))) :=
                hid ⟨hC6.out.1.kp hk7 hB heb (by omega), Nat.le_trans hC6.out.2.1 hk7.1, hk7.map hC6.out.2.2.1 (by have := hlm.out; omega), hkf7.same _ _ (by have := hlm.out; omega) hC6.out.2.2.2 rfl⟩
              replace hj7 := hid hj7
              clear hk7 hkf7 lsb csb lyb cyb hC6 hzc6
              gi_wp2
              go_wp2
              go_roundw
              case rel => exact ⟨q + 1, _, by omega, by go_num, hid (by rw [List.map_append, List.map_append, hpre.out, List.range_succ, List.flatMap_append]; simp [hT'.out, heq.out]), hj7, hC7⟩
              case measure => simp [intOf]; omega
            · have hd7 := hkf7.same _ _ (by have := hlm.out; omega) hC6.out.2.2.2 rfl
              replace hd7 := hid hd7
              replace hjx7 := hid hjx7
              gi_wp2
              go_wp2
              unfold Exit.noGoto
              refine ⟨by simp, .inl ⟨_, _, rfl, run_takeDeferred hd7.out, ?_⟩⟩
              refine ⟨_, results_none rfl _ _ _, ?_⟩
              exact ⟨⟨_, rfl⟩, .inr ⟨_, hJx'.out.putObj (.deferred none) hjx7.out (by have := hlm.out; omega) hd7.out rfl⟩⟩
          · have hd6 := hkf6.same _ _ (by have := hlm.out; omega) hC5.out.2.2.2 rfl
            replace hd6 := hid hd6
            replace hjx6 := hid hjx6
            gi_wp2
            refine ⟨(fun _ h => by cases h), ?_⟩
            gi_wp2
            go_wp2
            unfold Exit.noGoto
            refine ⟨by simp, .inl ⟨_, _, rfl, run_takeDeferred hd6.out, ?_⟩⟩
            refine ⟨_, results_none rfl _ _ _, ?_⟩
            exact ⟨⟨_, rfl⟩, .inr ⟨_, hJx'.out.putObj (.deferred none) hjx6.out (by have := hlm.out; omega) hd6.out rfl⟩⟩
      · obtain rfl : q = 4 * r.stints.length := by omega
        go_wp2
        unfold Exit.noGoto
        refine ⟨by simp, .inl ⟨_, _, rfl, run_takeDeferred hC.out.2.2.2, ?_⟩⟩
        refine ⟨_, results_none rfl _ _ _, ?_⟩
        exact ⟨⟨_, rfl⟩, .inl ⟨_, hpre.out, hJ'.out.putObj (.deferred none) hjp.out (by have := hlm.out; omega) hC.out.2.2.2 rfl⟩⟩
end Go.Proofs.Ytccgakdaiaigoaa

namespace Go.Proofs.Ytccgakdaiaigoaa
open Go.RowKit Go.Lap Go.Shelf
attribute [local go_sem] Oper.semAt_some

/-- The table while it is laid out. -/
def fillT (q : Nat) : List Int := (List.range 121).map fun j => if j < q ∧ j / 11 ≠ j % 11 then 1048576 else 0
theorem fillT_length (q : Nat) : (fillT q).length = 121 := by simp [fillT]
theorem fillT_set {q : Nat} (h : q / 11 ≠ q % 11) : (fillT q).set q 1048576 = fillT (q + 1) := by
  apply List.ext_getElem?
  intro j
  rw [List.getElem?_set]
  simp only [fillT, List.getElem?_map, List.length_map, List.length_range]
  by_cases hj : j < 121
  · rw [List.getElem?_range hj]
    by_cases e : q = j
    · subst e
      simp [hj, h]
    · rw [if_neg e]
      simp only [Option.map_some]
      have : (j < q ∧ j / 11 ≠ j % 11) ↔ (j < q + 1 ∧ j / 11 ≠ j % 11) := by omega
      simp only [this]
  · rw [List.getElem?_eq_none (by simp; omega)]
    simp only [Option.map_none]
    split
    · rw [if_neg (by omega)]
    · rfl
theorem fillT_skip {q : Nat} (h : q / 11 = q % 11) : fillT (q + 1) = fillT q := by
  simp only [fillT]
  refine List.map_congr_left fun j _ => ?_
  have : (j < q + 1 ∧ j / 11 ≠ j % 11) ↔ (j < q ∧ j / 11 ≠ j % 11) := by
    by_cases e : j = q
    · subst e; omega
    · omega
  simp only [this]
theorem fillT_start : Holds (fillT 121) (some Tab.start) := by
  refine ⟨Tab.start_closed, fillT_length _, fun i k hi hk => ?_⟩
  have hi' : i < 11 := hi
  have hk' : k < 11 := hk
  have hj : i * 11 + k < 121 := by omega
  rw [List.getD_eq_getElem?_getD, fillT, List.getElem?_map, List.getElem?_range hj]
  simp only [Option.map_some, Option.getD_some, Tab.start]
  by_cases e : i = k
  · rw [if_neg (by omega), if_pos e]
  · rw [if_pos (by omega), if_neg e]

theorem zeros113 : Try.zeroCells113 = tabV (fillT 0) := by kernel_rfl
theorem enters_known : ∀ args w, (callFunc 110 args).run Try.prog w = .ok (.enter 110 args) w := enters_of Try.func110 (by kernel_rfl) rfl
theorem meth_bounds (a b c : Value) (w : World) : (method 251 102 (.agg #[a, b, c]) "lapworks/relay.bounds").run Try.prog w = .ok (109, .agg #[a, b, c]) w := by kernel_rfl
/-- What lies in memory while the bounds are added. -/
def AddAt (w : World) (pre : List BdF) (W : World) : Prop := Below w.heap.size w W ∧ W.heap[w.heap.size + 1]? = some (.cells #[.pointer (some ⟨w.heap.size, 0, none⟩)] 68 (0, 0)) ∧ ∃ t, TabAt W w.heap.size t ∧ Holds t (know (some Tab.start) (pre.map fun x => x.1))
theorem addAt_own {w : World} {B : Nat} (hB : w.heap.size ≤ B) : OwnFrom B (AddAt w) := by
  rintro s X Y row ⟨h1, h2, t, h3, h4⟩ hg hr
  have keep : ∀ (k : Nat) (c : Array Value) (ty : TypeId) (fr : Nat × Nat), X.heap[k]? = some (.cells c ty fr) → Y.heap[k]? = some (.cells c ty fr) := fun k c ty fr h => (hg.block k (cells_of h).1 (fun e => by obtain ⟨_, o, ho, hc⟩ := hr k e.symm; rw [h] at ho; cases ho; cases hc)).trans h
  exact ⟨⟨hg.os.trans h1.os, hg.tape.trans h1.tape, hg.output.trans h1.output, Nat.le_trans h1.size hg.size, fun k hk => (hg.block k (Nat.lt_of_lt_of_le hk h1.size) (fun e => by have := (hr k e.symm).1; omega)).trans (h1.block k hk)⟩, keep _ _ _ _ h2, t, keep _ _ _ _ h3, h4⟩
theorem AddAt.below {w : World} {pre : List BdF} {W W' : World} (h : AddAt w pre W) (hb : Below W.heap.size W W') : AddAt w pre W' := by
  obtain ⟨h1, h2, t, h3, h4⟩ := h
  exact ⟨below_via hb h1, (hb.block _ (cells_of h2).1).trans h2, t, (hb.block _ (cells_of h3).1).trans h3, h4⟩
/-- What lies in memory while the table is laid out. -/
structure FillAt (w : World) (q : Nat) (W : World) : Prop where
  below : Below w.heap.size w W
  tab : TabAt W w.heap.size (fillT q)
  box : W.heap[w.heap.size + 1]? = some (.cells #[.pointer (some ⟨w.heap.size, 0, none⟩)] 68 (0, 0))
theorem FillAt.store {w : World} {q : Nat} {W : World} (h : FillAt w q W) (hq : q / 11 ≠ q % 11) : FillAt w (q + 1) (W.setCell ⟨w.heap.size, q, none⟩ (.int .i64 1048576)) := by
  refine ⟨below_set h.below _ (Nat.le_refl _), ?_, (Below.heap_setCell _ _ _ _ (by simp)).trans h.box⟩
  have := heap_set_same (o := q) (v := .int .i64 1048576) h.tab
  rw [tabV_set, fillT_set hq] at this
  exact this

set_option maxRecDepth 100000 in
set_option maxHeartbeats 4000000 in
theorem known_any (r : Rel) (hv : r.valid = true) (set : Nat) (hset : set < 18446744073709551616) (sv : Value) (w : World) (hS : StintsAt w sv r.stints) :
    Calls Try.prog 71 #[.iface 102 (entriesV r sv set)] w fun e w' => e = .returned (.pointer (some ⟨w.heap.size, 0, none⟩)) ∧ Below w.heap.size w w' ∧ ∃ t, TabAt w' w.heap.size t ∧ Holds t (r.tab set) := by
  obtain ⟨sa, scap, rfl, _⟩ := id hS
  have hS' := hid hS
  clear hS
  refine calls_of_wp_marks 7 Try.func71 rfl ?_
  simp only [Try.ntmps71, List.size_toArray, List.length_cons, List.length_nil, Nat.reduceAdd, Nat.reduceSub, Array.replicate_succ, Array.replicate_zero, List.push_toArray, List.append_toArray, List.nil_append, List.cons_append]
  go_upto_region 2 with fail
  have hF0 : FillAt w 0 ((w.alloc (.cells Try.zeroCells113 113)).alloc (.cells #[.pointer (some ⟨w.heap.size, 0, none⟩)] 68)) := ⟨below_alloc (below_alloc (Below.refl _ _) _) _, alloc_old (by simp) (by rw [zeros113]; exact alloc_at rfl), alloc_at (by simp)⟩
  generalize (w.alloc (.cells Try.zeroCells113 113)).alloc (.cells #[.pointer (some ⟨w.heap.size, 0, none⟩)] 68) = w0 at hF0 ⊢
  generalize Try.zeroCells113 = zz
  have hF0 := hid hF0
  go_wp2
  go_loopw [9] (fun ix wr => ∃ i : Nat, i ≤ 11 ∧ ix = .int .i64 i ∧ Hid (FillAt w (i * 11) wr)) (fun ix _ => 11 - (intOf ix).toNat)
  case atStart => exact ⟨0, by omega, rfl, hF0⟩
  case round =>
    obtain ⟨i, hi, rfl, hA⟩ := hrel
    by_cases hlt : i < 11
    · have hki : (i : Int) < 11 := by omega
      go_wp2
      go_loopw [12] (fun ix wr => ∃ k : Nat, k ≤ 11 ∧ ix = .int .i64 k ∧ Hid (FillAt w (i * 11 + k) wr)) (fun ix _ => 11 - (intOf ix).toNat)
      case atStart => exact ⟨0, by omega, rfl, hA⟩
      case round =>
        clear hA
        obtain ⟨k, hk, rfl, hA⟩ := hrel
        by_cases hlk : k < 11
        · have hkk : (k : Int) < 11 := by omega
          by_cases hne : i = k
          · have hne' : ((i : Int) != (k : Int)) = false := by simp; omega
            have hF := hid (show FillAt w (i * 11 + (k + 1)) wr by have h1 := fillT_skip (q := i * 11 + k) (by omega); have h2 := hA.out; exact ⟨h2.below, by rw [← Nat.add_assoc, h1]; exact h2.tab, h2.box⟩)
            have hni := hid hne
            clear hne
            go_wp2
            go_roundw
            case rel => exact ⟨k + 1, by omega, by go_num, hF⟩
            case measure => simp [intOf]; omega
          · have hne' : ((i : Int) != (k : Int)) = true := by simp; omega
            have hF := hid (show FillAt w (i * 11 + (k + 1)) (wr.setCell ⟨w.heap.size, i * 11 + k, none⟩ (.int .i64 1048576)) from hA.out.store (by omega))
            have hni := hid hne
            clear hne
            have lt := (cells_of hA.out.tab).1
            obtain ⟨lb, cb⟩ := cells_of hA.out.box
            have ct := tab_cell hA.out.tab (k := i * 11 + k) (by rw [fillT_length]; omega)
            have zt := free_of hA.out.tab (i * 11 + k)
            clear hA
            go_wp2
            go_roundw
            case rel => exact ⟨k + 1, by omega, by go_num, hF⟩
            case measure => simp [intOf]; omega
        · obtain rfl : k = 11 := by omega
          go_wp2
          go_roundw
          case rel => exact ⟨i + 1, by omega, by go_num, hid (by have := hA.out; rw [show (i + 1) * 11 = i * 11 + 11 by omega]; exact this)⟩
          case measure => simp [intOf]; omega
    · obtain rfl : i = 11 := by omega
      have hm1 : ∀ w, (method 251 102 (entriesV r (.slice sa r.stints.length scap) set) "lapworks/relay.bounds").run Try.prog w = .ok (109, entriesV r (.slice sa r.stints.length scap) set) w := meth_bounds (.int .i64 r.rest) (.slice sa r.stints.length scap) (.int .u64 set)
      go_wp2_with (go_at_call 109; refine (entries_bounds_any r _ ⟨_, _, _, rfl⟩ set _).mono ?_; rintro e w' ⟨rfl, rfl⟩)
      have hb2 := below_alloc (Below.refl _ wr) (.cells #[.int .i64 r.rest, .slice sa r.stints.length scap, .int .u64 set] 102)
      have hr2 := alloc_at (w := wr) (o := .cells #[.int .i64 r.rest, .slice sa r.stints.length scap, .int .u64 set] 102) rfl
      have hst2 := (hS'.out.under.below hA.out.below).below hb2
      have hI2 : AddAt w [] (wr.alloc (.cells #[.int .i64 r.rest, .slice sa r.stints.length scap, .int .u64 set] 102)) := ⟨below_via hb2 hA.out.below, (hb2.block _ (cells_of hA.out.box).1).trans hA.out.box, _, (hb2.block _ (cells_of hA.out.tab).1).trans hA.out.tab, fillT_start⟩
      have hlt2 := (cells_of hA.out.box).1
      have hsz2 : (wr.alloc (.cells #[.int .i64 r.rest, .slice sa r.stints.length scap, .int .u64 set] 102)).heap.size = wr.heap.size + 1 := by simp
      generalize wr.alloc (.cells #[.int .i64 r.rest, .slice sa r.stints.length scap, .int .u64 set] 102) = W2 at hb2 hr2 hst2 hI2 hsz2 ⊢
      replace hb2 := hid hb2
      have hlt3 : wr.heap.size < W2.heap.size := by omega
      clear hsz2
      refine (wpIn_wide (n := 7)).1 (wpIn_range_whole (α := BdF) (encs := encB) (w0 := W2) (by omega) (gf := 110) (lb := #[.pointer (some ⟨wr.heap.size, 0, none⟩)]) rfl enters_known
        (entries1_in 6 (by omega) wr.heap.size w.heap.size w.heap.size r hv set hset _ W2 hr2 hst2 (Nat.le_refl _) (by omega) (by omega)) (fun h k => h.trans k) (fun X l o o' h1 h2 h3 h4 => tabKp_b (w := W2) X l o o' h1 h2 h3 h4) (Below.refl _ _) (fun _ => rfl)
        (AddAt w) (addAt_own (by omega)) hI2
        (fun x a' X => ∃ bx, W2.heap.size ≤ bx ∧ X.heap[bx]? = some (.cells (bdV x.1) 77 (0, 0)) ∧ a' = { tmps := #[.iface 102 (entriesV r (.slice sa r.stints.length scap) set), undef, .pointer none, .pointer (some ⟨w.heap.size + 1, 0, none⟩), u4, u5, .pointer (some ⟨bx, 0, none⟩), .agg zz, .pointer (some ⟨w.heap.size, 0, none⟩), .int .i64 ((11 : Nat) : Int), .bool false, u11, u12, u13, u14, u15, u16, u17, u18, u19, u20, u21, u22, u23, u24, u25, .iface 102 (entriesV r (.slice sa r.stints.length scap) set), .func (.func 110) #[] #[.pointer (some ⟨wr.heap.size, 0, none⟩)], .agg (bdV x.1), undef, undef, undef, undef], defers := [] })
        ?hAx ?assign ?body ?done)
      case hAx =>
        rintro x a' _ A C row ⟨bx, h1, h2, h3⟩ hg hr
        refine ⟨bx, h1, (hg.block bx (cells_of h2).1 ?_).trans h2, h3⟩
        intro e
        obtain ⟨_, o, ho, hc⟩ := hr bx e.symm
        rw [h2] at ho; cases ho; cases hc
      case assign =>
        intro l2 pre x X K hsz hi hK
        gi_wp2
        exact hK _ _ (Keeps2.below (below_alloc (Below.refl _ _) _) hsz) (TabKp.below (below_alloc (Below.refl _ _) _)) (hi.below (below_alloc (Below.refl _ _) _)) ⟨X.heap.size, by omega, alloc_at rfl, rfl⟩
      case body =>
        rintro l2 pre x a' X hsz hI ⟨bx, hbx, hxc, rfl⟩ hlen
        obtain ⟨q1, d1⟩ := cells_of hI.2.1
        obtain ⟨q2, d2⟩ := cells_of hxc
        obtain ⟨h1, h2, t, h3, h4⟩ := hI
        have HC := hid (add_any w.heap.size t x.1 x.2 X h3 h4.length)
        replace h1 := hid h1
        replace h2 := hid h2
        replace h3 := hid h3
        replace h4 := hid h4
        clear hxc
        gi_wp2_with fail
        refine ⟨trivial, ?_⟩
        have HC2 := CallsIn.inRound l2 ((callsIn_wide (n := 4)).2 HC.out)
        with_reducible refine HC2.mono ?_
        rintro e X1 ⟨rfl, ht, hg⟩
        have hg' := hid hg
        have ht' := hid ht
        clear hg ht
        gi_wp2
        refine ⟨Keeps2.grown hg'.out hsz (by omega), TabKp.grown hg'.out, ?_, blk_grown hg'.out h2.out (by omega), upTo x.1 t 121, ht'.out, ?_⟩
        · have h1 := h1.out
          have hg := hg'.out
          exact ⟨hg.os.trans h1.os, hg.tape.trans h1.tape, hg.output.trans h1.output, Nat.le_trans h1.size hg.size, fun k hk => (hg.block k (Nat.lt_of_lt_of_le hk h1.size) (fun e => by cases e; omega)).trans (h1.block k hk)⟩
        · have := h4.out.add x.2
          rw [List.map_append, know, List.foldl_append]
          exact this
      case done =>
        intro D ys X hD hS hI hdf
        obtain ⟨q1, d1⟩ := cells_of hI.2.1
        obtain ⟨h1, h2, t, h3, h4⟩ := hI
        rw [hS] at h4
        have hfin : AddAt w ys (X.putObj D (.deferred none)) := (addAt_own (B := w.heap.size) (Nat.le_refl _)).putObj _ ⟨h1, h2, t, h3, by rw [hS]; exact h4⟩ (by omega) hdf rfl
        replace hdf := hid hdf
        replace hfin := hid hfin
        replace h4 := hid h4
        clear h1 h2 h3
        go_wp2
        refine ⟨by simp, .inl ⟨_, _, rfl, run_takeDeferred hdf.out, ?_⟩⟩
        obtain ⟨g1, _, t, g3, g4⟩ := hfin.out
        refine ⟨_, results_tmp rfl _ _ _, rfl, g1, t, g3, ?_⟩
        rw [hS] at g4
        exact g4
end Go.Proofs.Ytccgakdaiaigoaa

namespace Go.Proofs.Ytccgakdaiaigoaa
open Go.RowKit Go.Lap Go.Shelf

abbrev panicV (n : Int) : Ending := .panicked [{ v := failV n, recovered := false }]
/-- How 'open' ends. -/
def OpenPost (r : Rel) (b : Bool) (w : World) (e : Ending) (w' : World) : Prop :=
  Below w.heap.size w w' ∧ ((r.valid = false ∧ e = panicV 1) ∨ (r.valid = true ∧ b = false ∧ e = panicV 2) ∨ (r.valid = true ∧ b = true ∧ r.canB r.every = false ∧ e = panicV 10) ∨
    (r.valid = true ∧ b = true ∧ ∃ tb t T, e = .returned (.pointer (some ⟨tb, 0, none⟩)) ∧ w.heap.size ≤ tb ∧ TabAt w' tb t ∧ r.tab r.every = some T ∧ Closed T ∧ Flat t T))
theorem valid_fails {r : Rel} {b : Bool} {w w' : World} {e : Ending} (h : ValidPost r b w e w') (hv : r.valid = false) : e = panicV 1 ∧ Below w.heap.size w w' := by
  obtain ⟨h1, h2⟩ := h
  rw [hv] at h2
  exact ⟨h2, h1⟩
theorem valid_range {r : Rel} {w w' : World} {e : Ending} (h : ValidPost r false w e w') (hv : r.valid = true) : e = panicV 2 ∧ Below w.heap.size w w' := by
  obtain ⟨h1, h2⟩ := h
  rw [hv] at h2
  exact ⟨h2, h1⟩
theorem valid_goes {r : Rel} {w w' : World} {e : Ending} (h : ValidPost r true w e w') (hv : r.valid = true) : e = .returned (.tuple #[]) ∧ Below w.heap.size w w' := by
  obtain ⟨h1, h2⟩ := h
  rw [hv] at h2
  exact ⟨h2, h1⟩
theorem every_lt {r : Rel} (hv : r.valid = true) : r.every < 18446744073709551616 := by
  have h5 := (r.ok_of hv).2.2.1
  have : 2 ^ (4 * r.n) ≤ 2 ^ 20 := Nat.pow_le_pow_right (by decide) (by omega)
  have h0 : 0 < 2 ^ (4 * r.n) := Nat.pow_pos (by decide)
  rw [Rel.every]
  omega

set_option maxRecDepth 100000 in
set_option maxHeartbeats 4000000 in
theorem open_any (r : Rel) (hn : r.n ≤ 1000000) (b : Bool) (sv : Value) (w : World) (hS : StintsAt w sv r.stints) : Calls Try.prog 45 #[relV r sv, .bool b] w (OpenPost r b w) := by
  obtain ⟨sa, scap, rfl, _⟩ := id hS
  have hS' := hid hS
  clear hS
  have hb0 := hid (below_alloc (Below.refl _ w) (.cells #[.int .i64 r.rest, .slice sa r.stints.length scap] 24))
  cases hv : r.valid
  · have hv' := hid hv
    clear hv
    go_enter Try.func45, Try.ntmps45
    go_wp2_with (go_at_call 58; refine (valid_any r hn b _ _ (hS'.out.below hb0.out)).mono ?_; intro e w' hp; obtain ⟨rfl, hb⟩ := valid_fails hp hv'.out; replace hb := hid hb; clear hp)
    exact ⟨rfl, below_via hb.out hb0.out, .inl ⟨hv'.out, rfl⟩⟩
  · have hv' := hid hv
    clear hv
    cases b
    · go_enter Try.func45, Try.ntmps45
      go_wp2_with (go_at_call 58; refine (valid_any r hn false _ _ (hS'.out.below hb0.out)).mono ?_; intro e w' hp; obtain ⟨rfl, hb⟩ := valid_range hp hv'.out; replace hb := hid hb; clear hp)
      exact ⟨rfl, below_via hb.out hb0.out, .inr (.inl ⟨hv'.out, rfl, rfl⟩)⟩
    · have hx0 := hid (alloc_at (w := w) (o := .cells #[.int .i64 r.rest, .slice sa r.stints.length scap] 24) rfl)
      have hn5 := hid (r.ok_of hv'.out).2.2.1
      go_enter Try.func45, Try.ntmps45
      go_upto_region 2 with (go_at_call 58; refine (valid_any r hn true _ _ (hS'.out.below hb0.out)).mono ?_; intro e w1 hp; obtain ⟨rfl, hb⟩ := valid_goes hp hv'.out; replace hb := hid hb; clear hp)
      have hx1 := (hb.out.block _ (cells_of hx0.out).1).trans hx0.out
      have hb1 := hid (below_via hb.out hb0.out)
      obtain ⟨lx, cx⟩ := cells_of hx1
      clear hx1 hb hb0
      refine wp_region_later_tail 6 (by kernel_rfl) (by kernel_rfl) ?_
      intro hx
      simp only [List.take_succ_cons, List.take_zero, List.drop_succ_cons, List.drop_zero]
      repeat (any_goals (first | go_big_quiet_step ((go_at_call 60; exact Calls.later (every_any r hn5.out _ _ _))) | quiet_step ((go_at_call 60; exact Calls.later (every_any r hn5.out _ _ _)))))
      refine wpQuiet_nil ?_
      rintro w4 ⟨x4, hxw⟩
      have hb4 := x4.below
      rw [← hxw] at hb4
      clear hx hxw x4
      have hb5 := hid (below_via hb4 hb1.out)
      clear hb4 lx cx
      go_wp2_with (go_at_call 71; refine (known_any r hv'.out r.every (every_lt hv'.out) _ _ (hS'.out.below hb5.out)).mono ?_; rintro e w6 ⟨rfl, hb6, t, ht, hh⟩; replace hb6 := hid hb6; have ht' := hid ht; replace hh := hid hh; clear ht)
      have hb7 := hid (below_via hb6.out hb5.out)
      have hge := hid hb5.out.size
      cases hq : r.tab r.every with
      | none =>
        have hq' : Hid (canB t = false) := hid (by rw [hh.out.can, hq]; rfl)
        have hqc : Hid (r.canB r.every = false) := hid (by rw [Rel.canB, hq]; rfl)
        clear hq
        refine (can_any w4.heap.size t 113 _ ht' hh.out.length).mono ?_
        rw [hq'.out]
        rintro e w7 ⟨rfl, rfl⟩
        go_wp2_with (go_at_call 61; with_reducible refine (must_no _ _).mono ?_; rintro e w' ⟨rfl, rfl⟩)
        exact ⟨rfl, hb7.out, .inr (.inr (.inl ⟨hv'.out, rfl, hqc.out, rfl⟩))⟩
      | some T =>
        have hq' : Hid (canB t = true) := hid (by rw [hh.out.can, hq]; rfl)
        have hT := hid hq
        have hcf := hh.out
        rw [hq] at hcf
        replace hcf := hid hcf
        clear hq
        refine (can_any w4.heap.size t 113 _ ht' hh.out.length).mono ?_
        rw [hq'.out]
        rintro e w7 ⟨rfl, rfl⟩
        go_wp2_with (go_at_call 61; with_reducible refine (must_yes _ _).mono ?_; rintro e w' ⟨rfl, rfl⟩)
        go_ret
        exact ⟨hb7.out, .inr (.inr (.inr ⟨hv'.out, rfl, w4.heap.size, t, T, rfl, hge.out, ht', hT.out, hcf.out.1, hcf.out.2⟩))⟩

theorem known_at (r : Rel) (hv : r.valid = true) (set : Nat) (hset : set < 18446744073709551616) (sv : Value) (w : World) (hS : StintsAt w sv r.stints) :
    Calls Try.prog 71 #[.iface 102 (entriesV r sv set)] w fun e w' => ∃ tb t, e = .returned (.pointer (some ⟨tb, 0, none⟩)) ∧ w.heap.size ≤ tb ∧ Below w.heap.size w w' ∧ TabAt w' tb t ∧ Holds t (r.tab set) :=
  (known_any r hv set hset sv w hS).mono fun _ _ ⟨h1, h2, t, h3, h4⟩ => ⟨w.heap.size, t, h1, Nat.le_refl _, h2, h3, h4⟩

set_option maxRecDepth 100000 in
set_option maxHeartbeats 4000000 in
theorem rcan_any (r : Rel) (hv : r.valid = true) (set : Nat) (hset : set < 18446744073709551616) (sv : Value) (w : World) (hS : StintsAt w sv r.stints) : Calls Try.prog 63 #[relV r sv, .int .u64 set] w fun e w' => e = .returned (.bool (r.canB set)) ∧ Below w.heap.size w w' := by
  obtain ⟨sa, scap, rfl, _⟩ := id hS
  have hS' := hid hS
  clear hS
  have hb0 := hid (below_alloc (Below.refl _ w) (.cells #[.int .i64 r.rest, .slice sa r.stints.length scap] 87))
  go_enter Try.func63, Try.ntmps63
  go_wp2_with (first | (go_at_call 71; refine (known_at r hv set hset _ _ (hS'.out.below hb0.out)).mono ?_; rintro e w6 ⟨tb, t, rfl, _, hb6, ht, hh⟩; replace hb6 := hid hb6; have ht' := hid ht; replace hh := hid hh; clear ht) | (go_at_call 72; refine (can_any tb t 113 w6 ht'.out hh.out.length).mono ?_; rintro e w7 ⟨rfl, rfl⟩))
  go_ret
  exact ⟨by rw [hh.out.can]; rfl, below_via hb6.out hb0.out⟩
end Go.Proofs.Ytccgakdaiaigoaa

namespace Go.Proofs.Ytccgakdaiaigoaa
open Go.RowKit Go.Lap Go.Shelf

set_option maxRecDepth 100000 in
set_option maxHeartbeats 4000000 in
theorem setOf_any (i k : Nat) (hi : i < 64) (hk : k < 64) (b : Nat) (w : World) (h0 : w.cell? ⟨b, 0, none⟩ = some (.int .i64 i)) (h1 : w.cell? ⟨b, 1, none⟩ = some (.int .i64 k)) :
    Calls Try.prog 84 #[.slice (some ⟨b, 0, none⟩) 2 2] w fun e w' => e = .returned (.int .u64 (two i k : Nat)) ∧ w' = w := by
  have hA : bits .or .u64 0 (IntKind.u64.wrap ((2 : Int) ^ i)) = ((2 ^ i : Nat) : Int) := by
    have := u64_set 0 i (by decide) (by omega)
    simpa using this
  have hB : bits .or .u64 ((2 ^ i : Nat) : Int) (IntKind.u64.wrap ((2 : Int) ^ k)) = ((two i k : Nat) : Int) := u64_set (2 ^ i) k (pow_u (by omega)).1 (by omega)
  have hi' : (i : Int) < 64 := by omega
  have hk' : (k : Int) < 64 := by omega
  obtain ⟨x, hx⟩ : ∃ x : Int, x = ((2 ^ i : Nat) : Int) := ⟨_, rfl⟩
  rw [← hx] at hA hB
  clear hx
  have lb := cell_lt h0
  go_enter Try.func84, Try.ntmps84
  go_wp2
  refine wp_loop_rounds 3 ?_
  rw [rounds_succ]
  go_wp2
  rw [rounds_succ]
  go_wp2
  rw [rounds_succ]
  go_wp2
  go_ret
  exact ⟨rfl, rfl⟩

/-- A bound of a slice. -/
theorem bd_at {w : World} {a : Option Addr} {n cap : Nat} {l : List Bd} (h : bdK.at w (.slice a n cap) l) {q : Nat} {x : Bd} (hx : l[q]? = some x) :
    ∃ b off, a = some ⟨b, off, none⟩ ∧ b < w.heap.size ∧ w.cell? ⟨b, off + q * 3, none⟩ = some (.int .i64 x.a) ∧ w.cell? ⟨b, off + q * 3 + 1, none⟩ = some (.int .i64 x.b) ∧ w.cell? ⟨b, off + q * 3 + 2, none⟩ = some (.int .i64 x.m) := by
  obtain ⟨a', cap', e, hc⟩ := h
  injection e with e1 e2 e3
  subst e1
  obtain ⟨b, off, rfl, hc'⟩ := hc (fun e => by rw [e] at hx; simp at hx)
  have h0 := hc' q x hx 0 _ rfl
  exact ⟨b, off, rfl, cell_lt h0, h0, hc' q x hx 1 _ rfl, hc' q x hx 2 _ rfl⟩

set_option maxRecDepth 100000 in
set_option maxHeartbeats 4000000 in
theorem also_any (t : List Int) (o : Option Tab) (hh : Holds t o) (l : List Bd) (hl : ∀ x, x ∈ l → x.fit) (hlen : l.length ≤ 100) (lv : Value) (w : World) (hlv : bdK.at w lv l) :
    Calls Try.prog 53 #[.agg (tabV t), lv] w fun e w' => e = .returned (.bool (know o l).isSome) ∧ Below w.heap.size w w' := by
  obtain ⟨a, cap, rfl, _⟩ := id hlv
  have hlv' := hid hlv
  have hl' := hid hl
  have hh' := hid hh
  clear hlv hh hl
  have hA0 : Hid (TabAt (w.alloc (.cells (tabV t) 113)) w.heap.size t ∧ Below w.heap.size w (w.alloc (.cells (tabV t) 113))) := hid ⟨alloc_at rfl, below_alloc (Below.refl _ _) _⟩
  obtain ⟨tv, htv⟩ : ∃ v, tabV t = v := ⟨_, rfl⟩
  have htv' := hid htv
  rw [htv] at hA0 ⊢
  clear htv
  go_enter Try.func53, Try.ntmps53
  go_wp2
  generalize w.alloc (.cells tv 113) = w0 at hA0 ⊢
  go_loopw [9] (fun ix wr => ∃ (q : Nat) (t2 : List Int), q ≤ l.length ∧ ix = .int .i64 q ∧ Hid (TabAt wr w.heap.size t2 ∧ Below w.heap.size w wr ∧ Holds t2 (know o (l.take q)))) (fun ix _ => l.length - (intOf ix).toNat)
  case atStart => exact ⟨0, t, by omega, rfl, hid ⟨hA0.out.1, hA0.out.2, by simpa [know] using hh'.out⟩⟩
  case round =>
    clear hA0
    obtain ⟨q, t2, hq, rfl, hA⟩ := hrel
    by_cases hlt : q < l.length
    · have hqi : (q : Int) < (l.length : Int) := by omega
      obtain ⟨x, hx⟩ : ∃ x, l[q]? = some x := ⟨_, List.getElem?_eq_getElem hlt⟩
      have hfit := hid (hl'.out x (List.mem_of_getElem? hx))
      have hat : bdK.at wr (.slice a l.length cap) l := hlv'.out.below hA.out.2.1
      obtain ⟨b, off, rfl, lb, c0, c1, c2⟩ := bd_at hat hx
      have htake : Hid (l.take (q + 1) = l.take q ++ [x]) := hid (by rw [List.take_add_one, hx]; rfl)
      clear hx hat
      have hb1 := below_alloc (Below.refl _ wr) (.cells (bdV x) 77)
      have hA1 : Hid (TabAt (wr.alloc (.cells (bdV x) 77)) w.heap.size t2 ∧ Below w.heap.size w (wr.alloc (.cells (bdV x) 77))) := hid ⟨(hb1.block _ (cells_of hA.out.1).1).trans hA.out.1, below_via hb1 hA.out.2.1⟩
      have hbx := alloc_at (w := wr) (o := .cells (bdV x) 77) rfl
      go_upto_region 4 with fail
      generalize wr.alloc (.cells (bdV x) 77) = w1 at hb1 hA1 hbx ⊢
      obtain ⟨lx, cx⟩ := cells_of hbx
      clear c0 c1 c2 lb hb1 hbx
      have HC := hid (add_any w.heap.size t2 x hfit.out w1 hA1.out.1 hA.out.2.2.length)
      go_wp2_with (go_at_call 78; refine HC.out.mono ?_; rintro e w2 ⟨rfl, ht, hg⟩; have ht' := hid ht; have hg' := hid hg; clear ht hg)
      go_roundw
      case rel =>
        refine ⟨q + 1, upTo x t2 121, by omega, by go_num, hid ⟨ht'.out, ?_, ?_⟩⟩
        · have h1 := hA1.out.2
          have hg := hg'.out
          exact ⟨hg.os.trans h1.os, hg.tape.trans h1.tape, hg.output.trans h1.output, Nat.le_trans h1.size hg.size, fun k hk => (hg.block k (Nat.lt_of_lt_of_le hk h1.size) (fun e => by cases e; omega)).trans (h1.block k hk)⟩
        · rw [htake.out, know, List.foldl_append]
          exact hA.out.2.2.add hfit.out
      case measure => simp [intOf]; omega
    · obtain rfl : q = l.length := by omega
      go_wp2_with (go_at_call 72; refine (can_any w.heap.size t2 113 _ hA.out.1 hA.out.2.2.length).mono ?_; rintro e w7 ⟨rfl, rfl⟩)
      go_ret
      refine ⟨?_, hA.out.2.1⟩
      have := hA.out.2.2.can
      rw [List.take_of_length_le (Nat.le_refl _)] at this
      rw [this]; rfl
end Go.Proofs.Ytccgakdaiaigoaa
