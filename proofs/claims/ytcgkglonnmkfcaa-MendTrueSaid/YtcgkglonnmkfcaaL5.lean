/- The walk of the law MendTrue. -/
import Derived.Test.YtcgkglonnmkfcaaPT
import Derived.Test.YtcgkglonnmkfcaaR8
namespace Go.Proofs.Ytcgkglonnmkfcaa
open Go.RowKit Go.Lap Go.Shelf

theorem getD_ints (p : List Nat) (k : Nat) : (ints p).getD k 0 = ((p.getD k 0 : Nat) : Int) := by
  rw [List.getD_eq_getElem?_getD, List.getD_eq_getElem?_getD, List.getElem?_map]
  cases p[k]? <;> rfl
/-- Slices of integers, one after the other. -/
def sliK : RowKind Try.prog (Option Addr × Nat × Nat) where
  t := 44
  e := 22
  size := 1
  bytes := 24
  z := .slice none 0 0
  enc := fun x => [.slice x.1 x.2.1 x.2.2]
  ht := Try.underlying44
  hi := by kernel_rfl
  hzs := rfl
  hsz := by decide
  hb := by decide
  henc := fun _ => rfl
  hone := fun x u hu => by
    obtain rfl : u = .slice x.1 x.2.1 x.2.2 := by simpa using hu
    rfl

/-- One or two orders, the second of which is right, and costs no more. -/
structure OrdsAt (M : Mend) (v : Int) (g cnt : Nat) (ord : Nat → List Nat) (vals : Nat → Value) (W : World) : Prop where
  lo : 1 ≤ cnt
  hi : cnt ≤ 2
  c : ∀ k, k < cnt → W.cell? ⟨g, k, none⟩ = some (vals k)
  i : ∀ k, k < cnt → IntsAt W (vals k) (ints (ord k))
  o : ∀ k, k < cnt → ordB M.jobs.length (ints (ord k)) = true
  b : 1 < cnt → rightB M (ints (ord 1)) = true ∧ costFrom M Bench.begin (ord 1) = v
theorem OrdsAt.below {M : Mend} {v : Int} {g cnt : Nat} {ord : Nat → List Nat} {vals : Nat → Value} {W W' : World} (h : OrdsAt M v g cnt ord vals W) (hb : Below W.heap.size W W') : OrdsAt M v g cnt ord vals W' :=
  ⟨h.lo, h.hi, fun k hk => (hb.cell (p := ⟨g, k, none⟩) (cell_lt (h.c k hk))).trans (h.c k hk), fun k hk => (h.i k hk).below hb, h.o, h.b⟩

/-- How much longer a job truly takes. -/
def eOf (M : Mend) (ts : List Int) (i : Nat) : Int := if ts.length = 0 then 0 else ts.getD (i % ts.length) 0 % ((M.job i).hi - (M.job i).lo + 1)

set_option maxRecDepth 100000 in
set_option maxHeartbeats 8000000 in
theorem mendTrue_any (M : Mend) (sv jv bv tv : Value) (bs ts : List Int) (w : World) (hS : IntsAt w sv M.setup) (hJ : JobsAt w jv M.jobs) (hB : BytesAt w bv bs) (hT : BytesAt w tv ts) :
    Calls Try.prog 5 #[.agg #[sv, jv], bv, tv] w fun e w' => e = .returned (.bool true) ∧ Below w.heap.size w w' := by
  have hS' := hid hS
  have hJ' := hid hJ
  have hB' := hid hB
  have hT' := hid hT
  clear hB
  obtain ⟨⟨tp, tcap, rfl, _⟩, _, _⟩ := hT
  obtain ⟨sa, scap, rfl, _⟩ := hS
  obtain ⟨ja, jcap, rfl, _⟩ := hJ
  have hk1 := KeepB.start w (.slice sa M.setup.length scap) (.slice ja M.jobs.length jcap)
  have HF := hid (fun W (h : KeepB w (.slice sa M.setup.length scap) (.slice ja M.jobs.length jcap) W) => fine_any M (.slice sa M.setup.length scap) (.slice ja M.jobs.length jcap) W (hS'.out.below h.bel) (hJ'.out.below h.bel))
  have HB := hid (fun W (h : KeepB w (.slice sa M.setup.length scap) (.slice ja M.jobs.length jcap) W) => Best_any M (.slice sa M.setup.length scap) (.slice ja M.jobs.length jcap) W (hS'.out.below h.bel) (hJ'.out.below h.bel))
  go_enter Try.func5, Try.ntmps5
  go_upto_region 1 with fail
  have hx := hk1
  generalize w.alloc (.cells #[.slice sa M.setup.length scap, .slice ja M.jobs.length jcap] 25) = w1 at hx ⊢
  clear hk1
  have lm := (cells_of hx.m).1; have cm := (cells_of hx.m).2
  cases hv : M.valid
  · rw [hv] at HF
    clear hv
    go_wp2_with (first
      | (go_at_call 33; with_reducible refine (HF.out _ hx).mono ?_; rintro e w8 ⟨rfl, hb8⟩; have hx := hx.below hb8; have lm := (cells_of hx.m).1; have cm := (cells_of hx.m).2)
      | (go_at_call 13; with_reducible refine (awake_any _).mono ?_; rintro e w9 ⟨rfl, hb9⟩; have hx := hx.below hb9))
    go_ret
    exact ⟨rfl, hx.bel⟩
  · rw [hv] at HF
    have hv' := hid hv
    have hlen6 := (Mend.valid_ok hv).len
    have HM := hid (fun W (h : KeepB w (.slice sa M.setup.length scap) (.slice ja M.jobs.length jcap) W) => made_any M hv'.out (.slice sa M.setup.length scap) (.slice ja M.jobs.length jcap) bv bs W (hS'.out.below h.bel) (hJ'.out.below h.bel) (hB'.out.below h.bel))
    have hcase : ∃ (v : Int) (p : List Nat) (e : Int), bestOf M = (v, p, e) ∧ ((e = 4 ∧ v = 0 ∧ p = []) ∨ (e = 0 ∧ ordB M.jobs.length (ints p) = true ∧ rightB M (ints p) = true ∧ costFrom M Bench.begin p = v)) := by
      rcases best_law hv with ⟨hbe, _⟩ | ⟨v, u, p, many, hbe, _, _, _, hop, hrp, hcp, _⟩
      · exact ⟨_, _, _, hbe, .inl ⟨rfl, rfl, rfl⟩⟩
      · exact ⟨_, _, _, hbe, .inr ⟨rfl, hop, hrp, hcp⟩⟩
    obtain ⟨v, p, e, hbe, hcase⟩ := hcase
    rw [hbe] at HB
    clear hbe hv
    go_upto_region 4 with (first
      | (go_at_call 33; with_reducible refine (HF.out _ hx).mono ?_; rintro e w8 ⟨rfl, hb8⟩; have hx := hx.below hb8; have lm := (cells_of hx.m).1; have cm := (cells_of hx.m).2)
      | (go_at_call 26; with_reducible refine (HB.out _ hx).mono ?_; rintro e w8 ⟨pv, rfl, hL0, hb8⟩; have hx := hx.below hb8; have hL := hid hL0.at; clear hL0; have lm := (cells_of hx.m).1; have cm := (cells_of hx.m).2))
    obtain ⟨pa, pcap, rfl, _⟩ := hL.out
    have hpL : (ints p).length = p.length := by simp
    rw [hpL] at hL ⊢
    have hLp := hid hL.out
    clear hpL
    clear HB HF hL
    go_cut [50] from 36 to 50 (fun vv wx => vv = .bool false ∧ w8 = wx)
    case first =>
      rcases hcase with ⟨rfl, rfl, rfl⟩ | ⟨rfl, hop, hrp, hcp⟩
      · go_wp2
        go_meet
        exact ⟨rfl, rfl⟩
      · clear hop hrp hcp
        go_wp2
        go_meet
        exact ⟨rfl, rfl⟩
    case rest =>
      obtain ⟨rfl, rfl⟩ := hcut
      go_upto_region 7 with (go_at_call 34; refine (HM.out _ hx).mono ?_; rintro e w9 ⟨v8, l, rfl, hl, hown, hb9⟩; obtain ⟨la, lcap, rfl, _⟩ := hown.at; have hx := hx.below hb9; have hli := hid (ints_at.2 hown.at); have hLp := hid (hLp.out.below hb9); clear hown; have lm := (cells_of hx.m).1; have cm := (cells_of hx.m).2)
      obtain ⟨q, rfl, _, _, hql, _⟩ := ord_nat hl
      have hl' := hid hl
      have hqL : (ints q).length = M.jobs.length := by simpa using hql
      rw [hqL] at hli ⊢
      clear hqL hql
      have hx0 := hx
      have hb10 := below_alloc (Below.refl _ w9) (.cells #[.slice la M.jobs.length lcap] 22)
      have hx := hx.below hb10
      have hli0 := hli
      have hLp0 := hLp
      have hli := hid (hli.out.below hb10)
      have hLp := hid (hLp.out.below hb10)
      have hcl := (cells_of (alloc_at (w := w9) (o := .cells #[.slice la M.jobs.length lcap] 22) (n := w9.heap.size) rfl)).2
      have hrow : sliK.own w9.heap.size (w9.alloc (.cells #[.slice la M.jobs.length lcap] 22)) (.slice (some ⟨w9.heap.size, 0, none⟩) 1 1) [(la, M.jobs.length, lcap)] :=
        ⟨rfl, .inr ⟨w9.heap.size, 1, #[.slice la M.jobs.length lcap], rfl, Nat.le_refl _, heap_alloc_new w9 _, Nat.le_refl _, by decide, rfl, rfl⟩⟩
      have hrow' := hid hrow
      have hz9 : w9.heap.size + 1 = (w9.alloc (.cells #[.slice la M.jobs.length lcap] 22)).heap.size := by simp
      have hcl' := hid hcl
      have hz9' := hid hz9
      clear lm cm hl hcl hrow hz9
      generalize w9.alloc (.cells #[.slice la M.jobs.length lcap] 22) = wa at hx hli hLp hcl' hrow' hz9' hb10 ⊢
      have lm := (cells_of hx.m).1; have cm := (cells_of hx.m).2
      go_upto_if 56 with (fail)
      go_cut [10] from 57 to 60 (fun vv wx => ∃ (g cap cnt : Nat) (ord : Nat → List Nat) (vals : Nat → Value), vv = .slice (some ⟨g, 0, none⟩) cnt cap ∧ Hid (OrdsAt M v g cnt ord vals wx) ∧ Hid (KeepB w (.slice sa M.setup.length scap) (.slice ja M.jobs.length jcap) wx))
      case first =>
        rcases hcase with ⟨rfl, rfl, rfl⟩ | ⟨rfl, hop, hrp, hcp⟩
        · go_wp2
          go_meet
          exact ⟨w9.heap.size, 1, 1, fun _ => q, fun _ => .slice la M.jobs.length lcap, rfl, hid ⟨Nat.le_refl _, by decide, (fun k hk => (by omega : 0 = k) ▸ hcl'.out 0), fun k _ => hli.out, fun k _ => hl'.out, fun h => by omega⟩, hid hx⟩
        · have hop' := hid hop
          have hrp' := hid hrp
          have hcp' := hid hcp
          clear hop hrp hcp
          go_wp2_with (at_builtin; refine wpList_append_row sliK rfl _ _ rfl w9.heap.size (.slice (some ⟨w9.heap.size, 0, none⟩) 1 1) [(la, M.jobs.length, lcap)] [(pa, p.length, pcap)] rfl (hrow'.out.below (below_alloc (Below.refl _ _) _)) wa.heap.size 0 1 1 rfl rfl (row_one sliK wa (pa, p.length, pcap) _ _ rfl) (by simp) (by have := hz9'.out; simp; omega) ?_; intro v' w6 hown6 hb6 _; obtain ⟨g6, c6, cur, rfl, hB6, hg6, hc6⟩ := hown6.block (by simp))
          have k0 : w6.cell? ⟨g6, 0, none⟩ = some (.slice la M.jobs.length lcap) := hc6 0 _ rfl 0 _ rfl
          have k1 : w6.cell? ⟨g6, 1, none⟩ = some (.slice pa p.length pcap) := hc6 1 _ rfl 0 _ rfl
          have hb16 : Below w.heap.size w w6 := below_low hb6 (below_alloc hx.bel _) (by have := hx.bel.size; have := hx0.bel.size; omega)
          have hx6 : KeepB w (.slice sa M.setup.length scap) (.slice ja M.jobs.length jcap) w6 := ⟨hb16, (hb6.block _ (by have := heap_lt hx0.m; omega)).trans ((alloc_old (heap_lt hx.m) hx.m))⟩
          have hb96 : Below w9.heap.size w9 w6 := below_low hb6 (below_alloc hb10 _) (Nat.le_refl _)
          go_meet
          refine ⟨g6, c6, 2, (fun k => if k = 0 then q else p), (fun k => if k = 0 then .slice la M.jobs.length lcap else .slice pa p.length pcap), rfl, hid ⟨by decide, Nat.le_refl _, fun k hk => ?_, fun k hk => ?_, fun k hk => ?_, fun _ => ⟨by simpa using hrp'.out, by simpa using hcp'.out⟩⟩, hid hx6⟩
          · rcases (by omega : k = 0 ∨ k = 1) with rfl | rfl
            · exact k0
            · exact k1
          · rcases (by omega : k = 0 ∨ k = 1) with rfl | rfl
            · exact hli0.out.below hb96
            · exact hLp0.out.below hb96
          · rcases (by omega : k = 0 ∨ k = 1) with rfl | rfl
            · exact hl'.out
            · exact hop'.out
      case rest =>
        obtain ⟨g, cap, cnt, ord, vals, rfl, hO, hx0⟩ := hcut
        have hOl := hO.out.lo
        have hOh := hO.out.hi
        have hM' := hid (Mend.valid_ok hv'.out)
        have heb : ∀ i, i < M.jobs.length → 0 ≤ eOf M ts i ∧ eOf M ts i ≤ (M.job i).hi - (M.job i).lo := fun i hi => by
          have h1 := valid_lo hv'.out hi
          unfold eOf
          split
          · omega
          · have := Int.emod_nonneg (ts.getD (i % ts.length) 0) (show (M.job i).hi - (M.job i).lo + 1 ≠ 0 by omega)
            have := Int.emod_lt_of_pos (ts.getD (i % ts.length) 0) (show 0 < (M.job i).hi - (M.job i).lo + 1 by omega)
            omega
        have hvN := truly_valid hv'.out heb
        have heb' := hid heb
        obtain ⟨N, hN⟩ : ∃ N, M.truly (eOf M ts) = N := ⟨_, rfl⟩
        rw [hN] at hvN
        have hvN' := hid hvN
        have hN' := hid hN
        clear lm cm hx hvN hN heb
        go_wp2
        go_loopw [6, 11, 12, 13, 14, 15, 16, 17, 18, 19, 20, 21, 22, 23, 24, 25, 63] (fun _ _ _ _ _ _ _ _ _ _ _ _ _ _ _ _ i wr => ∃ k : Nat, k ≤ cnt ∧ i = .int .i64 k ∧ Hid (OrdsAt M v g cnt ord vals wr) ∧ Hid (KeepB w (.slice sa M.setup.length scap) (.slice ja M.jobs.length jcap) wr)) (fun _ _ _ _ _ _ _ _ _ _ _ _ _ _ _ _ i _ => cnt - (intOf i).toNat)
        case atStart => exact ⟨0, by omega, rfl, hO, hx0⟩
        case round =>
          obtain ⟨k, hkk, rfl, hO2, hxk⟩ := hrel
          by_cases hlt : k < cnt
          · have hki : (k : Int) < (cnt : Int) := by omega
            have hck := hO2.out.c k hlt
            have lgk := cell_lt hck
            have hik := hO2.out.i k hlt
            have hok := hO2.out.o k hlt
            have hbk : k = 1 → rightB M (ints (ord k)) = true ∧ costFrom M Bench.begin (ord k) = v := fun e => by
              subst e
              exact hO2.out.b hlt
            obtain ⟨r, hr⟩ : ∃ r, ord k = r := ⟨_, rfl⟩
            obtain ⟨rv, hrv⟩ : ∃ rv, vals k = rv := ⟨_, rfl⟩
            rw [hr] at hik hok hbk
            rw [hrv] at hck hik
            have hik' := hid hik
            obtain ⟨ra, rcap, rfl, _⟩ := hik
            have hrl : r.length = M.jobs.length := by have := (ordB_all.1 hok).2; simpa using this
            have hrL : (ints r).length = M.jobs.length := by simpa using hrl
            rw [hrL] at hck hik'
            have hrin : ∀ i, i ∈ r → i < M.jobs.length := by
              obtain ⟨r2, e1, _, h3, _⟩ := ord_nat hok
              obtain rfl := ints_inj e1
              exact h3
            obtain ⟨c1, c2, c3, hch, hc3, hc4, hgs⟩ := gs_start hv'.out hok
            have hcc : (k = 1 ∧ c3 = 4) ∨ (¬ k = 1 ∧ c3 = 4) ∨ (¬ k = 1 ∧ c3 = 0) := by
              by_cases h1 : k = 1
              · exact .inl ⟨h1, hc4 (hbk h1).1⟩
              · rcases hc3 with h | h
                · exact .inr (.inl ⟨h1, h⟩)
                · exact .inr (.inr ⟨h1, h⟩)
            have hTi := hid (fun W (h : KeepB w (.slice sa M.setup.length scap) (.slice ja M.jobs.length jcap) W) (hr : IntsAt W (.slice ra M.jobs.length rcap) (ints r)) => Times_any M (.slice sa M.setup.length scap) (.slice ja M.jobs.length jcap) _ (ints r) (by rw [hrL]; omega) W (hS'.out.below h.bel) (hJ'.out.below h.bel) hr)
            have hCh := hid (fun W (h : KeepB w (.slice sa M.setup.length scap) (.slice ja M.jobs.length jcap) W) (hr : IntsAt W (.slice ra M.jobs.length rcap) (ints r)) => Check_any M (.slice sa M.setup.length scap) (.slice ja M.jobs.length jcap) _ (ints r) (by rw [hrL]; omega) W (hS'.out.below h.bel) (hJ'.out.below h.bel) hr)
            have et : timesOf M (ints r) = (spansOf M r, 0) := by
              unfold timesOf
              rw [if_pos hv'.out, if_pos hok, ints_toNat]
            rw [et] at hTi
            rw [hch] at hCh
            have hsl : (spansOf M r).length = M.jobs.length := by rw [spans_length, hrl]
            have hsl' := hid hsl
            have hrl' := hid hrl
            have hrin' := hid hrin
            have hgs' := hid hgs
            have hbk' := hid hbk
            have hok' := hid hok
            clear et hch hsl hrl hrL hrin hgs hbk hok hr hrv hc3 hc4
            go_upto_region 12 with fail
            have hx := hxk.out
            have hri := hik'
            have lm := (cells_of hx.m).1; have cm := (cells_of hx.m).2
            go_upto_region 13 with (go_at_call 14; (refine (hTi.out _ hx hri.out).mono ?_; rintro e w7 ⟨tv7, rfl, hto, hb7⟩; obtain ⟨ta, tcap7, rfl, _⟩ := hto.at; have hx := hx.below hb7; have hri := hid (hri.out.below hb7); have lm := (cells_of hx.m).1; have cm := (cells_of hx.m).2))
            have hta := hid hto.at
            simp only [hsl'.out] at hta ⊢
            clear hto
            go_upto_region 14 with (go_at_call 16; (refine (hCh.out _ hx hri.out).mono ?_; rintro e w8 ⟨rfl, hb8⟩; have hx := hx.below hb8; have hri := hid (hri.out.below hb8); have hta := hid (hta.out.below hb8); have lm := (cells_of hx.m).1; have cm := (cells_of hx.m).2))
            go_cut [106] from 81 to 106 (fun x wx => x = .bool false ∧ w8 = wx)
            case first =>
              rcases hcc with ⟨h1, rfl⟩ | ⟨h1, rfl⟩ | ⟨h1, rfl⟩
              · have h2 : ((k : Int) == 1) = true := by rw [beq_iff_eq]; omega
                clear h1
                go_wp2
                go_meet
                exact ⟨rfl, rfl⟩
              · have h2 : ((k : Int) == 1) = false := by rw [beq_eq_false_iff_ne]; omega
                clear h1
                go_wp2
                go_meet
                exact ⟨rfl, rfl⟩
              · have h2 : ((k : Int) == 1) = false := by rw [beq_eq_false_iff_ne]; omega
                clear h1
                go_wp2
                go_meet
                exact ⟨rfl, rfl⟩
            case rest =>
              obtain ⟨rfl, rfl⟩ := hcut
              have hxi := hid hx
              have hbo8 := hid (below_via hb8 hb7)
              have hxb8 := hid (Below.refl w8.heap.size w8)
              clear lm cm hck lgk hik' hx
              go_wp2
              go_loopw [6, 17, 18, 19, 20, 21, 22, 23, 24, 25, 109] (fun _ gq nw kq sq cq _ _ _ _ ix wr => ∃ (j : Nat) (gv : Int), j ≤ M.jobs.length ∧ ix = .int .i64 j ∧ gq = .int .i64 gv ∧ nw = .int .i64 (benchOf N (r.take j)).late ∧ kq = .int .i64 (benchOf N (r.take j)).kind ∧ sq = .int .i64 (costFrom N Bench.begin (r.take j)) ∧ cq = .int .i64 ((benchOf M (r.take j)).done : Int) ∧ Hid (GS M r c1 c2 gv j) ∧ Hid (Below w8.heap.size w8 wr)) (fun _ _ _ _ _ _ _ _ _ _ ix _ => M.jobs.length - (intOf ix).toNat)
              case atStart => exact ⟨0, c3, by omega, rfl, rfl, rfl, rfl, rfl, rfl, hgs', hxb8⟩
              case round =>
                obtain ⟨j, gv, hjj, rfl, rfl, rfl, rfl, rfl, rfl, hgj, hbr⟩ := hrel
                by_cases hlj : j < M.jobs.length
                · have hji : (j : Int) < (M.jobs.length : Int) := by omega
                  have hjr : j < r.length := by rw [hrl'.out]; exact hlj
                  have hx := hxi.out.below hbr.out
                  have lm := (cells_of hx.m).1; have cm := (cells_of hx.m).2
                  have hri2 := hri.out.below hbr.out
                  have hta2 := hta.out.below hbr.out
                  obtain ⟨rb, ro, rc, e1, lrb, hrc⟩ := hri2.some (fun e => by have := congrArg List.length e; simp only [List.length_map, List.length_nil] at this; omega)
                  injection e1 with e1 e2 e3
                  subst e1
                  clear e2 e3
                  have hrj := hrc j (by simpa using hjr)
                  rw [getD_ints] at hrj
                  obtain ⟨tb, tof, tc, e1, ltb, htc⟩ := spans_some hta2 (fun e => by have := hsl'.out; rw [e] at this; simp at this; omega)
                  injection e1 with e1 e2 e3
                  subst e1
                  clear e2 e3
                  obtain ⟨htl, hth⟩ := htc j (by rw [hsl'.out]; exact hlj)
                  rw [spans_get M r j hjr] at htl hth
                  simp only at htl hth
                  obtain ⟨i, hi⟩ : ∃ i, r.getD j 0 = i := ⟨_, rfl⟩
                  rw [hi] at hrj
                  have him : i < M.jobs.length := hrin'.out i (by
                    rw [← hi, List.getD_eq_getElem?_getD, List.getElem?_eq_getElem hjr]
                    exact List.getElem_mem _)
                  have hii : (i : Int) < (M.jobs.length : Int) := by omega
                  obtain ⟨a', c', e1, hjc⟩ := hJ'.out.below hx.bel
                  injection e1 with e1 e2 e3
                  subst e1
                  clear e2 e3
                  obtain ⟨jb, jo, rfl, hjq⟩ := hjc (fun e => by rw [e] at him; simp at him)
                  have hc0 := hjq i him 0 (by decide)
                  have hc1 := hjq i him 1 (by decide)
                  have hc2 := hjq i him 2 (by decide)
                  have hc3 := hjq i him 3 (by decide)
                  have hc4 := hjq i him 4 (by decide)
                  have hc5 := hjq i him 5 (by decide)
                  have hc6 := hjq i him 6 (by decide)
                  have hc7 := hjq i him 7 (by decide)
                  rw [show M.jobs.getD i Job.none = M.job i from rfl] at hc0 hc1 hc2 hc3 hc4 hc5 hc6 hc7
                  simp only [Job.cells, List.getD_cons_zero, List.getD_cons_succ, Nat.add_zero] at hc0 hc1 hc2 hc3 hc4 hc5 hc6 hc7
                  have ljb := cell_lt hc0
                  have hkd := hM'.out.kind i him
                  have hlo := valid_lo hv'.out him
                  have hnum := valid_nums hv'.out him
                  have hafs := after_small hM'.out him
                  have haf0 := (hM'.out.after i him).1
                  have hset := set_in hM'.out (M.job i).kind
                  have heoi : eOf M ts i = if ts.length = 0 then 0 else ts.getD (i % ts.length) 0 % ((M.job i).hi - (M.job i).lo + 1) := rfl
                  have heb2 := heb'.out i him
                  have hgst := gs_step hjr hgj.out
                  obtain ⟨now, kq, sm, now3, sm3, late, D, D3, q1, q2, q3, q4, q5, q6, q7, q8, q9, e3, es, eD, b1, b2, b3, b4, b5, b6, b7, b8, b9, b10, b11, hbf⟩ := true_step hv'.out heb'.out hok'.out hjr
                  rw [hN'.out] at q1 q2 q3 q5 q6 q7
                  rw [benchOf_sit, q9] at hth
                  rw [q1, q2, q3, q4]
                  rw [hi] at q6 e3 es eD b7 b8 hbf hgst
                  generalize (sitOf M (r.take (j + 1))).2 = soon at htl b10
                  obtain ⟨xb, xo, xc, e1, lxb, hsc⟩ := (hS'.out.below hx.bel).some (fun e => by rw [e] at hkd; simp at hkd; omega)
                  injection e1 with e1 e2 e3'
                  subst e1
                  clear e2 e3'
                  obtain ⟨kn, hkn⟩ : ∃ kn : Nat, (M.job i).kind = (kn : Int) := ⟨(M.job i).kind.toNat, by omega⟩
                  have hsk := hsc kn (by omega)
                  rw [show M.setup.getD kn 0 = M.set (kn : Int) from rfl, ← hkn] at hsk
                  obtain ⟨st, hst⟩ : ∃ st, M.set (M.job i).kind = st := ⟨_, rfl⟩
                  rw [hst] at hsk hset e3
                  obtain ⟨ee, hee⟩ : ∃ ee, eOf M ts i = ee := ⟨_, rfl⟩
                  rw [hee] at e3 heoi heb2
                  obtain ⟨A, hA⟩ : ∃ A : Nat, (M.job i).after = (A : Int) := ⟨(M.job i).after.toNat, by omega⟩
                  rw [hA, Int.toNat_natCast] at hbf hafs
                  rw [hA] at hc7
                  generalize M.job i = jj at hc0 hc1 hc2 hc3 hc4 hc5 hc6 hkd hlo hnum q6 e3 es b7 b8 hbf heoi heb2 hkn
                  obtain ⟨kd, lo, hi', fr, so, byy, co, af⟩ := jj
                  simp only at hc0 hc1 hc2 hc3 hc4 hc5 hc6 hkd hlo hnum q6 e3 es b7 b8 hbf heoi heb2 hkn
                  subst hkn
                  have hkl := hkd.2
                  have q5' := hid q5
                  have q6' := hid q6
                  have q7' := hid q7
                  have q8' := hid q8
                  have hes := hid es
                  have heD := hid eD
                  have hbf' := hid hbf
                  have hgst' := hid hgst
                  have heoi' := hid heoi
                  obtain ⟨now1, hn1⟩ : ∃ x, (if (kn : Int) = kq then now else now + st) = x := ⟨_, rfl⟩
                  rw [hn1] at e3
                  obtain ⟨now2, hn2⟩ : ∃ x, max now1 fr + lo = x := ⟨_, rfl⟩
                  have he3 : now3 = now2 + ee := by omega
                  have hb12 : 0 ≤ now1 ∧ now1 ≤ 13000 := by rw [← hn1]; split <;> omega
                  have hb22 : 0 ≤ now2 ∧ now2 ≤ 14000 := by omega
                  have hn1' := hid hn1
                  have hn2' := hid hn2
                  have he3' := hid he3
                  clear q1 q2 q3 q4 q5 q6 q7 q8 q9 e3 es eD hbf hgst heoi hee hst hA hn1 hn2 he3 hi hrc htc hjc hjq hsc
                  go_upto_region 21 with fail
                  have hq := alloc_at (w := wr) (o := .cells #[.int .i64 (kn : Int), .int .i64 lo, .int .i64 hi', .int .i64 fr, .int .i64 so, .int .i64 byy, .int .i64 co, .int .i64 A] 48) (n := wr.heap.size) rfl
                  have hbq := below_alloc (Below.refl _ wr) (.cells #[.int .i64 (kn : Int), .int .i64 lo, .int .i64 hi', .int .i64 fr, .int .i64 so, .int .i64 byy, .int .i64 co, .int .i64 A] 48)
                  have hxq := hx.below hbq
                  have htl2 := (hbq.cell (p := ⟨tb, tof + j * 2, none⟩) ltb).trans htl
                  have hth2 := (hbq.cell (p := ⟨tb, tof + j * 2 + 1, none⟩) ltb).trans hth
                  have hsk2 := (hbq.cell (p := ⟨xb, xo + kn, none⟩) lxb).trans hsk
                  have ltb2 := Nat.lt_of_lt_of_le ltb hbq.size
                  have lxb2 := Nat.lt_of_lt_of_le lxb hbq.size
                  obtain ⟨qb, hqb⟩ : ∃ qb, wr.heap.size = qb := ⟨_, rfl⟩
                  simp only [hqb] at hq ⊢
                  have hbqw := hid (below_via hbq hbr.out)
                  clear hc0 hc1 hc2 hc3 hc4 hc5 hc6 hc7 lm cm hx htl hth hsk hrj hri2 hta2 ljb hbr
                  generalize wr.alloc (.cells #[.int .i64 (kn : Int), .int .i64 lo, .int .i64 hi', .int .i64 fr, .int .i64 so, .int .i64 byy, .int .i64 co, .int .i64 A] 48) = wq at hq hxq htl2 hth2 hsk2 ltb2 lxb2 hbqw hbq ⊢
                  clear hbq
                  have lm := (cells_of hxq.m).1
                  have cm := (cells_of hxq.m).2
                  have lq := (cells_of hq).1
                  have cq := (cells_of hq).2
                  go_upto_if 122 with (fail)
                  go_cut [18, 19] from 123 to 132 (fun a b wx => a = .int .i64 now1 ∧ b = .int .i64 (kn : Int) ∧ Hid (Below wq.heap.size wq wx))
                  case first =>
                    as_aux_lemma =>
                      by_cases hkk2 : (kn : Int) = kq
                      · have hk1 : ((kn : Int) == kq) = true := by rw [beq_iff_eq]; exact hkk2
                        have hn1e : Hid (now1 = now) := hid (by rw [← hn1'.out, if_pos hkk2])
                        have hkk3 := hid hkk2
                        clear hkk2
                        go_wp2
                        go_meet
                        exact ⟨by rw [hn1e.out], by rw [hkk3.out], hid (Below.refl _ _)⟩
                      · have hk1 : ((kn : Int) == kq) = false := by rw [beq_eq_false_iff_ne]; exact hkk2
                        have hw : IntKind.i64.wrap (now + st) = now + st := IntWalk.i64_in _ (by omega)
                        have hn1e : Hid (now1 = now + st) := hid (by rw [← hn1'.out, if_neg hkk2])
                        have hkn3 : (0 : Int) ≤ (kn : Int) := by omega
                        clear hkk2
                        go_upto_region 22 with fail
                        refine wp_region_later (by kernel_rfl) (by kernel_rfl) ?_
                        intro hxl
                        repeat (go_big_quiet_step (fail))
                        refine wpQuiet_nil ?_
                        rintro w9 ⟨x, hxw⟩
                        have hb9 := x.below
                        rw [← hxw] at hb9
                        clear hxl hxw x
                        go_wp2
                        go_meet
                        exact ⟨by rw [hn1e.out], rfl, hid hb9⟩
                  case rest =>
                    obtain ⟨rfl, rfl, hbz⟩ := hcut
                    have hq := (hbz.out.block _ lq).trans hq
                    have hxq := hxq.below hbz.out
                    have htl2 := (hbz.out.cell (p := ⟨tb, tof + j * 2, none⟩) ltb2).trans htl2
                    have hth2 := (hbz.out.cell (p := ⟨tb, tof + j * 2 + 1, none⟩) ltb2).trans hth2
                    have ltb2 := Nat.lt_of_lt_of_le ltb2 hbz.out.size
                    have hbqw := hid (below_via hbz.out hbqw.out)
                    clear lm cm lq cq hsk2
                    obtain ⟨wz, hwz⟩ : ∃ wz, wz = wc := ⟨_, rfl⟩
                    subst hwz
                    have lq := (cells_of hq).1
                    have cq := (cells_of hq).2
                    go_upto_region 23 with fail
                    go_cut [18] from 133 to 140 (fun a wx => a = .int .i64 now2 ∧ wz = wx)
                    case first =>
                      as_aux_lemma =>
                        go_wp2
                        all_goals
                          go_meet
                          refine ⟨?_, rfl⟩
                          rw [← hn2'.out]
                          first
                            | exact congrArg (Value.int .i64) (show now1 + lo = max now1 fr + lo by omega)
                            | exact congrArg (Value.int .i64) (show fr + lo = max now1 fr + lo by omega)
                    case rest =>
                      obtain ⟨rfl, rfl⟩ := hcut
                      go_upto_if 143 with (fail)
                      go_cut [18] from 144 to 162 (fun a wx => a = .int .i64 now3 ∧ Hid (Below wz.heap.size wz wx))
                      case first =>
                        as_aux_lemma =>
                          by_cases h0 : ts.length = 0
                          · have h00 : ¬ 0 < ts.length := by omega
                            have he0 : Hid (now3 = now2) := hid (by
                              have h1 := heoi'.out
                              rw [if_pos h0] at h1
                              have := he3'.out
                              omega)
                            clear h0
                            go_wp2
                            go_meet
                            exact ⟨by rw [he0.out], hid (Below.refl _ _)⟩
                          · have h00 : 0 < ts.length := by omega
                            obtain ⟨b, o2, rfl, hbc⟩ := bytes_cell (hT'.out.below hxq.bel) (k := i % ts.length) (Nat.mod_lt _ h00)
                            have hyb : 0 ≤ ts.getD (i % ts.length) 0 ∧ ts.getD (i % ts.length) 0 ≤ 255 := by
                              have hm := Nat.mod_lt i h00
                              refine hT'.out.2.1 _ ?_
                              rw [List.getD_eq_getElem?_getD, List.getElem?_eq_getElem hm]
                              exact List.getElem_mem _
                            have lbc := cell_lt hbc
                            have hml := Nat.mod_lt i h00
                            have h1 := heoi'.out
                            rw [if_neg h0] at h1
                            generalize ts.getD (i % ts.length) 0 = y at hbc hyb h1
                            have hmi : ((i % ts.length : Nat) : Int) = (i : Int) % (ts.length : Int) := by omega
                            obtain ⟨m, hm⟩ : ∃ m, i % ts.length = m := ⟨_, rfl⟩
                            rw [hm] at hbc hml hmi
                            have hT1 : (i : Int).tmod (ts.length : Int) = (m : Int) := by rw [Int.tmod_eq_emod_of_nonneg (by omega), hmi]
                            have hT2 : (m : Int) < (ts.length : Int) := by omega
                            have hT3 : IntKind.i64.wrap y = y := IntWalk.i64_in _ (by omega)
                            obtain ⟨d1, hd1⟩ : ∃ d1, hi' - lo = d1 := ⟨_, rfl⟩
                            rw [hd1] at h1
                            have hT4 : IntKind.i64.wrap (hi' - lo) = d1 := by rw [hd1]; exact IntWalk.i64_in _ (by omega)
                            have hT5 : IntKind.i64.wrap (d1 + 1) = d1 + 1 := IntWalk.i64_in _ (by omega)
                            have hT6 : y.tmod (d1 + 1) = ee := by rw [Int.tmod_eq_emod_of_nonneg hyb.1, h1]
                            have hT7 : ¬ d1 + 1 = 0 := by omega
                            have hT8 : IntKind.i64.wrap (now2 + ee) = now2 + ee := IntWalk.i64_in _ (by omega)
                            have hT9 : ¬ (ts.length : Int) = 0 := by omega
                            clear h0 h1 hd1 hmi hm hyb
                            go_upto_region 25 with fail
                            refine wp_region_later (by kernel_rfl) (by kernel_rfl) ?_
                            intro hxl
                            repeat (go_big_quiet_step (fail))
                            refine wpQuiet_nil ?_
                            rintro w9 ⟨x, hxw⟩
                            have hb9 := x.below
                            rw [← hxw] at hb9
                            clear hxl hxw x
                            go_wp2
                            go_meet
                            exact ⟨by rw [he3'.out], hid hb9⟩
                      case rest =>
                        obtain ⟨rfl, hbz2⟩ := hcut
                        have hq := (hbz2.out.block _ lq).trans hq
                        have hxq := hxq.below hbz2.out
                        have htl2 := (hbz2.out.cell (p := ⟨tb, tof + j * 2, none⟩) ltb2).trans htl2
                        have hth2 := (hbz2.out.cell (p := ⟨tb, tof + j * 2 + 1, none⟩) ltb2).trans hth2
                        have ltb2 := Nat.lt_of_lt_of_le ltb2 hbz2.out.size
                        have hbqw := hid (below_via hbz2.out hbqw.out)
                        obtain ⟨wy, hwy⟩ : ∃ wy, wy = wc := ⟨_, rfl⟩
                        subst hwy
                        clear lq cq
                        have lq := (cells_of hq).1
                        have cq := (cells_of hq).2
                        have hD1 : decide (now3 < soon) = false := decide_eq_false (by omega)
                        have hD2 : decide (late < now3) = false := decide_eq_false (by omega)
                        have hbits0 := andNot_i A D (by omega) (by omega)
                        obtain ⟨an, han⟩ : ∃ an : Nat, andN A D = an := ⟨_, rfl⟩
                        rw [han] at hbits0
                        have hbf2 := hbf'.out
                        rw [han] at hbf2
                        have hkey : ∃ gv' : Int, Hid (GS M r c1 c2 gv' (j + 1)) ∧ ((gv = 4 ∧ gv' = 4 ∧ an = 0 ∧ late ≤ byy) ∨ (gv = 0 ∧ gv' = 0 ∧ an = 0 ∧ late ≤ byy) ∨ (gv = 0 ∧ gv' = 11 ∧ an ≠ 0 ∧ c1 = (i : Int) ∧ c2 = 1) ∨ (gv = 0 ∧ gv' = 11 ∧ an = 0 ∧ byy < late ∧ c1 = (i : Int) ∧ c2 = 2) ∨ (gv = 11 ∧ gv' = 11 ∧ an ≠ 0) ∨ (gv = 11 ∧ gv' = 11 ∧ an = 0 ∧ byy < late) ∨ (gv = 11 ∧ gv' = 11 ∧ an = 0 ∧ late ≤ byy)) := by
                          have h11 : GS M r c1 c2 11 (j + 1) := .inr (.inr rfl)
                          rcases hgst'.out with ⟨h1, h2, h3⟩ | ⟨h1, h2, h3⟩ | ⟨h1, h2, h3, h4⟩ | h1
                          · rw [h2] at hbf2
                            refine ⟨4, hid h3, .inl ⟨h1, rfl, ?_⟩⟩
                            split at hbf2
                            · cases hbf2
                            · rename_i h5
                              split at hbf2
                              · cases hbf2
                              · exact ⟨by omega, by omega⟩
                          · rw [h2] at hbf2
                            refine ⟨0, hid h3, .inr (.inl ⟨h1, rfl, ?_⟩)⟩
                            split at hbf2
                            · cases hbf2
                            · rename_i h5
                              split at hbf2
                              · cases hbf2
                              · exact ⟨by omega, by omega⟩
                          · rw [hbf2] at h2 h4
                            refine ⟨11, hid h11, .inr (.inr ?_)⟩
                            split at h4
                            · exact .inl ⟨h1, rfl, by assumption, h3, h4⟩
                            · rename_i h5
                              rw [if_neg h5] at h2
                              split at h4
                              · exact .inr (.inl ⟨h1, rfl, by omega, by assumption, h3, h4⟩)
                              · rename_i h6
                                rw [if_neg h6] at h2
                                exact (h2 rfl).elim
                          · refine ⟨11, hid h11, .inr (.inr (.inr (.inr ?_)))⟩
                            by_cases h5 : an = 0
                            · by_cases h6 : byy < late
                              · exact .inr (.inl ⟨h1, rfl, h5, h6⟩)
                              · exact .inr (.inr ⟨h1, rfl, h5, by omega⟩)
                            · exact .inl ⟨h1, rfl, h5⟩
                        clear hbf2
                        obtain ⟨gv', hgn, hkey⟩ := hkey
                        obtain ⟨anI, hanI⟩ : ∃ anI : Int, (an : Int) = anI := ⟨_, rfl⟩
                        rw [hanI] at hbits0
                        have hOr := hid (show bits .or .i64 (D : Int) (wrap64 ((2 : Int) ^ i)) = (D3 : Int) by
                          have h6 : (2 : Nat) ^ i ≤ 2 ^ 6 := Nat.pow_le_pow_right (by decide) (by omega)
                          have h7 : (2 : Nat) ^ 6 = 64 := by decide
                          have h8 : ((2 : Int) ^ i) = ((2 ^ i : Nat) : Int) := by simp
                          rw [h8, heD.out]
                          generalize (2 : Nat) ^ i = P at h6 ⊢
                          rw [IntWalk.wrap64_in (P : Int) (by omega)]
                          exact (Go.Lap.bits_nat D P (by omega) (by omega)).2.1)
                        have hSm := hid (show wrap64 (sm + wrap64 (co * if so < now3 then now3 - so else 0)) = sm3 by
                          have h6 : (if so < now3 then now3 - so else 0) = max 0 (now3 - so) := by split <;> omega
                          rw [h6, hes.out, IntWalk.wrap64_in (co * max 0 (now3 - so)) (by omega)]
                          exact IntWalk.wrap64_in _ (by omega))
                        have hanI' := hid hanI
                        clear han
                        rcases hkey with ⟨rfl, rfl, h2, h3⟩ | ⟨rfl, rfl, h2, h3⟩ | ⟨rfl, rfl, h2, rfl, rfl⟩ | ⟨rfl, rfl, h2, h3, rfl, rfl⟩ | ⟨rfl, rfl, h2⟩ | ⟨rfl, rfl, h2, h3⟩ | ⟨rfl, rfl, h2, h3⟩
                        all_goals
                          first
                            | have ha1 : (anI == 0) = true := by rw [beq_iff_eq]; omega
                            | have ha1 : (anI == 0) = false := by rw [beq_eq_false_iff_ne]; omega
                          first
                            | have ha4 : (anI != 0) = false := by rw [bne_eq_false_iff_eq]; omega
                            | have ha4 : (anI != 0) = true := by rw [bne_iff_ne]; omega
                          first
                            | have ha2 : decide (byy < late) = false := decide_eq_false (by omega)
                            | have ha2 : decide (byy < late) = true := decide_eq_true (by omega)
                            | skip
                          first
                            | have ha3 : decide (byy < now3) = false := decide_eq_false (by omega)
                            | skip
                          clear h2 hanI
                          (try clear h3)
                          as_aux_lemma =>
                            go_upto_region 28 with fail
                            refine wp_region_later (by kernel_rfl) (by kernel_rfl) ?_
                            intro hxl
                            repeat (go_big_quiet_step (fail))
                            refine wpQuiet_nil ?_
                            rintro w9 ⟨x, hxw⟩
                            have hb9 := x.below
                            rw [← hxw] at hb9
                            clear hxl hxw x
                            have hq := (hb9.block _ lq).trans hq
                            have hxq := hxq.below hb9
                            have hth2 := (hb9.cell (p := ⟨tb, tof + j * 2 + 1, none⟩) ltb2).trans hth2
                            have ltb2 := Nat.lt_of_lt_of_le ltb2 hb9.size
                            have hbqw := hid (below_via hb9 hbqw.out)
                            clear lq cq htl2
                            have lq := (cells_of hq).1
                            have cq := (cells_of hq).2
                            go_wp2
                            all_goals
                              go_roundw
                              case rel => exact ⟨j + 1, _, by omega, by go_num, rfl, by rw [q5'.out], by rw [q6'.out], by rw [q7'.out, hSm.out], by rw [q8'.out, hOr.out], hgn, hbqw⟩
                              case measure => simp [intOf]; omega
                · obtain rfl : j = M.jobs.length := by omega
                  have hg0 : gv ≠ 0 := by
                    have := hgj.out
                    rw [← hrl'.out] at this
                    exact gs_end this
                  have hg1 : (gv == 0) = false := by rw [beq_eq_false_iff_ne]; exact hg0
                  have htk : r.take M.jobs.length = r := by rw [← hrl'.out]; simp
                  rw [htk]
                  have hce : costFrom N Bench.begin r ≤ costFrom M Bench.begin r := by
                    rw [← hN'.out]
                    exact (truly_easier hM'.out heb'.out).costs r _ _ (Bench.Le.refl _) hrin'.out
                  have hkc : (((k : Int) == 1) = true ∧ decide (v < costFrom N Bench.begin r) = false) ∨ (((k : Int) == 1) = false) := by
                    by_cases h1 : k = 1
                    · exact .inl ⟨by rw [beq_iff_eq]; omega, decide_eq_false (by have := (hbk'.out h1).2; omega)⟩
                    · exact .inr (by rw [beq_eq_false_iff_ne]; omega)
                  have hbo := hid (below_via hbr.out hbo8.out)
                  clear hg0 htk hce
                  rcases hkc with ⟨h1, h2⟩ | h1
                  all_goals
                    go_wp2
                    go_roundw
                    case rel => exact ⟨k + 1, by omega, by go_num, hid (hO2.out.below hbo.out), hid (hxk.out.below hbo.out)⟩
                    case measure => simp [intOf]; omega
          · obtain rfl : k = cnt := by omega
            have hx := hxk.out
            go_wp2_with (go_at_call 13; with_reducible refine (awake_any _).mono ?_; rintro e w9 ⟨rfl, hb9⟩)
            go_ret
            exact ⟨rfl, below_via hb9 hx.bel⟩

end Go.Proofs.Ytcgkglonnmkfcaa
