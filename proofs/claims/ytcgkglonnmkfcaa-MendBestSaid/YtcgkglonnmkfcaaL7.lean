/- The walk of the law MendBest. -/
import Derived.Test.YtcgkglonnmkfcaaPB
import Derived.Test.YtcgkglonnmkfcaaR7
import Derived.Test.YtcgkglonnmkfcaaR8
namespace Go.Proofs.Ytcgkglonnmkfcaa
open Go.RowKit Go.Lap Go.Shelf

theorem getD_ints (p : List Nat) (k : Nat) : (ints p).getD k 0 = ((p.getD k 0 : Nat) : Int) := by
  rw [List.getD_eq_getElem?_getD, List.getD_eq_getElem?_getD, List.getElem?_map]
  cases p[k]? <;> rfl
/-- Besides the mend in its box, two orders. -/
structure KeepL (w : World) (sv jv v1 : Value) (l1 : List Int) (v2 : Value) (l2 : List Int) (W : World) : Prop where
  k : KeepB w sv jv W
  a : IntsAt W v1 l1
  b : IntsAt W v2 l2
theorem KeepL.below {w : World} {sv jv v1 v2 : Value} {l1 l2 : List Int} {W W' : World} (h : KeepL w sv jv v1 l1 v2 l2 W) (hb : Below W.heap.size W W') : KeepL w sv jv v1 l1 v2 l2 W' := ⟨h.k.below hb, h.a.below hb, h.b.below hb⟩

set_option maxRecDepth 100000 in
set_option maxHeartbeats 8000000 in
theorem mendBest_any (M : Mend) (sv jv bv : Value) (bs : List Int) (w : World) (hS : IntsAt w sv M.setup) (hJ : JobsAt w jv M.jobs) (hB : BytesAt w bv bs) :
    Calls Try.prog 7 #[.agg #[sv, jv], bv] w fun e w' => e = .returned (.bool true) ∧ Below w.heap.size w w' := by
  have hS' := hid hS
  have hJ' := hid hJ
  have hB' := hid hB
  clear hB
  obtain ⟨sa, scap, rfl, _⟩ := hS
  obtain ⟨ja, jcap, rfl, _⟩ := hJ
  have hk1 := KeepB.start w (.slice sa M.setup.length scap) (.slice ja M.jobs.length jcap)
  have HB := hid (fun W (h : KeepB w (.slice sa M.setup.length scap) (.slice ja M.jobs.length jcap) W) => Best_any M (.slice sa M.setup.length scap) (.slice ja M.jobs.length jcap) W (hS'.out.below h.bel) (hJ'.out.below h.bel))
  have HU := hid (fun W (h : KeepB w (.slice sa M.setup.length scap) (.slice ja M.jobs.length jcap) W) => Until_any M (.slice sa M.setup.length scap) (.slice ja M.jobs.length jcap) W (hS'.out.below h.bel) (hJ'.out.below h.bel))
  have HC := hid (fun W (h : KeepB w (.slice sa M.setup.length scap) (.slice ja M.jobs.length jcap) W) => Count_any M (.slice sa M.setup.length scap) (.slice ja M.jobs.length jcap) W (hS'.out.below h.bel) (hJ'.out.below h.bel))
  have HA := hid (fun W (h : KeepB w (.slice sa M.setup.length scap) (.slice ja M.jobs.length jcap) W) => far_any M [] (.slice sa M.setup.length scap) (.slice ja M.jobs.length jcap) (.slice none 0 0) W (hS'.out.below h.bel) (hJ'.out.below h.bel) (IntsAt.none W))
  have HF := hid (fun W (h : KeepB w (.slice sa M.setup.length scap) (.slice ja M.jobs.length jcap) W) => fine_any M (.slice sa M.setup.length scap) (.slice ja M.jobs.length jcap) W (hS'.out.below h.bel) (hJ'.out.below h.bel))
  go_enter Try.func7, Try.ntmps7
  go_upto_region 1 with fail
  have hx := hk1
  generalize w.alloc (.cells #[.slice sa M.setup.length scap, .slice ja M.jobs.length jcap] 25) = w1 at hx ⊢
  clear hk1
  have lm := (cells_of hx.m).1; have cm := (cells_of hx.m).2
  cases hv : M.valid
  · rw [hv] at HF
    have ha : (farB M [] = true) ∨ (farB M [] = false) := by cases farB M [] <;> simp
    have hbe : bestOf M = (0, [], 1) := by unfold bestOf; rw [hv]; rfl
    have hun : untilOf M = (0, 1) := by unfold untilOf; rw [hv]; rfl
    have hco : countOf M = (0, 1) := by unfold countOf; rw [hv]; rfl
    rw [hbe] at HB
    rw [hun] at HU
    rw [hco] at HC
    clear hbe hun hco hv
    rcases ha with ha | ha
    all_goals
      rw [ha] at HA
      clear ha
      go_upto_region 2 with (go_at_call 26; with_reducible refine (HB.out _ hx).mono ?_; rintro e w8 ⟨pv, rfl, hL0, hb8⟩; have hx := hx.below hb8; have hL := hid hL0.at; clear hL0; have lm := (cells_of hx.m).1; have cm := (cells_of hx.m).2)
      obtain ⟨pa, pcap, rfl, _⟩ := hL.out
      go_wp2_with (first
        | (go_at_call 28; with_reducible refine (HU.out _ hx).mono ?_; rintro e w8 ⟨rfl, hb8⟩; have hx := hx.below hb8; (try (have hL := hid (hL.out.below hb8))); have lm := (cells_of hx.m).1; have cm := (cells_of hx.m).2)
        | (go_at_call 20; with_reducible refine (HC.out _ hx).mono ?_; rintro e w8 ⟨rfl, hb8⟩; have hx := hx.below hb8; (try (have hL := hid (hL.out.below hb8))); have lm := (cells_of hx.m).1; have cm := (cells_of hx.m).2)
        | (go_at_call 12; with_reducible refine (HA.out _ hx).mono ?_; rintro e w8 ⟨rfl, hb8⟩; have hx := hx.below hb8; (try (have hL := hid (hL.out.below hb8))); have lm := (cells_of hx.m).1; have cm := (cells_of hx.m).2)
        | (go_at_call 33; with_reducible refine (HF.out _ hx).mono ?_; rintro e w8 ⟨rfl, hb8⟩; have hx := hx.below hb8; (try (have hL := hid (hL.out.below hb8))); have lm := (cells_of hx.m).1; have cm := (cells_of hx.m).2)
        | (go_at_call 13; with_reducible refine (awake_any _).mono ?_; rintro e w9 ⟨rfl, hb9⟩; have hx := hx.below hb9))
      go_ret
      exact ⟨rfl, hx.bel⟩
  · rw [hv] at HF
    rw [far_valid hv] at HA
    have hv' := hid hv
    have hlen6 := (Mend.valid_ok hv).len
    have HM := hid (fun W (h : KeepB w (.slice sa M.setup.length scap) (.slice ja M.jobs.length jcap) W) => made_any M hv'.out (.slice sa M.setup.length scap) (.slice ja M.jobs.length jcap) bv bs W (hS'.out.below h.bel) (hJ'.out.below h.bel) (hB'.out.below h.bel))
    rcases best_law hv with ⟨hbe, hun, hco, hno⟩ | ⟨v, u, p, many, hbe, hun, hco, hmany, hop, hrp, hcp, hul, hup, hq⟩
    · rw [hbe] at HB
      rw [hun] at HU
      rw [hco] at HC
      have hno' := hid hno
      clear hbe hun hco hv hno
      go_upto_region 2 with (go_at_call 26; with_reducible refine (HB.out _ hx).mono ?_; rintro e w8 ⟨pv, rfl, hL0, hb8⟩; have hx := hx.below hb8; have hL := hid hL0.at; clear hL0; have lm := (cells_of hx.m).1; have cm := (cells_of hx.m).2)
      obtain ⟨pa, pcap, rfl, _⟩ := hL.out
      go_upto_region 9 with (first
        | (go_at_call 28; with_reducible refine (HU.out _ hx).mono ?_; rintro e w8 ⟨rfl, hb8⟩; have hx := hx.below hb8; (try (have hL := hid (hL.out.below hb8))); have lm := (cells_of hx.m).1; have cm := (cells_of hx.m).2)
        | (go_at_call 20; with_reducible refine (HC.out _ hx).mono ?_; rintro e w8 ⟨rfl, hb8⟩; have hx := hx.below hb8; (try (have hL := hid (hL.out.below hb8))); have lm := (cells_of hx.m).1; have cm := (cells_of hx.m).2)
        | (go_at_call 12; with_reducible refine (HA.out _ hx).mono ?_; rintro e w8 ⟨rfl, hb8⟩; have hx := hx.below hb8; (try (have hL := hid (hL.out.below hb8))); have lm := (cells_of hx.m).1; have cm := (cells_of hx.m).2)
        | (go_at_call 33; with_reducible refine (HF.out _ hx).mono ?_; rintro e w8 ⟨rfl, hb8⟩; have hx := hx.below hb8; (try (have hL := hid (hL.out.below hb8))); have lm := (cells_of hx.m).1; have cm := (cells_of hx.m).2)
        | (go_at_call 34; refine (HM.out _ hx).mono ?_; rintro e w8 ⟨v8, l, rfl, hl, hown, hb8⟩; obtain ⟨la, lcap, rfl, _⟩ := hown.at; have hx := hx.below hb8; have hli := hid (ints_at.2 hown.at); clear hown; have lm := (cells_of hx.m).1; have cm := (cells_of hx.m).2))
      obtain ⟨q, rfl, _, _, hql, _⟩ := ord_nat hl
      have hlq : (ints q).length = M.jobs.length := by simpa using hql
      have HR := hid (fun W (h : KeepB w (.slice sa M.setup.length scap) (.slice ja M.jobs.length jcap) W) (hl2 : IntsAt W (.slice la (ints q).length lcap) (ints q)) => lawRight_any M (.slice sa M.setup.length scap) (.slice ja M.jobs.length jcap) _ (ints q) (by rw [hlq]; omega) W (hS'.out.below h.bel) (hJ'.out.below h.bel) hl2)
      rw [hno'.out q hl] at HR
      rw [hlq] at hli HR ⊢
      have hli' := hid hli.out
      clear hli hql hlq hl
      go_wp2_with (first
        | (go_at_call 37; with_reducible refine (HR.out _ hx hli'.out).mono ?_; rintro e w8 ⟨rfl, hb8⟩; have hx := hx.below hb8; have lm := (cells_of hx.m).1; have cm := (cells_of hx.m).2)
        | (go_at_call 13; with_reducible refine (awake_any _).mono ?_; rintro e w9 ⟨rfl, hb9⟩; have hx := hx.below hb9))
      go_ret
      exact ⟨rfl, hx.bel⟩
    · rw [hbe] at HB
      rw [hun] at HU
      rw [hco] at HC
      have hq' := hid hq
      have hop' := hid hop
      have hpl : (ints p).length = M.jobs.length := (ordB_all.1 hop).2
      have hpl' := hid hpl
      have hrp' := hid hrp
      have hcp' := hid hcp
      clear hbe hun hco hv hq hop hrp hcp
      go_upto_region 2 with (go_at_call 26; with_reducible refine (HB.out _ hx).mono ?_; rintro e w8 ⟨pv, rfl, hL0, hb8⟩; have hx := hx.below hb8; have hL := hid hL0.at; clear hL0; have lm := (cells_of hx.m).1; have cm := (cells_of hx.m).2)
      obtain ⟨pa, pcap, rfl, _⟩ := hL.out
      simp only [hpl] at hL ⊢
      clear hpl
      go_upto_region 9 with (first
        | (go_at_call 28; with_reducible refine (HU.out _ hx).mono ?_; rintro e w8 ⟨rfl, hb8⟩; have hx := hx.below hb8; (try (have hL := hid (hL.out.below hb8))); have lm := (cells_of hx.m).1; have cm := (cells_of hx.m).2)
        | (go_at_call 20; with_reducible refine (HC.out _ hx).mono ?_; rintro e w8 ⟨rfl, hb8⟩; have hx := hx.below hb8; (try (have hL := hid (hL.out.below hb8))); have lm := (cells_of hx.m).1; have cm := (cells_of hx.m).2)
        | (go_at_call 12; with_reducible refine (HA.out _ hx).mono ?_; rintro e w8 ⟨rfl, hb8⟩; have hx := hx.below hb8; (try (have hL := hid (hL.out.below hb8))); have lm := (cells_of hx.m).1; have cm := (cells_of hx.m).2)
        | (go_at_call 33; with_reducible refine (HF.out _ hx).mono ?_; rintro e w8 ⟨rfl, hb8⟩; have hx := hx.below hb8; (try (have hL := hid (hL.out.below hb8))); have lm := (cells_of hx.m).1; have cm := (cells_of hx.m).2)
        | (go_at_call 34; refine (HM.out _ hx).mono ?_; rintro e w8 ⟨v8, l, rfl, hl, hown, hb8⟩; obtain ⟨la, lcap, rfl, _⟩ := hown.at; have hx := hx.below hb8; (try (have hL := hid (hL.out.below hb8))); have hli := hid (ints_at.2 hown.at); clear hown; have lm := (cells_of hx.m).1; have cm := (cells_of hx.m).2))
      obtain ⟨q, rfl, _, _, hql, _⟩ := ord_nat hl
      have hlq : (ints q).length = M.jobs.length := by simpa using hql
      rw [hlq] at hli ⊢
      have hl' := hid hl
      have hlq' := hid hlq
      have hk : KeepL w (.slice sa M.setup.length scap) (.slice ja M.jobs.length jcap) (.slice la M.jobs.length lcap) (ints q) (.slice pa M.jobs.length pcap) (ints p) _ := ⟨hx, hli.out, hL.out⟩
      clear hx hli hL hql hlq hl
      have hx := hk
      clear hk
      have HRq := hid (fun W (h : KeepL w (.slice sa M.setup.length scap) (.slice ja M.jobs.length jcap) (.slice la M.jobs.length lcap) (ints q) (.slice pa M.jobs.length pcap) (ints p) W) => lawRight_any M (.slice sa M.setup.length scap) (.slice ja M.jobs.length jcap) (.slice la M.jobs.length lcap) (ints q) (by rw [hlq'.out]; omega) W (hS'.out.below h.k.bel) (hJ'.out.below h.k.bel) h.a)
      have HRp := hid (fun W (h : KeepL w (.slice sa M.setup.length scap) (.slice ja M.jobs.length jcap) (.slice la M.jobs.length lcap) (ints q) (.slice pa M.jobs.length pcap) (ints p) W) => lawRight_any M (.slice sa M.setup.length scap) (.slice ja M.jobs.length jcap) (.slice pa M.jobs.length pcap) (ints p) (by rw [hpl'.out]; omega) W (hS'.out.below h.k.bel) (hJ'.out.below h.k.bel) h.b)
      have HOp := hid (fun W (h : KeepL w (.slice sa M.setup.length scap) (.slice ja M.jobs.length jcap) (.slice la M.jobs.length lcap) (ints q) (.slice pa M.jobs.length pcap) (ints p) W) => refOrder_any M (by omega) (.slice sa M.setup.length scap) (.slice ja M.jobs.length jcap) (.slice pa M.jobs.length pcap) (ints p) (by rw [hpl'.out]; omega) W (hS'.out.below h.k.bel) (hJ'.out.below h.k.bel) h.b)
      have HCp := hid (fun W (h : KeepL w (.slice sa M.setup.length scap) (.slice ja M.jobs.length jcap) (.slice la M.jobs.length lcap) (ints q) (.slice pa M.jobs.length pcap) (ints p) W) => lawCoins_any M hv'.out (.slice sa M.setup.length scap) (.slice ja M.jobs.length jcap) (.slice pa M.jobs.length pcap) p hop'.out W (hS'.out.below h.k.bel) (hJ'.out.below h.k.bel) h.b)
      have HCq := hid (fun W (h : KeepL w (.slice sa M.setup.length scap) (.slice ja M.jobs.length jcap) (.slice la M.jobs.length lcap) (ints q) (.slice pa M.jobs.length pcap) (ints p) W) => lawCoins_any M hv'.out (.slice sa M.setup.length scap) (.slice ja M.jobs.length jcap) (.slice la M.jobs.length lcap) q hl'.out W (hS'.out.below h.k.bel) (hJ'.out.below h.k.bel) h.a)
      have HLp := hid (fun W (h : KeepL w (.slice sa M.setup.length scap) (.slice ja M.jobs.length jcap) (.slice la M.jobs.length lcap) (ints q) (.slice pa M.jobs.length pcap) (ints p) W) => last_any M hv'.out (.slice sa M.setup.length scap) (.slice ja M.jobs.length jcap) (.slice pa M.jobs.length pcap) p hop'.out w.heap.size W h.k.m (hS'.out.below h.k.bel) (hJ'.out.below h.k.bel) h.b)
      have HLq := hid (fun W (h : KeepL w (.slice sa M.setup.length scap) (.slice ja M.jobs.length jcap) (.slice la M.jobs.length lcap) (ints q) (.slice pa M.jobs.length pcap) (ints p) W) => last_any M hv'.out (.slice sa M.setup.length scap) (.slice ja M.jobs.length jcap) (.slice la M.jobs.length lcap) q hl'.out w.heap.size W h.k.m (hS'.out.below h.k.bel) (hJ'.out.below h.k.bel) h.a)
      rw [hrp'.out] at HRp
      rw [hop'.out] at HOp
      rw [hcp'.out] at HCp
      have hst := sumTo_small hv'.out M.jobs.length (Nat.le_refl _)
      have hft := firstTo_small hv'.out M.jobs.length
      have hr1 : many > 0 := hmany
      have hm0 : (many == 0) = false := by rw [beq_eq_false_iff_ne]; omega
      have hm1 : decide (many < 0) = false := decide_eq_false (by omega)
      have hrq : rightB M (ints q) = true ∨ rightB M (ints q) = false := by cases rightB M (ints q) <;> simp
      go_cut [103] from 77 to 103 (fun x wx => x = .bool false ∧ Hid (KeepL w (.slice sa M.setup.length scap) (.slice ja M.jobs.length jcap) (.slice la M.jobs.length lcap) (ints q) (.slice pa M.jobs.length pcap) (ints p) wx))
      case first =>
        rcases hrq with hrq | hrq
        all_goals
          rw [hrq] at HRq
          clear hrq
          go_wp2_with (go_at_call 37; with_reducible refine (HRq.out _ hx).mono ?_; rintro e w8 ⟨rfl, hb8⟩; have hx := hx.below hb8; (try (have hL := hid (hL.out.below hb8))); have lm := (cells_of hx.k.m).1; have cm := (cells_of hx.k.m).2)
          go_meet
          exact ⟨rfl, hid hx⟩
      case rest =>
        obtain ⟨rfl, hx2⟩ := hcut
        clear lm cm hx
        have hx := hx2.out
        clear hx2
        have lm := (cells_of hx.k.m).1; have cm := (cells_of hx.k.m).2
        go_wp2
        have hxb := hid hx
        clear lm cm hx hm0 hm1
        go_loopw [13, 14, 15, 16, 127] (fun s f _ _ i wr => ∃ k : Nat, k ≤ M.jobs.length ∧ i = .int .i64 k ∧ s = .int .i64 (sumTo M k) ∧ f = .int .i64 (firstTo M k) ∧ Below wc.heap.size wc wr) (fun _ _ _ _ i _ => M.jobs.length - (intOf i).toNat)
        case atStart => exact ⟨0, by omega, rfl, rfl, rfl, Below.refl _ _⟩
        case round =>
          obtain ⟨k, hkk, rfl, rfl, rfl, hbr⟩ := hrel
          have hx := hxb.out.below hbr
          have hbr' := hid hbr
          have lr := (cells_of hx.k.m).1
          have cr := (cells_of hx.k.m).2
          by_cases hlt : k < M.jobs.length
          · have hki : (k : Int) < (M.jobs.length : Int) := by omega
            obtain ⟨a', c', e1, hjc⟩ := hJ'.out.below hx.k.bel
            injection e1 with e1 e2 e3
            subst e1
            clear e2 e3
            obtain ⟨jb, jo, rfl, hjq⟩ := hjc (fun e => by rw [e] at hlt; simp at hlt)
            have hc0 := hjq k hlt 0 (by decide)
            have hc1 := hjq k hlt 1 (by decide)
            have hc2 := hjq k hlt 2 (by decide)
            have hc3 := hjq k hlt 3 (by decide)
            have hc4 := hjq k hlt 4 (by decide)
            have hc5 := hjq k hlt 5 (by decide)
            have hc6 := hjq k hlt 6 (by decide)
            have hc7 := hjq k hlt 7 (by decide)
            rw [show M.jobs.getD k Job.none = M.job k from rfl] at hc0 hc1 hc2 hc3 hc4 hc5 hc6 hc7
            simp only [Job.cells, List.getD_cons_zero, List.getD_cons_succ, Nat.add_zero] at hc0 hc1 hc2 hc3 hc4 hc5 hc6 hc7
            have hkd := (Mend.valid_ok hv'.out).kind k hlt
            have hsm := sumTo_small hv'.out k (by omega)
            have hlo := valid_lo hv'.out hlt
            have hs1 : sumTo M (k + 1) = sumTo M k + (M.job k).hi := rfl
            have hf1 : firstTo M (k + 1) = if k = 0 ∨ M.set (M.job k).kind < firstTo M k then M.set (M.job k).kind else firstTo M k := rfl
            obtain ⟨b2, c2, e1, hsc⟩ := hS'.out.below hx.k.bel
            injection e1 with e1 e2 e3
            subst e1
            clear e2 e3
            obtain ⟨xb, xo, rfl, hsq⟩ := hsc (fun e => by rw [e] at hkd; simp at hkd; omega)
            obtain ⟨kd, hkd2⟩ : ∃ kd : Nat, (M.job k).kind = (kd : Int) := ⟨(M.job k).kind.toNat, by omega⟩
            have hset := hsq kd (by omega)
            rw [show M.setup.getD kd 0 = M.set (kd : Int) from rfl, ← hkd2] at hset
            rw [hkd2] at hc0 hkd hset hf1
            have hkd3 : (0 : Int) ≤ (kd : Int) := by omega
            have hkd4 := hkd.2
            have hfs := firstTo_small hv'.out k
            have lxb := cell_lt hset
            have ljb := cell_lt hc0
            generalize M.set (kd : Int) = st at hset hf1
            generalize (M.job k).hi = hi at hc2 hlo hs1
            generalize (M.job k).lo = lo at hc1 hlo
            generalize sumTo M k = sm at hsm hs1 ⊢
            generalize firstTo M k = ft at hf1 hfs ⊢
            have hw1 : IntKind.i64.wrap (sm + hi) = sm + hi := IntWalk.i64_in _ (by omega)
            have hs1' := hid hs1
            have hf1' := hid hf1
            clear hjc hjq hsc hsq hkd hkd2 hs1 hf1 hbr hsm hlo
            have hk0 : k = 0 ∨ ¬ k = 0 := by omega
            have hst2 : st < ft ∨ ¬ st < ft := by omega
            rcases hk0 with hk0 | hk0
            · subst hk0
              simp only [Nat.zero_mul, Nat.add_zero] at hc0 hc1 hc2 hc3 hc4 hc5 hc6 hc7
              go_wp2
              go_roundw
              case rel => exact ⟨0 + 1, by omega, by go_num, by rw [hs1'.out], by rw [hf1'.out]; simp, by repeat (first | exact hbr'.out | apply below_alloc)⟩
              case measure => simp [intOf]; omega
            · have hk1 : ((k : Int) == 0) = false := by rw [beq_eq_false_iff_ne]; omega
              rcases hst2 with hst2 | hst2
              · have hd : decide (st < ft) = true := decide_eq_true hst2
                have hf2 := hid (hf1'.out.trans (if_pos (Or.inr hst2)))
                go_wp2
                go_roundw
                case rel => exact ⟨k + 1, by omega, by go_num, by rw [hs1'.out], by rw [hf2.out], by repeat (first | exact hbr'.out | apply below_alloc)⟩
                case measure => simp [intOf]; omega
              · have hd : decide (st < ft) = false := decide_eq_false hst2
                have hf2 := hid (hf1'.out.trans (if_neg (by omega)))
                go_wp2
                go_roundw
                case rel => exact ⟨k + 1, by omega, by go_num, by rw [hs1'.out], by rw [hf2.out], by repeat (first | exact hbr'.out | apply below_alloc)⟩
                case measure => simp [intOf]; omega
          · obtain rfl : k = M.jobs.length := by omega
            have hd1 : decide (u < sumTo M M.jobs.length + firstTo M M.jobs.length) = false := decide_eq_false (by omega)
            have hd2 : decide ((benchOf M p).late < u) = false := decide_eq_false (by omega)
            clear hbr hbr' hxb lr cr hlt hkk
            have lm := (cells_of hx.k.m).1; have cm := (cells_of hx.k.m).2
            go_upto_region 26 with (first | (go_at_call 38; with_reducible refine (HOp.out _ hx).mono ?_; rintro e w8 ⟨rfl, hb8⟩; have hx := hx.below hb8; (try (have hL := hid (hL.out.below hb8))); have lm := (cells_of hx.k.m).1; have cm := (cells_of hx.k.m).2) | (go_at_call 37; with_reducible refine (HRp.out _ hx).mono ?_; rintro e w8 ⟨rfl, hb8⟩; have hx := hx.below hb8; (try (have hL := hid (hL.out.below hb8))); have lm := (cells_of hx.k.m).1; have cm := (cells_of hx.k.m).2) | (go_at_call 37; with_reducible refine (HRq.out _ hx).mono ?_; rintro e w8 ⟨rfl, hb8⟩; have hx := hx.below hb8; (try (have hL := hid (hL.out.below hb8))); have lm := (cells_of hx.k.m).1; have cm := (cells_of hx.k.m).2) | (go_at_call 39; with_reducible refine (HCp.out _ hx).mono ?_; rintro e w8 ⟨rfl, hb8⟩; have hx := hx.below hb8; (try (have hL := hid (hL.out.below hb8))); have lm := (cells_of hx.k.m).1; have cm := (cells_of hx.k.m).2) | (go_at_call 39; with_reducible refine (HCq.out _ hx).mono ?_; rintro e w8 ⟨rfl, hb8⟩; have hx := hx.below hb8; (try (have hL := hid (hL.out.below hb8))); have lm := (cells_of hx.k.m).1; have cm := (cells_of hx.k.m).2) | (go_at_call 40; with_reducible refine (HLp.out _ hx).mono ?_; rintro e w8 ⟨rfl, hb8⟩; have hx := hx.below hb8; (try (have hL := hid (hL.out.below hb8))); have lm := (cells_of hx.k.m).1; have cm := (cells_of hx.k.m).2) | (go_at_call 40; with_reducible refine (HLq.out _ hx).mono ?_; rintro e w8 ⟨rfl, hb8⟩; have hx := hx.below hb8; (try (have hL := hid (hL.out.below hb8))); have lm := (cells_of hx.k.m).1; have cm := (cells_of hx.k.m).2))
            rcases hrq with hrq | hrq
            case inr =>
              rw [hrq] at HRq
              clear hrq
              go_wp2_with (first
                | (go_at_call 38; with_reducible refine (HOp.out _ hx).mono ?_; rintro e w8 ⟨rfl, hb8⟩; have hx := hx.below hb8; (try (have hL := hid (hL.out.below hb8))); have lm := (cells_of hx.k.m).1; have cm := (cells_of hx.k.m).2) | (go_at_call 37; with_reducible refine (HRp.out _ hx).mono ?_; rintro e w8 ⟨rfl, hb8⟩; have hx := hx.below hb8; (try (have hL := hid (hL.out.below hb8))); have lm := (cells_of hx.k.m).1; have cm := (cells_of hx.k.m).2) | (go_at_call 37; with_reducible refine (HRq.out _ hx).mono ?_; rintro e w8 ⟨rfl, hb8⟩; have hx := hx.below hb8; (try (have hL := hid (hL.out.below hb8))); have lm := (cells_of hx.k.m).1; have cm := (cells_of hx.k.m).2) | (go_at_call 39; with_reducible refine (HCp.out _ hx).mono ?_; rintro e w8 ⟨rfl, hb8⟩; have hx := hx.below hb8; (try (have hL := hid (hL.out.below hb8))); have lm := (cells_of hx.k.m).1; have cm := (cells_of hx.k.m).2) | (go_at_call 39; with_reducible refine (HCq.out _ hx).mono ?_; rintro e w8 ⟨rfl, hb8⟩; have hx := hx.below hb8; (try (have hL := hid (hL.out.below hb8))); have lm := (cells_of hx.k.m).1; have cm := (cells_of hx.k.m).2) | (go_at_call 40; with_reducible refine (HLp.out _ hx).mono ?_; rintro e w8 ⟨rfl, hb8⟩; have hx := hx.below hb8; (try (have hL := hid (hL.out.below hb8))); have lm := (cells_of hx.k.m).1; have cm := (cells_of hx.k.m).2) | (go_at_call 40; with_reducible refine (HLq.out _ hx).mono ?_; rintro e w8 ⟨rfl, hb8⟩; have hx := hx.below hb8; (try (have hL := hid (hL.out.below hb8))); have lm := (cells_of hx.k.m).1; have cm := (cells_of hx.k.m).2)
                | (go_at_call 13; with_reducible refine (awake_any _).mono ?_; rintro e w9 ⟨rfl, hb9⟩; have hx := hx.below hb9))
              go_ret
              exact ⟨rfl, hx.k.bel⟩
            case inl =>
              obtain ⟨hq1, hq2, hq3⟩ := hq'.out q hl'.out hrq
              rw [hrq] at HRq
              have hd3 : decide (costFrom M Bench.begin q < v) = false := decide_eq_false (by omega)
              have hd4 : decide ((benchOf M q).late < u) = false := decide_eq_false (by omega)
              have hq3' := hid hq3
              clear hrq hq3
              have hce : (costFrom M Bench.begin q == v) = true ∨ (costFrom M Bench.begin q == v) = false := by cases costFrom M Bench.begin q == v <;> simp
              go_upto_region 32 with (first | (go_at_call 38; with_reducible refine (HOp.out _ hx).mono ?_; rintro e w8 ⟨rfl, hb8⟩; have hx := hx.below hb8; (try (have hL := hid (hL.out.below hb8))); have lm := (cells_of hx.k.m).1; have cm := (cells_of hx.k.m).2) | (go_at_call 37; with_reducible refine (HRp.out _ hx).mono ?_; rintro e w8 ⟨rfl, hb8⟩; have hx := hx.below hb8; (try (have hL := hid (hL.out.below hb8))); have lm := (cells_of hx.k.m).1; have cm := (cells_of hx.k.m).2) | (go_at_call 37; with_reducible refine (HRq.out _ hx).mono ?_; rintro e w8 ⟨rfl, hb8⟩; have hx := hx.below hb8; (try (have hL := hid (hL.out.below hb8))); have lm := (cells_of hx.k.m).1; have cm := (cells_of hx.k.m).2) | (go_at_call 39; with_reducible refine (HCp.out _ hx).mono ?_; rintro e w8 ⟨rfl, hb8⟩; have hx := hx.below hb8; (try (have hL := hid (hL.out.below hb8))); have lm := (cells_of hx.k.m).1; have cm := (cells_of hx.k.m).2) | (go_at_call 39; with_reducible refine (HCq.out _ hx).mono ?_; rintro e w8 ⟨rfl, hb8⟩; have hx := hx.below hb8; (try (have hL := hid (hL.out.below hb8))); have lm := (cells_of hx.k.m).1; have cm := (cells_of hx.k.m).2) | (go_at_call 40; with_reducible refine (HLp.out _ hx).mono ?_; rintro e w8 ⟨rfl, hb8⟩; have hx := hx.below hb8; (try (have hL := hid (hL.out.below hb8))); have lm := (cells_of hx.k.m).1; have cm := (cells_of hx.k.m).2) | (go_at_call 40; with_reducible refine (HLq.out _ hx).mono ?_; rintro e w8 ⟨rfl, hb8⟩; have hx := hx.below hb8; (try (have hL := hid (hL.out.below hb8))); have lm := (cells_of hx.k.m).1; have cm := (cells_of hx.k.m).2))
              have hxb := hid hx
              clear hx
              go_loopw [4, 19, 206] (fun _ _ i wr => ∃ k : Nat, k ≤ M.jobs.length ∧ i = .int .i64 k ∧ Hid (costFrom M Bench.begin q = v → ∀ j, j < k → p.getD j 0 = q.getD j 0) ∧ KeepL w (.slice sa M.setup.length scap) (.slice ja M.jobs.length jcap) (.slice la M.jobs.length lcap) (ints q) (.slice pa M.jobs.length pcap) (ints p) wr) (fun _ _ i _ => M.jobs.length - (intOf i).toNat)
              case atStart => exact ⟨0, by omega, rfl, hid (fun _ j hj => by omega), hxb.out⟩
              case round =>
                obtain ⟨k, hkk, rfl, hpre, hx⟩ := hrel
                have hx' := hid hx
                by_cases hlt : k < M.jobs.length
                · have hki : (k : Int) < (M.jobs.length : Int) := by omega
                  obtain ⟨qb, qo, qc, e1, lqb, hqc⟩ := hx.a.some (fun e => by have := congrArg List.length e; rw [hlq'.out, List.length_nil] at this; omega)
                  injection e1 with e1 e2 e3
                  subst e1
                  clear e2 e3
                  obtain ⟨pb, po, pc, e1, lpb, hpc⟩ := hx.b.some (fun e => by have := congrArg List.length e; rw [hpl'.out, List.length_nil] at this; omega)
                  injection e1 with e1 e2 e3
                  subst e1
                  clear e2 e3
                  have hqk := hqc k (by rw [hlq'.out]; exact hlt)
                  have hpk := hpc k (by rw [hpl'.out]; exact hlt)
                  have hqI := hid (show (ints q).getD k 0 = ((q.getD k 0 : Nat) : Int) from getD_ints q k)
                  have hpI := hid (show (ints p).getD k 0 = ((p.getD k 0 : Nat) : Int) from getD_ints p k)
                  generalize (ints q).getD k 0 = qI at hqk hqI
                  generalize (ints p).getD k 0 = pI at hpk hpI
                  clear hqc hpc hx
                  rcases hce with hce | hce
                  · have hcv : costFrom M Bench.begin q = v := by simpa using hce
                    by_cases hpq : pI = qI
                    · have hne : (pI == qI) = true := by simpa using hpq
                      have hpre2 : Hid (costFrom M Bench.begin q = v → ∀ j, j < k + 1 → p.getD j 0 = q.getD j 0) := hid (fun h j hj => by
                        rcases Nat.lt_or_ge j k with h1 | h1
                        · exact hpre.out h j h1
                        · obtain rfl : j = k := by omega
                          have h2 := hpI.out
                          have h3 := hqI.out
                          rw [hpq] at h2
                          omega)
                      clear hcv hpq
                      go_wp2
                      refine wp_region_later (by kernel_rfl) (by kernel_rfl) ?_
                      intro hxl
                      repeat (go_big_quiet_step (fail))
                      refine wpQuiet_nil ?_
                      rintro w9 ⟨x, hxw⟩
                      have hb9 := x.below
                      rw [← hxw] at hb9
                      clear hxl hxw x
                      go_wp2
                      go_roundw
                      case rel => exact ⟨k + 1, by omega, by go_num, hpre2, hx'.out.below hb9⟩
                      case measure => simp [intOf]; omega
                    · have hne : (pI == qI) = false := by simpa using hpq
                      have hlt2 : decide (pI < qI) = true := decide_eq_true (by
                        have h2 := hpI.out
                        have h3 := hqI.out
                        have := hq3'.out hcv k (hpre.out hcv) (by omega)
                        omega)
                      clear hcv hpq
                      go_wp2
                      refine wp_region_later (by kernel_rfl) (by kernel_rfl) ?_
                      intro hxl
                      repeat (go_big_quiet_step (fail))
                      refine wpQuiet_nil ?_
                      rintro w9 ⟨x, hxw⟩
                      have hb9 := x.below
                      rw [← hxw] at hb9
                      have hqk := (hb9.cell (p := ⟨qb, qo + k, none⟩) lqb).trans hqk
                      have hpk := (hb9.cell (p := ⟨pb, po + k, none⟩) lpb).trans hpk
                      have lqb := Nat.lt_of_lt_of_le lqb hb9.size
                      have lpb := Nat.lt_of_lt_of_le lpb hb9.size
                      clear hxl hxw x
                      go_wp2
                      refine wp_region_later (by kernel_rfl) (by kernel_rfl) ?_
                      intro hxl
                      repeat (go_big_quiet_step ((go_at_call 13; with_reducible exact Calls.later (awake_any _))))
                      refine wpQuiet_nil ?_
                      rintro w10 ⟨x, hxw⟩
                      have hb10 := x.below
                      rw [← hxw] at hb10
                      clear hxl hxw x
                      go_wp2
                      go_ret
                      exact ⟨rfl, ((hx'.out.below hb9).below hb10).k.bel⟩
                  · have hpre2 : Hid (costFrom M Bench.begin q = v → ∀ j, j < k + 1 → p.getD j 0 = q.getD j 0) := hid (fun h => by rw [h] at hce; simp at hce)
                    go_wp2
                    refine wp_region_later (by kernel_rfl) (by kernel_rfl) ?_
                    intro hxl
                    repeat (go_big_quiet_step (fail))
                    refine wpQuiet_nil ?_
                    rintro w9 ⟨x, hxw⟩
                    have hb9 := x.below
                    rw [← hxw] at hb9
                    clear hxl hxw x
                    go_wp2
                    go_roundw
                    case rel => exact ⟨k + 1, by omega, by go_num, hpre2, hx'.out.below hb9⟩
                    case measure => simp [intOf]; omega
                · obtain rfl : k = M.jobs.length := by omega
                  go_wp2_with (go_at_call 13; with_reducible refine (awake_any _).mono ?_; rintro e w9 ⟨rfl, hb9⟩)
                  go_ret
                  exact ⟨rfl, below_via hb9 hx'.out.k.bel⟩

end Go.Proofs.Ytcgkglonnmkfcaa
