/- The law RelayEnds where there is a truth, of an entry of a end, walked. -/
import Derived.Test.YtccgakdaiaigoaaEA
namespace Go.Proofs.Ytccgakdaiaigoaa
open Go.RowKit Go.Lap Go.Shelf

set_option maxRecDepth 100000 in
set_option maxHeartbeats 16000000 in
theorem relayEnds_odd (r : Rel) (hn6 : r.n ≤ 1000000) (hv : r.valid = true) (hc : r.canB r.every = true) (hfar : farB r 5 = false) (hn : r.n ≤ maxLen) (zw zb : Int) (hzw : 0 ≤ zw) (hzw2 : zw ≤ 255) (hzb : 0 ≤ zb) (hzb2 : zb ≤ 255) (e : Nat) (hel : e < 4 * r.n) (hee : zw.tmod (4 * (r.stints.length : Int)) = (e : Int)) (hev : ¬ e / 2 % 2 = 0) (sv : Value) (hN : NilOk sv) (w : World) (hS : StintsAt w sv r.stints) : Calls Try.prog 7 #[relV r sv, .int .u8 zw, .int .u8 zb] w fun e w' => e = .returned (.bool true) ∧ Below w.heap.size w w' := by
  obtain ⟨sa, scap, rfl, hs0⟩ := id hS
  clear hs0
  have hx := hid (KeepM.start hS)
  have hN' := hid hN
  clear hN
  have H12 := hid (fun W h => far_as (M := 5) hfar rfl hn (by decide) (.slice sa r.stints.length scap) W h)
  have H32 := hid (fun W h => refRelays_as hn6 hv (.slice sa r.stints.length scap) W h)
  have hv' := hid hv
  have hn5 := hid (r.ok_of hv).2.2.1
  have hni : (r.stints.length : Int) ≤ 5 := by have := hn5.out; have : r.stints.length = r.n := rfl; omega
  have h0i : ((r.stints.length : Int) == 0) = false := by rw [beq_eq_false_iff_ne]; have : r.stints.length = r.n := rfl; omega
  have h4p : (0 : Int) < 4 * (r.stints.length : Int) := by have : r.stints.length = r.n := rfl; omega
  have he20 : e < 20 := by have := hn5.out; omega
  have he4 : (e : Int) < 4 * (r.stints.length : Int) := by have : r.stints.length = r.n := rfl; omega
  obtain ⟨i, hi⟩ : ∃ i, e / 4 = i := ⟨_, rfl⟩
  have hil : i < r.n := by omega
  have hii : (e : Int) / 4 = (i : Int) := by omega
  have hib : (i : Int) < (r.stints.length : Int) := by have : r.stints.length = r.n := rfl; omega
  have hHE := hid (fun k K hK hk m W h => exact_as hn5.out (k := k) (K := K) hK hk m (.slice sa r.stints.length scap) hN'.out W h)
  have hS' := hid hS
  obtain ⟨a1, a2, ho1, hA⟩ := on_spec hv hc hil
  obtain ⟨b1, b2, ho2, hB⟩ := off_spec hv hc hil
  obtain ⟨c1, c2, ho3, hC⟩ := length_spec hv hc hil
  obtain ⟨f1, f2, f3, f4⟩ := ends_len hil hA hB hC
  obtain ⟨ga1, ga2, ga3⟩ := span_range (k := 2 * i) (by omega) hA
  obtain ⟨gb1, gb2, gb3⟩ := span_range (k := 2 * i + 1) (by omega) hB
  have H26 := hid (fun W h => Clash_as hn6 (show clashOf r = (0, 4) by simp [clashOf, hv, Rel.clashIn, hc]) (.slice sa r.stints.length scap) W h)
  have H14 := hid (fun W h => On_as hn6 ho1 (.slice sa r.stints.length scap) W h)
  have H16 := hid (fun W h => Off_as hn6 ho2 (.slice sa r.stints.length scap) W h)
  have H18 := hid (fun W h => Length_as hn6 ho3 (.slice sa r.stints.length scap) W h)
  have hc' := hid hc
  clear ho1 ho2 ho3 hc hn hfar hS
  obtain ⟨sb, soff, rfl, _⟩ := hS'.out.at (k := i) hil
  obtain ⟨j, hj⟩ : ∃ j, e % 2 = j := ⟨_, rfl⟩
  have hj2 : j < 2 := by omega
  have hjj : (e : Int) % 2 = (j : Int) := by omega
  have hjt : (e : Int).tmod 2 = (j : Int) := by rw [Int.tmod_eq_emod_of_nonneg (by omega)]; exact hjj
  have hji : (j : Int) < 2 := by omega
  skip
  have hevi : (e : Int) / 2 % 2 = 1 := by omega
  have hte : timeOf e = 2 * i + 1 := by simp only [timeOf]; omega
  have hsp := hid (show IsSpan r (fun s => s (timeOf e)) b1 b2 by rw [hte]; exact hB)
  clear hte
  go_enter Try.func7, Try.ntmps7
  go_upto_region 1 with fail
  generalize w.alloc (.cells #[.int .i64 r.rest, .slice (some ⟨sb, soff, none⟩) r.stints.length scap] 24) = w0 at hx ⊢
  have hH := hid (Has.nil w0)
  have lx := (cells_of hx.out.m).1
  have cx := (cells_of hx.out.m).2
  go_upto_region 9 with (first | (go_at_call 12; with_reducible refine (H12.out _ hx.out.s).mono ?_; rintro e w1 ⟨rfl, hb⟩; replace hx := hid (hx.out.below hb); replace hH := hid (hH.out.below hb); have lx := (cells_of hx.out.m).1; have cx := (cells_of hx.out.m).2; clear hb) | (go_at_call 32; with_reducible refine (H32.out _ hx.out.s).mono ?_; rintro e w3 ⟨rfl, hb⟩; replace hx := hid (hx.out.below hb); replace hH := hid (hH.out.below hb); have lx := (cells_of hx.out.m).1; have cx := (cells_of hx.out.m).2; clear hb) | (go_at_call 16; with_reducible refine (H16.out _ hx.out.s).mono ?_; rintro e w4 ⟨rfl, hb⟩; replace hx := hid (hx.out.below hb); replace hH := hid (hH.out.below hb); have lx := (cells_of hx.out.m).1; have cx := (cells_of hx.out.m).2; clear hb))
  replace hH := hid (hH.out.alloc (.cells #[.int .i64 b1, .int .i64 b2] 28))
  replace hx := hid (hx.out.below (below_alloc (Below.refl _ _) (.cells #[.int .i64 b1, .int .i64 b2] 28)))
  generalize w4.alloc (.cells #[.int .i64 b1, .int .i64 b2] 28) = w5 at hH hx ⊢
  generalize w4.heap.size = p1 at hH ⊢
  clear lx cx
  have lx := (cells_of hx.out.m).1
  have cx := (cells_of hx.out.m).2
  go_upto_region 10 with (go_at_call 18; with_reducible refine (H18.out _ hx.out.s).mono ?_; rintro e w6 ⟨rfl, hb⟩; replace hx := hid (hx.out.below hb); replace hH := hid (hH.out.below hb); have lx := (cells_of hx.out.m).1; have cx := (cells_of hx.out.m).2; clear hb)
  replace hH := hid (hH.out.alloc (.cells #[.int .i64 c1, .int .i64 c2] 28))
  replace hx := hid (hx.out.below (below_alloc (Below.refl _ _) (.cells #[.int .i64 c1, .int .i64 c2] 28)))
  generalize w6.alloc (.cells #[.int .i64 c1, .int .i64 c2] 28) = w7 at hH hx ⊢
  generalize w6.heap.size = p2 at hH ⊢
  clear lx cx
  have lx := (cells_of hx.out.m).1
  have cx := (cells_of hx.out.m).2
  go_upto_region 11 with (go_at_call 26; with_reducible refine (H26.out _ hx.out.s).mono ?_; rintro e w8 ⟨rfl, hb⟩; replace hx := hid (hx.out.below hb); replace hH := hid (hH.out.below hb); have lx := (cells_of hx.out.m).1; have cx := (cells_of hx.out.m).2; clear hb)
  clear lx cx
  have lx := (cells_of hx.out.m).1
  have cx := (cells_of hx.out.m).2
  have h_p1 := hH.out p1 (.cells #[.int .i64 b1, .int .i64 b2] 28) (by simp)
  have l_p1 := (cells_of h_p1).1
  have c_p1 := (cells_of h_p1).2
  clear h_p1
  have h_p2 := hH.out p2 (.cells #[.int .i64 c1, .int .i64 c2] 28) (by simp)
  have l_p2 := (cells_of h_p2).1
  have c_p2 := (cells_of h_p2).2
  clear h_p2
  go_upto_region 17 with fail
  clear l_p1 c_p1 l_p2 c_p2
  obtain ⟨V, hV⟩ : ∃ V, zb % (b2 - b1 + 1) = V := ⟨_, rfl⟩
  have hV0 : 0 ≤ V := by rw [← hV]; exact Int.emod_nonneg _ (by omega)
  have hV6 : V < b2 - b1 + 1 := by rw [← hV]; exact Int.emod_lt_of_pos _ (by omega)
  have hVt : zb.tmod (b2 - b1 + 1) = V := by rw [Int.tmod_eq_emod_of_nonneg hzb]; exact hV
  have hne : ¬ (b2 - b1 + 1 = 0) := by omega
  have hw1 : IntKind.i64.wrap zb = zb := Go.IntWalk.i64_in _ (by omega)
  have hw2 : IntKind.i64.wrap (b2 - b1) = b2 - b1 := Go.IntWalk.i64_in _ (by omega)
  have hw3 : IntKind.i64.wrap (b2 - b1 + 1) = b2 - b1 + 1 := Go.IntWalk.i64_in _ (by omega)
  have hw4 : IntKind.i64.wrap (b1 + V) = b1 + V := Go.IntWalk.i64_in _ (by omega)
  refine wp_region_held_at (S := fun W => W.heap[p1]? = some (.cells #[.int .i64 b1, .int .i64 b2] 28 (0, 0))) (by kernel_rfl) ?_
  intro v8 hv8 hv8e
  have hz := (hH.out.below hv8) p1 (.cells #[.int .i64 b1, .int .i64 b2] 28) (by simp)
  replace hx := hid (hx.out.below hv8)
  replace hH := hid (hH.out.below hv8)
  clear hv8 hv8e lx cx
  try simp only [Array.replicate]
  refine wpAnyH_quiet (i := 0) (v := .pointer (some ⟨p1, 0, none⟩)) rfl (by kernel_rfl) (by kernel_rfl) (by kernel_rfl) (fun _ _ _ h => h) rfl (fun W hW => by go_simp) hz ?_
  refine wpAnyH_quiet (i := 1) (v := .int .i64 b1) rfl (by kernel_rfl) (by kernel_rfl) (by kernel_rfl) (fun _ _ _ h => h) rfl (fun W hW => by obtain ⟨lq, cq⟩ := cells_of hW; go_simp) hz ?_
  refine wpAnyH_quiet (i := 2) (v := .int .u8 zb) rfl (by kernel_rfl) (by kernel_rfl) (by kernel_rfl) (fun _ _ _ h => h) rfl (fun W hW => by go_simp) hz ?_
  refine wpAnyH_quiet (i := 3) (v := .int .i64 zb) rfl (by kernel_rfl) (by kernel_rfl) (by kernel_rfl) (fun _ _ _ h => h) rfl (fun W hW => by go_simp) hz ?_
  refine wpAnyH_quiet (i := 4) (v := .pointer (some ⟨p1, 1, none⟩)) rfl (by kernel_rfl) (by kernel_rfl) (by kernel_rfl) (fun _ _ _ h => h) rfl (fun W hW => by go_simp) hz ?_
  refine wpAnyH_quiet (i := 5) (v := .int .i64 b2) rfl (by kernel_rfl) (by kernel_rfl) (by kernel_rfl) (fun _ _ _ h => h) rfl (fun W hW => by obtain ⟨lq, cq⟩ := cells_of hW; go_simp) hz ?_
  try simp [Act.put]
  refine wpAnyH_quiet (i := 6) (v := .pointer (some ⟨p1, 0, none⟩)) rfl (by kernel_rfl) (by kernel_rfl) (by kernel_rfl) (fun _ _ _ h => h) rfl (fun W hW => by go_simp) hz ?_
  refine wpAnyH_quiet (i := 7) (v := .int .i64 b1) rfl (by kernel_rfl) (by kernel_rfl) (by kernel_rfl) (fun _ _ _ h => h) rfl (fun W hW => by obtain ⟨lq, cq⟩ := cells_of hW; go_simp) hz ?_
  refine wpAnyH_quiet (i := 8) (v := .int .i64 (b2 - b1)) rfl (by kernel_rfl) (by kernel_rfl) (by kernel_rfl) (fun _ _ _ h => h) rfl (fun W hW => by go_simp) hz ?_
  refine wpAnyH_quiet (i := 9) (v := .int .i64 (b2 - b1 + 1)) rfl (by kernel_rfl) (by kernel_rfl) (by kernel_rfl) (fun _ _ _ h => h) rfl (fun W hW => by go_simp) hz ?_
  refine wpAnyH_quiet (i := 10) (v := .int .i64 V) rfl (by kernel_rfl) (by kernel_rfl) (by kernel_rfl) (fun _ _ _ h => h) rfl (fun W hW => by go_simp) hz ?_
  refine wpAnyH_quiet (i := 11) (v := .int .i64 (b1 + V)) rfl (by kernel_rfl) (by kernel_rfl) (by kernel_rfl) (fun _ _ _ h => h) rfl (fun W hW => by go_simp) hz ?_
  try simp [Act.put]
  refine wpAnyH_step (i := 12) (by kernel_rfl) rfl ?_
  go_wp2
  refine ⟨hz, ?_⟩
  refine wpAnyH_done (by kernel_rfl) ?_ _
  try simp only [Act.put, List.setIfInBounds_toArray]
  obtain ⟨M, hM⟩ : ∃ M, b1 + V = M := ⟨_, rfl⟩
  have hM1 : b1 ≤ M := by omega
  have hM2 : M ≤ b2 := by omega
  clear hz hne hw1 hw2 hw3 hw4
  rw [hM]
  clear hV hVt
  obtain ⟨hsb, hq1, hq2⟩ := said_cells hx.out.s hil (q := j) (by omega)
  have lx := (cells_of hx.out.m).1
  have cx := (cells_of hx.out.m).2
  rw [show soff + i * 9 + (1 + 2 * j) = soff + i * 9 + 1 + j * 2 by omega] at hq1
  rw [show soff + i * 9 + (2 + 2 * j) = soff + i * 9 + 1 + j * 2 + 1 by omega] at hq2
  obtain ⟨x0, hx0⟩ : ∃ x, ((r.st i).said j).1 = x := ⟨_, rfl⟩
  obtain ⟨y0, hy0⟩ : ∃ x, ((r.st i).said j).2 = x := ⟨_, rfl⟩
  rw [hx0] at hq1
  rw [hy0] at hq2
  go_upto_region 19 with fail
  clear hq1 hq2 hsb
  have h13 := hid (hH.out.lt (b := p1) (o := .cells #[.int .i64 b1, .int .i64 b2] 28) (by simp))
  have h23 := hid (hH.out.lt (b := p2) (o := .cells #[.int .i64 c1, .int .i64 c2] 28) (by simp))
  have hw3 := hid (hx.out.lt)
  replace hH := hid (hH.out.alloc (.cells #[.int .i64 x0, .int .i64 y0] 28))
  replace hx := hid (hx.out.below (below_alloc (Below.refl _ _) (.cells #[.int .i64 x0, .int .i64 y0] 28)))
  generalize v8.alloc (.cells #[.int .i64 x0, .int .i64 y0] 28) = v9 at hH hx ⊢
  generalize v8.heap.size = p3 at hH h13 h23 hw3 ⊢
  clear lx cx
  have lx := (cells_of hx.out.m).1
  have cx := (cells_of hx.out.m).2
  obtain ⟨hsb, hq1, hq2⟩ := said_cells hx.out.s hil (q := 2 + j) (by omega)
  rw [show soff + i * 9 + (1 + 2 * (2 + j)) = soff + i * 9 + 5 + j * 2 by omega] at hq1
  rw [show soff + i * 9 + (2 + 2 * (2 + j)) = soff + i * 9 + 5 + j * 2 + 1 by omega] at hq2
  obtain ⟨x1, hx1⟩ : ∃ x, ((r.st i).said (2 + j)).1 = x := ⟨_, rfl⟩
  obtain ⟨y1, hy1⟩ : ∃ x, ((r.st i).said (2 + j)).2 = x := ⟨_, rfl⟩
  rw [hx1] at hq1
  rw [hy1] at hq2
  have hxe := hid (show (r.entry e).1 = x1 by rw [Rel.entry, hi, show e % 4 = 2 + j by omega]; exact hx1)
  have hye := hid (show (r.entry e).2 = y1 by rw [Rel.entry, hi, show e % 4 = 2 + j by omega]; exact hy1)
  clear hx0 hy0 hx1 hy1
  have h3 := hH.out p3 (.cells #[.int .i64 x0, .int .i64 y0] 28) (by simp)
  have l3 := (cells_of h3).1
  have c3 := (cells_of h3).2
  have z3 := free_of h3
  go_upto_region 21 with fail
  have hne : ∀ b o', (b, o') ∈ [(p2, Obj.cells #[.int .i64 c1, .int .i64 c2] 28 (0, 0)), (p1, Obj.cells #[.int .i64 b1, .int .i64 b2] 28 (0, 0))] → b ≠ p3 := fun b o' hm => by
    have := h13.out
    have := h23.out
    simp only [List.mem_cons, List.not_mem_nil, or_false, Prod.mk.injEq] at hm
    rcases hm with ⟨rfl, _⟩ | ⟨rfl, _⟩ <;> omega
  replace hH := hid ((hH.out.put (o := 0) (v := .int .i64 x1) hne).put (o := 1) (v := .int .i64 y1) hne)
  simp only [List.setIfInBounds_toArray, List.set_cons_succ, List.set_cons_zero] at hH
  replace hx := hid ((hx.out.set hS'.out hw3.out (o := 0) (.int .i64 x1)).set hS'.out hw3.out (o := 1) (.int .i64 y1))
  generalize (v9.setCell ⟨p3, 0, none⟩ (.int .i64 x1)).setCell ⟨p3, 1, none⟩ (.int .i64 y1) = v10 at hH hx ⊢
  clear lx cx l3 c3 z3 h3 hq1 hq2 hsb hne
  have lx := (cells_of hx.out.m).1
  have cx := (cells_of hx.out.m).2
  clear h13 h23 hw3
  have h_p1 := hH.out p1 (.cells #[.int .i64 b1, .int .i64 b2] 28) (by simp)
  have l_p1 := (cells_of h_p1).1
  have c_p1 := (cells_of h_p1).2
  clear h_p1
  go_upto_region 22 with fail
  clear l_p1 c_p1
  replace hH := hid (hH.out.alloc (.cells #[.int .i64 (b1 - 1), .int .i64 b1, .int .i64 M, .int .i64 b2, .int .i64 (b2 + 1)] 3))
  replace hx := hid (hx.out.below (below_alloc (Below.refl _ _) (.cells #[.int .i64 (b1 - 1), .int .i64 b1, .int .i64 M, .int .i64 b2, .int .i64 (b2 + 1)] 3)))
  generalize v10.alloc (.cells #[.int .i64 (b1 - 1), .int .i64 b1, .int .i64 M, .int .i64 b2, .int .i64 (b2 + 1)] 3) = v11 at hH hx ⊢
  generalize v10.heap.size = p4 at hH ⊢
  clear lx cx H12 H32 H26
  go_loopw [20, 21, 22, 183] (fun _ _ _ i wr => ∃ k : Nat, k ≤ 5 ∧ i = .int .i64 k ∧ Hid (KeepM w r (.slice (some ⟨sb, soff, none⟩) r.stints.length scap) wr) ∧ Hid (Has [(p4, Obj.cells #[.int .i64 (b1 - 1), .int .i64 b1, .int .i64 M, .int .i64 b2, .int .i64 (b2 + 1)] 3 (0, 0)), (p3, Obj.cells #[.int .i64 x1, .int .i64 y1] 28 (0, 0)), (p2, Obj.cells #[.int .i64 c1, .int .i64 c2] 28 (0, 0)), (p1, Obj.cells #[.int .i64 b1, .int .i64 b2] 28 (0, 0))] wr)) (fun _ _ _ i _ => 5 - (intOf i).toNat)
  case atStart => exact ⟨0, by omega, rfl, hx, hH⟩
  case round =>
    obtain ⟨k, hk, rfl, hx1, hH1⟩ := hrel
    clear hx hH
    have hx := hx1
    have hH := hH1
    clear hx1 hH1
    have lx := (cells_of hx.out.m).1
    have cx := (cells_of hx.out.m).2
    by_cases hlt : k < 5
    · obtain ⟨m, hm⟩ : ∃ m : Int, (#[.int .i64 (b1 - 1), .int .i64 b1, .int .i64 M, .int .i64 b2, .int .i64 (b2 + 1)] : Array Value)[k]? = some (.int .i64 m) := by
        rcases (show k = 0 ∨ k = 1 ∨ k = 2 ∨ k = 3 ∨ k = 4 by omega) with rfl | rfl | rfl | rfl | rfl <;> exact ⟨_, rfl⟩
      have hki : (k : Int) < 5 := by omega
      have h4 := hH.out p4 (Obj.cells #[.int .i64 (b1 - 1), .int .i64 b1, .int .i64 M, .int .i64 b2, .int .i64 (b2 + 1)] 3 (0, 0)) (by simp)
      have lq := (cells_of h4).1
      have hqk : wr.cell? ⟨p4, k, none⟩ = some (.int .i64 m) := ((cells_of h4).2 k).trans hm
      clear h4 hm
      by_cases hm0 : m < 0
      · go_wp2
        clear lx cx lq hqk
        go_roundw
        case rel => exact ⟨k + 1, by omega, by go_num, hx, hH⟩
        case measure => simp [intOf]; omega
      · by_cases hm6 : 600 < m
        · go_wp2
          clear lx cx lq hqk
          go_roundw
          case rel => exact ⟨k + 1, by omega, by go_num, hx, hH⟩
          case measure => simp [intOf]; omega
        · obtain ⟨hv2, b, he2, hin, hout⟩ := ends_at hv'.out hel hsp.out (m := m) (by omega)
          rw [endOf, if_neg hev, hi] at he2
          rw [hxe.out, hye.out] at hout
          replace hin := hid hin
          replace hout := hid hout
          have HX := hid (hHE.out e (e : Int) rfl hel m)
          cases b
          · skip
            simp only [if_false, Bool.false_eq_true] at he2
            have HQ := hid (fun sv' W h => Off_as (r := r.put e (m, m)) (by rw [r.put_n]; exact hn6) he2 sv' W h)
            clear he2 hv2
            go_upto_region 26 with (first | (go_at_call 33; with_reducible refine (HX.out _ hx.out.s).mono ?_; rintro e w3 ⟨sv2, rfl, hS2, hN2, hb⟩; clear hN2; replace hS2 := hid hS2; replace hx := hid (hx.out.below hb); replace hH := hid (hH.out.below hb); have lx := (cells_of hx.out.m).1; have cx := (cells_of hx.out.m).2; clear hb) | (go_at_call 16; with_reducible refine (HQ.out _ _ hS2.out).mono ?_; rintro e w4 ⟨rfl, hb⟩; replace hx := hid (hx.out.below hb); replace hH := hid (hH.out.below hb); have lx := (cells_of hx.out.m).1; have cx := (cells_of hx.out.m).2; clear hb))
            clear hS2 HX HQ lq hqk
            replace hH := hid (hH.out.alloc (.cells #[.int .i64 0, .int .i64 0] 28))
            replace hx := hid (hx.out.below (below_alloc (Below.refl _ _) (.cells #[.int .i64 0, .int .i64 0] 28)))
            generalize w4.alloc (.cells #[.int .i64 0, .int .i64 0] 28) = v12 at hH hx ⊢
            generalize w4.heap.size = p5 at hH ⊢
            clear lx cx
            have lx := (cells_of hx.out.m).1
            have cx := (cells_of hx.out.m).2
            have h_p5 := hH.out p5 (.cells #[.int .i64 0, .int .i64 0] 28) (by simp)
            have l_p5 := (cells_of h_p5).1
            have c_p5 := (cells_of h_p5).2
            clear h_p5
            have h_p1 := hH.out p1 (.cells #[.int .i64 b1, .int .i64 b2] 28) (by simp)
            have l_p1 := (cells_of h_p1).1
            have c_p1 := (cells_of h_p1).2
            clear h_p1
            have h_p3 := hH.out p3 (.cells #[.int .i64 x1, .int .i64 y1] 28) (by simp)
            have l_p3 := (cells_of h_p3).1
            have c_p3 := (cells_of h_p3).2
            clear h_p3
            have hi1 : (decide (b1 ≤ m) && decide (m ≤ b2)) = false := by
              by_cases h1 : b1 ≤ m
              · by_cases h2 : m ≤ b2
                · have := hin.out h1 h2; cases this
                · simp [h2]
              · simp [h1]
            obtain ⟨inw, hi3⟩ : ∃ z, (decide (x1 ≤ m) && decide (m ≤ y1)) = z := ⟨_, rfl⟩
            replace hi1 := hid hi1
            replace hi3 := hid hi3
            clear hin hout
            cases inw
            · skip
              refine wp_region_later (by kernel_rfl) (by kernel_rfl) ?_
              intro hxx
              try dsimp only [List.append]
              repeat (go_big_quiet_step ((first | (go_at_call 34; with_reducible exact Calls.later (lspan_any _ _ _)) | (go_at_call 31; first | (with_reducible exact Calls.later (inside_as hi1.out _)) | (with_reducible exact Calls.later (inside_as hi3.out _))))))
              refine wpQuiet_nil ?_
              rintro w5 ⟨x, hxw⟩
              have hb := x.below
              rw [← hxw] at hb
              clear hxx hxw x
              replace hx := hid (hx.out.below hb)
              replace hH := hid (hH.out.below hb)
              clear hb lx cx
              clear l_p5 c_p5 l_p1 c_p1 l_p3 c_p3
              go_wp2
              go_roundw
              case rel => exact ⟨k + 1, by omega, by go_num, hx, hid (fun b' o' hm' => hH.out b' o' (List.mem_cons_of_mem _ hm'))⟩
              case measure => simp [intOf]; omega
            · skip
              refine wp_region_later (by kernel_rfl) (by kernel_rfl) ?_
              intro hxx
              try dsimp only [List.append]
              repeat (go_big_quiet_step ((first | (go_at_call 34; with_reducible exact Calls.later (lspan_any _ _ _)) | (go_at_call 31; first | (with_reducible exact Calls.later (inside_as hi1.out _)) | (with_reducible exact Calls.later (inside_as hi3.out _))))))
              refine wpQuiet_nil ?_
              rintro w5 ⟨x, hxw⟩
              have hb := x.below
              rw [← hxw] at hb
              clear hxx hxw x
              replace hx := hid (hx.out.below hb)
              replace hH := hid (hH.out.below hb)
              clear hb lx cx
              clear l_p5 c_p5 l_p1 c_p1 l_p3 c_p3
              go_wp2
              go_roundw
              case rel => exact ⟨k + 1, by omega, by go_num, hx, hid (fun b' o' hm' => hH.out b' o' (List.mem_cons_of_mem _ hm'))⟩
              case measure => simp [intOf]; omega
          · skip
            simp only [if_true] at he2
            have HQ := hid (fun sv' W h => Off_as (r := r.put e (m, m)) (by rw [r.put_n]; exact hn6) he2 sv' W h)
            clear he2 hv2
            go_upto_region 26 with (first | (go_at_call 33; with_reducible refine (HX.out _ hx.out.s).mono ?_; rintro e w3 ⟨sv2, rfl, hS2, hN2, hb⟩; clear hN2; replace hS2 := hid hS2; replace hx := hid (hx.out.below hb); replace hH := hid (hH.out.below hb); have lx := (cells_of hx.out.m).1; have cx := (cells_of hx.out.m).2; clear hb) | (go_at_call 16; with_reducible refine (HQ.out _ _ hS2.out).mono ?_; rintro e w4 ⟨rfl, hb⟩; replace hx := hid (hx.out.below hb); replace hH := hid (hH.out.below hb); have lx := (cells_of hx.out.m).1; have cx := (cells_of hx.out.m).2; clear hb))
            clear hS2 HX HQ lq hqk
            replace hH := hid (hH.out.alloc (.cells #[.int .i64 m, .int .i64 m] 28))
            replace hx := hid (hx.out.below (below_alloc (Below.refl _ _) (.cells #[.int .i64 m, .int .i64 m] 28)))
            generalize w4.alloc (.cells #[.int .i64 m, .int .i64 m] 28) = v12 at hH hx ⊢
            generalize w4.heap.size = p5 at hH ⊢
            clear lx cx
            have lx := (cells_of hx.out.m).1
            have cx := (cells_of hx.out.m).2
            have h_p5 := hH.out p5 (.cells #[.int .i64 m, .int .i64 m] 28) (by simp)
            have l_p5 := (cells_of h_p5).1
            have c_p5 := (cells_of h_p5).2
            clear h_p5
            have h_p1 := hH.out p1 (.cells #[.int .i64 b1, .int .i64 b2] 28) (by simp)
            have l_p1 := (cells_of h_p1).1
            have c_p1 := (cells_of h_p1).2
            clear h_p1
            have h_p3 := hH.out p3 (.cells #[.int .i64 x1, .int .i64 y1] 28) (by simp)
            have l_p3 := (cells_of h_p3).1
            have c_p3 := (cells_of h_p3).2
            clear h_p3
            have q5 : ∀ w, (Op.equal 28 (.agg #[.int .i64 m, .int .i64 m]) (.agg #[.int .i64 m, .int .i64 m])).run Try.prog w = .ok true w := fun w => by rw [eq_span28]; simp
            obtain ⟨inn, hi1⟩ : ∃ z, (decide (b1 ≤ m) && decide (m ≤ b2)) = z := ⟨_, rfl⟩
            have hi3 : inn = false → (decide (x1 ≤ m) && decide (m ≤ y1)) = false := fun h => by
              rw [h] at hi1
              by_cases h1 : x1 ≤ m
              · by_cases h2 : m ≤ y1
                · have h3 := hout.out (by rintro ⟨h4, h5⟩; simp [h4, h5] at hi1) h1 h2
                  cases h3
                · simp [h2]
              · simp [h1]
            replace hi1 := hid hi1
            replace hi3 := hid hi3
            clear hin hout
            cases inn
            · replace hi3 := hid (hi3.out rfl)
              refine wp_region_later (by kernel_rfl) (by kernel_rfl) ?_
              intro hxx
              try dsimp only [List.append]
              repeat (go_big_quiet_step ((first | (go_at_call 34; with_reducible exact Calls.later (lspan_any _ _ _)) | (go_at_call 31; first | (with_reducible exact Calls.later (inside_as hi1.out _)) | (with_reducible exact Calls.later (inside_as hi3.out _))))))
              refine wpQuiet_nil ?_
              rintro w5 ⟨x, hxw⟩
              have hb := x.below
              rw [← hxw] at hb
              clear hxx hxw x
              replace hx := hid (hx.out.below hb)
              replace hH := hid (hH.out.below hb)
              clear hb lx cx
              clear l_p5 c_p5 l_p1 c_p1 l_p3 c_p3
              go_wp2
              go_roundw
              case rel => exact ⟨k + 1, by omega, by go_num, hx, hid (fun b' o' hm' => hH.out b' o' (List.mem_cons_of_mem _ hm'))⟩
              case measure => simp [intOf]; omega
            · clear hi3
              refine wp_region_later (by kernel_rfl) (by kernel_rfl) ?_
              intro hxx
              try dsimp only [List.append]
              repeat (go_big_quiet_step ((first | (go_at_call 34; with_reducible exact Calls.later (lspan_any _ _ _)) | (go_at_call 31; first | (with_reducible exact Calls.later (inside_as hi1.out _))))))
              refine wpQuiet_nil ?_
              rintro w5 ⟨x, hxw⟩
              have hb := x.below
              rw [← hxw] at hb
              clear hxx hxw x
              replace hx := hid (hx.out.below hb)
              replace hH := hid (hH.out.below hb)
              clear hb lx cx
              clear l_p5 c_p5 l_p1 c_p1 l_p3 c_p3
              go_wp2
              go_roundw
              case rel => exact ⟨k + 1, by omega, by go_num, hx, hid (fun b' o' hm' => hH.out b' o' (List.mem_cons_of_mem _ hm'))⟩
              case measure => simp [intOf]; omega
    · obtain rfl : k = 5 := by omega
      go_upto_region 30 with (go_at_call 14; with_reducible refine (H14.out _ hx.out.s).mono ?_; rintro e w4 ⟨rfl, hb⟩; replace hx := hid (hx.out.below hb); replace hH := hid (hH.out.below hb); have lx := (cells_of hx.out.m).1; have cx := (cells_of hx.out.m).2; clear hb)
      replace hH := hid (hH.out.alloc (.cells #[.int .i64 a1, .int .i64 a2] 28))
      replace hx := hid (hx.out.below (below_alloc (Below.refl _ _) (.cells #[.int .i64 a1, .int .i64 a2] 28)))
      generalize w4.alloc (.cells #[.int .i64 a1, .int .i64 a2] 28) = v13 at hH hx ⊢
      generalize w4.heap.size = p5 at hH ⊢
      clear lx cx
      have lx := (cells_of hx.out.m).1
      have cx := (cells_of hx.out.m).2
      go_upto_region 31 with (go_at_call 16; with_reducible refine (H16.out _ hx.out.s).mono ?_; rintro e w6 ⟨rfl, hb⟩; replace hx := hid (hx.out.below hb); replace hH := hid (hH.out.below hb); have lx := (cells_of hx.out.m).1; have cx := (cells_of hx.out.m).2; clear hb)
      replace hH := hid (hH.out.alloc (.cells #[.int .i64 b1, .int .i64 b2] 28))
      replace hx := hid (hx.out.below (below_alloc (Below.refl _ _) (.cells #[.int .i64 b1, .int .i64 b2] 28)))
      generalize w6.alloc (.cells #[.int .i64 b1, .int .i64 b2] 28) = v14 at hH hx ⊢
      generalize w6.heap.size = p6 at hH ⊢
      clear lx cx
      have lx := (cells_of hx.out.m).1
      have cx := (cells_of hx.out.m).2
      have hwa : IntKind.i64.wrap (b1 - a2) = b1 - a2 := Go.IntWalk.i64_in _ (by omega)
      have hwb : IntKind.i64.wrap (b2 - a1) = b2 - a1 := Go.IntWalk.i64_in _ (by omega)
      have h_p2 := hH.out p2 (.cells #[.int .i64 c1, .int .i64 c2] 28) (by simp)
      have l_p2 := (cells_of h_p2).1
      have c_p2 := (cells_of h_p2).2
      clear h_p2
      have h_p5 := hH.out p5 (.cells #[.int .i64 a1, .int .i64 a2] 28) (by simp)
      have l_p5 := (cells_of h_p5).1
      have c_p5 := (cells_of h_p5).2
      clear h_p5
      have h_p6 := hH.out p6 (.cells #[.int .i64 b1, .int .i64 b2] 28) (by simp)
      have l_p6 := (cells_of h_p6).1
      have c_p6 := (cells_of h_p6).2
      clear h_p6
      go_upto_region 34 with fail
      clear l_p2 c_p2 l_p5 c_p5 l_p6 c_p6
      replace hH := hid (hH.out.alloc (.cells #[.int .i64 a1, .int .i64 a2] 3))
      replace hx := hid (hx.out.below (below_alloc (Below.refl _ _) (.cells #[.int .i64 a1, .int .i64 a2] 3)))
      generalize v14.alloc (.cells #[.int .i64 a1, .int .i64 a2] 3) = v15 at hH hx ⊢
      generalize v14.heap.size = p7 at hH ⊢
      clear lx cx hwa hwb H14 H16 hsp
      go_loopw [28, 29, 30, 31, 32, 33, 289] (fun _ _ _ _ _ _ i wr => ∃ k : Nat, k ≤ 2 ∧ i = .int .i64 k ∧ Hid (KeepM w r (.slice (some ⟨sb, soff, none⟩) r.stints.length scap) wr) ∧ Hid (Has [(p7, Obj.cells #[.int .i64 a1, .int .i64 a2] 3 (0, 0)), (p6, Obj.cells #[.int .i64 b1, .int .i64 b2] 28 (0, 0)), (p5, Obj.cells #[.int .i64 a1, .int .i64 a2] 28 (0, 0)), (p4, Obj.cells #[.int .i64 (b1 - 1), .int .i64 b1, .int .i64 M, .int .i64 b2, .int .i64 (b2 + 1)] 3 (0, 0)), (p3, Obj.cells #[.int .i64 x1, .int .i64 y1] 28 (0, 0)), (p2, Obj.cells #[.int .i64 c1, .int .i64 c2] 28 (0, 0)), (p1, Obj.cells #[.int .i64 b1, .int .i64 b2] 28 (0, 0))] wr)) (fun _ _ _ _ _ _ i _ => 2 - (intOf i).toNat)
      case atStart => exact ⟨0, by omega, rfl, hx, hH⟩
      case round =>
        obtain ⟨k2, hk2, rfl, hx1, hH1⟩ := hrel
        clear hx hH
        have hx := hx1
        have hH := hH1
        clear hx1 hH1
        have lx := (cells_of hx.out.m).1
        have cx := (cells_of hx.out.m).2
        by_cases hlt : k2 < 2
        · obtain ⟨v, hm, hvo⟩ : ∃ v : Int, (#[.int .i64 a1, .int .i64 a2] : Array Value)[k2]? = some (.int .i64 v) ∧ (v = a1 ∨ v = a2) := by
            rcases (show k2 = 0 ∨ k2 = 1 by omega) with rfl | rfl
            · exact ⟨_, rfl, .inl rfl⟩
            · exact ⟨_, rfl, .inr rfl⟩
          have hki : (k2 : Int) < 2 := by omega
          have h7 := hH.out p7 (Obj.cells #[.int .i64 a1, .int .i64 a2] 3 (0, 0)) (by simp)
          have lq := (cells_of h7).1
          have hqk : wr.cell? ⟨p7, k2, none⟩ = some (.int .i64 v) := ((cells_of h7).2 k2).trans hm
          clear h7 hm
          obtain ⟨hv2, t1, t2, e1, e2, g1, g2, g3, g4, g5⟩ := ends_fix hv'.out hil hA hC hvo
          have hvr : 0 ≤ v ∧ v ≤ 600 := by omega
          obtain ⟨hvr1, hvr2⟩ := hvr
          have HQ16 := hid (fun sv' W h => Off_as (r := r.put (4 * i) (v, v)) (by rw [r.put_n]; exact hn6) e1 sv' W h)
          have HQ18 := hid (fun sv' W h => Length_as (r := r.put (4 * i) (v, v)) (by rw [r.put_n]; exact hn6) e2 sv' W h)
          have HX := hid (hHE.out (4 * i) (4 * (i : Int)) (by omega) (by omega) v)
          clear hvo e1 e2 hv2
          go_upto_region 37 with (go_at_call 33; with_reducible refine (HX.out _ hx.out.s).mono ?_; rintro e w3 ⟨sv2, rfl, hS2, hN2, hb⟩; obtain ⟨a7, cap7, rfl⟩ := stints_open hS2; clear hN2; replace hS2 := hid hS2; replace hx := hid (hx.out.below hb); replace hH := hid (hH.out.below hb); have lx := (cells_of hx.out.m).1; have cx := (cells_of hx.out.m).2; clear hb)
          clear HX lq hqk
          replace hH := hid (hH.out.alloc (.cells #[.int .i64 (r.put (4 * i) (v, v)).rest, (.slice a7 (r.put (4 * i) (v, v)).stints.length cap7)] 24))
          replace hS2 := hid (hS2.out.below (below_alloc (Below.refl _ _) (.cells #[.int .i64 (r.put (4 * i) (v, v)).rest, (.slice a7 (r.put (4 * i) (v, v)).stints.length cap7)] 24)))
          replace hx := hid (hx.out.below (below_alloc (Below.refl _ _) (.cells #[.int .i64 (r.put (4 * i) (v, v)).rest, (.slice a7 (r.put (4 * i) (v, v)).stints.length cap7)] 24)))
          generalize w3.alloc (.cells #[.int .i64 (r.put (4 * i) (v, v)).rest, (.slice a7 (r.put (4 * i) (v, v)).stints.length cap7)] 24) = v16 at hH hx hS2 ⊢
          generalize w3.heap.size = p8 at hH ⊢
          clear lx cx
          have h8 := hH.out p8 (Obj.cells #[.int .i64 (r.put (4 * i) (v, v)).rest, (.slice a7 (r.put (4 * i) (v, v)).stints.length cap7)] 24 (0, 0)) (by simp)
          have l8 := (cells_of h8).1
          have c8 := (cells_of h8).2
          clear h8
          go_upto_region 38 with (go_at_call 16; with_reducible refine (HQ16.out _ _ hS2.out).mono ?_; rintro e w4 ⟨rfl, hb⟩; replace hS2 := hid (hS2.out.below hb); replace hx := hid (hx.out.below hb); replace hH := hid (hH.out.below hb); clear hb)
          clear l8 c8 HQ16
          replace hH := hid (hH.out.alloc (.cells #[.int .i64 t1, .int .i64 t2] 28))
          replace hS2 := hid (hS2.out.below (below_alloc (Below.refl _ _) (.cells #[.int .i64 t1, .int .i64 t2] 28)))
          replace hx := hid (hx.out.below (below_alloc (Below.refl _ _) (.cells #[.int .i64 t1, .int .i64 t2] 28)))
          generalize w4.alloc (.cells #[.int .i64 t1, .int .i64 t2] 28) = v17 at hH hx hS2 ⊢
          generalize w4.heap.size = p9 at hH ⊢
          have h8 := hH.out p8 (Obj.cells #[.int .i64 (r.put (4 * i) (v, v)).rest, (.slice a7 (r.put (4 * i) (v, v)).stints.length cap7)] 24 (0, 0)) (by simp)
          have l8 := (cells_of h8).1
          have c8 := (cells_of h8).2
          clear h8
          go_upto_region 39 with (go_at_call 18; with_reducible refine (HQ18.out _ _ hS2.out).mono ?_; rintro e w5 ⟨rfl, hb⟩; replace hx := hid (hx.out.below hb); replace hH := hid (hH.out.below hb); clear hb)
          clear l8 c8 HQ18 hS2
          replace hH := hid (hH.out.alloc (.cells #[.int .i64 (t1 - v), .int .i64 (t2 - v)] 28))
          replace hx := hid (hx.out.below (below_alloc (Below.refl _ _) (.cells #[.int .i64 (t1 - v), .int .i64 (t2 - v)] 28)))
          generalize w5.alloc (.cells #[.int .i64 (t1 - v), .int .i64 (t2 - v)] 28) = v18 at hH hx ⊢
          generalize w5.heap.size = p10 at hH ⊢
          have lx := (cells_of hx.out.m).1
          have cx := (cells_of hx.out.m).2
          have hwa : IntKind.i64.wrap (t1 - v) = t1 - v := Go.IntWalk.i64_in _ (by omega)
          have hwb : IntKind.i64.wrap (t2 - v) = t2 - v := Go.IntWalk.i64_in _ (by omega)
          have q5 : ∀ w, (Op.equal 28 (.agg #[.int .i64 (t1 - v), .int .i64 (t2 - v)]) (.agg #[.int .i64 (t1 - v), .int .i64 (t2 - v)])).run Try.prog w = .ok true w := fun w => by rw [eq_span28]; simp
          have h_p10 := hH.out p10 (.cells #[.int .i64 (t1 - v), .int .i64 (t2 - v)] 28) (by simp)
          have l_p10 := (cells_of h_p10).1
          have c_p10 := (cells_of h_p10).2
          clear h_p10
          have h_p9 := hH.out p9 (.cells #[.int .i64 t1, .int .i64 t2] 28) (by simp)
          have l_p9 := (cells_of h_p9).1
          have c_p9 := (cells_of h_p9).2
          clear h_p9
          have h_p2 := hH.out p2 (.cells #[.int .i64 c1, .int .i64 c2] 28) (by simp)
          have l_p2 := (cells_of h_p2).1
          have c_p2 := (cells_of h_p2).2
          clear h_p2
          refine wp_region_later (by kernel_rfl) (by kernel_rfl) ?_
          intro hxx
          try dsimp only [List.append]
          repeat (any_goals (first | go_big_quiet_step ((first | (go_at_call 34; with_reducible exact Calls.later (lspan_any _ _ _)))) | quiet_step ((first | (go_at_call 34; with_reducible exact Calls.later (lspan_any _ _ _))))))
          refine wpQuiet_nil ?_
          rintro w5 ⟨x, hxw⟩
          have hb := x.below
          rw [← hxw] at hb
          clear hxx hxw x
          replace hx := hid (hx.out.below hb)
          replace hH := hid (hH.out.below hb)
          clear hb lx cx
          clear l_p10 c_p10 l_p9 c_p9 l_p2 c_p2
          clear q5 hwa hwb
          go_wp2
          go_roundw
          case rel => exact ⟨k2 + 1, by omega, by go_num, hx, hid (fun b' o' hm' => hH.out b' o' (List.mem_cons_of_mem _ (List.mem_cons_of_mem _ (List.mem_cons_of_mem _ hm'))))⟩
          case measure => simp [intOf]; omega
        · obtain rfl : k2 = 2 := by omega
          go_wp2_with (go_at_call 13; with_reducible refine (awake_any _).mono ?_; rintro e z9 ⟨rfl, hb⟩; replace hx := hid (hx.out.below hb); have lx := (cells_of hx.out.m).1; have cx := (cells_of hx.out.m).2; clear hb)
          go_ret
          exact ⟨rfl, hx.out.bel⟩
end Go.Proofs.Ytccgakdaiaigoaa
