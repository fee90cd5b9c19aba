/- 'RestFewest' returns true. -/
import Derived.Test.YtkgdejhooghknaaV1
import Derived.Test.YtkgdejhooghknaaV2
namespace Go.Proofs.Ytkgdejhooghknaa
open Go.RowKit Go.Lap Go.Shelf

theorem restFewest_any (R : Rest) (z : Int) (hz0 : 0 ≤ z) (_hz1 : z ≤ 65535) (w : World) : Calls Try.prog 7 #[restV R, .int .u16 z] w fun e w' => e = .returned (.bool true) ∧ Below w.heap.size w w' := by
  cases hv : R.valid
  · exact restFewest_bad R z hv w
  · rcases told_plan hv changes_low with ⟨hne, hf⟩ | ⟨hne, v, p, hf, hp, hpv, hmin, hfst⟩
    · have hc : countR R = (0, 0) := by rw [countR_eq hv, hne]; rfl
      have hr : rightB R (bitsL R.hours.toNat z) = false := by
        cases h : rightB R (bitsL R.hours.toNat z)
        · rfl
        · have := bits_right hv h
          rw [hne] at this; cases this
      exact restFewest_none R z hz0 hv hf hc hr w
    · have hN : 0 < ((plansL R).length : Int) := Int.ofNat_lt.2 (List.length_pos_iff.2 hne)
      have hK : chg p = v := by rw [← val_chg hv hp]; exact hpv
      cases h : rightB R (bitsL R.hours.toNat z)
      · exact restFewest_some0 R z hz0 hv v p _ hN hf (countR_eq hv) hp hK _ rfl h _ rfl w
      · have hq := bits_right hv h
        have h1 := hmin _ hq
        have h2 := hfst _ hq
        rw [val_chg hv hq] at h1 h2
        exact restFewest_some1 R z hz0 hv v p _ hN hf (countR_eq hv) hp hK _ rfl h _ rfl h1 h2 w

end Go.Proofs.Ytkgdejhooghknaa
