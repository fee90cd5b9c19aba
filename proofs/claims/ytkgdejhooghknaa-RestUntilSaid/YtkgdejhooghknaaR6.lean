/- 'RestUntil' returns true. -/
import Derived.Test.YtkgdejhooghknaaR2
import Derived.Test.YtkgdejhooghknaaR3
import Derived.Test.YtkgdejhooghknaaR4
import Derived.Test.YtkgdejhooghknaaR5
namespace Go.Proofs.Ytkgdejhooghknaa
open Go.RowKit Go.Lap Go.Shelf

theorem restUntil_any (R : Rest) (w : World) : Calls Try.prog 10 #[restV R] w fun e w' => e = .returned (.bool true) ∧ Below w.heap.size w w' := by
  by_cases hv : R.valid = true
  · have hh := Rest.valid_hours hv
    obtain ⟨h0, h1, h2, h3, h4⟩ := until_spec hv
    have hu : untilR R = (untilOf R, 0) := by simp [untilR, hv]
    obtain ⟨a, ha1, ha2, ha3⟩ := count_first hv h0 h1
    have hpos : 0 < a := by rw [h2] at ha3; simpa using ha3
    cases hc : canB R R.hours
    · have hlt : untilOf R < R.hours := by
        rcases Int.lt_or_le (untilOf R) R.hours with h | h
        · exact h
        · have := h4.2 (by omega)
          rw [hc] at this; cases this
      have hf : freeR R = freeOf R := by simp [freeR, hv, hc]
      obtain ⟨c, hc1, hc2, hc3⟩ := count_first hv (n := untilOf R + 1) (by omega) (by omega)
      have hc0 : c = 0 := by
        rw [h3 hlt] at hc3
        have : ¬ 0 < c := by simpa using hc3
        omega
      subst hc0
      rcases freeOf_cases hh.1 with ⟨e, n0, n1⟩ | ⟨h, e, g0, g1, hit, no⟩ | ⟨h, e, g0, g1, n0, hit, no⟩
      · exact restUntil_none R hv _ h0 hlt hu n0 n1 (hf.trans e) a hpos ha1 hc1 w
      · exact restUntil_0 R hv _ h0 hlt hu h g0 g1 hit no (hf.trans e) a hpos ha1 hc1 w
      · exact restUntil_1 R hv _ h0 hlt hu h g0 g1 n0 hit no (hf.trans e) a hpos ha1 hc1 w
    · have he := h4.1 hc
      rw [he] at hu ha1
      exact restUntil_all R hv hu (by simp [freeR, hv, hc]) a hpos ha1 w
  · exact restUntil_bad R (by simpa using hv) w

end Go.Proofs.Ytkgdejhooghknaa
