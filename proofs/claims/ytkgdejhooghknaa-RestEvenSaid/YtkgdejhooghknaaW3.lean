/- 'RestEven' returns true. -/
import Derived.Test.YtkgdejhooghknaaW2
namespace Go.Proofs.Ytkgdejhooghknaa
open Go.RowKit Go.Lap Go.Shelf

theorem restEven_any (R : Rest) (z : Int) (hz0 : 0 ≤ z) (_hz1 : z ≤ 65535) (w : World) : Calls Try.prog 8 #[restV R, .int .u16 z] w fun e w' => e = .returned (.bool true) ∧ Below w.heap.size w w' := by
  cases hv : R.valid
  · exact restEven_bad R z hv w
  · by_cases hne : plansL R = []
    · rcases told_plan hv even_low with ⟨_, hf⟩ | ⟨h, _⟩
      · rcases told_plan hv changes_low with ⟨_, hg⟩ | ⟨h, _⟩
        · exact restEven_none R z hv hf ((span_told hv (.inl rfl)).1 hne) ((span_told hv (.inr rfl)).1 hne) hg w
        · exact (h hne).elim
      · exact (h hne).elim
    · obtain ⟨d, P, al, ah, bl, bh, k, p, hf, ha, hb, hg, hE⟩ := even_facts hv hne
      cases h : rightB R (bitsL R.hours.toNat z)
      · exact restEven_some0 R z hz0 hv d P al ah bl bh k p hf ha hb hg hE _ rfl h w
      · exact restEven_some1 R z hz0 hv d P al ah bl bh k p hf ha hb hg hE _ rfl h w

end Go.Proofs.Ytkgdejhooghknaa
