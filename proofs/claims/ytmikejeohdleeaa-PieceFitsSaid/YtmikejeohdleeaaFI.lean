/- Fit, Overlaps and Join are what the reference says. -/
import Derived.Test.YtmikejeohdleeaaFE
import Derived.Test.YtmikejeohdleeaaFF
import Derived.Test.YtmikejeohdleeaaFG
import Derived.Test.YtmikejeohdleeaaFH
set_option linter.unusedVariables false
set_option linter.unusedSimpArgs false
namespace Go.Vc.Pc
open Go.Proofs Go.IntWalk
set_option maxRecDepth 100000
theorem pieceFits_spec (ls : List (List Int)) (o : List Int) (most : Int) (h1 : ls.length < 9223372036854775807) (h2 : ∀ r ∈ ls, r.length ≤ 140737488351232) (h3 : o.length < 9223372036854775807) (h8 : ∀ r ∈ ls, U8s r) :
    ACall Try.prog 7 [.c (rBB ls), .c (rI o), .c (.int .i64 most)] [] (fun r os => r = .c (.bool true) ∧ os = []) := by
  by_cases h0 : ovErr ls most = 0
  · exact fits_a ls o most h1 h2 h3 h8 h0
  · have hE : (12 < (ls.length : Int) ∧ ovErr ls most = 2) ∨ ((ls.length : Int) ≤ 12 ∧ (most < 1 ∨ 64 < most) ∧ ovErr ls most = 1) := by
      unfold ovErr at h0 ⊢
      split at h0
      · rename_i h
        rw [if_pos h]
        exact .inl ⟨by omega, rfl⟩
      · rename_i h
        split at h0
        · rename_i h'
          rw [if_neg h, if_pos h']
          exact .inr ⟨by omega, by omega, rfl⟩
        · exact absurd rfl h0
    rcases hE with ⟨c1, hE⟩ | ⟨c1, c2, hE⟩
    · exact fits_b ls o most h1 h2 h3 h8 c1 hE
    · by_cases z : (0 : Int) = (ls.length : Int)
      · exact fits_c ls o most h1 h2 h3 h8 (by omega) c2 hE z
      · exact fits_d ls o most h1 h2 h3 h8 (by omega) c2 hE z
end Go.Vc.Pc
