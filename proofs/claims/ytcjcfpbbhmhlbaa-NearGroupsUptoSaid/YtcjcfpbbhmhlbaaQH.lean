/- Pairs, Groups and Most are as specified. -/
import Derived.Test.YtcjcfpbbhmhlbaaQF
import Derived.Test.YtcjcfpbbhmhlbaaQG
set_option linter.unusedVariables false
set_option linter.unusedSimpArgs false
namespace Go.Vc.Ng
open Go.Proofs Go.IntWalk Go.Vc.Ne
theorem nearGroups_spec (ds : List (List Int)) (num den : Int) (text : List Int) (hl : ds.length ≤ 1048576) (hb : ∀ d ∈ ds, d.length ≤ 1048576) (ht : text.length ≤ 1048576) : ACall Try.prog 4 [.c (rBB ds), .c (.int .i64 num), .c (.int .i64 den), .c (rB text)] [] (fun r os => r = .c (.bool true) ∧ os = []) := by
  by_cases c60 : 60 < ds.length
  · exact groups_many ds num den text hl hb ht c60
  cases cb : big ds with
  | true => exact groups_big ds num den text hl hb ht c60 cb
  | false =>
    by_cases ca : den < 1 ∨ 1000 < den ∨ num < 0 ∨ den < num
    · exact groups_arg ds num den text hl hb ht c60 cb ca
    · refine groups_right ds num den text hl hb ht ?_
      unfold chk
      rw [if_neg, if_neg ca]
      rintro (h | h)
      · exact c60 h
      · rw [cb] at h; cases h
end Go.Vc.Ng
