/-
  No cell of these rows narrows 'for every input' (looked for: loops, veiled, ifaces, maps, wideKeys, modest, calm, conditions, laid).
  DERIVED. THE GIVEN ROWS OF THIS SEAT. 10 by the template 'for every input the law returns true; each argument reads behind the call as it read before'; 0 by the template 'total and deterministic' (their statements: YtmikejeohdleeaaTotals.lean).
  GIVEN WITH THE SEED: the statements are not yours to turn. If you find one false, say at which input.
  Laid BY PROGRAM, IN A SANDBOX (cutbox-rows.mjs): the forced cells as the released guide's own fill.sh prints them over the translation a71e1bf883b53854… (all of the seat's roots in one cut). By AI agents, Wed Nov 11 2026. No macro, syntax, notation, axiom, sorry.
-/
import Derived.Test.YtmikejeohdleeaaChecked
import GoSem.Claim
import GoSem.ClaimJoined
import GoSem.ClaimMapViews
import Derived.JoinedTies
import Derived.KernelRfl
namespace Go.Proofs.Ytmikejeohdleeaa
/- THE CELL 'sum', in the pinned program and in every row, IS THE sha256 OF THE DUMP (.gsa) THAT YtmikejeohdleeaaProg.lean LOADS. Nothing in Lean hashes anything: it is a label: what it is worth is what the hold of that sum in a sandbox is worth. -/
noncomputable def Try.pinned : Pinned := { name := "ytmikejeohdleeaa", sum := "a71e1bf883b538544b280c99934448e77912687b4db2c74a505b929e4af26aa7", checked := Try.checked }
namespace Rows
def none {H : Type} : Left H := { results := [], args := [] }

/-- 'wracklaw3.StatLogs': WHATEVER THE INPUT: true; the input reads as it did. -/
def statLogsSpec : ChangeSpec := { name := "statLogs", fn := fun _ => fun
  | [d] => { results := [.lit (.bool true)], args := [d] }
  | _ => none }
def statLogsRow : OpenClaim := { program := "ytmikejeohdleeaa", sum := "a71e1bf883b538544b280c99934448e77912687b4db2c74a505b929e4af26aa7", func := "wrackline/wracklaw3.StatLogs", spec := "statLogs", apart := false }
def StatLogsSaid : Prop := statLogsRow.holds Try.pinned (OpenSpec.ofChange statLogsSpec)

/-- ITS FALSE NEIGHBOUR: 'it returns false'. Refute it at one input. -/
def statLogsWrong : ChangeSpec := { name := "statLogs", fn := fun _ => fun
  | [d] => { results := [.lit (.bool false)], args := [d] }
  | _ => none }
def StatLogsWrongFalsely : Prop := statLogsRow.holds Try.pinned (OpenSpec.ofChange statLogsWrong)

/-- 'wracklaw3.GramStands': WHATEVER THE INPUT: true; the input reads as it did. -/
def gramStandsSpec : ChangeSpec := { name := "gramStands", fn := fun _ => fun
  | [d1, d2] => { results := [.lit (.bool true)], args := [d1, d2] }
  | _ => none }
def gramStandsRow : OpenClaim := { program := "ytmikejeohdleeaa", sum := "a71e1bf883b538544b280c99934448e77912687b4db2c74a505b929e4af26aa7", func := "wrackline/wracklaw3.GramStands", spec := "gramStands", apart := false }
def GramStandsSaid : Prop := gramStandsRow.holds Try.pinned (OpenSpec.ofChange gramStandsSpec)

/-- ITS FALSE NEIGHBOUR: 'it returns false'. Refute it at one input. -/
def gramStandsWrong : ChangeSpec := { name := "gramStands", fn := fun _ => fun
  | [d1, d2] => { results := [.lit (.bool false)], args := [d1, d2] }
  | _ => none }
def GramStandsWrongFalsely : Prop := gramStandsRow.holds Try.pinned (OpenSpec.ofChange gramStandsWrong)

/-- 'wracklaw3.StatCuts': WHATEVER THE INPUT: true; the input reads as it did. -/
def statCutsSpec : ChangeSpec := { name := "statCuts", fn := fun _ => fun
  | [d1, d2, d3] => { results := [.lit (.bool true)], args := [d1, d2, d3] }
  | _ => none }
def statCutsRow : OpenClaim := { program := "ytmikejeohdleeaa", sum := "a71e1bf883b538544b280c99934448e77912687b4db2c74a505b929e4af26aa7", func := "wrackline/wracklaw3.StatCuts", spec := "statCuts", inPlace := ["internal/bytealg.IndexByte"], apart := false }
def StatCutsSaid : Prop := statCutsRow.holds Try.pinned (OpenSpec.ofChange statCutsSpec)

/-- ITS FALSE NEIGHBOUR: 'it returns false'. Refute it at one input. -/
def statCutsWrong : ChangeSpec := { name := "statCuts", fn := fun _ => fun
  | [d1, d2, d3] => { results := [.lit (.bool false)], args := [d1, d2, d3] }
  | _ => none }
def StatCutsWrongFalsely : Prop := statCutsRow.holds Try.pinned (OpenSpec.ofChange statCutsWrong)

/-- 'wracklaw3.PieceWeights': WHATEVER THE INPUT: true; the input reads as it did. -/
def pieceWeightsSpec : ChangeSpec := { name := "pieceWeights", fn := fun _ => fun
  | [d1, d2] => { results := [.lit (.bool true)], args := [d1, d2] }
  | _ => none }
def pieceWeightsRow : OpenClaim := { program := "ytmikejeohdleeaa", sum := "a71e1bf883b538544b280c99934448e77912687b4db2c74a505b929e4af26aa7", func := "wrackline/wracklaw3.PieceWeights", spec := "pieceWeights", unfollowed := true, recurses := true, apart := false }
def PieceWeightsSaid : Prop := pieceWeightsRow.holds Try.pinned (OpenSpec.ofChange pieceWeightsSpec)

/-- ITS FALSE NEIGHBOUR: 'it returns false'. Refute it at one input. -/
def pieceWeightsWrong : ChangeSpec := { name := "pieceWeights", fn := fun _ => fun
  | [d1, d2] => { results := [.lit (.bool false)], args := [d1, d2] }
  | _ => none }
def PieceWeightsWrongFalsely : Prop := pieceWeightsRow.holds Try.pinned (OpenSpec.ofChange pieceWeightsWrong)

/-- 'wracklaw3.PieceFits': WHATEVER THE INPUT: true; the input reads as it did. -/
def pieceFitsSpec : ChangeSpec := { name := "pieceFits", fn := fun _ => fun
  | [d1, d2, d3] => { results := [.lit (.bool true)], args := [d1, d2, d3] }
  | _ => none }
def pieceFitsRow : OpenClaim := { program := "ytmikejeohdleeaa", sum := "a71e1bf883b538544b280c99934448e77912687b4db2c74a505b929e4af26aa7", func := "wrackline/wracklaw3.PieceFits", spec := "pieceFits", unfollowed := true, recurses := true, apart := false }
def PieceFitsSaid : Prop := pieceFitsRow.holds Try.pinned (OpenSpec.ofChange pieceFitsSpec)

/-- ITS FALSE NEIGHBOUR: 'it returns false'. Refute it at one input. -/
def pieceFitsWrong : ChangeSpec := { name := "pieceFits", fn := fun _ => fun
  | [d1, d2, d3] => { results := [.lit (.bool false)], args := [d1, d2, d3] }
  | _ => none }
def PieceFitsWrongFalsely : Prop := pieceFitsRow.holds Try.pinned (OpenSpec.ofChange pieceFitsWrong)

/-- 'wracklaw3.PieceBest': WHATEVER THE INPUT: true; the input reads as it did. -/
def pieceBestSpec : ChangeSpec := { name := "pieceBest", fn := fun _ => fun
  | [d] => { results := [.lit (.bool true)], args := [d] }
  | _ => none }
def pieceBestRow : OpenClaim := { program := "ytmikejeohdleeaa", sum := "a71e1bf883b538544b280c99934448e77912687b4db2c74a505b929e4af26aa7", func := "wrackline/wracklaw3.PieceBest", spec := "pieceBest", unfollowed := true, recurses := true, apart := false }
def PieceBestSaid : Prop := pieceBestRow.holds Try.pinned (OpenSpec.ofChange pieceBestSpec)

/-- ITS FALSE NEIGHBOUR: 'it returns false'. Refute it at one input. -/
def pieceBestWrong : ChangeSpec := { name := "pieceBest", fn := fun _ => fun
  | [d] => { results := [.lit (.bool false)], args := [d] }
  | _ => none }
def PieceBestWrongFalsely : Prop := pieceBestRow.holds Try.pinned (OpenSpec.ofChange pieceBestWrong)

/-- 'wracklaw3.PieceBounds': WHATEVER THE INPUT: true; the input reads as it did. -/
def pieceBoundsSpec : ChangeSpec := { name := "pieceBounds", fn := fun _ => fun
  | [d1, d2] => { results := [.lit (.bool true)], args := [d1, d2] }
  | _ => none }
def pieceBoundsRow : OpenClaim := { program := "ytmikejeohdleeaa", sum := "a71e1bf883b538544b280c99934448e77912687b4db2c74a505b929e4af26aa7", func := "wrackline/wracklaw3.PieceBounds", spec := "pieceBounds", unfollowed := true, recurses := true, apart := false }
def PieceBoundsSaid : Prop := pieceBoundsRow.holds Try.pinned (OpenSpec.ofChange pieceBoundsSpec)

/-- ITS FALSE NEIGHBOUR: 'it returns false'. Refute it at one input. -/
def pieceBoundsWrong : ChangeSpec := { name := "pieceBounds", fn := fun _ => fun
  | [d1, d2] => { results := [.lit (.bool false)], args := [d1, d2] }
  | _ => none }
def PieceBoundsWrongFalsely : Prop := pieceBoundsRow.holds Try.pinned (OpenSpec.ofChange pieceBoundsWrong)

/-- 'wracklaw3.GramShows': WHATEVER THE INPUT: true; the input reads as it did. -/
def gramShowsSpec : ChangeSpec := { name := "gramShows", fn := fun _ => fun
  | [d1, d2] => { results := [.lit (.bool true)], args := [d1, d2] }
  | _ => none }
def gramShowsRow : OpenClaim := { program := "ytmikejeohdleeaa", sum := "a71e1bf883b538544b280c99934448e77912687b4db2c74a505b929e4af26aa7", func := "wrackline/wracklaw3.GramShows", spec := "gramShows", apart := false }
def GramShowsSaid : Prop := gramShowsRow.holds Try.pinned (OpenSpec.ofChange gramShowsSpec)

/-- ITS FALSE NEIGHBOUR: 'it returns false'. Refute it at one input. -/
def gramShowsWrong : ChangeSpec := { name := "gramShows", fn := fun _ => fun
  | [d1, d2] => { results := [.lit (.bool false)], args := [d1, d2] }
  | _ => none }
def GramShowsWrongFalsely : Prop := gramShowsRow.holds Try.pinned (OpenSpec.ofChange gramShowsWrong)

/-- 'wracklaw3.StatCounts': WHATEVER THE INPUT: true; the input reads as it did. -/
def statCountsSpec : ChangeSpec := { name := "statCounts", fn := fun _ => fun
  | [d] => { results := [.lit (.bool true)], args := [d] }
  | _ => none }
def statCountsRow : OpenClaim := { program := "ytmikejeohdleeaa", sum := "a71e1bf883b538544b280c99934448e77912687b4db2c74a505b929e4af26aa7", func := "wrackline/wracklaw3.StatCounts", spec := "statCounts", inPlace := ["internal/bytealg.Count", "internal/bytealg.IndexByte", "internal/bytealg.Index", "internal/bytealg.CountString", "internal/bytealg.IndexByteString", "internal/bytealg.IndexString"], named := ["internal/bytealg.MaxLen"], apart := false }
def StatCountsSaid : Prop := statCountsRow.holds Try.pinned (OpenSpec.ofChange statCountsSpec)

/-- ITS FALSE NEIGHBOUR: 'it returns false'. Refute it at one input. -/
def statCountsWrong : ChangeSpec := { name := "statCounts", fn := fun _ => fun
  | [d] => { results := [.lit (.bool false)], args := [d] }
  | _ => none }
def StatCountsWrongFalsely : Prop := statCountsRow.holds Try.pinned (OpenSpec.ofChange statCountsWrong)

/-- 'wracklaw3.NearCommons': WHATEVER THE INPUT: true; the input reads as it did. -/
def nearCommonsSpec : ChangeSpec := { name := "nearCommons", fn := fun _ => fun
  | [d1, d2, d3, d4] => { results := [.lit (.bool true)], args := [d1, d2, d3, d4] }
  | _ => none }
def nearCommonsRow : OpenClaim := { program := "ytmikejeohdleeaa", sum := "a71e1bf883b538544b280c99934448e77912687b4db2c74a505b929e4af26aa7", func := "wrackline/wracklaw3.NearCommons", spec := "nearCommons", recurses := true, apart := false }
def NearCommonsSaid : Prop := nearCommonsRow.holds Try.pinned (OpenSpec.ofChange nearCommonsSpec)

/-- ITS FALSE NEIGHBOUR: 'it returns false'. Refute it at one input. -/
def nearCommonsWrong : ChangeSpec := { name := "nearCommons", fn := fun _ => fun
  | [d1, d2, d3, d4] => { results := [.lit (.bool false)], args := [d1, d2, d3, d4] }
  | _ => none }
def NearCommonsWrongFalsely : Prop := nearCommonsRow.holds Try.pinned (OpenSpec.ofChange nearCommonsWrong)

/- THE SECOND FORM. 'bulk': how many values and letters a reading holds, each counted each time it is reached (what is shared counts as often as it is met; a slice's spare places count too). A statement '..UptoSaid' is the law's where the arguments, and the package variables that the reading takes, are together of bulk at most 1048576: NARROWER than '..Said'. Prove '..Said' where nothing that the law and all that it calls make is longer than what came in: it says more and counts as full. Else prove '..UptoSaid'. A law counts once. -/
mutual
def uptoBulk {H : Type} : DataW H → Nat
  | .lit (.string bytes) => bytes.length + 1
  | .lit _ => 1
  | .nil => 1
  | .ptr d => uptoBulk d + 1
  | .slice elems spare => uptoBulkAll elems + uptoBulkAll spare + 1
  | .agg parts => uptoBulkAll parts + 1
  | .iface _ d => uptoBulk d + 1
  | .map entries => uptoBulkEntries entries + 1
  | .held _ => 1
def uptoBulkAll {H : Type} : List (DataW H) → Nat
  | [] => 0
  | d :: r => uptoBulk d + uptoBulkAll r
def uptoBulkEntries {H : Type} : List (Lit × DataW H) → Nat
  | [] => 0
  | x :: r => uptoBulkEntry x + uptoBulkEntries r
def uptoBulkEntry {H : Type} : Lit × DataW H → Nat
  | (.string bytes, d) => bytes.length + uptoBulk d + 1
  | (_, d) => uptoBulk d + 1
 end
def uptoSmall : (H : Type) → List (DataW H) → Bool := fun _ ds => decide (uptoBulkAll ds ≤ 1048576)
def OpenSpec.upto (s : _root_.Go.ChangeSpec) : _root_.Go.OpenSpec := { _root_.Go.OpenSpec.ofChange s with cond := some uptoSmall }

/-- 'wracklaw3.StatLogs', WHERE WHAT IT READS IS OF BULK AT MOST 1048576: true; the input reads as it did. -/
def statLogsUptoRow : OpenClaim := { program := "ytmikejeohdleeaa", sum := "a71e1bf883b538544b280c99934448e77912687b4db2c74a505b929e4af26aa7", func := "wrackline/wracklaw3.StatLogs", spec := "statLogs", apart := false, narrowed := true }
def StatLogsUptoSaid : Prop := statLogsUptoRow.holds Try.pinned (OpenSpec.upto statLogsSpec)

/-- 'wracklaw3.GramStands', WHERE WHAT IT READS IS OF BULK AT MOST 1048576: true; the input reads as it did. -/
def gramStandsUptoRow : OpenClaim := { program := "ytmikejeohdleeaa", sum := "a71e1bf883b538544b280c99934448e77912687b4db2c74a505b929e4af26aa7", func := "wrackline/wracklaw3.GramStands", spec := "gramStands", apart := false, narrowed := true }
def GramStandsUptoSaid : Prop := gramStandsUptoRow.holds Try.pinned (OpenSpec.upto gramStandsSpec)

/-- 'wracklaw3.StatCuts', WHERE WHAT IT READS IS OF BULK AT MOST 1048576: true; the input reads as it did. -/
def statCutsUptoRow : OpenClaim := { program := "ytmikejeohdleeaa", sum := "a71e1bf883b538544b280c99934448e77912687b4db2c74a505b929e4af26aa7", func := "wrackline/wracklaw3.StatCuts", spec := "statCuts", inPlace := ["internal/bytealg.IndexByte"], apart := false, narrowed := true }
def StatCutsUptoSaid : Prop := statCutsUptoRow.holds Try.pinned (OpenSpec.upto statCutsSpec)

/-- 'wracklaw3.PieceWeights', WHERE WHAT IT READS IS OF BULK AT MOST 1048576: true; the input reads as it did. -/
def pieceWeightsUptoRow : OpenClaim := { program := "ytmikejeohdleeaa", sum := "a71e1bf883b538544b280c99934448e77912687b4db2c74a505b929e4af26aa7", func := "wrackline/wracklaw3.PieceWeights", spec := "pieceWeights", unfollowed := true, recurses := true, apart := false, narrowed := true }
def PieceWeightsUptoSaid : Prop := pieceWeightsUptoRow.holds Try.pinned (OpenSpec.upto pieceWeightsSpec)

/-- 'wracklaw3.PieceFits', WHERE WHAT IT READS IS OF BULK AT MOST 1048576: true; the input reads as it did. -/
def pieceFitsUptoRow : OpenClaim := { program := "ytmikejeohdleeaa", sum := "a71e1bf883b538544b280c99934448e77912687b4db2c74a505b929e4af26aa7", func := "wrackline/wracklaw3.PieceFits", spec := "pieceFits", unfollowed := true, recurses := true, apart := false, narrowed := true }
def PieceFitsUptoSaid : Prop := pieceFitsUptoRow.holds Try.pinned (OpenSpec.upto pieceFitsSpec)

/-- 'wracklaw3.PieceBest', WHERE WHAT IT READS IS OF BULK AT MOST 1048576: true; the input reads as it did. -/
def pieceBestUptoRow : OpenClaim := { program := "ytmikejeohdleeaa", sum := "a71e1bf883b538544b280c99934448e77912687b4db2c74a505b929e4af26aa7", func := "wrackline/wracklaw3.PieceBest", spec := "pieceBest", unfollowed := true, recurses := true, apart := false, narrowed := true }
def PieceBestUptoSaid : Prop := pieceBestUptoRow.holds Try.pinned (OpenSpec.upto pieceBestSpec)

/-- 'wracklaw3.PieceBounds', WHERE WHAT IT READS IS OF BULK AT MOST 1048576: true; the input reads as it did. -/
def pieceBoundsUptoRow : OpenClaim := { program := "ytmikejeohdleeaa", sum := "a71e1bf883b538544b280c99934448e77912687b4db2c74a505b929e4af26aa7", func := "wrackline/wracklaw3.PieceBounds", spec := "pieceBounds", unfollowed := true, recurses := true, apart := false, narrowed := true }
def PieceBoundsUptoSaid : Prop := pieceBoundsUptoRow.holds Try.pinned (OpenSpec.upto pieceBoundsSpec)

/-- 'wracklaw3.GramShows', WHERE WHAT IT READS IS OF BULK AT MOST 1048576: true; the input reads as it did. -/
def gramShowsUptoRow : OpenClaim := { program := "ytmikejeohdleeaa", sum := "a71e1bf883b538544b280c99934448e77912687b4db2c74a505b929e4af26aa7", func := "wrackline/wracklaw3.GramShows", spec := "gramShows", apart := false, narrowed := true }
def GramShowsUptoSaid : Prop := gramShowsUptoRow.holds Try.pinned (OpenSpec.upto gramShowsSpec)

/-- 'wracklaw3.StatCounts', WHERE WHAT IT READS IS OF BULK AT MOST 1048576: true; the input reads as it did. -/
def statCountsUptoRow : OpenClaim := { program := "ytmikejeohdleeaa", sum := "a71e1bf883b538544b280c99934448e77912687b4db2c74a505b929e4af26aa7", func := "wrackline/wracklaw3.StatCounts", spec := "statCounts", inPlace := ["internal/bytealg.Count", "internal/bytealg.IndexByte", "internal/bytealg.Index", "internal/bytealg.CountString", "internal/bytealg.IndexByteString", "internal/bytealg.IndexString"], named := ["internal/bytealg.MaxLen"], apart := false, narrowed := true }
def StatCountsUptoSaid : Prop := statCountsUptoRow.holds Try.pinned (OpenSpec.upto statCountsSpec)

/-- 'wracklaw3.NearCommons', WHERE WHAT IT READS IS OF BULK AT MOST 1048576: true; the input reads as it did. -/
def nearCommonsUptoRow : OpenClaim := { program := "ytmikejeohdleeaa", sum := "a71e1bf883b538544b280c99934448e77912687b4db2c74a505b929e4af26aa7", func := "wrackline/wracklaw3.NearCommons", spec := "nearCommons", recurses := true, apart := false, narrowed := true }
def NearCommonsUptoSaid : Prop := nearCommonsUptoRow.holds Try.pinned (OpenSpec.upto nearCommonsSpec)

end Rows
end Go.Proofs.Ytmikejeohdleeaa
