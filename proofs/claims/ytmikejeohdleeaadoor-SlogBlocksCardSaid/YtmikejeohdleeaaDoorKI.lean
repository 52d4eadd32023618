/- Two blocks that the law packs and unpacks. -/
import Derived.Test.YtmikejeohdleeaaDoorKH
set_option linter.unusedVariables false
set_option linter.unusedSimpArgs false
namespace Go.Vc.Sb
open Go.Proofs Go.IntWalk
set_option maxRecDepth 100000
def v0 : Ver := ⟨3, 0, false, ⟨#[97]⟩, 0, 9, 0, false, 0⟩
def sb : List Int := packF v0 []
theorem sb_seq : numF sb 4 2 = 9 := by decide +kernel
theorem sb_size : numF sb 12 2 = 0 := by decide +kernel
theorem sb_whole : wholeF sb 78 = true := by decide +kernel
theorem sb_one : sb.getD 1 0 = 0 := by decide +kernel
theorem sb_ver : verOf sb = v0 := by
  have e1 : IntKind.i64.wrap (sb.getD 2 0) = 3 := by decide +kernel
  have e2 : IntKind.i64.wrap (sb.getD 3 0) = 0 := by decide +kernel
  have e3 : decide (0 < bits .and .u8 (sb.getD 1 0) 1) = false := by decide +kernel
  have e4 : strOf (trimF ((sb.drop 14).take 12)) = ⟨#[97]⟩ := by
    have h : trimF ((sb.drop 14).take 12) = [97] := by decide +kernel
    rw [h]
    rfl
  have e5 : numF sb 8 4 = 0 := by decide +kernel
  have e6 : numF sb 6 2 = 0 := by decide +kernel
  have e7 : decide (0 < bits .and .u8 (sb.getD 1 0) 2) = false := by decide +kernel
  unfold verOf v0
  rw [e1, e2, e3, e4, e5, sb_seq, e6, e7, sb_size]
def f0 : List Int := ((((zeros 64 (0 : Int)).set 0 80).set 1 (IntKind.u8.wrap 3)).set 2 (IntKind.u8.wrap 0)).set 3 (IntKind.u8.wrap 0)
def fb : List Int := closedF (putF (putF f0 4 9 2) 6 0 2)
theorem fb_len : fb.length = 64 := by decide +kernel
theorem fb_crc : numF fb 60 4 = crcF (fb.take 60) := by decide +kernel
theorem fb_seq : numF fb 4 2 = 9 := by decide +kernel
theorem fb_prev : numF fb 6 2 = 0 := by decide +kernel
theorem fb_0 : fb.getD 0 0 = 80 := by decide +kernel
theorem fb_1 : fb.getD 1 0 = 3 := by decide +kernel
theorem fb_2 : fb.getD 2 0 = 0 := by decide +kernel
theorem fb_3 : fb.getD 3 0 = 0 := by decide +kernel
end Go.Vc.Sb
