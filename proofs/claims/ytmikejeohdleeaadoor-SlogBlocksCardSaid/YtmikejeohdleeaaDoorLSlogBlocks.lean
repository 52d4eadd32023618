/- For all inputs the law SlogBlocks answers true; no conditions. -/
import Derived.Test.YtmikejeohdleeaaDoorRows
import Derived.Test.YtmikejeohdleeaaDoorKK
import Derived.Test.YtmikejeohdleeaaDoorV25
import Derived.WalkKit
import Derived.ProofKit
import Derived.OpenShut
import Derived.ShutString
import Derived.ChangeOld
import Derived.Below
import Derived.SizedLaws
import Derived.Test.YtmikejeohdleeaaDoorCards
import Derived.Test.YtmikejeohdleeaaDoorTie
import Derived.Deep.DeepHandedRow
import Derived.Lay
import Derived.MakeChecks
import Derived.JoinedCond
namespace Go.Proofs.YtmikejeohdleeaaDoor.slogBlocks
open Go.ChangeShapes Go.WideShapes Go.ChangeAt Go.RowKit
open Go.ChangeMaps (open_string shut_string)
set_option linter.unusedVariables false
set_option linter.unusedSimpArgs false
theorem own : ownKnob Tryd.prog.godebug = none := by kernel_rfl
theorem laidOut : laidOutB Tryd.prog = true := by kernel_rfl
theorem one_rv {W : World} {hs : Nat → Value} {E : Vc.Enc} {x : E.α} {v : Value} {d : Vc.DV} (hr : Vc.Reads W E x v.cells.toList) (he : E.enc x = [d]) (h : v.cells = #[v]) :
    Vc.RV W (fun _ => False) hs (.c (((E.enc x).map Vc.DV.ac).headD .junk)) v := by
  have h0 := Vc.Reads.one (h := h) hr he
  have h1 := (Vc.RCs_of_RD (hs := hs) (ds := [d]) (vs := [v]) rfl fun j d' v' hd hv => by
    match j, hd, hv with
    | 0, hd, hv => cases hd; cases hv; exact h0).2 0 _ _ rfl rfl
  rw [he]
  exact h1
def s0 : Vc.TS := (.list 5 1 1 (.int .u8))
theorem ok0 : Vc.TS.ok Vc.tab s0 22 := by simp [s0, Vc.TS.ok, Vc.TS.okF, Vc.TS.lenF, Vc.tab]
def s1 : Vc.TS := (.int .i64)
theorem ok1 : Vc.TS.ok Vc.tab s1 3 := by simp [s1, Vc.TS.ok, Vc.TS.okF, Vc.TS.lenF, Vc.tab]
def s2 : Vc.TS := (.int .i64)
theorem ok2 : Vc.TS.ok Vc.tab s2 3 := by simp [s2, Vc.TS.ok, Vc.TS.okF, Vc.TS.lenF, Vc.tab]
theorem user (x0 : List Int) (x1 x2 : Int) (w0 : s0.wf x0) (w1 : s1.wf x1) (w2 : s2.wf x2) : Vc.ACall Tryd.prog 3 [.c (((s0.en.enc x0).map Vc.DV.ac).headD .junk), .c (((s1.en.enc x1).map Vc.DV.ac).headD .junk), .c (((s2.en.enc x2).map Vc.DV.ac).headD .junk)] [] (fun r os => r = .c (.bool true) ∧ os = []) := by
  have w0' : x0.length * 1 ≤ 140737488351232 ∧ x0.length ≤ maxLen ∧ ∀ x ∈ x0, (Lit.int .u8 x).wf = true := w0
  have w1' : (Lit.int .i64 x1).wf = true := w1
  have w2' : (Lit.int .i64 x2).wf = true := w2
  obtain ⟨a1, -, a3⟩ := w0'
  have e1 : IntKind.u8.min = 0 := by decide
  have e2 : IntKind.u8.max = 255 := by decide
  have e3 : IntKind.i64.min = -9223372036854775808 := by decide
  have e4 : IntKind.i64.max = 9223372036854775807 := by decide
  simp only [Lit.wf, Bool.and_eq_true, decide_eq_true_eq] at w1' w2' a3
  exact Vc.Sb.slogBlocks_spec x0 x1 x2 (by omega) (fun x hx => by have := a3 x hx; omega) (by omega) (by omega) (by omega) (by omega)
/-- a world in which the tables hold what the row lists -/
noncomputable def laidWorld (os : Os) : World := World.laidAll Tryd.prog os Rows.slogBlocksRow.laid
theorem laid_met (os : Os) : laidMetH Tryd.prog Rows.slogBlocksRow.laid ((laidWorld os).forCall (fun _ _ => 0) ⟨#[], #[.slice none 0 0, .int .i64 0, .int .i64 0], []⟩).memory := by
  rw [MakeChecks.laidMetH_plain _ _ _ (by kernel_rfl)]
  exact laidMet_laidAll _ (by kernel_rfl) (by kernel_rfl)
theorem reads (os : Os) {H : Type} (enc : TypeId × Value → H) : ∃ places, DataW.whole enc Tryd.prog ((laidWorld os).forCall (fun _ _ => 0) ⟨#[], #[.slice none 0 0, .int .i64 0, .int .i64 0], []⟩).memory Tryd.f3.params.toList Rows.slogBlocksSpec.vars false (#[.slice none 0 0, .int .i64 0, .int .i64 0] : Array Value).toList 8 = some ([.nil, .lit (.int .i64 0), .lit (.int .i64 0)], [], places) :=
  ⟨[], by kernel_rfl⟩
set_option maxRecDepth 100000 in
theorem lifted (os : Os) (started : os.Started) (H : Type) (enc : TypeId × Value → H) (F : Stop.Interp) :
    ReturnsInHanded {} Tryd.checked os 3 .any ((OpenSpec.ofChange Rows.slogBlocksSpec).preRow enc Tryd.prog Tryd.f3 Rows.slogBlocksRow.domain false Rows.slogBlocksRow.laid) (((OpenSpec.ofChange Rows.slogBlocksSpec).at F).post enc Tryd.prog Tryd.f3 false true false false) := by
  obtain ⟨places, hx⟩ := reads os enc
  have hok : Input.okWideB Tryd.checked.prog ((laidWorld os).forCall (fun _ _ => 0) ⟨#[], #[.slice none 0 0, .int .i64 0, .int .i64 0], []⟩) 3 ⟨#[], #[.slice none 0 0, .int .i64 0, .int .i64 0], []⟩ = true := by kernel_rfl
  refine returnsInHanded_of_row (C := Tryd.checked) (s := OpenSpec.ofChange Rows.slogBlocksSpec) own started (by kernel_rfl) Tryd.func3
    ⟨laidWorld os, fun _ _ => 0, ⟨#[], #[.slice none 0 0, .int .i64 0, .int .i64 0], []⟩, World.laidAll_os _ _ _, World.shaped_of_ZipB (by kernel_rfl) (by kernel_rfl), (Input.okWide_of_okWideB (base := 0) hok).1, (Input.okWide_of_okWideB hok).2,
      OpenSpec.preRow_of_cond 8 hx (by kernel_rfl) (fun k hk => by cases hk) (by kernel_rfl) (laid_met os), by
        simp only [Assume.holds]
        exact ⟨by simp, by simp, (fun h => by cases h), by simp, by simp, by simp⟩⟩ ?_
  intro W base args ds gs before hval0 hW hcnd _ hsz0 _ _ _
  have hsz : (DataW.weightsEach Tryd.prog (Tryd.f3.params.toList ++ Rows.slogBlocksSpec.plain.varTypes Tryd.prog) (ds ++ gs)).all (· ≤ reachBytes) = true := hsz0
  have hval : ∀ (j : Nat) t v, Tryd.f3.params[j]? = some t → args[j]? = some v → Value.okWide Tryd.prog W .any base t v := hval0
  have hW' := hW
  obtain ⟨p, q, hA0, hV, rfl, hfz, hnd⟩ := hW
  have hA : DataW.TrodAll enc Tryd.prog W 0 (fun _ => true) true Tryd.f3.params.toList args.toList ds p := hA0
  rw [Tryd.params3] at hA hval hsz
  obtain ⟨v0, vs0, d0, ds0, p0, q0, hargs0, rfl, rfl, h0, r0⟩ := trodAll_cons hA
  obtain ⟨v1, vs1, d1, ds1, p1, q1, hargs1, rfl, rfl, h1, r1⟩ := trodAll_cons r0
  obtain ⟨v2, vs2, d2, ds2, p2, q2, hargs2, rfl, rfl, h2, r2⟩ := trodAll_cons r1
  obtain ⟨rfl, rfl, rfl⟩ := trodAll_nil r2
  subst hargs2
  subst hargs1
  obtain rfl : args = #[v0, v1, v2] := by cases args; simp_all
  obtain ⟨rfl, rfl⟩ := trodVars_none hV
  have k0 := h0
  have lt0 : ∀ x ∈ p0, x.block < W.heap.size := by obtain ⟨m, hm⟩ := k0; exact DataW.trod_lt m _ _ _ hm
  obtain ⟨x0, w0, g0, l0⟩ := Vc.open_arg Vc.tabOK s0 hsz (j := 0) (t := 22) rfl rfl ok0 h0
  obtain ⟨a0, n0, m0, rfl⟩ := okWide_slice Tryd.underlying22 (hval 0 22 v0 rfl rfl)
  have e0 := one_rv (hs := fun _ => .nilFunc) (x := x0) g0 rfl (by rfl)
  have k1 := h1
  have lt1 : ∀ x ∈ p1, x.block < W.heap.size := by obtain ⟨m, hm⟩ := k1; exact DataW.trod_lt m _ _ _ hm
  obtain ⟨x1, w1, g1, l1⟩ := Vc.open_arg Vc.tabOK s1 hsz (j := 1) (t := 3) rfl rfl ok1 h1
  obtain ⟨a1, rfl⟩ := okWide_int Tryd.underlying3 (hval 1 3 v1 rfl rfl)
  have e1 := one_rv (hs := fun _ => .nilFunc) (x := x1) g1 rfl (by rfl)
  have k2 := h2
  have lt2 : ∀ x ∈ p2, x.block < W.heap.size := by obtain ⟨m, hm⟩ := k2; exact DataW.trod_lt m _ _ _ hm
  obtain ⟨x2, w2, g2, l2⟩ := Vc.open_arg Vc.tabOK s2 hsz (j := 2) (t := 3) rfl rfl ok2 h2
  obtain ⟨a2, rfl⟩ := okWide_int Tryd.underlying3 (hval 2 3 v2 rfl rfl)
  have e2 := one_rv (hs := fun _ => .nilFunc) (x := x2) g2 rfl (by rfl)
  clear hA0 hval0 hsz0 hsz
  have hspec : Vc.ACall Tryd.prog 3 [.c (((s0.en.enc x0).map Vc.DV.ac).headD .junk), .c (((s1.en.enc x1).map Vc.DV.ac).headD .junk), .c (((s2.en.enc x2).map Vc.DV.ac).headD .junk)] [] (fun r os => r = .c (.bool true) ∧ os = []) := by
    exact user x0 x1 x2 w0 w1 w2
  have hc := Vc.ACall.top hspec Tryd.func3 (by rfl) (by rfl) (w := W) (vals := #[.slice a0 n0 m0, .int .i64 a1, .int .i64 a2]) rfl (fun i x v hx hv => by
    match i, hx, hv with
    | 0, hx, hv => simp only [List.getElem?_cons_succ, List.getElem?_cons_zero, Option.some.injEq] at hx; have hv : some _ = some v := hv; simp only [Option.some.injEq] at hv; subst hx; subst hv; exact e0
    | 1, hx, hv => simp only [List.getElem?_cons_succ, List.getElem?_cons_zero, Option.some.injEq] at hx; have hv : some _ = some v := hv; simp only [Option.some.injEq] at hv; subst hx; subst hv; exact e1
    | 2, hx, hv => simp only [List.getElem?_cons_succ, List.getElem?_cons_zero, Option.some.injEq] at hx; have hv : some _ = some v := hv; simp only [Option.some.injEq] at hv; subst hx; subst hv; exact e2
    | i + 3, hx, hv => simp at hx)
  refine hc.mono fun e W' ⟨v, he, bel, r, os', hs', ⟨hr, ho⟩, hv, _⟩ => ?_
  subst hr he
  have hv' : v = .bool true := hv
  subst hv'
  exact ⟨_, rfl, _, _, _, [], _, [], hW', trodAll_mk1 (shut_bool Tryd.underlying4 _), (trodAll_cons_mk (Below.trod laidOut (by kernel_rfl) (of_decide_eq_true (by kernel_rfl)) k0 bel lt0) (trodAll_cons_mk (Below.trod laidOut (by kernel_rfl) (of_decide_eq_true (by kernel_rfl)) k1 bel lt1) (trodAll_cons_mk (Below.trod laidOut (by kernel_rfl) (of_decide_eq_true (by kernel_rfl)) k2 bel lt2) trodAll_mk0))), rfl, bel.frame _, fun h => by cases h⟩
theorem said : Rows.SlogBlocksSaid :=
  OpenClaim.holds_of_cond 3 Tryd.f3 rfl rfl rfl rfl rfl rfl rfl ⟨rfl, rfl, rfl, rfl, rfl⟩ rfl rfl rfl rfl rfl (by kernel_rfl) Tryd.func3 (by kernel_rfl)
    (of_decide_eq_true (by kernel_rfl)) (by unfold Func.isWrapper; first | (rw [if_pos (by decide +kernel)]; kernel_rfl) | (rw [if_neg (by decide +kernel)]; exact ⟨rfl, rfl⟩))
    (fun os started H enc _ F => by rw [OpenClaim.pre_eq_preRow]; exact lifted os started H enc F)
theorem plain (f : FuncId) (fn : Func) (hf : Tryd.pinned.checked.prog.funcNamed "wrackline/wracklaw3.SlogBlocks" = some f) (hfn : Tryd.pinned.checked.prog.funcs[f]? = some fn) :
    false = Tryd.pinned.checked.prog.looks [] ∧ ∀ (j : Nat) t, fn.params[j]? = some t → Tryd.pinned.checked.prog.wantsStandIn t = false := by
  obtain rfl : f = 3 := Option.some.inj ((show Tryd.prog.funcNamed "wrackline/wracklaw3.SlogBlocks" = some 3 by kernel_rfl).symm.trans hf) |>.symm
  obtain rfl : fn = Tryd.f3 := (Option.some.inj (Tryd.func3.symm.trans hfn)).symm
  refine ⟨by kernel_rfl, fun j t ht => ?_⟩
  rw [Tryd.params3] at ht
  have hm : t ∈ ([22, 3] : List TypeId) := by
    have h := Array.mem_of_getElem? ht
    simpa using h
  have hall : (([22, 3] : List TypeId).all fun u => !Tryd.prog.wantsStandIn u) = true := by kernel_rfl
  exact (show Tryd.prog.wantsStandIn t = false by simpa using List.all_eq_true.1 hall t hm)
theorem card : Rows.SlogBlocksCardSaid :=
  Claim7.holds_tied_plain_at .later [] _ _ _ _ said (fun _ h => by cases h) (by kernel_rfl) (fun _ h => by cases h) slogBlocks_row_tie rfl ⟨rfl, rfl⟩ (by kernel_rfl) rfl plain (by kernel_rfl)
end Go.Proofs.YtmikejeohdleeaaDoor.slogBlocks
namespace Go.Proofs.YtmikejeohdleeaaDoor
/-- The card, under a short name, for the claim. -/
theorem slogBlocks_holds : Rows.SlogBlocksCardSaid := slogBlocks.card
end Go.Proofs.YtmikejeohdleeaaDoor
