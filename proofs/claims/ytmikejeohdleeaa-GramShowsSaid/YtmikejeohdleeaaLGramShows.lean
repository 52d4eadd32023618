/- For all inputs the law GramShows answers true; no conditions. -/
import Derived.Test.YtmikejeohdleeaaRows
import Derived.Test.YtmikejeohdleeaaHJ
import Derived.Test.YtmikejeohdleeaaV25
import Derived.WalkKit
import Derived.ProofKit
import Derived.OpenShut
import Derived.ShutString
import Derived.ChangeOld
import Derived.Below
import Derived.SizedLaws
namespace Go.Proofs.Ytmikejeohdleeaa.gramShows
open Go.ChangeShapes Go.WideShapes Go.ChangeAt Go.RowKit
open Go.ChangeMaps (open_string shut_string)
set_option linter.unusedVariables false
set_option linter.unusedSimpArgs false
theorem own : ownKnob Try.prog.godebug = none := by kernel_rfl
theorem laidOut : laidOutB Try.prog = true := by kernel_rfl
theorem one_rv {W : World} {hs : Nat → Value} {E : Vc.Enc} {x : E.α} {v : Value} {d : Vc.DV} (hr : Vc.Reads W E x v.cells.toList) (he : E.enc x = [d]) (h : v.cells = #[v]) :
    Vc.RV W (fun _ => False) hs (.c (((E.enc x).map Vc.DV.ac).headD .junk)) v := by
  have h0 := Vc.Reads.one (h := h) hr he
  have h1 := (Vc.RCs_of_RD (hs := hs) (ds := [d]) (vs := [v]) rfl fun j d' v' hd hv => by
    match j, hd, hv with
    | 0, hd, hv => cases hd; cases hv; exact h0).2 0 _ _ rfl rfl
  rw [he]
  exact h1
def s0 : Vc.TS := (.struct (.fcons 3 (.int .i64) (.fcons 25 (.list 105 4 24 (.struct (.fcons 3 (.int .i64) (.fcons 3 (.int .i64) (.fcons 5 (.int .u8) (.flast 5 (.int .u8))))))) (.flast 26 (.list 3 1 8 (.int .i64))))))
theorem ok0 : Vc.TS.ok Vc.tab s0 28 := by simp [s0, Vc.TS.ok, Vc.TS.okF, Vc.TS.lenF, Vc.tab]
def s1 : Vc.TS := (.list 5 1 1 (.int .u8))
theorem ok1 : Vc.TS.ok Vc.tab s1 29 := by simp [s1, Vc.TS.ok, Vc.TS.okF, Vc.TS.lenF, Vc.tab]
theorem user (x0 : Int × List (Int × Int × Int × Int) × List Int) (x1 : List Int) (w0 : s0.wf x0) (w1 : s1.wf x1) : Vc.ACall Try.prog 10 [.agg ((s0.en.enc x0).map Vc.DV.ac), .c (((s1.en.enc x1).map Vc.DV.ac).headD .junk)] [] (fun r os => r = .c (.bool true) ∧ os = []) := by
  have w0' : (Lit.int .i64 x0.1).wf = true ∧ (x0.2.1.length * 24 ≤ 140737488351232 ∧ x0.2.1.length ≤ maxLen ∧ ∀ x ∈ x0.2.1, (Lit.int .i64 x.1).wf = true ∧ (Lit.int .i64 x.2.1).wf = true ∧ (Lit.int .u8 x.2.2.1).wf = true ∧ (Lit.int .u8 x.2.2.2).wf = true) ∧ (x0.2.2.length * 8 ≤ 140737488351232 ∧ x0.2.2.length ≤ maxLen ∧ ∀ x ∈ x0.2.2, (Lit.int .i64 x).wf = true) := w0
  have w1' : x1.length * 1 ≤ 140737488351232 ∧ x1.length ≤ maxLen ∧ ∀ x ∈ x1, (Lit.int .u8 x).wf = true := w1
  obtain ⟨-, ⟨a1, -, a3⟩, ⟨b1, -, -⟩⟩ := w0'
  obtain ⟨c1, -, c3⟩ := w1'
  have e1 : IntKind.u8.min = 0 := by decide
  have e2 : IntKind.u8.max = 255 := by decide
  exact Vc.gramShows_spec x0.1 x0.2.1 x0.2.2 x1 a1 (by omega) (by omega)
    (fun p hp => by
      have h := a3 p hp
      simp only [Lit.wf, Bool.and_eq_true, decide_eq_true_eq] at h
      omega)
    (fun x hx => by
      have h := c3 x hx
      simp only [Lit.wf, Bool.and_eq_true, decide_eq_true_eq] at h
      omega)
set_option maxRecDepth 100000 in
theorem lifted (os : Os) (started : os.Started) (H : Type) (enc : TypeId × Value → H) :
    ReturnsInHanded {} Try.checked os 10 .any (Rows.gramShowsSpec.pre6 enc Try.prog Try.f10 Rows.gramShowsRow.domain false) (Rows.gramShowsSpec.post enc Try.prog Try.f10 false true false false) := by
  refine returnsInHanded_of_change_sized (C := Try.checked) own started (by kernel_rfl) Try.func10
    (ChangeSpec.witness6 (enc := enc) (C := Try.checked) false ⟨#[], #[.agg #[.int .i64 0, .slice none 0 0, .slice none 0 0], .slice none 0 0], []⟩ 8 (by kernel_rfl) (by kernel_rfl) (by kernel_rfl) (by kernel_rfl)) ?_
  intro W base args ds gs before hval0 hW hcnd hsz0 _
  have hsz : (DataW.weightsEach Try.prog (Try.f10.params.toList ++ Rows.gramShowsSpec.plain.varTypes Try.prog) (ds ++ gs)).all (· ≤ reachBytes) = true := hsz0
  have hval : ∀ (j : Nat) t v, Try.f10.params[j]? = some t → args[j]? = some v → Value.okWide Try.prog W .any base t v := hval0
  have hW' := hW
  obtain ⟨p, q, hA0, hV, rfl, hfz, hnd⟩ := hW
  have hA : DataW.TrodAll enc Try.prog W 0 (fun _ => true) true Try.f10.params.toList args.toList ds p := hA0
  rw [Try.params10] at hA hval hsz
  obtain ⟨v0, vs0, d0, ds0, p0, q0, hargs0, rfl, rfl, h0, r0⟩ := trodAll_cons hA
  obtain ⟨v1, vs1, d1, ds1, p1, q1, hargs1, rfl, rfl, h1, r1⟩ := trodAll_cons r0
  obtain ⟨rfl, rfl, rfl⟩ := trodAll_nil r1
  subst hargs1
  obtain rfl : args = #[v0, v1] := by cases args; simp_all
  obtain ⟨rfl, rfl⟩ := trodVars_none hV
  have k0 := h0
  have lt0 : ∀ x ∈ p0, x.block < W.heap.size := by obtain ⟨m, hm⟩ := k0; exact DataW.trod_lt m _ _ _ hm
  obtain ⟨x0, w0, g0, l0⟩ := Vc.open_arg Vc.tabOK s0 hsz (j := 0) (t := 28) rfl rfl ok0 h0
  obtain ⟨a0, rfl, c0⟩ := okWide_struct Try.underlying28 (hval 0 28 v0 rfl rfl)
  have e0 : Vc.RV W (fun _ => False) (fun _ => .nilFunc) (.agg ((s0.en.enc x0).map Vc.DV.ac)) (.agg a0) := g0.agg rfl (by rw [Vc.trod_len Vc.tabOK s0 ok0 x0]; exact l0)
  have k1 := h1
  have lt1 : ∀ x ∈ p1, x.block < W.heap.size := by obtain ⟨m, hm⟩ := k1; exact DataW.trod_lt m _ _ _ hm
  obtain ⟨x1, w1, g1, l1⟩ := Vc.open_arg Vc.tabOK s1 hsz (j := 1) (t := 29) rfl rfl ok1 h1
  obtain ⟨a1, n1, m1, rfl⟩ := okWide_slice Try.underlying29 (hval 1 29 v1 rfl rfl)
  have e1 := one_rv (hs := fun _ => .nilFunc) (x := x1) g1 rfl (by rfl)
  clear hA0 hval0 hsz0 hsz
  have hspec : Vc.ACall Try.prog 10 [.agg ((s0.en.enc x0).map Vc.DV.ac), .c (((s1.en.enc x1).map Vc.DV.ac).headD .junk)] [] (fun r os => r = .c (.bool true) ∧ os = []) := by
    exact user x0 x1 w0 w1
  have hc := Vc.ACall.top hspec Try.func10 (by rfl) (by rfl) (w := W) (vals := #[.agg a0, .slice a1 n1 m1]) rfl (fun i x v hx hv => by
    match i, hx, hv with
    | 0, hx, hv => simp only [List.getElem?_cons_succ, List.getElem?_cons_zero, Option.some.injEq] at hx; have hv : some _ = some v := hv; simp only [Option.some.injEq] at hv; subst hx; subst hv; exact e0
    | 1, hx, hv => simp only [List.getElem?_cons_succ, List.getElem?_cons_zero, Option.some.injEq] at hx; have hv : some _ = some v := hv; simp only [Option.some.injEq] at hv; subst hx; subst hv; exact e1
    | i + 2, hx, hv => simp at hx)
  refine hc.mono fun e W' ⟨v, he, bel, r, os', hs', ⟨hr, ho⟩, hv, _⟩ => ?_
  subst hr he
  have hv' : v = .bool true := hv
  subst hv'
  exact ⟨_, rfl, _, _, _, [], _, [], hW', trodAll_mk1 (shut_bool Try.underlying4 _), (trodAll_cons_mk (Below.trod laidOut (by kernel_rfl) (of_decide_eq_true (by kernel_rfl)) k0 bel lt0) (trodAll_cons_mk (Below.trod laidOut (by kernel_rfl) (of_decide_eq_true (by kernel_rfl)) k1 bel lt1) trodAll_mk0)), rfl, bel.frame _, fun h => by cases h⟩
theorem over : Rows.gramShowsRow.holds Try.pinned (OpenSpec.ofChange Rows.gramShowsSpec) :=
  OpenClaim.holds_of_wide 10 Try.f10 rfl rfl rfl rfl rfl rfl rfl ⟨rfl, rfl, rfl, rfl, rfl⟩ rfl rfl rfl rfl rfl (by kernel_rfl) Try.func10 (by kernel_rfl)
    (of_decide_eq_true (by kernel_rfl)) (by unfold Func.isWrapper; first | (rw [if_pos (by decide +kernel)]; kernel_rfl) | (rw [if_neg (by decide +kernel)]; exact ⟨rfl, rfl⟩))
    (fun os started H enc _ => lifted os started H enc)
end Go.Proofs.Ytmikejeohdleeaa.gramShows
namespace Go.Proofs.Ytmikejeohdleeaa
/-- The row, under a short name, for the claim. -/
theorem gramShows_holds : Rows.GramShowsSaid := gramShows.over
end Go.Proofs.Ytmikejeohdleeaa
