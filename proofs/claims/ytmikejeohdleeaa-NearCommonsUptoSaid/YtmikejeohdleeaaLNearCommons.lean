/- For all inputs of bulk at most 1048576 the law NearCommons answers true; this bound is the only condition. -/
import Derived.Test.YtmikejeohdleeaaRows
import Derived.Test.YtmikejeohdleeaaNK
import Derived.Test.YtmikejeohdleeaaV25
import Derived.WalkKit
import Derived.ProofKit
import Derived.OpenShut
import Derived.ShutString
import Derived.ChangeOld
import Derived.Below
import Derived.SizedLaws
import Derived.JoinedCond
import Derived.Deep.CondSized
namespace Go.Proofs.Ytmikejeohdleeaa.nearCommons
open Go.ChangeShapes Go.WideShapes Go.ChangeAt Go.RowKit
open Go.ChangeMaps (open_string shut_string)
set_option linter.unusedVariables false
set_option linter.unusedSimpArgs false
theorem own : ownKnob Try.prog.godebug = none := by kernel_rfl
theorem laidOut : laidOutB Try.prog = true := by kernel_rfl
theorem one_le {H : Type} (d : DataW H) : 1 ≤ Rows.uptoBulk d := by
  cases d with
  | lit l => cases l <;> simp [Rows.uptoBulk]
  | nil => simp [Rows.uptoBulk]
  | ptr d => simp [Rows.uptoBulk]
  | slice elems spare => simp [Rows.uptoBulk]
  | agg parts => simp [Rows.uptoBulk]
  | iface t d => simp [Rows.uptoBulk]
  | map entries => simp [Rows.uptoBulk]
  | held h => simp [Rows.uptoBulk]
theorem length_le {H : Type} (l : List (DataW H)) : l.length ≤ Rows.uptoBulkAll l := by
  induction l with
  | nil => simp [Rows.uptoBulkAll]
  | cons x r ih => have := one_le x; simp only [Rows.uptoBulkAll, List.length_cons]; omega
/-- a slice is no longer than its reading's bulk -/
theorem slice_len {H : Type} {enc : TypeId × Value → H} {P : Program} {W : World} {t e : TypeId} (ht : P.underlying t = some (.slice e)) {a : Option Addr} {n m : Nat} {d : DataW H} {ps : List MemPlace} {base : Nat} {sp : Nat → Bool} {held : Bool}
    (h : DataW.Trod enc P W base sp held t (.slice a n m) d ps) : n ≤ Rows.uptoBulk d := by
  obtain ⟨fuel, hf⟩ := h
  have hc : (Value.slice a n m).cells.toList = [.slice a n m] := rfl
  rw [hc] at hf
  rcases DataW.trod_slice ht hf with ⟨h0, hx⟩ | ⟨a', len, cap, elems, rest, n', _, hcs, hx, _, hl, _, hlen, hel, _⟩
  · simp only [List.cons.injEq, Value.slice.injEq, and_true] at h0
    omega
  · simp only [List.cons.injEq, Value.slice.injEq, and_true] at hcs
    simp only [Prod.mk.injEq] at hx
    rw [hx.1]
    simp only [Rows.uptoBulk]
    have h1 := length_le (elems.map (·.1))
    have h2 : (elems.map (·.1)).length = len := by simpa using hlen
    omega
theorem rd_len {w : World} {O : Nat → Prop} {size : Nat} {α : Type} {z : α} {en : α → List Vc.DV} {xs : List α} {a : Option Addr} {n m : Nat} (h : Vc.RD w O (.list size α z en xs) (.slice a n m)) : n = xs.length := by
  generalize hd : Vc.DV.list size α z en xs = d at h
  generalize hv : Value.slice a n m = v at h
  cases h <;> try (cases hd; done)
  case empty => cases hd; cases hv; rfl
  case list => cases hd; cases hv; rfl
theorem one_rv {W : World} {hs : Nat → Value} {E : Vc.Enc} {x : E.α} {v : Value} {d : Vc.DV} (hr : Vc.Reads W E x v.cells.toList) (he : E.enc x = [d]) (h : v.cells = #[v]) :
    Vc.RV W (fun _ => False) hs (.c (((E.enc x).map Vc.DV.ac).headD .junk)) v := by
  have h0 := Vc.Reads.one (h := h) hr he
  have h1 := (Vc.RCs_of_RD (hs := hs) (ds := [d]) (vs := [v]) rfl fun j d' v' hd hv => by
    match j, hd, hv with
    | 0, hd, hv => cases hd; cases hv; exact h0).2 0 _ _ rfl rfl
  rw [he]
  exact h1
def s0 : Vc.TS := (.list 5 1 1 (.int .u8))
theorem ok0 : Vc.TS.ok Vc.tab s0 29 := by simp [s0, Vc.TS.ok, Vc.TS.okF, Vc.TS.lenF, Vc.tab]
def s1 : Vc.TS := (.list 5 1 1 (.int .u8))
theorem ok1 : Vc.TS.ok Vc.tab s1 29 := by simp [s1, Vc.TS.ok, Vc.TS.okF, Vc.TS.lenF, Vc.tab]
def s2 : Vc.TS := (.list 96 1 8 (.int .u64))
theorem ok2 : Vc.TS.ok Vc.tab s2 91 := by simp [s2, Vc.TS.ok, Vc.TS.okF, Vc.TS.lenF, Vc.tab]
def s3 : Vc.TS := (.list 96 1 8 (.int .u64))
theorem ok3 : Vc.TS.ok Vc.tab s3 91 := by simp [s3, Vc.TS.ok, Vc.TS.okF, Vc.TS.lenF, Vc.tab]
theorem user (x0 x1 x2 x3 : List Int) (b0 : x0.length ≤ 1048576) (b1 : x1.length ≤ 1048576) (b2 : x2.length ≤ 1048576) (b3 : x3.length ≤ 1048576) : Vc.ACall Try.prog 12 [.c (((s0.en.enc x0).map Vc.DV.ac).headD .junk), .c (((s1.en.enc x1).map Vc.DV.ac).headD .junk), .c (((s2.en.enc x2).map Vc.DV.ac).headD .junk), .c (((s3.en.enc x3).map Vc.DV.ac).headD .junk)] [] (fun r os => r = .c (.bool true) ∧ os = []) :=
  Vc.Ne.nearCommons_spec x0 x1 x2 x3 b0 b1 b2 b3
set_option maxRecDepth 100000 in
theorem lifted (os : Os) (started : os.Started) (H : Type) (enc : TypeId × Value → H) (F : Stop.Interp) :
    ReturnsInHanded {} Try.checked os 12 .any ((Rows.OpenSpec.upto Rows.nearCommonsSpec).pre6 enc Try.prog Try.f12 Rows.nearCommonsUptoRow.domain false) (((Rows.OpenSpec.upto Rows.nearCommonsSpec).at F).post enc Try.prog Try.f12 false true false false) := by
  refine returnsInHanded_of_cond_sized (C := Try.checked) (s := Rows.OpenSpec.upto Rows.nearCommonsSpec) (k := Rows.uptoSmall) rfl own started (by kernel_rfl) Try.func12
    (OpenSpec.witness (enc := enc) (C := Try.checked) (s := Rows.OpenSpec.upto Rows.nearCommonsSpec) (k := Rows.uptoSmall) rfl false ⟨#[], #[.slice none 0 0, .slice none 0 0, .slice none 0 0, .slice none 0 0], []⟩ 8 (by kernel_rfl) (by kernel_rfl) (by kernel_rfl)
      (x := ([.nil, .nil, .nil, .nil], [], [])) (by kernel_rfl) rfl (by kernel_rfl)) ?_
  intro W base args ds gs before hval0 hW hcnd hk hsz0 _
  have hsz : (DataW.weightsEach Try.prog (Try.f12.params.toList ++ Rows.nearCommonsSpec.plain.varTypes Try.prog) (ds ++ gs)).all (· ≤ reachBytes) = true := hsz0
  have hval : ∀ (j : Nat) t v, Try.f12.params[j]? = some t → args[j]? = some v → Value.okWide Try.prog W .any base t v := hval0
  have hW' := hW
  obtain ⟨p, q, hA0, hV, rfl, hfz, hnd⟩ := hW
  have hA : DataW.TrodAll enc Try.prog W 0 (fun _ => true) true Try.f12.params.toList args.toList ds p := hA0
  rw [Try.params12] at hA hval hsz
  obtain ⟨v0, vs0, d0, ds0, p0, q0, hargs0, rfl, rfl, h0, r0⟩ := trodAll_cons hA
  obtain ⟨v1, vs1, d1, ds1, p1, q1, hargs1, rfl, rfl, h1, r1⟩ := trodAll_cons r0
  obtain ⟨v2, vs2, d2, ds2, p2, q2, hargs2, rfl, rfl, h2, r2⟩ := trodAll_cons r1
  obtain ⟨v3, vs3, d3, ds3, p3, q3, hargs3, rfl, rfl, h3, r3⟩ := trodAll_cons r2
  obtain ⟨rfl, rfl, rfl⟩ := trodAll_nil r3
  subst hargs3
  subst hargs2
  subst hargs1
  obtain rfl : args = #[v0, v1, v2, v3] := by cases args; simp_all
  obtain ⟨rfl, rfl⟩ := trodVars_none hV
  have k0 := h0
  have lt0 : ∀ x ∈ p0, x.block < W.heap.size := by obtain ⟨m, hm⟩ := k0; exact DataW.trod_lt m _ _ _ hm
  obtain ⟨x0, w0, g0, l0⟩ := Vc.open_arg Vc.tabOK s0 hsz (j := 0) (t := 29) rfl rfl ok0 h0
  obtain ⟨a0, n0, m0, rfl⟩ := okWide_slice Try.underlying29 (hval 0 29 v0 rfl rfl)
  have e0 := one_rv (hs := fun _ => .nilFunc) (x := x0) g0 rfl (by rfl)
  have k1 := h1
  have lt1 : ∀ x ∈ p1, x.block < W.heap.size := by obtain ⟨m, hm⟩ := k1; exact DataW.trod_lt m _ _ _ hm
  obtain ⟨x1, w1, g1, l1⟩ := Vc.open_arg Vc.tabOK s1 hsz (j := 1) (t := 29) rfl rfl ok1 h1
  obtain ⟨a1, n1, m1, rfl⟩ := okWide_slice Try.underlying29 (hval 1 29 v1 rfl rfl)
  have e1 := one_rv (hs := fun _ => .nilFunc) (x := x1) g1 rfl (by rfl)
  have k2 := h2
  have lt2 : ∀ x ∈ p2, x.block < W.heap.size := by obtain ⟨m, hm⟩ := k2; exact DataW.trod_lt m _ _ _ hm
  obtain ⟨x2, w2, g2, l2⟩ := Vc.open_arg Vc.tabOK s2 hsz (j := 2) (t := 91) rfl rfl ok2 h2
  obtain ⟨a2, n2, m2, rfl⟩ := okWide_slice Try.underlying91 (hval 2 91 v2 rfl rfl)
  have e2 := one_rv (hs := fun _ => .nilFunc) (x := x2) g2 rfl (by rfl)
  have k3 := h3
  have lt3 : ∀ x ∈ p3, x.block < W.heap.size := by obtain ⟨m, hm⟩ := k3; exact DataW.trod_lt m _ _ _ hm
  obtain ⟨x3, w3, g3, l3⟩ := Vc.open_arg Vc.tabOK s3 hsz (j := 3) (t := 91) rfl rfl ok3 h3
  obtain ⟨a3, n3, m3, rfl⟩ := okWide_slice Try.underlying91 (hval 3 91 v3 rfl rfl)
  have e3 := one_rv (hs := fun _ => .nilFunc) (x := x3) g3 rfl (by rfl)
  have hb : Rows.uptoBulkAll ([d0, d1, d2, d3] ++ []) ≤ 1048576 := of_decide_eq_true hk
  simp only [List.append_nil, Rows.uptoBulkAll] at hb
  have q0 := rd_len (xs := x0) e0
  have z0 := slice_len Try.underlying29 h0
  have b0 : x0.length ≤ 1048576 := by omega
  have q1 := rd_len (xs := x1) e1
  have z1 := slice_len Try.underlying29 h1
  have b1 : x1.length ≤ 1048576 := by omega
  have q2 := rd_len (xs := x2) e2
  have z2 := slice_len Try.underlying91 h2
  have b2 : x2.length ≤ 1048576 := by omega
  have q3 := rd_len (xs := x3) e3
  have z3 := slice_len Try.underlying91 h3
  have b3 : x3.length ≤ 1048576 := by omega
  clear hA0 hval0 hsz0 hsz
  have hspec : Vc.ACall Try.prog 12 [.c (((s0.en.enc x0).map Vc.DV.ac).headD .junk), .c (((s1.en.enc x1).map Vc.DV.ac).headD .junk), .c (((s2.en.enc x2).map Vc.DV.ac).headD .junk), .c (((s3.en.enc x3).map Vc.DV.ac).headD .junk)] [] (fun r os => r = .c (.bool true) ∧ os = []) := by
    exact user x0 x1 x2 x3 b0 b1 b2 b3
  have hc := Vc.ACall.top hspec Try.func12 (by rfl) (by rfl) (w := W) (vals := #[.slice a0 n0 m0, .slice a1 n1 m1, .slice a2 n2 m2, .slice a3 n3 m3]) rfl (fun i x v hx hv => by
    match i, hx, hv with
    | 0, hx, hv => simp only [List.getElem?_cons_succ, List.getElem?_cons_zero, Option.some.injEq] at hx; have hv : some _ = some v := hv; simp only [Option.some.injEq] at hv; subst hx; subst hv; exact e0
    | 1, hx, hv => simp only [List.getElem?_cons_succ, List.getElem?_cons_zero, Option.some.injEq] at hx; have hv : some _ = some v := hv; simp only [Option.some.injEq] at hv; subst hx; subst hv; exact e1
    | 2, hx, hv => simp only [List.getElem?_cons_succ, List.getElem?_cons_zero, Option.some.injEq] at hx; have hv : some _ = some v := hv; simp only [Option.some.injEq] at hv; subst hx; subst hv; exact e2
    | 3, hx, hv => simp only [List.getElem?_cons_succ, List.getElem?_cons_zero, Option.some.injEq] at hx; have hv : some _ = some v := hv; simp only [Option.some.injEq] at hv; subst hx; subst hv; exact e3
    | i + 4, hx, hv => simp at hx)
  refine hc.mono fun e W' ⟨v, he, bel, r, os', hs', ⟨hr, ho⟩, hv, _⟩ => ?_
  subst hr he
  have hv' : v = .bool true := hv
  subst hv'
  exact ⟨_, rfl, _, _, _, [], _, [], hW', trodAll_mk1 (shut_bool Try.underlying4 _), (trodAll_cons_mk (Below.trod laidOut (by kernel_rfl) (of_decide_eq_true (by kernel_rfl)) k0 bel lt0) (trodAll_cons_mk (Below.trod laidOut (by kernel_rfl) (of_decide_eq_true (by kernel_rfl)) k1 bel lt1) (trodAll_cons_mk (Below.trod laidOut (by kernel_rfl) (of_decide_eq_true (by kernel_rfl)) k2 bel lt2) (trodAll_cons_mk (Below.trod laidOut (by kernel_rfl) (of_decide_eq_true (by kernel_rfl)) k3 bel lt3) trodAll_mk0)))), rfl, bel.frame _, fun h => by cases h⟩
theorem over : Rows.nearCommonsUptoRow.holds Try.pinned (Rows.OpenSpec.upto Rows.nearCommonsSpec) :=
  OpenClaim.holds_of_cond 12 Try.f12 rfl rfl rfl rfl rfl rfl rfl ⟨rfl, rfl, rfl, rfl, rfl⟩ rfl rfl rfl rfl rfl (by kernel_rfl) Try.func12 (by kernel_rfl)
    (of_decide_eq_true (by kernel_rfl)) (by unfold Func.isWrapper; first | (rw [if_pos (by decide +kernel)]; kernel_rfl) | (rw [if_neg (by decide +kernel)]; exact ⟨rfl, rfl⟩))
    (fun os started H enc _ F => lifted os started H enc F)
end Go.Proofs.Ytmikejeohdleeaa.nearCommons
namespace Go.Proofs.Ytmikejeohdleeaa
/-- The row, under a short name, for the claim. -/
theorem nearCommons_holds : Rows.NearCommonsUptoSaid := nearCommons.over
end Go.Proofs.Ytmikejeohdleeaa
