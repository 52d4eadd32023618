/- For all inputs of bulk at most 1048576 the law StatNears answers true; this bound is the only condition. -/
import Derived.Test.YtcjcfpbbhmhlbaaRows
import Derived.Test.YtcjcfpbbhmhlbaaRT
import Derived.Test.YtcjcfpbbhmhlbaaV25
import Derived.WalkKit
import Derived.ProofKit
import Derived.OpenShut
import Derived.ShutString
import Derived.ChangeOld
import Derived.Below
import Derived.SizedLaws
import Derived.JoinedCond
import Derived.Deep.CondSized
namespace Go.Proofs.Ytcjcfpbbhmhlbaa.statNears
open Go.ChangeShapes Go.WideShapes Go.ChangeAt Go.RowKit
open Go.ChangeMaps (open_string shut_string)
set_option linter.unusedVariables false
set_option linter.unusedSimpArgs false
theorem own : ownKnob Try.prog.godebug = none := by kernel_rfl
theorem laidOut : laidOutB Try.prog = true := by kernel_rfl
theorem one_le {H : Type} (d : DataW H) : 1 ≤ Rows.uptoBulk d := by
  cases d with
  | lit l => cases l <;> simp [Rows.uptoBulk]
  | nil => simp [Rows.uptoBulk]
  | ptr d => simp [Rows.uptoBulk]
  | slice elems spare => simp [Rows.uptoBulk]
  | agg parts => simp [Rows.uptoBulk]
  | iface t d => simp [Rows.uptoBulk]
  | map entries => simp [Rows.uptoBulk]
  | held h => simp [Rows.uptoBulk]
theorem length_le {H : Type} (l : List (DataW H)) : l.length ≤ Rows.uptoBulkAll l := by
  induction l with
  | nil => simp [Rows.uptoBulkAll]
  | cons x r ih => have := one_le x; simp only [Rows.uptoBulkAll, List.length_cons]; omega
/-- a slice is no longer than its reading's bulk -/
theorem slice_len {H : Type} {enc : TypeId × Value → H} {P : Program} {W : World} {t e : TypeId} (ht : P.underlying t = some (.slice e)) {a : Option Addr} {n m : Nat} {d : DataW H} {ps : List MemPlace} {base : Nat} {sp : Nat → Bool} {held : Bool}
    (h : DataW.Trod enc P W base sp held t (.slice a n m) d ps) : n ≤ Rows.uptoBulk d := by
  obtain ⟨fuel, hf⟩ := h
  have hc : (Value.slice a n m).cells.toList = [.slice a n m] := rfl
  rw [hc] at hf
  rcases DataW.trod_slice ht hf with ⟨h0, hx⟩ | ⟨a', len, cap, elems, rest, n', _, hcs, hx, _, hl, _, hlen, hel, _⟩
  · simp only [List.cons.injEq, Value.slice.injEq, and_true] at h0
    omega
  · simp only [List.cons.injEq, Value.slice.injEq, and_true] at hcs
    simp only [Prod.mk.injEq] at hx
    rw [hx.1]
    simp only [Rows.uptoBulk]
    have h1 := length_le (elems.map (·.1))
    have h2 : (elems.map (·.1)).length = len := by simpa using hlen
    omega
theorem rd_len {w : World} {O : Nat → Prop} {size : Nat} {α : Type} {z : α} {en : α → List Vc.DV} {xs : List α} {a : Option Addr} {n m : Nat} (h : Vc.RD w O (.list size α z en xs) (.slice a n m)) : n = xs.length := by
  generalize hd : Vc.DV.list size α z en xs = d at h
  generalize hv : Value.slice a n m = v at h
  cases h <;> try (cases hd; done)
  case empty => cases hd; cases hv; rfl
  case list => cases hd; cases hv; rfl
theorem bulk_mem {H : Type} {l : List (DataW H)} {d : DataW H} (h : d ∈ l) : Rows.uptoBulk d ≤ Rows.uptoBulkAll l := by
  induction l with
  | nil => cases h
  | cons x r ih =>
    simp only [Rows.uptoBulkAll]
    rcases List.mem_cons.1 h with rfl | h
    · omega
    · have := ih h; omega
theorem rd_slice {w : World} {O : Nat → Prop} {size : Nat} {α : Type} {z : α} {en : α → List Vc.DV} {xs : List α} {v : Value} (h : Vc.RD w O (.list size α z en xs) v) : ∃ a n m, v = .slice a n m := by
  generalize hd : Vc.DV.list size α z en xs = d at h
  cases h <;> try (cases hd; done)
  case empty => exact ⟨_, _, _, rfl⟩
  case list => exact ⟨_, _, _, rfl⟩
/-- the lists in a list are no longer than its reading's bulk -/
theorem inner_len {H : Type} {enc : TypeId × Value → H} {P : Program} {W : World} {t e e2 : TypeId} (ht : P.underlying t = some (.slice e)) (he : P.underlying e = some (.slice e2)) (hc : P.cellsOf e = 1)
    {a : Option Addr} {n m : Nat} {d : DataW H} {ps : List MemPlace} {base : Nat} {sp : Nat → Bool} {held : Bool} {O : Nat → Prop} {size : Nat} {α : Type} {z : α} {en : α → List Vc.DV} {zz : List α} {xs : List (List α)}
    (h : DataW.Trod enc P W base sp held t (.slice a n m) d ps) (hr : Vc.RD W O (.list 1 (List α) zz (fun x => [.list size α z en x]) xs) (.slice a n m)) : ∀ x ∈ xs, x.length ≤ Rows.uptoBulk d := by
  obtain ⟨fuel, hf⟩ := h
  have hcs0 : (Value.slice a n m).cells.toList = [.slice a n m] := rfl
  rw [hcs0] at hf
  intro x hx
  obtain ⟨i, hi, ei⟩ := List.getElem_of_mem hx
  have hn := rd_len hr
  rcases DataW.trod_slice ht hf with ⟨h0, hx⟩ | ⟨a', len, cap, elems, rest, n', _, hcs, hx, hbase, hl, _, hlen, hel, _⟩
  · simp only [List.cons.injEq, Value.slice.injEq, and_true] at h0
    omega
  · simp only [List.cons.injEq, Value.slice.injEq, and_true] at hcs
    obtain ⟨rfl, rfl, rfl⟩ := hcs
    simp only [Prod.mk.injEq] at hx
    rw [hx.1]
    generalize hd : Vc.DV.list 1 (List α) zz (fun x => [Vc.DV.list size α z en x]) xs = dd at hr
    generalize hv : Value.slice (some a') n m = v at hr
    cases hr <;> try (cases hd; done)
    case empty => cases hd; simp at hi
    case list b off cp val h0 hO hb hcap hcm hs hcell hdd =>
      cases hd
      cases hv
      have h1 := hel i (by omega)
      have hcell' := hcell i 0 hi (by omega)
      have hrd := hdd i 0 _ hi rfl
      obtain ⟨A, k, c, hval⟩ := rd_slice hrd
      rw [hval] at hcell' hrd
      have hk := rd_len hrd
      have hc2 : W.cells? base (Addr.add ⟨b, off, none⟩ (i * P.cellsOf e)) (P.cellsOf e) = some [.slice A k c] := by
        rw [hc]
        unfold World.cells?
        rw [Addr.add_lit]
        rw [if_pos hbase]
        have e1 : (⟨b, off + i * 1, none⟩ : Addr).add 0 = ⟨b, off + i * 1 + 0, none⟩ := Addr.add_lit ..
        show ([0] : List Nat).mapM _ = _
        rw [List.mapM_cons, List.mapM_nil, e1, hcell']
        rfl
      rw [hc2, Option.bind_some] at h1
      have h2 : elems[i]? = some (elems[i]'(by omega)) := List.getElem?_eq_getElem (by omega)
      rw [h2] at h1
      have h3 := slice_len (H := H) he (a := A) (n := k) (m := c) (d := (elems[i]'(by omega)).1) (ps := (elems[i]'(by omega)).2) ⟨n', h1⟩
      have h4 : (elems[i]'(by omega)).1 ∈ elems.map (·.1) := List.mem_map.2 ⟨_, List.getElem_mem _, rfl⟩
      have h5 := bulk_mem h4
      simp only [Rows.uptoBulk]
      have h6 : xs.getD i zz = x := by rw [← ei]; simp [List.getD, hi]
      rw [h6] at hk
      omega
theorem one_rv {W : World} {hs : Nat → Value} {E : Vc.Enc} {x : E.α} {v : Value} {d : Vc.DV} (hr : Vc.Reads W E x v.cells.toList) (he : E.enc x = [d]) (h : v.cells = #[v]) :
    Vc.RV W (fun _ => False) hs (.c (((E.enc x).map Vc.DV.ac).headD .junk)) v := by
  have h0 := Vc.Reads.one (h := h) hr he
  have h1 := (Vc.RCs_of_RD (hs := hs) (ds := [d]) (vs := [v]) rfl fun j d' v' hd hv => by
    match j, hd, hv with
    | 0, hd, hv => cases hd; cases hv; exact h0).2 0 _ _ rfl rfl
  rw [he]
  exact h1
def s0 : Vc.TS := (.list 5 1 1 (.int .u8))
theorem ok0 : Vc.TS.ok Vc.tab s0 22 := by simp [s0, Vc.TS.ok, Vc.TS.okF, Vc.TS.lenF, Vc.tab]
def s1 : Vc.TS := .str
theorem ok1 : Vc.TS.ok Vc.tab s1 9 := by simp [s1, Vc.TS.ok, Vc.TS.okF, Vc.TS.lenF, Vc.tab]
def s2 : Vc.TS := (.list 22 1 24 (.list 5 1 1 (.int .u8)))
theorem ok2 : Vc.TS.ok Vc.tab s2 23 := by simp [s2, Vc.TS.ok, Vc.TS.okF, Vc.TS.lenF, Vc.tab]
def s3 : Vc.TS := (.list 27 2 40 (.struct (.fcons 9 .str (.flast 25 (.list 3 1 8 (.int .i64))))))
theorem ok3 : Vc.TS.ok Vc.tab s3 24 := by simp [s3, Vc.TS.ok, Vc.TS.okF, Vc.TS.lenF, Vc.tab]
theorem flat_len {xss : List (List Int)} {N : Nat} (h : ∀ x ∈ xss, x.length ≤ N) : xss.flatten.length ≤ xss.length * N := by
  induction xss with
  | nil => simp
  | cons x l ih =>
    have h1 := h x (by simp)
    have h2 := ih fun y hy => h y (by simp [hy])
    rw [List.flatten_cons, List.length_append, List.length_cons, Nat.add_mul, Nat.one_mul]
    omega
theorem user (x0 : List Int) (x1 : ByteArray) (x2 : List (List Int)) (x3 : List (ByteArray × List Int)) (w0 : s0.wf x0) (w2 : s2.wf x2) (w3 : s3.wf x3) (b0 : x0.length ≤ 1048576) (b2 : x2.length ≤ 1048576) (bb2 : ∀ x ∈ x2, x.length ≤ 1048576) (b3 : x3.length ≤ 1048576) : Vc.ACall Try.prog 3 [.c (((s0.en.enc x0).map Vc.DV.ac).headD .junk), .c (((s1.en.enc x1).map Vc.DV.ac).headD .junk), .c (((s2.en.enc x2).map Vc.DV.ac).headD .junk), .c (((s3.en.enc x3).map Vc.DV.ac).headD .junk)] [] (fun r os => r = .c (.bool true) ∧ os = []) := by
  have e1 : IntKind.u8.min = 0 := by decide
  have e2 : IntKind.u8.max = 255 := by decide
  have w0' : x0.length * 1 ≤ 140737488351232 ∧ x0.length ≤ maxLen ∧ ∀ x ∈ x0, (Lit.int .u8 x).wf = true := w0
  have w2' : x2.length * 24 ≤ 140737488351232 ∧ x2.length ≤ maxLen ∧ ∀ x ∈ x2, x.length * 1 ≤ 140737488351232 ∧ x.length ≤ maxLen ∧ ∀ y ∈ x, (Lit.int .u8 y).wf = true := w2
  have w3' : x3.length * 40 ≤ 140737488351232 ∧ x3.length ≤ maxLen ∧ ∀ p ∈ x3, p.1.size ≤ 140737488351232 ∧ p.2.length * 8 ≤ 140737488351232 ∧ p.2.length ≤ maxLen ∧ ∀ y ∈ p.2, (Lit.int .i64 y).wf = true := w3
  have hf := flat_len bb2
  refine Vc.Sn.statNears_spec x0 x1 x2 x3 (fun x hx => ?_) b0 b2 bb2 (fun l hl x hx => ?_) (by omega) b3 (fun i => ?_)
  · have h := w0'.2.2 x hx
    simp only [Lit.wf, Bool.and_eq_true, decide_eq_true_eq] at h
    omega
  · have h := (w2'.2.2 l hl).2.2 x hx
    simp only [Lit.wf, Bool.and_eq_true, decide_eq_true_eq] at h
    omega
  · by_cases hi : i < x3.length
    · have h := (w3'.2.2 (x3.getD i Vc.Sn.zP) (by simp [List.getD, hi])).2.1
      omega
    · simp [List.getD, show x3[i]? = none by simp; omega]
set_option maxRecDepth 100000 in
theorem lifted (os : Os) (started : os.Started) (H : Type) (enc : TypeId × Value → H) (F : Stop.Interp) :
    ReturnsInHanded {} Try.checked os 3 .any ((Rows.OpenSpec.upto Rows.statNearsSpec).pre6 enc Try.prog Try.f3 Rows.statNearsUptoRow.domain false) (((Rows.OpenSpec.upto Rows.statNearsSpec).at F).post enc Try.prog Try.f3 false true false false) := by
  refine returnsInHanded_of_cond_sized (C := Try.checked) (s := Rows.OpenSpec.upto Rows.statNearsSpec) (k := Rows.uptoSmall) rfl own started (by kernel_rfl) Try.func3
    (OpenSpec.witness (enc := enc) (C := Try.checked) (s := Rows.OpenSpec.upto Rows.statNearsSpec) (k := Rows.uptoSmall) rfl false ⟨#[], #[.slice none 0 0, .string ⟨#[]⟩, .slice none 0 0, .slice none 0 0], []⟩ 8 (by kernel_rfl) (by kernel_rfl) (by kernel_rfl)
      (x := ([.nil, .lit (.string []), .nil, .nil], [], [])) (by kernel_rfl) rfl (by kernel_rfl)) ?_
  intro W base args ds gs before hval0 hW hcnd hk hsz0 _
  have hsz : (DataW.weightsEach Try.prog (Try.f3.params.toList ++ Rows.statNearsSpec.plain.varTypes Try.prog) (ds ++ gs)).all (· ≤ reachBytes) = true := hsz0
  have hval : ∀ (j : Nat) t v, Try.f3.params[j]? = some t → args[j]? = some v → Value.okWide Try.prog W .any base t v := hval0
  have hW' := hW
  obtain ⟨p, q, hA0, hV, rfl, hfz, hnd⟩ := hW
  have hA : DataW.TrodAll enc Try.prog W 0 (fun _ => true) true Try.f3.params.toList args.toList ds p := hA0
  rw [Try.params3] at hA hval hsz
  obtain ⟨v0, vs0, d0, ds0, p0, q0, hargs0, rfl, rfl, h0, r0⟩ := trodAll_cons hA
  obtain ⟨v1, vs1, d1, ds1, p1, q1, hargs1, rfl, rfl, h1, r1⟩ := trodAll_cons r0
  obtain ⟨v2, vs2, d2, ds2, p2, q2, hargs2, rfl, rfl, h2, r2⟩ := trodAll_cons r1
  obtain ⟨v3, vs3, d3, ds3, p3, q3, hargs3, rfl, rfl, h3, r3⟩ := trodAll_cons r2
  obtain ⟨rfl, rfl, rfl⟩ := trodAll_nil r3
  subst hargs3
  subst hargs2
  subst hargs1
  obtain rfl : args = #[v0, v1, v2, v3] := by cases args; simp_all
  obtain ⟨rfl, rfl⟩ := trodVars_none hV
  have k0 := h0
  have lt0 : ∀ x ∈ p0, x.block < W.heap.size := by obtain ⟨m, hm⟩ := k0; exact DataW.trod_lt m _ _ _ hm
  obtain ⟨x0, w0, g0, l0⟩ := Vc.open_arg Vc.tabOK s0 hsz (j := 0) (t := 22) rfl rfl ok0 h0
  obtain ⟨a0, n0, m0, rfl⟩ := okWide_slice Try.underlying22 (hval 0 22 v0 rfl rfl)
  have e0 := one_rv (hs := fun _ => .nilFunc) (x := x0) g0 rfl (by rfl)
  have k1 := h1
  have lt1 : ∀ x ∈ p1, x.block < W.heap.size := by obtain ⟨m, hm⟩ := k1; exact DataW.trod_lt m _ _ _ hm
  obtain ⟨x1, w1, g1, l1⟩ := Vc.open_arg Vc.tabOK s1 hsz (j := 1) (t := 9) rfl rfl ok1 h1
  obtain ⟨a1, rfl⟩ := okWide_string Try.underlying9 (hval 1 9 v1 rfl rfl)
  have e1 := one_rv (hs := fun _ => .nilFunc) (x := x1) g1 rfl (by rfl)
  have k2 := h2
  have lt2 : ∀ x ∈ p2, x.block < W.heap.size := by obtain ⟨m, hm⟩ := k2; exact DataW.trod_lt m _ _ _ hm
  obtain ⟨x2, w2, g2, l2⟩ := Vc.open_arg Vc.tabOK s2 hsz (j := 2) (t := 23) rfl rfl ok2 h2
  obtain ⟨a2, n2, m2, rfl⟩ := okWide_slice Try.underlying23 (hval 2 23 v2 rfl rfl)
  have e2 := one_rv (hs := fun _ => .nilFunc) (x := x2) g2 rfl (by rfl)
  have k3 := h3
  have lt3 : ∀ x ∈ p3, x.block < W.heap.size := by obtain ⟨m, hm⟩ := k3; exact DataW.trod_lt m _ _ _ hm
  obtain ⟨x3, w3, g3, l3⟩ := Vc.open_arg Vc.tabOK s3 hsz (j := 3) (t := 24) rfl rfl ok3 h3
  obtain ⟨a3, n3, m3, rfl⟩ := okWide_slice Try.underlying24 (hval 3 24 v3 rfl rfl)
  have e3 := one_rv (hs := fun _ => .nilFunc) (x := x3) g3 rfl (by rfl)
  have hb : Rows.uptoBulkAll ([d0, d1, d2, d3] ++ []) ≤ 1048576 := of_decide_eq_true hk
  simp only [List.append_nil, Rows.uptoBulkAll] at hb
  have q0 := rd_len (xs := x0) e0
  have z0 := slice_len Try.underlying22 h0
  have b0 : x0.length ≤ 1048576 := by omega
  have q2 := rd_len (xs := x2) e2
  have z2 := slice_len Try.underlying23 h2
  have b2 : x2.length ≤ 1048576 := by omega
  have q3 := rd_len (xs := x3) e3
  have z3 := slice_len Try.underlying24 h3
  have b3 : x3.length ≤ 1048576 := by omega
  have bb2 : ∀ x ∈ @id (List (List Int)) x2, x.length ≤ 1048576 := fun x hx => Nat.le_trans (inner_len (α := Int) (xs := x2) Try.underlying23 Try.underlying22 (by kernel_rfl) h2 e2 x hx) (by omega)
  clear hA0 hval0 hsz0 hsz
  have hspec : Vc.ACall Try.prog 3 [.c (((s0.en.enc x0).map Vc.DV.ac).headD .junk), .c (((s1.en.enc x1).map Vc.DV.ac).headD .junk), .c (((s2.en.enc x2).map Vc.DV.ac).headD .junk), .c (((s3.en.enc x3).map Vc.DV.ac).headD .junk)] [] (fun r os => r = .c (.bool true) ∧ os = []) := by
    exact user x0 x1 x2 x3 w0 w2 w3 b0 b2 bb2 b3
  have hc := Vc.ACall.top hspec Try.func3 (by rfl) (by rfl) (w := W) (vals := #[.slice a0 n0 m0, .string a1, .slice a2 n2 m2, .slice a3 n3 m3]) rfl (fun i x v hx hv => by
    match i, hx, hv with
    | 0, hx, hv => simp only [List.getElem?_cons_succ, List.getElem?_cons_zero, Option.some.injEq] at hx; have hv : some _ = some v := hv; simp only [Option.some.injEq] at hv; subst hx; subst hv; exact e0
    | 1, hx, hv => simp only [List.getElem?_cons_succ, List.getElem?_cons_zero, Option.some.injEq] at hx; have hv : some _ = some v := hv; simp only [Option.some.injEq] at hv; subst hx; subst hv; exact e1
    | 2, hx, hv => simp only [List.getElem?_cons_succ, List.getElem?_cons_zero, Option.some.injEq] at hx; have hv : some _ = some v := hv; simp only [Option.some.injEq] at hv; subst hx; subst hv; exact e2
    | 3, hx, hv => simp only [List.getElem?_cons_succ, List.getElem?_cons_zero, Option.some.injEq] at hx; have hv : some _ = some v := hv; simp only [Option.some.injEq] at hv; subst hx; subst hv; exact e3
    | i + 4, hx, hv => simp at hx)
  refine hc.mono fun e W' ⟨v, he, bel, r, os', hs', ⟨hr, ho⟩, hv, _⟩ => ?_
  subst hr he
  have hv' : v = .bool true := hv
  subst hv'
  exact ⟨_, rfl, _, _, _, [], _, [], hW', trodAll_mk1 (shut_bool Try.underlying4 _), (trodAll_cons_mk (Below.trod laidOut (by kernel_rfl) (of_decide_eq_true (by kernel_rfl)) k0 bel lt0) (trodAll_cons_mk (Below.trod laidOut (by kernel_rfl) (of_decide_eq_true (by kernel_rfl)) k1 bel lt1) (trodAll_cons_mk (Below.trod laidOut (by kernel_rfl) (of_decide_eq_true (by kernel_rfl)) k2 bel lt2) (trodAll_cons_mk (Below.trod laidOut (by kernel_rfl) (of_decide_eq_true (by kernel_rfl)) k3 bel lt3) trodAll_mk0)))), rfl, bel.frame _, fun h => by cases h⟩
theorem over : Rows.statNearsUptoRow.holds Try.pinned (Rows.OpenSpec.upto Rows.statNearsSpec) :=
  OpenClaim.holds_of_cond 3 Try.f3 rfl rfl rfl rfl rfl rfl rfl ⟨rfl, rfl, rfl, rfl, rfl⟩ rfl rfl rfl rfl rfl (by kernel_rfl) Try.func3 (by kernel_rfl)
    (of_decide_eq_true (by kernel_rfl)) (by unfold Func.isWrapper; first | (rw [if_pos (by decide +kernel)]; kernel_rfl) | (rw [if_neg (by decide +kernel)]; exact ⟨rfl, rfl⟩))
    (fun os started H enc _ F => lifted os started H enc F)
end Go.Proofs.Ytcjcfpbbhmhlbaa.statNears
namespace Go.Proofs.Ytcjcfpbbhmhlbaa
/-- The row, under a short name, for the claim. -/
theorem statNears_holds : Rows.StatNearsUptoSaid := statNears.over
end Go.Proofs.Ytcjcfpbbhmhlbaa
