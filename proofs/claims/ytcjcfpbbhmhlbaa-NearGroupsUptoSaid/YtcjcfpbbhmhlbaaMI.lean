/- Signatures. -/
import Derived.Test.YtcjcfpbbhmhlbaaMH
set_option linter.unusedVariables false
set_option linter.unusedSimpArgs false
namespace Go.Vc.Ne
open Go.Proofs Go.IntWalk
set_option maxRecDepth 100000
def hk (k : Nat) (s : ByteArray) : Int := hashF ((k : Int) :: u8s s)
def mnStep (k : Nat) (acc : Option Int) (s : ByteArray) : Option Int := some (match acc with | none => hk k s | some m => if hk k s < m then hk k s else m)
def mnA (k : Nat) (l : List ByteArray) : Option Int := l.foldl (mnStep k) none
def mn (k : Nat) (l : List ByteArray) : Int := (mnA k l).getD 0
theorem mnA_next {k : Nat} {l : List ByteArray} {s : ByteArray} : mnA k (l ++ [s]) = mnStep k (mnA k l) s := by simp [mnA]
theorem mnA_some {k : Nat} : ∀ {l : List ByteArray}, l ≠ [] → ∃ m, mnA k l = some m := fun {l} h => by
  have : l = l.dropLast ++ [l.getLast h] := (List.dropLast_concat_getLast h).symm
  rw [this, mnA_next]
  exact ⟨_, rfl⟩
theorem mn_next {k : Nat} {l : List ByteArray} {s : ByteArray} : mn k (l ++ [s]) = if l = [] ∨ hk k s < mn k l then hk k s else mn k l := by
  by_cases h : l = []
  · subst h
    rw [if_pos (.inl rfl)]
    rfl
  · obtain ⟨m, hm⟩ := mnA_some (k := k) h
    unfold mn
    rw [mnA_next, hm]
    show (if hk k s < m then hk k s else m) = if l = [] ∨ hk k s < m then hk k s else m
    by_cases h2 : hk k s < m
    · rw [if_pos h2, if_pos (.inr h2)]
    · rw [if_neg h2, if_neg (fun h' => h'.elim h h2)]
/-- the least of a list that is not empty -/
theorem mn_least {k : Nat} : ∀ (n : Nat) (l : List ByteArray), l.length = n → l ≠ [] → (∃ s ∈ l, mn k l = hk k s) ∧ ∀ s ∈ l, mn k l ≤ hk k s := by
  intro n
  induction n with
  | zero => intro l hl h; exact absurd (List.eq_nil_of_length_eq_zero hl) h
  | succ n ih =>
    intro l hl h
    have e : l = l.dropLast ++ [l.getLast h] := (List.dropLast_concat_getLast h).symm
    have hd : l.dropLast.length = n := by simp [hl]
    generalize l.getLast h = s at e
    generalize l.dropLast = q at e hd
    subst e
    rw [mn_next]
    by_cases hq : q = []
    · subst hq
      rw [if_pos (.inl rfl)]
      exact ⟨⟨s, by simp, rfl⟩, fun t ht => by simp at ht; subst ht; exact Int.le_refl _⟩
    · obtain ⟨⟨t, ht, e1⟩, h2⟩ := ih q hd hq
      split
      · rename_i h3
        have h4 : hk k s < mn k q := h3.resolve_left hq
        refine ⟨⟨s, by simp, rfl⟩, fun u hu => ?_⟩
        rcases List.mem_append.1 hu with hu | hu
        · have := h2 u hu; omega
        · simp at hu; subst hu; exact Int.le_refl _
      · rename_i h3
        refine ⟨⟨t, List.mem_append_left _ ht, e1⟩, fun u hu => ?_⟩
        rcases List.mem_append.1 hu with hu | hu
        · exact h2 u hu
        · simp at hu; subst hu; exact Int.not_lt.1 fun h5 => h3 (.inr h5)
theorem mn_same {k : Nat} {l m : List ByteArray} (h : ∀ s, s ∈ l ↔ s ∈ m) : mn k l = mn k m := by
  by_cases hl : l = []
  · subst hl
    have : m = [] := List.eq_nil_iff_forall_not_mem.2 fun s hs => by simpa using (h s).2 hs
    rw [this]
  · have hm : m ≠ [] := fun e => by
      subst e
      exact hl (List.eq_nil_iff_forall_not_mem.2 fun s hs => by simpa using (h s).1 hs)
    obtain ⟨⟨s, h1, e1⟩, h2⟩ := mn_least (k := k) _ l rfl hl
    obtain ⟨⟨t, h3, e3⟩, h4⟩ := mn_least (k := k) _ m rfl hm
    have h5 := h2 t ((h t).2 h3)
    have h6 := h4 s ((h s).1 h1)
    omega
def sig (l : List ByteArray) : List Int := (List.range 16).map fun k => mn k l
/-- while the first k are told anew -/
def sigAt (l : List ByteArray) (s : ByteArray) (k : Nat) : List Int := (List.range 16).map fun j => if j < k then mn j (l ++ [s]) else mn j l
theorem sigAt_len {l : List ByteArray} {s : ByteArray} {k : Nat} : (sigAt l s k).length = 16 := by simp [sigAt]
theorem sigAt_zero {l : List ByteArray} {s : ByteArray} : sigAt l s 0 = sig l := by simp [sigAt, sig]
theorem sigAt_full {l : List ByteArray} {s : ByteArray} : sigAt l s 16 = sig (l ++ [s]) := by
  unfold sigAt sig
  apply List.map_congr_left
  intro j hj
  rw [if_pos (List.mem_range.1 hj)]
theorem sigAt_get {l : List ByteArray} {s : ByteArray} {k : Nat} (h : k < 16) : (sigAt l s k).getD k 0 = mn k l := by simp [sigAt, List.getD, h]
theorem sigAt_set {l : List ByteArray} {s : ByteArray} {k : Nat} {x : Int} (hx : x = mn k (l ++ [s])) : (sigAt l s k).set k x = sigAt l s (k + 1) := by
  subst hx
  apply List.ext_getElem
  · simp [sigAt]
  · intro i h1 h2
    simp only [sigAt, List.getElem_set, List.getElem_map, List.getElem_range]
    by_cases e : k = i
    · subst e; simp
    · rw [if_neg e]
      by_cases e2 : i < k
      · rw [if_pos e2, if_pos (by omega)]
      · rw [if_neg e2, if_neg (by omega)]
theorem sigAt_same {l : List ByteArray} {s : ByteArray} {k : Nat} (hx : mn k l = mn k (l ++ [s])) : sigAt l s k = sigAt l s (k + 1) := by
  unfold sigAt
  apply List.map_congr_left
  intro j hj
  by_cases e : j = k
  · subst e; rw [if_neg (by omega), if_pos (by omega)]; exact hx
  · by_cases e2 : j < k
    · rw [if_pos e2, if_pos (by omega)]
    · rw [if_neg e2, if_neg (by omega)]
abbrev rowU (xs : List Int) : AObj := .row 80 1 Int 0 (fun n => [.int .u64 n]) xs
theorem u8s_strOf (xs : List Int) : (u8s (strOf xs)).length = xs.length := by simp [u8s, strOf]
theorem sh_size {xs : List Int} {t : ByteArray} (h : t ∈ shS xs) : (u8s t).length ≤ 4 := by
  rw [shS_mem] at h
  unfold refS at h
  rw [refU_mem] at h
  rcases h with h | h
  · unfold refU at h
    split at h
    · simp only [List.mem_singleton] at h
      subst h
      rw [u8s_strOf]
      omega
    · cases h
  · unfold shU at h
    obtain ⟨i, -, rfl⟩ := List.mem_map.1 h
    unfold piece4
    rw [u8s_strOf, List.length_take]
    omega
theorem getD_mem' {l : List ByteArray} {i : Nat} (h : i < l.length) : l.getD i eS ∈ l := by simp [List.getD, h]
set_option maxHeartbeats 8000000 in
theorem signature_spec (a : List Int) (hl : a.length ≤ 1048576) : ACall Try.prog 34 [.c (rB a)] [] (fun r os => r = .c (.sl 0) ∧ os = [rowU (sig (shS a))]) := by
  (refine ACall.of_body (nt := 45) (rs := [.tmp 2]) tabOK Try.func34 rfl rfl rfl rfl ?_; simp only [startSt, List.length_cons, List.length_nil, Nat.reduceAdd, Nat.reduceSub, List.replicate_succ, List.replicate_zero, List.cons_append, List.nil_append])
  simp only [VCp, amakePlain, VC_region, VC_seq, aops_nil, aops_cons, put_some, aop, qop, isQuiet, ASt.eval, ASt.ev, AV.strip, AV.need, AV.ac, AV.isTup, ned, amake, newObj, avOf, acOf, eInt, eList, List.getD_cons_succ, List.getD_cons_zero, List.set_cons_succ, List.set_cons_zero, List.map_cons, List.map_nil, List.nil_append, List.length_nil, Int.reduceLE, Int.reduceMul, Int.cast_ofNat_Int, Int.reduceToNat, true_and, and_self, not_false_eq_true, Bool.and_true, cond_true, beq_self_eq_true, eq_self, Nat.succ_ne_self, tab_70, tab_80]
  refine CallAt.plain (shingles_spec a hl) rfl ?_
  have hsl := shS_len hl
  have hsz : ∀ s ∈ shS a, (u8s s).length ≤ 4 := fun s hs => sh_size hs
  intro r os h1
  rcases h1 with ⟨rfl, rfl⟩ | ⟨zs, m, rfl, rfl, hz, hm⟩
  · simp only [VC_block, VC_loop, aops_nil, aops_cons, put_some, qop, isQuiet, ASt.eval, AV.need, AV.ac, qlen, ASt.obj, AV.map, AObj.map, avOf, acOf, AC.ren, backIx, giveBack, afterCall, eStr, eList, List.getD_cons_succ, List.getD_cons_zero, List.set_cons_succ, List.set_cons_zero, List.map_cons, List.map_nil, List.cons_append, List.nil_append, List.length_cons, List.length_nil, List.getElem?_nil, true_and, and_self, Nat.add_zero, Nat.zero_add, Nat.reduceSub, tab_74]
    refine LoopAt.freeze 1 ?_
    simp only [ASt.setObj, ASt.obj, ASt.map, ASt.freeze, AV.map, AObj.map, AC.frz, List.getD_cons_succ, List.getD_cons_zero, List.set_cons_succ, List.set_cons_zero, List.map_cons, List.map_nil, cond_true, cond_false, beq_self_eq_true, Nat.reduceBEq]
    generalize shS a = ss at *
    refine LoopAt.inv (ι := Nat) (T := tab) (fun i => [(12, .c (.int .i64 i))]) (fun i => [rowU (sig (ss.take i)), .gone]) (fun i => i ≤ ss.length) (fun i => ss.length - i) tabOK 0 (Nat.zero_le _) ?_ ?_
    · (simp only [LessC, headSt, dsts, opDsts, resetS, putsS, lessS, lessO, belowS, belowO, AV.below, AObj.below, AC.below, List.set_cons_succ, List.set_cons_zero, List.cons_append, List.nil_append, List.append_nil, List.length_cons, List.length_nil, List.take_zero, Nat.reduceLT, Int.cast_ofNat_Int, AV.c.injEq, AObj.row.injEq, heq_eq_eq, true_and, and_true, and_self, reduceCtorEq, Bool.and_true, Nat.zero_add, Nat.reduceAdd, Nat.reduceLeDiff, eq_self, decide_true, or_true] <;> try omega)
      rfl
    intro i hi
    simp only [VCp, headSt, dsts, opDsts, resetS, putsS, VC_skip, VC_region, VC_seq, VC_cond, VC_block, VC_loop, VC_exit, VC_ret, aops_nil, aops_cons, put_some, qop, isQuiet, ASt.eval, AV.need, AV.ac, qbin, binInt, qlen, qindexAddr, qload, ASt.obj, DV.ac, ofCells, TI.isAgg, isScalar, avOf, acOf, eInt, eStr, eList, List.getD_cons_succ, List.getD_cons_zero, List.set_cons_succ, List.set_cons_zero, List.map_cons, List.map_nil, List.cons_append, List.nil_append, List.append_nil, List.length_cons, List.length_nil, List.take_succ_cons, List.take_nil, List.headD_cons, Int.toNat_natCast, decide_eq_true_eq, decide_eq_false_iff_not, Int.not_lt, true_and, and_self, not_false_eq_true, if_true, Nat.zero_add, Nat.le_refl, eq_self, Nat.succ_ne_self, tab_3, tab_9, tab_70, tab_74]
    refine ⟨fun h => ?_, fun h => ?_⟩
    · have hi' : i < ss.length := by omega
      have htk : ss.take (i + 1) = ss.take i ++ [ss.getD i eS] := take_next ss i eS hi'
      have hs4 := hsz _ (getD_mem' hi')
      have hsl16 : (sig (ss.take i)).length = 16 := by simp [sig]
      have hnil : ss.take i = [] ↔ i = 0 := by
        constructor
        · intro e
          have := congrArg List.length e
          simp at this
          rcases this with h1 | h1
          · exact h1
          · subst h1; simp at hi'
        · rintro rfl; simp
      refine ⟨⟨by omega, by omega⟩, ?_⟩
      generalize ss.getD i ⟨#[]⟩ = s at *
      refine LoopAt.inv (ι := Nat) (T := tab) (fun k => [(19, .c (.int .i64 k))]) (fun k => [rowU (sigAt (ss.take i) s k), .gone]) (fun k => k ≤ 16) (fun k => 16 - k) tabOK 0 (Nat.zero_le _) ?_ ?_
      · (simp only [LessC, headSt, dsts, opDsts, resetS, putsS, lessS, lessO, belowS, belowO, AV.below, AObj.below, AC.below, List.set_cons_succ, List.set_cons_zero, List.cons_append, List.nil_append, List.append_nil, List.length_cons, List.length_nil, Nat.reduceLT, Int.cast_ofNat_Int, AV.c.injEq, AObj.row.injEq, heq_eq_eq, true_and, and_true, and_self, reduceCtorEq, Bool.and_true, Nat.zero_add, Nat.reduceAdd, Nat.reduceLeDiff, eq_self, decide_true, or_true] <;> try omega)
        exact sigAt_zero.symm
      intro k hkb
      have hkl := sigAt_len (l := ss.take i) (s := s) (k := k)
      simp only [VCp, headSt, dsts, opDsts, resetS, putsS, ownSl, ownPart, VC_skip, VC_region, VC_seq, VC_cond, VC_block, VC_exit, VC_ret, aops_nil, aops_cons, put_some, aop, qop, isQuiet, ASt.eval, ASt.ev, AV.strip, AV.need, AV.ac, AV.cells, AV.isTup, qbin, binInt, qconvert, needAll, ned, partsOf, fitAll, AC.fits, abuildSlice, elems, setPart, appSrc, aappend, newObj, ASt.setObj, ASt.obj, ASt.map, frzRefs, AV.map, AObj.map, AC.kill, dvs, AC.dv, leD, leD1, isScalar, avOf, acOf, eInt, eStr, eList, List.getD_cons_succ, List.getD_cons_zero, List.set_cons_succ, List.set_cons_zero, List.map_cons, List.map_nil, List.replicate_succ, List.replicate_zero, List.cons_append, List.nil_append, List.append_nil, List.length_cons, List.length_nil, List.all_cons, List.all_nil, List.flatMap_cons, List.flatMap_nil, Nat.reduceLT, Int.cast_ofNat_Int, ↓ex_rfl, cast_eq, heq_eq_eq, DV.int.injEq, exists_eq_left', decide_eq_true_eq, decide_eq_false_iff_not, Int.not_lt, true_and, and_true, and_self, reduceCtorEq, not_false_eq_true, Bool.and_true, cond_true, cond_false, beq_self_eq_true, if_true, if_false, Nat.zero_add, Nat.reduceAdd, Nat.reduceMul, Nat.reduceBEq, Nat.reduceLeDiff, eq_self, Nat.succ_ne_self, tab_3, tab_5, tab_9, tab_22, hsl16]
      refine ⟨fun h => ⟨rfl, by omega, by omega, ?_⟩, fun h => ?_⟩
      · have hk' : k < 16 := by omega
        have wk : IntKind.u8.wrap (k : Int) = (k : Int) := by simp [IntKind.wrap, IntKind.signed, IntKind.bits]; omega
        have hgk := sigAt_get (l := ss.take i) (s := s) hk'
        rw [wk]
        refine CallAt.view [2] (hash_spec ((k : Int) :: u8s s) (by simp; omega)) rfl (fun r os h => by obtain ⟨rfl, rfl⟩ := h; exact ⟨trivial, fun _ h => by cases h⟩) ?_
        rintro r os ⟨rfl, rfl⟩
        have ehk : hashF ((k : Int) :: u8s s) = hk k s := rfl
        rw [ehk]
        have hmn := mn_next (k := k) (l := ss.take i) (s := s)
        by_cases c0 : i = 0
        · have zc : ((i : Int) = 0) = True := eq_true (by omega)
          rw [if_pos (.inl (hnil.2 c0))] at hmn
          simp only [VC_skip, VC_region, VC_seq, VC_cond, aops_nil, aops_cons, put_some, put_none, aop, qop, isQuiet, ASt.eval, ASt.ev, AV.strip, AV.need, AV.ac, AV.cells, AV.isTup, onG, guardOf, qbin, binInt, qpick, qpick0, qindexAddr, qload, splice, ned, astore, ASt.setObj, ASt.obj, frzRefs, AV.map, dvs, AC.dv, DV.ac, leD, leD1, ofCells, TI.isAgg, isScalar, avOf, acOf, AC.ren, giveBack, afterCall, eInt, eList, List.getD_cons_succ, List.getD_cons_zero, List.set_cons_succ, List.set_cons_zero, List.map_cons, List.map_nil, List.nil_append, List.append_nil, List.length_cons, List.length_nil, List.drop_succ_cons, List.drop_zero, List.drop_nil, List.take_succ_cons, List.take_zero, List.take_nil, List.headD_cons, List.getElem?_cons_succ, List.getElem?_cons_zero, Option.bind_some, DV.int.injEq, exists_eq_left', Int.toNat_natCast, implies_true, imp_self, beq_false, true_and, and_true, and_self, forall_const, false_implies, not_false_eq_true, Bool.and_false, Bool.false_eq_true, Bool.true_eq_false, Bool.not_true, cond_true, Nat.zero_add, Nat.reduceAdd, Nat.le_refl, eq_self, Nat.succ_ne_self, decide_true, tab_3, tab_70, tab_80, zc]
          refine ⟨⟨by omega, by omega⟩, by omega, k + 1, by omega, by omega, ?_⟩
          rw [← sigAt_set hmn.symm]
          (simp only [LessC, lessS, lessO, belowS, belowO, AV.below, AObj.below, AC.below, List.length_cons, List.length_nil, Nat.reduceLT, Int.cast_ofNat_Int, Int.natCast_add, AV.c.injEq, AC.int.injEq, true_and, and_true, and_self, reduceCtorEq, Bool.and_true, Nat.zero_add, Nat.reduceAdd, Nat.reduceLeDiff, eq_self, decide_true, or_true, or_false, false_or] <;> try omega)
          all_goals exact i64_in _ (by omega)
        · have zc : ((i : Int) = 0) = False := eq_false (by omega)
          have hn0 : ¬ ss.take i = [] := fun e => c0 (hnil.1 e)
          by_cases c1 : hk k s < mn k (ss.take i)
          · have z1 : (hk k s < mn k (ss.take i)) = True := eq_true c1
            rw [if_pos (.inr c1)] at hmn
            simp only [VC_skip, VC_region, VC_seq, VC_cond, aops_nil, aops_cons, put_some, put_none, aop, qop, isQuiet, ASt.eval, ASt.ev, AV.strip, AV.need, AV.ac, AV.cells, AV.isTup, onG, guardOf, qbin, binInt, qpick, qpick0, qindexAddr, qload, splice, ned, astore, ASt.setObj, ASt.obj, frzRefs, AV.map, dvs, AC.dv, DV.ac, leD, leD1, ofCells, TI.isAgg, isScalar, avOf, acOf, AC.ren, giveBack, afterCall, eInt, eList, List.getD_cons_succ, List.getD_cons_zero, List.set_cons_succ, List.set_cons_zero, List.map_cons, List.map_nil, List.nil_append, List.append_nil, List.length_cons, List.length_nil, List.drop_succ_cons, List.drop_zero, List.drop_nil, List.take_succ_cons, List.take_zero, List.take_nil, List.headD_cons, List.getElem?_cons_succ, List.getElem?_cons_zero, Option.bind_some, Int.cast_ofNat_Int, DV.int.injEq, exists_eq_left', Int.toNat_natCast, implies_true, true_and, and_true, and_self, forall_const, false_implies, not_false_eq_true, Bool.and_true, Bool.true_eq_false, Bool.not_false, cond_false, beq_self_eq_true, Nat.zero_add, Nat.reduceAdd, Nat.le_refl, eq_self, Nat.succ_ne_self, decide_true, decide_false, tab_3, tab_70, tab_80, zc, hgk, hkl, z1]
            refine ⟨⟨by omega, by omega⟩, by omega, ⟨by omega, by omega⟩, by omega, k + 1, by omega, by omega, ?_⟩
            rw [← sigAt_set hmn.symm]
            (simp only [LessC, lessS, lessO, belowS, belowO, AV.below, AObj.below, AC.below, List.length_cons, List.length_nil, Nat.reduceLT, Int.cast_ofNat_Int, Int.natCast_add, AV.c.injEq, AC.int.injEq, true_and, and_true, and_self, reduceCtorEq, Bool.and_true, Nat.zero_add, Nat.reduceAdd, Nat.reduceLeDiff, eq_self, decide_true, or_true, or_false, false_or] <;> try omega)
            all_goals exact i64_in _ (by omega)
          · have z1 : (hk k s < mn k (ss.take i)) = False := eq_false c1
            rw [if_neg (fun h' => h'.elim hn0 c1)] at hmn
            simp only [VC_skip, VC_region, VC_seq, VC_cond, aops_nil, aops_cons, put_some, put_none, aop, qop, isQuiet, ASt.eval, ASt.ev, AV.strip, AV.need, AV.ac, AV.cells, AV.isTup, onG, guardOf, qbin, binInt, qpick, qpick0, qindexAddr, qload, splice, ned, astore, ASt.setObj, ASt.obj, frzRefs, AV.map, dvs, AC.dv, DV.ac, leD, leD1, ofCells, TI.isAgg, isScalar, avOf, acOf, AC.ren, giveBack, afterCall, eInt, eList, List.getD_cons_succ, List.getD_cons_zero, List.set_cons_succ, List.set_cons_zero, List.map_cons, List.map_nil, List.nil_append, List.append_nil, List.length_cons, List.length_nil, List.drop_succ_cons, List.drop_zero, List.drop_nil, List.take_succ_cons, List.take_zero, List.take_nil, List.headD_cons, List.getElem?_cons_succ, List.getElem?_cons_zero, Option.bind_some, Int.cast_ofNat_Int, DV.int.injEq, exists_eq_left', Int.toNat_natCast, implies_true, true_and, and_true, and_self, forall_const, false_implies, not_false_eq_true, Bool.and_true, Bool.false_eq_true, Bool.not_false, cond_false, beq_self_eq_true, Nat.zero_add, Nat.reduceAdd, Nat.le_refl, eq_self, Nat.succ_ne_self, decide_false, tab_3, tab_70, tab_80, zc, hgk, hkl, z1]
            refine ⟨⟨by omega, by omega⟩, by omega, k + 1, by omega, by omega, ?_⟩
            rw [← sigAt_same hmn.symm]
            (simp only [LessC, lessS, lessO, belowS, belowO, AV.below, AObj.below, AC.below, List.length_cons, List.length_nil, Nat.reduceLT, Int.cast_ofNat_Int, Int.natCast_add, AV.c.injEq, AC.int.injEq, true_and, and_true, and_self, reduceCtorEq, Bool.and_true, Nat.zero_add, Nat.reduceAdd, Nat.reduceLeDiff, eq_self, decide_true, or_true, or_false, false_or] <;> try omega)
            all_goals exact i64_in _ (by omega)
      · have hk16 : k = 16 := by omega
        rw [hk16, sigAt_full]
        refine ⟨i + 1, by omega, by omega, ?_⟩
        rw [htk]
        (simp only [LessC, lessS, lessO, belowS, belowO, AV.below, AObj.below, AC.below, List.length_cons, List.length_nil, Int.reduceLT, Nat.reduceLT, Int.cast_ofNat_Int, Int.natCast_add, AV.c.injEq, AC.int.injEq, true_and, and_true, and_self, reduceCtorEq, Bool.and_true, Nat.zero_add, Nat.reduceAdd, Nat.reduceLeDiff, eq_self, decide_true, decide_false, or_true, or_false, false_or] <;> try omega)
        all_goals exact i64_in _ (by omega)
    · have hin : i = ss.length := by omega
      rw [hin, List.take_length]
      refine RetAt.keeping [0] (by decide) ?_ ?_ <;> simp only [resOf, tupOf, keepObjs, keepObjs, XObj.amap, ASt.eval, AV.strip, AV.need, AV.map, AObj.map, findIx, AC.ren, List.getD_cons_succ, List.getD_cons_zero, List.map_cons, List.map_nil, and_self, cond_true, beq_self_eq_true, eq_self]
  · have hml : m = (shS a).length := by rw [← hz, List.length_take]; omega
    simp only [VC_block, VC_loop, aops_nil, aops_cons, put_some, qop, isQuiet, ASt.eval, AV.need, AV.ac, qlen, AV.map, AObj.map, avOf, acOf, AC.ren, backIx, giveBack, afterCall, eStr, eList, List.getD_cons_succ, List.getD_cons_zero, List.set_cons_succ, List.set_cons_zero, List.map_cons, List.map_nil, List.cons_append, List.nil_append, List.length_cons, List.length_nil, List.getElem?_nil, true_and, and_self, Nat.add_zero, Nat.zero_add, Nat.reduceSub, tab_74]
    refine LoopAt.freeze 1 ?_
    simp only [ASt.setObj, ASt.obj, ASt.map, ASt.freeze, AV.map, AObj.map, AC.frz, List.getD_cons_succ, List.getD_cons_zero, List.set_cons_succ, List.set_cons_zero, List.map_cons, List.map_nil, List.drop_zero, cond_true, cond_false, beq_self_eq_true, Nat.reduceBEq, hz]
    rw [hml]
    generalize shS a = ss at *
    refine LoopAt.inv (ι := Nat) (T := tab) (fun i => [(12, .c (.int .i64 i))]) (fun i => [rowU (sig (ss.take i)), .gone]) (fun i => i ≤ ss.length) (fun i => ss.length - i) tabOK 0 (Nat.zero_le _) ?_ ?_
    · (simp only [LessC, headSt, dsts, opDsts, resetS, putsS, lessS, lessO, belowS, belowO, AV.below, AObj.below, AC.below, List.set_cons_succ, List.set_cons_zero, List.cons_append, List.nil_append, List.append_nil, List.length_cons, List.length_nil, List.take_zero, Nat.reduceLT, Int.cast_ofNat_Int, AV.c.injEq, AObj.row.injEq, heq_eq_eq, true_and, and_true, and_self, reduceCtorEq, Bool.and_true, Nat.zero_add, Nat.reduceAdd, Nat.reduceLeDiff, eq_self, decide_true, or_true] <;> try omega)
      rfl
    intro i hi
    simp only [VCp, headSt, dsts, opDsts, resetS, putsS, VC_skip, VC_region, VC_seq, VC_cond, VC_block, VC_loop, VC_exit, VC_ret, aops_nil, aops_cons, put_some, qop, isQuiet, ASt.eval, AV.need, AV.ac, qbin, binInt, qlen, qindexAddr, qload, ASt.obj, DV.ac, ofCells, TI.isAgg, isScalar, avOf, acOf, eInt, eStr, eList, List.getD_cons_succ, List.getD_cons_zero, List.set_cons_succ, List.set_cons_zero, List.map_cons, List.map_nil, List.cons_append, List.nil_append, List.append_nil, List.length_cons, List.length_nil, List.take_succ_cons, List.take_nil, List.headD_cons, Int.toNat_natCast, decide_eq_true_eq, decide_eq_false_iff_not, Int.not_lt, true_and, and_self, not_false_eq_true, if_true, Nat.zero_add, Nat.le_refl, eq_self, Nat.succ_ne_self, tab_3, tab_9, tab_70, tab_74]
    refine ⟨fun h => ?_, fun h => ?_⟩
    · have hi' : i < ss.length := by omega
      have htk : ss.take (i + 1) = ss.take i ++ [ss.getD i eS] := take_next ss i eS hi'
      have hs4 := hsz _ (getD_mem' hi')
      have hsl16 : (sig (ss.take i)).length = 16 := by simp [sig]
      have hnil : ss.take i = [] ↔ i = 0 := by
        constructor
        · intro e
          have := congrArg List.length e
          simp at this
          rcases this with h1 | h1
          · exact h1
          · subst h1; simp at hi'
        · rintro rfl; simp
      refine ⟨⟨by omega, by omega⟩, ?_⟩
      generalize ss.getD i ⟨#[]⟩ = s at *
      refine LoopAt.inv (ι := Nat) (T := tab) (fun k => [(19, .c (.int .i64 k))]) (fun k => [rowU (sigAt (ss.take i) s k), .gone]) (fun k => k ≤ 16) (fun k => 16 - k) tabOK 0 (Nat.zero_le _) ?_ ?_
      · (simp only [LessC, headSt, dsts, opDsts, resetS, putsS, lessS, lessO, belowS, belowO, AV.below, AObj.below, AC.below, List.set_cons_succ, List.set_cons_zero, List.cons_append, List.nil_append, List.append_nil, List.length_cons, List.length_nil, Nat.reduceLT, Int.cast_ofNat_Int, AV.c.injEq, AObj.row.injEq, heq_eq_eq, true_and, and_true, and_self, reduceCtorEq, Bool.and_true, Nat.zero_add, Nat.reduceAdd, Nat.reduceLeDiff, eq_self, decide_true, or_true] <;> try omega)
        exact sigAt_zero.symm
      intro k hkb
      have hkl := sigAt_len (l := ss.take i) (s := s) (k := k)
      simp only [VCp, headSt, dsts, opDsts, resetS, putsS, ownSl, ownPart, VC_skip, VC_region, VC_seq, VC_cond, VC_block, VC_exit, VC_ret, aops_nil, aops_cons, put_some, aop, qop, isQuiet, ASt.eval, ASt.ev, AV.strip, AV.need, AV.ac, AV.cells, AV.isTup, qbin, binInt, qconvert, needAll, ned, partsOf, fitAll, AC.fits, abuildSlice, elems, setPart, appSrc, aappend, newObj, ASt.setObj, ASt.obj, ASt.map, frzRefs, AV.map, AObj.map, AC.kill, dvs, AC.dv, leD, leD1, isScalar, avOf, acOf, eInt, eStr, eList, List.getD_cons_succ, List.getD_cons_zero, List.set_cons_succ, List.set_cons_zero, List.map_cons, List.map_nil, List.replicate_succ, List.replicate_zero, List.cons_append, List.nil_append, List.append_nil, List.length_cons, List.length_nil, List.all_cons, List.all_nil, List.flatMap_cons, List.flatMap_nil, Nat.reduceLT, Int.cast_ofNat_Int, ↓ex_rfl, cast_eq, heq_eq_eq, DV.int.injEq, exists_eq_left', decide_eq_true_eq, decide_eq_false_iff_not, Int.not_lt, true_and, and_true, and_self, reduceCtorEq, not_false_eq_true, Bool.and_true, cond_true, cond_false, beq_self_eq_true, if_true, if_false, Nat.zero_add, Nat.reduceAdd, Nat.reduceMul, Nat.reduceBEq, Nat.reduceLeDiff, eq_self, Nat.succ_ne_self, tab_3, tab_5, tab_9, tab_22, hsl16]
      refine ⟨fun h => ⟨rfl, by omega, by omega, ?_⟩, fun h => ?_⟩
      · have hk' : k < 16 := by omega
        have wk : IntKind.u8.wrap (k : Int) = (k : Int) := by simp [IntKind.wrap, IntKind.signed, IntKind.bits]; omega
        have hgk := sigAt_get (l := ss.take i) (s := s) hk'
        rw [wk]
        refine CallAt.view [2] (hash_spec ((k : Int) :: u8s s) (by simp; omega)) rfl (fun r os h => by obtain ⟨rfl, rfl⟩ := h; exact ⟨trivial, fun _ h => by cases h⟩) ?_
        rintro r os ⟨rfl, rfl⟩
        have ehk : hashF ((k : Int) :: u8s s) = hk k s := rfl
        rw [ehk]
        have hmn := mn_next (k := k) (l := ss.take i) (s := s)
        by_cases c0 : i = 0
        · have zc : ((i : Int) = 0) = True := eq_true (by omega)
          rw [if_pos (.inl (hnil.2 c0))] at hmn
          simp only [VC_skip, VC_region, VC_seq, VC_cond, aops_nil, aops_cons, put_some, put_none, aop, qop, isQuiet, ASt.eval, ASt.ev, AV.strip, AV.need, AV.ac, AV.cells, AV.isTup, onG, guardOf, qbin, binInt, qpick, qpick0, qindexAddr, qload, splice, ned, astore, ASt.setObj, ASt.obj, frzRefs, AV.map, dvs, AC.dv, DV.ac, leD, leD1, ofCells, TI.isAgg, isScalar, avOf, acOf, AC.ren, giveBack, afterCall, eInt, eList, List.getD_cons_succ, List.getD_cons_zero, List.set_cons_succ, List.set_cons_zero, List.map_cons, List.map_nil, List.nil_append, List.append_nil, List.length_cons, List.length_nil, List.drop_succ_cons, List.drop_zero, List.drop_nil, List.take_succ_cons, List.take_zero, List.take_nil, List.headD_cons, List.getElem?_cons_succ, List.getElem?_cons_zero, Option.bind_some, DV.int.injEq, exists_eq_left', Int.toNat_natCast, implies_true, imp_self, beq_false, true_and, and_true, and_self, forall_const, false_implies, not_false_eq_true, Bool.and_false, Bool.false_eq_true, Bool.true_eq_false, Bool.not_true, cond_true, Nat.zero_add, Nat.reduceAdd, Nat.le_refl, eq_self, Nat.succ_ne_self, decide_true, tab_3, tab_70, tab_80, zc]
          refine ⟨⟨by omega, by omega⟩, by omega, k + 1, by omega, by omega, ?_⟩
          rw [← sigAt_set hmn.symm]
          (simp only [LessC, lessS, lessO, belowS, belowO, AV.below, AObj.below, AC.below, List.length_cons, List.length_nil, Nat.reduceLT, Int.cast_ofNat_Int, Int.natCast_add, AV.c.injEq, AC.int.injEq, true_and, and_true, and_self, reduceCtorEq, Bool.and_true, Nat.zero_add, Nat.reduceAdd, Nat.reduceLeDiff, eq_self, decide_true, or_true, or_false, false_or] <;> try omega)
          all_goals exact i64_in _ (by omega)
        · have zc : ((i : Int) = 0) = False := eq_false (by omega)
          have hn0 : ¬ ss.take i = [] := fun e => c0 (hnil.1 e)
          by_cases c1 : hk k s < mn k (ss.take i)
          · have z1 : (hk k s < mn k (ss.take i)) = True := eq_true c1
            rw [if_pos (.inr c1)] at hmn
            simp only [VC_skip, VC_region, VC_seq, VC_cond, aops_nil, aops_cons, put_some, put_none, aop, qop, isQuiet, ASt.eval, ASt.ev, AV.strip, AV.need, AV.ac, AV.cells, AV.isTup, onG, guardOf, qbin, binInt, qpick, qpick0, qindexAddr, qload, splice, ned, astore, ASt.setObj, ASt.obj, frzRefs, AV.map, dvs, AC.dv, DV.ac, leD, leD1, ofCells, TI.isAgg, isScalar, avOf, acOf, AC.ren, giveBack, afterCall, eInt, eList, List.getD_cons_succ, List.getD_cons_zero, List.set_cons_succ, List.set_cons_zero, List.map_cons, List.map_nil, List.nil_append, List.append_nil, List.length_cons, List.length_nil, List.drop_succ_cons, List.drop_zero, List.drop_nil, List.take_succ_cons, List.take_zero, List.take_nil, List.headD_cons, List.getElem?_cons_succ, List.getElem?_cons_zero, Option.bind_some, Int.cast_ofNat_Int, DV.int.injEq, exists_eq_left', Int.toNat_natCast, implies_true, true_and, and_true, and_self, forall_const, false_implies, not_false_eq_true, Bool.and_true, Bool.true_eq_false, Bool.not_false, cond_false, beq_self_eq_true, Nat.zero_add, Nat.reduceAdd, Nat.le_refl, eq_self, Nat.succ_ne_self, decide_true, decide_false, tab_3, tab_70, tab_80, zc, hgk, hkl, z1]
            refine ⟨⟨by omega, by omega⟩, by omega, ⟨by omega, by omega⟩, by omega, k + 1, by omega, by omega, ?_⟩
            rw [← sigAt_set hmn.symm]
            (simp only [LessC, lessS, lessO, belowS, belowO, AV.below, AObj.below, AC.below, List.length_cons, List.length_nil, Nat.reduceLT, Int.cast_ofNat_Int, Int.natCast_add, AV.c.injEq, AC.int.injEq, true_and, and_true, and_self, reduceCtorEq, Bool.and_true, Nat.zero_add, Nat.reduceAdd, Nat.reduceLeDiff, eq_self, decide_true, or_true, or_false, false_or] <;> try omega)
            all_goals exact i64_in _ (by omega)
          · have z1 : (hk k s < mn k (ss.take i)) = False := eq_false c1
            rw [if_neg (fun h' => h'.elim hn0 c1)] at hmn
            simp only [VC_skip, VC_region, VC_seq, VC_cond, aops_nil, aops_cons, put_some, put_none, aop, qop, isQuiet, ASt.eval, ASt.ev, AV.strip, AV.need, AV.ac, AV.cells, AV.isTup, onG, guardOf, qbin, binInt, qpick, qpick0, qindexAddr, qload, splice, ned, astore, ASt.setObj, ASt.obj, frzRefs, AV.map, dvs, AC.dv, DV.ac, leD, leD1, ofCells, TI.isAgg, isScalar, avOf, acOf, AC.ren, giveBack, afterCall, eInt, eList, List.getD_cons_succ, List.getD_cons_zero, List.set_cons_succ, List.set_cons_zero, List.map_cons, List.map_nil, List.nil_append, List.append_nil, List.length_cons, List.length_nil, List.drop_succ_cons, List.drop_zero, List.drop_nil, List.take_succ_cons, List.take_zero, List.take_nil, List.headD_cons, List.getElem?_cons_succ, List.getElem?_cons_zero, Option.bind_some, Int.cast_ofNat_Int, DV.int.injEq, exists_eq_left', Int.toNat_natCast, implies_true, true_and, and_true, and_self, forall_const, false_implies, not_false_eq_true, Bool.and_true, Bool.false_eq_true, Bool.not_false, cond_false, beq_self_eq_true, Nat.zero_add, Nat.reduceAdd, Nat.le_refl, eq_self, Nat.succ_ne_self, decide_false, tab_3, tab_70, tab_80, zc, hgk, hkl, z1]
            refine ⟨⟨by omega, by omega⟩, by omega, k + 1, by omega, by omega, ?_⟩
            rw [← sigAt_same hmn.symm]
            (simp only [LessC, lessS, lessO, belowS, belowO, AV.below, AObj.below, AC.below, List.length_cons, List.length_nil, Nat.reduceLT, Int.cast_ofNat_Int, Int.natCast_add, AV.c.injEq, AC.int.injEq, true_and, and_true, and_self, reduceCtorEq, Bool.and_true, Nat.zero_add, Nat.reduceAdd, Nat.reduceLeDiff, eq_self, decide_true, or_true, or_false, false_or] <;> try omega)
            all_goals exact i64_in _ (by omega)
      · have hk16 : k = 16 := by omega
        rw [hk16, sigAt_full]
        refine ⟨i + 1, by omega, by omega, ?_⟩
        rw [htk]
        (simp only [LessC, lessS, lessO, belowS, belowO, AV.below, AObj.below, AC.below, List.length_cons, List.length_nil, Int.reduceLT, Nat.reduceLT, Int.cast_ofNat_Int, Int.natCast_add, AV.c.injEq, AC.int.injEq, true_and, and_true, and_self, reduceCtorEq, Bool.and_true, Nat.zero_add, Nat.reduceAdd, Nat.reduceLeDiff, eq_self, decide_true, decide_false, or_true, or_false, false_or] <;> try omega)
        all_goals exact i64_in _ (by omega)
    · have hin : i = ss.length := by omega
      rw [hin, List.take_length]
      refine RetAt.keeping [0] (by decide) ?_ ?_ <;> simp only [resOf, tupOf, keepObjs, keepObjs, XObj.amap, ASt.eval, AV.strip, AV.need, AV.map, AObj.map, findIx, AC.ren, List.getD_cons_succ, List.getD_cons_zero, List.map_cons, List.map_nil, and_self, cond_true, beq_self_eq_true, eq_self]
end Go.Vc.Ne
