/- Maps: what their operations do. -/
import Derived.Test.YtcjcfpbbhmhlbaaV11Y
set_option linter.unusedVariables false
set_option linter.unusedSimpArgs false
namespace Go.Vc
open Go.ChangeMaps (setBlock)
section
variable {β : Type} {k : List KA} {es : List (Nat × List KA × β)}
theorem mhas_find (h : mfind k es = none) : mhas es k = false := by simp [mhas, h]
theorem mhas_some {y : β} (h : mfind k es = some y) : mhas es k = true := by simp [mhas, h]
theorem mset_at {v : β} : ∀ {es : List (Nat × List KA × β)} {j : Nat} {x : Nat × List KA × β}, es[j]? = some x → x.2.1 = k → (∀ j' x', j' < j → es[j']? = some x' → x'.2.1 ≠ k) → mset k v es = es.set j (x.1, k, v)
  | [], j, x, h, _, _ => by simp at h
  | e :: es, 0, x, h, hx, _ => by
    simp only [List.getElem?_cons_zero, Option.some.injEq] at h
    subst h
    simp [mset, hx]
  | e :: es, j + 1, x, h, hx, hb => by
    have h0 := hb 0 e (by omega) rfl
    simp only [mset, h0, if_false, List.set_cons_succ]
    rw [mset_at (by simpa using h) hx fun j' x' hj hx' => hb (j' + 1) x' (by omega) hx']
theorem mdel_at : ∀ {es : List (Nat × List KA × β)} {j : Nat} {x : Nat × List KA × β}, es[j]? = some x → x.2.1 = k → (∀ j' x', j' < j → es[j']? = some x' → x'.2.1 ≠ k) → mdel k es = es.eraseIdx j
  | [], j, x, h, _, _ => by simp at h
  | e :: es, 0, x, h, hx, _ => by
    simp only [List.getElem?_cons_zero, Option.some.injEq] at h
    subst h
    simp [mdel, hx]
  | e :: es, j + 1, x, h, hx, hb => by
    have h0 := hb 0 e (by omega) rfl
    simp only [mdel, h0, if_false, List.eraseIdx_cons_succ]
    rw [mdel_at (by simpa using h) hx fun j' x' hj hx' => hb (j' + 1) x' (by omega) hx']
theorem mdel_none : ∀ {es : List (Nat × List KA × β)}, mfind k es = none → mdel k es = es
  | [], _ => rfl
  | e :: es, h => by
    by_cases he : e.2.1 = k
    · simp [mfind, he] at h
    · simp only [mfind, he, if_false] at h
      simp only [mdel, he, if_false, mdel_none h]
theorem mfind_none : ∀ {es : List (Nat × List KA × β)}, mfind k es = none → ∀ e ∈ es, e.2.1 ≠ k
  | [], _, e, he => by cases he
  | x :: es, h, e, he => by
    by_cases hx : x.2.1 = k
    · simp [mfind, hx] at h
    · simp only [mfind, hx, if_false] at h
      rcases List.mem_cons.1 he with rfl | he
      · exact hx
      · exact mfind_none h e he
end
section
variable {P : Program} {T : Tab} {F : Fr} {st : ASt} {hs : Nat → Value} {a : Act} {w : World}

theorem sameBits_key {ks : KSh} {l : List KA} (h : keyFit ks l) : Instr.sameBits 10000 (keyVal l) (keyVal l) = true := by
  show Instr.sameBits (9999 + 1) _ _ = true
  cases ks <;> simp only [keyFit] at h <;> try exact h.elim
  all_goals (obtain ⟨n, rfl⟩ := h)
  · simp [keyVal, KA.val, Instr.sameBits]
  · simp [keyVal, KA.val, Instr.sameBits]
  · simp [keyVal, KA.val, Instr.sameBits, ba_beq]
theorem run_setMap {b : Nat} {arr : Array MapEntry} {clock : Nat} (o : Obj) (hb : w.heap[b]? = some (.map arr clock)) : (setObj b o).run P w = .ok () { w with heap := w.heap.setIfInBounds b o } := by
  simp [setObj, Sem.run, hb]
theorem block_keep (b : Nat) (o : Obj) : Keep (fun x => x = b) w { w with heap := w.heap.setIfInBounds b o } :=
  ⟨rfl, rfl, rfl, by simp, fun x _ hx => by
    have hx' : ¬ b = x := fun e => hx e.symm
    simp only [Array.getElem?_setIfInBounds, hx', if_false]⟩
theorem block_same {b : Nat} {o o' : Obj} (hb : w.heap[b]? = some o') : ({ w with heap := w.heap.setIfInBounds b o } : World).heap[b]? = some o := by
  have := (Array.getElem?_eq_some_iff.1 hb).1
  simp [this]

theorem makeMap_sound (hT : TabOK P T) (h : Sim F st hs a w) {dst : Option Tmp} {t : TypeId} {r : Option Value} (hr : ∀ v, r = some v → ∃ k n, v = .int k n) {K : ASt → Prop} (hk : amakeMap T st dst t K) :
    ∃ v w', (Instr.makeMap t r).run P w = .ok v w' ∧ ∃ st' hs' av, K (st'.put dst av) ∧ Sim F st' hs' a w' ∧ RV w' (avoid F st'.objs hs') hs' av v := by
  unfold amakeMap at hk
  cases hsh : (T t).sh <;> simp only [hsh] at hk <;> try exact hk.elim
  rename_i kt vt
  cases hE : (T vt).enc with
  | none => rw [hE] at hk; exact hk.elim
  | some E =>
    simp only [hE] at hk
    obtain ⟨h1, h2, hK⟩ := hk
    have hu : P.underlying t = some (.map kt vt) := hT.sh hsh (by simp)
    obtain ⟨hS, _⟩ := h.new (ob := .ext (.map kt vt (kshOf T kt) (T vt).isAgg E.α E.z E.enc 0 [])) (u := .map (some w.heap.size)) (w' := w.alloc (.map #[] 0)) (Keep.alloc _ w _) (fun b hb => by simp [foot, XObj.foot, hblk] at hb; omega) fun hcc hdd =>
      ⟨w.heap.size, #[], rfl, heap_alloc_new w _, rfl, ⟨fun e he => (by cases he), .nil, .nil⟩, fun e he => (by cases he), fun i x e hx => (by simp at hx)⟩
    refine ⟨.map (some w.heap.size), w.alloc (.map #[] 0), ?_, _, _, _, hK, hS, ?_, ?_, ?_⟩
    · cases r with
      | none => simp [Instr.makeMap, Go.newObj]; rfl
      | some v =>
        obtain ⟨k, n, rfl⟩ := hr v rfl
        simp [Instr.makeMap, run_underlying hu, Go.newObj, asInt, asIntOf]; rfl
    · rw [setH_same]
    · rw [setH_same]; rfl
    · rw [setH_same]; simp

theorem RV_to_VRel {O : Nat → Prop} {v : AV} {u : Value} {ds : List DV} {β : Type} {enc : β → List DV} {y : β} (hv : RV w O hs v u) (hn : v.need true) (ht : v.isTup = false) (hds : dvs v.cells = some ds) (hle : leD ds (enc y)) : VRel w O v.isA (enc y) u := by
  obtain ⟨hc, _⟩ := hv.cells hn ht (dvs_fits _ _ hds)
  obtain ⟨h1, h2⟩ := dvs_RD hds hc
  obtain ⟨h3, h4⟩ := leD_get hle
  have key : ∀ (j : Nat) (d : DV) (v : Value), (enc y)[j]? = some d → u.cells.toList[j]? = some v → RD w O d v := fun j d v hd hu => by
    obtain ⟨d', hd', hl⟩ := h4 j d hd
    exact leD1_RD hl (h2 j d' v hd' hu)
  cases v with
  | agg cs =>
    obtain ⟨arr, rfl, hr⟩ := hv
    refine ⟨arr, rfl, ?_, fun j d u hd hu => key j d u hd (by simpa [Value.cells] using hu)⟩
    have := h1; simp [Value.cells] at this; omega
  | tup vs => cases ht
  | c x =>
    have hl : (enc y).length = 1 := by
      simp only [AV.cells, dvs] at hds
      cases hx : x.dv with
      | none => rw [hx] at hds; cases hds
      | some d => rw [hx] at hds; simp only [Option.some.injEq] at hds; subst hds; simpa using h3.symm
    obtain ⟨d, hd⟩ := List.length_eq_one_iff.1 hl
    refine ⟨d, hd, key 0 d u (by rw [hd]; rfl) ?_⟩
    have : u.cells.toList.length = 1 := by rw [← h1, h3, hl]
    have one := (RC.one hv (by
      have := dvs_fits _ _ hds
      simpa [AV.cells] using this))
    cases u <;> first | rfl | cases one
  | on g x =>
    have hv' := hv.1 (hn rfl)
    have hl : (enc y).length = 1 := by
      simp only [AV.cells, dvs] at hds
      cases hx : x.dv with
      | none => rw [hx] at hds; cases hds
      | some d => rw [hx] at hds; simp only [Option.some.injEq] at hds; subst hds; simpa using h3.symm
    obtain ⟨d, hd⟩ := List.length_eq_one_iff.1 hl
    refine ⟨d, hd, key 0 d u (by rw [hd]; rfl) ?_⟩
    have one := (RC.one hv' (by
      have := dvs_fits _ _ hds
      simpa [AV.cells] using this))
    cases u <;> first | rfl | cases one

theorem mapUpdate_sound (hT : TabOK P T) (h : Sim F st hs a w) {t : TypeId} {m : AC} {k v : AV} {vm vk vv : Value} (hm : RC w (avoid F st.objs hs) hs m vm) (hk' : RV w (avoid F st.objs hs) hs k vk) (hkn : k.need true)
    (hv : RV w (avoid F st.objs hs) hs v vv) (hvn : v.need true) (hvt : v.isTup = false) {K : ASt → Prop} (hk : amapUpdate T st t m k v K) :
    ∃ w' st', (Instr.mapUpdate t vm vk vv).run P w = .ok () w' ∧ K st' ∧ Sim F st' hs a w' := by
  unfold amapUpdate at hk
  cases hsh : (T t).sh <;> simp only [hsh] at hk <;> try exact hk.elim
  rename_i kt vt
  cases m <;> simp only at hk <;> try exact hk.elim
  rename_i o r
  cases r <;> simp only at hk <;> try exact hk.elim
  cases hob : st.obj o <;> simp only [hob] at hk <;> try exact hk.elim
  rename_i xo
  cases xo <;> simp only at hk <;> try exact hk.elim
  rename_i kt2 vt2 ks agg β z enc clock es
  cases hds : dvs v.cells with
  | none => rw [hds] at hk; exact hk.elim
  | some ds =>
    simp only [hds] at hk
    obtain ⟨h1, rfl, rfl, h4, rfl, y, hle, hK⟩ := hk
    have ho := obj_some hob (by simp)
    obtain ⟨b, arr, e1, hb, hl, hw, hf, hr⟩ := map_open h.good hob
    obtain ⟨rfl, _⟩ := hm
    obtain ⟨hv1, hkf⟩ := keyOf_sound hk' hkn h1
    obtain ⟨d, hd, hkd⟩ := kshOf_sound hT h4 ⟨_, hkf⟩
    have hu : P.underlying t = some (.map kt2 vt2) := hT.sh hsh (by simp)
    have hvr := RV_to_VRel hv hvn hvt hds hle
    subst hv1
    have hgm := run_getMap (P := P) hb
    have hfb : foot (.ext (.map kt2 vt2 ks v.isA β z enc clock es)) (hs o) b := by simp [foot, XObj.foot, e1, hblk]
    have fin : ∀ (arr' : Array MapEntry) (clock' : Nat) (es' : List (Nat × List KA × β)), (Instr.mapUpdate t (hs o) (keyVal (keyOf ks k).2) vv).run P w = .ok () { w with heap := w.heap.setIfInBounds b (.map arr' clock') } →
        mtick clock es (keyOf ks k).2 = clock' → mput clock es (keyOf ks k).2 y = es' → arr'.size = es'.length → mwf clock' es' → (∀ e ∈ es', keyFit ks e.2.1) →
        (∀ {w' : World}, (∀ {d v}, RD w (avoid F st.objs hs) d v → RD w' (avoid F st.objs hs) d v) → ∀ (i : Nat) (x : Nat × List KA × β) (e : MapEntry), es'[i]? = some x → arr'[i]? = some e → e.born = x.1 ∧ e.key = keyVal x.2.1 ∧ VRel w' (avoid F st.objs hs) v.isA (enc x.2.2) e.val) →
        ∃ w' st', (Instr.mapUpdate t (hs o) (keyVal (keyOf ks k).2) vv).run P w = .ok () w' ∧ K st' ∧ Sim F st' hs a w' := by
      intro arr' clock' es' hrun hc he hsz hw' hf' hr'
      rw [hc, he] at hK
      refine ⟨_, _, hrun, hK, ?_⟩
      refine h.write ho (ob' := .ext (.map kt2 vt2 ks v.isA β z enc clock' es')) (b := b) hfb (fun _ => Iff.rfl) (block_keep b _) fun hcc hdd => ?_
      exact ⟨b, arr', e1, block_same hb, hsz, hw', hf', hr' hdd⟩
    rcases findNow_map hkd hkf es arr.toList 0 (by simpa using hl) (fun j x e hx he => (hr j x e hx (by simpa using he)).2.1) hf with ⟨g1, g2⟩ | ⟨j, x, e, g1, g2, g3, g4, g5, g6⟩
    · refine fin (arr.push ⟨keyVal (keyOf ks k).2, vv, clock⟩) (clock + 1) (es ++ [(clock, (keyOf ks k).2, y)]) ?_ (by simp [mtick, mhas_find g1]) (by simp [mput, mhas_find g1]) (by simp [hl]) ?_ ?_ ?_
      · rw [e1]
        simp [Instr.mapUpdate, run_underlying hu, hgm, run_checkKeyNow hd hkd, run_findKeyNow hd g2, run_setMap _ hb]
      · refine ⟨fun e he => ?_, ?_, ?_⟩
        · rcases List.mem_append.1 he with he | he
          · exact Nat.lt_succ_of_lt (hw.1 e he)
          · simp at he; subst he; simp
        · refine List.pairwise_append.2 ⟨hw.2.1, List.pairwise_singleton _ _, fun x hx y hy => ?_⟩
          simp at hy; subst hy
          have := hw.1 x hx
          simp only [ne_eq]; omega
        · refine List.pairwise_append.2 ⟨hw.2.2, List.pairwise_singleton _ _, fun x hx y hy => ?_⟩
          simp at hy; subst hy
          exact mfind_none g1 x hx
      · intro e he
        rcases List.mem_append.1 he with he | he
        · exact hf e he
        · simp at he; subst he; exact hkf
      · intro w' hdd i x e hx he
        rw [List.getElem?_append] at hx
        rw [Array.getElem?_push] at he
        by_cases hi : i < es.length
        · rw [if_pos hi] at hx
          rw [if_neg (by omega)] at he
          obtain ⟨d1, d2, d3⟩ := hr i x e hx he
          exact ⟨d1, d2, d3.imp hdd⟩
        · rw [if_neg hi] at hx
          have hi' : i = es.length := by
            have := (List.getElem?_eq_some_iff.1 hx).1
            simp at this; omega
          subst hi'
          rw [if_pos (by omega)] at he
          simp at hx
          cases he; subst hx
          exact ⟨rfl, rfl, hvr.imp hdd⟩
    · have hj : j < es.length := (List.getElem?_eq_some_iff.1 g1).1
      have hje : arr[j]? = some e := by simpa using g2
      obtain ⟨d1, d2, d3⟩ := hr j x e g1 hje
      have hset := mset_at (v := y) g1 g3 g6
      refine fin (arr.modify j fun e => { e with key := keyVal (keyOf ks k).2, val := vv }) clock (es.set j (x.1, (keyOf ks k).2, y)) ?_ (by simp [mtick, mhas_some g4]) (by simp [mput, mhas_some g4, hset]) (by simp [hl]) ?_ ?_ ?_
      · rw [e1]
        rw [Nat.zero_add] at g5
        have hkk : e.key = keyVal (keyOf ks k).2 := by rw [d2, g3]
        have hsb : Instr.sameBits 10000 e.key (keyVal (keyOf ks k).2) = true := by rw [hkk]; exact sameBits_key hkf
        have hst : (Instr.keyThatStays e.key (keyVal (keyOf ks k).2)).run P w = .ok (keyVal (keyOf ks k).2) w := by
          unfold Instr.keyThatStays
          rw [if_pos hsb]
          rfl
        simp [Instr.mapUpdate, run_underlying hu, hgm, run_checkKeyNow hd hkd, run_findKeyNow hd g5, hje, hst, run_setMap _ hb]
      · refine ⟨fun e' he' => ?_, ?_, ?_⟩
        · rcases List.mem_or_eq_of_mem_set he' with h5 | h5
          · exact hw.1 e' h5
          · subst h5; exact hw.1 x (List.mem_of_getElem? g1)
        · have e5 : (es.set j (x.1, (keyOf ks k).2, y)).map (·.1) = es.map (·.1) := by
            rw [List.map_set]
            apply List.ext_getElem?
            intro i
            rw [List.getElem?_set]
            split
            · rename_i hij; subst hij
              rw [if_pos (by simpa using hj), List.getElem?_map, g1]; rfl
            · rfl
          have := hw.2.1
          rw [← List.pairwise_map (f := fun e : Nat × List KA × β => e.1) (R := fun a b => a ≠ b)] at this ⊢
          rw [e5]; exact this
        · have e5 : (es.set j (x.1, (keyOf ks k).2, y)).map (·.2.1) = es.map (·.2.1) := by
            rw [List.map_set]
            apply List.ext_getElem?
            intro i
            rw [List.getElem?_set]
            split
            · rename_i hij; subst hij
              rw [if_pos (by simpa using hj), List.getElem?_map, g1]; simp [g3]
            · rfl
          have := hw.2.2
          rw [← List.pairwise_map (f := fun e : Nat × List KA × β => e.2.1) (R := fun a b => a ≠ b)] at this ⊢
          rw [e5]; exact this
      · intro e' he'
        rcases List.mem_or_eq_of_mem_set he' with h5 | h5
        · exact hf e' h5
        · subst h5; exact hkf
      · intro w' hdd i x' e' hx he
        rw [List.getElem?_set] at hx
        rw [Array.getElem?_modify] at he
        by_cases hi : j = i
        · subst hi
          rw [if_pos rfl, if_pos hj] at hx
          rw [if_pos rfl, hje] at he
          cases hx
          simp only [Option.map_some, Option.some.injEq] at he
          subst he
          exact ⟨d1, rfl, hvr.imp hdd⟩
        · rw [if_neg hi] at hx he
          obtain ⟨f1, f2, f3⟩ := hr i x' e' hx he
          exact ⟨f1, f2, f3.imp hdd⟩

theorem mapDelete_sound (hT : TabOK P T) (h : Sim F st hs a w) {t t2 ty : TypeId} {m : AC} {k : AV} {vm vk : Value} (hm : RC w (avoid F st.objs hs) hs m vm) (hk' : RV w (avoid F st.objs hs) hs k vk) (hkn : k.need true)
    {K : ASt → Prop} (hk : amapDelete T st t m k K) :
    ∃ w' st', (Builtin.delete_ #[t, t2] ty #[vm, vk]).run P w = .ok (.tuple #[]) w' ∧ K st' ∧ Sim F st' hs a w' := by
  unfold amapDelete at hk
  cases hsh : (T t).sh <;> simp only [hsh] at hk <;> try exact hk.elim
  rename_i kt vt
  cases m <;> simp only at hk <;> try exact hk.elim
  rename_i o r
  cases r <;> simp only at hk <;> try exact hk.elim
  cases hob : st.obj o <;> simp only [hob] at hk <;> try exact hk.elim
  rename_i xo
  cases xo <;> simp only at hk <;> try exact hk.elim
  rename_i kt2 vt2 ks agg β z enc clock es
  obtain ⟨h1, rfl, rfl, h4, hK⟩ := hk
  have ho := obj_some hob (by simp)
  obtain ⟨b, arr, e1, hb, hl, hw, hf, hr⟩ := map_open h.good hob
  obtain ⟨rfl, _⟩ := hm
  obtain ⟨hv1, hkf⟩ := keyOf_sound hk' hkn h1
  obtain ⟨d, hd, hkd⟩ := kshOf_sound hT h4 ⟨_, hkf⟩
  have hu : P.underlying t = some (.map kt2 vt2) := hT.sh hsh (by simp)
  subst hv1
  have hgm := run_getMap (P := P) hb
  have hfb : foot (.ext (.map kt2 vt2 ks agg β z enc clock es)) (hs o) b := by simp [foot, XObj.foot, e1, hblk]
  have fin : ∀ (arr' : Array MapEntry) (es' : List (Nat × List KA × β)), (Builtin.delete_ #[t, t2] ty #[hs o, keyVal (keyOf ks k).2]).run P w = .ok (.tuple #[]) { w with heap := w.heap.setIfInBounds b (.map arr' clock) } →
      mdel (keyOf ks k).2 es = es' → arr'.size = es'.length → es'.Sublist es →
      (∀ (i : Nat) (x : Nat × List KA × β) (e : MapEntry), es'[i]? = some x → arr'[i]? = some e → ∃ j : Nat, es[j]? = some x ∧ arr[j]? = some e) →
      ∃ w' st', (Builtin.delete_ #[t, t2] ty #[hs o, keyVal (keyOf ks k).2]).run P w = .ok (.tuple #[]) w' ∧ K st' ∧ Sim F st' hs a w' := by
    intro arr' es' hrun he hsz hsub hr'
    rw [he] at hK
    refine ⟨_, _, hrun, hK, ?_⟩
    refine h.write ho (ob' := .ext (.map kt2 vt2 ks agg β z enc clock es')) (b := b) hfb (fun _ => Iff.rfl) (block_keep b _) fun hcc hdd => ?_
    refine ⟨b, arr', e1, block_same hb, hsz, ⟨fun e he => hw.1 e (hsub.subset he), hw.2.1.sublist hsub, hw.2.2.sublist hsub⟩, fun e he => hf e (hsub.subset he), fun i x e hx he => ?_⟩
    obtain ⟨j, h5, h6⟩ := hr' i x e hx he
    obtain ⟨d1, d2, d3⟩ := hr j x e h5 h6
    exact ⟨d1, d2, d3.imp hdd⟩
  rcases findNow_map hkd hkf es arr.toList 0 (by simpa using hl) (fun j x e hx he => (hr j x e hx (by simpa using he)).2.1) hf with ⟨g1, g2⟩ | ⟨j, x, e, g1, g2, g3, g4, g5, g6⟩
  · refine fin arr es ?_ (mdel_none g1) hl (List.Sublist.refl _) fun i x e hx he => ⟨i, hx, he⟩
    rw [e1]
    simp [Builtin.delete_, run_underlying hu, hgm, run_checkKeyNow hd hkd, run_findKeyNow hd g2, run_setMap _ hb]
  · have hj : j < es.length := (List.getElem?_eq_some_iff.1 g1).1
    rw [Nat.zero_add] at g5
    refine fin (arr.eraseIdxIfInBounds j) (es.eraseIdx j) ?_ (mdel_at g1 g3 g6) ?_ (List.eraseIdx_sublist _ _) fun i x' e' hx he => ?_
    · rw [e1]
      simp [Builtin.delete_, run_underlying hu, hgm, run_checkKeyNow hd hkd, run_findKeyNow hd g5, run_setMap _ hb]
    · simp [Array.eraseIdxIfInBounds, show j < arr.size by omega, List.length_eraseIdx, hj, hl]
    · have he2 : (arr.toList.eraseIdx j)[i]? = some e' := by
        rw [← he]
        simp [Array.eraseIdxIfInBounds, show j < arr.size by omega, ← Array.getElem?_toList]
      rw [List.getElem?_eraseIdx] at hx he2
      by_cases hij : i < j
      · rw [if_pos hij] at hx he2; exact ⟨i, hx, by simpa using he2⟩
      · rw [if_neg hij] at hx he2; exact ⟨i + 1, hx, by simpa using he2⟩

theorem range_sound (hT : TabOK P T) (h : Sim F st hs a w) {dst : Option Tmp} {t : TypeId} {m : AC} {vm : Value} (hm : RC w (avoid F st.objs hs) hs m vm) {K : ASt → Prop} (hk : arange T st dst t m K) :
    ∃ v w', (Instr.range t vm).run P w = .ok v w' ∧ ∃ st' hs' av, K (st'.put dst av) ∧ Sim F st' hs' a w' ∧ RV w' (avoid F st'.objs hs') hs' av v := by
  unfold arange at hk
  cases hsh : (T t).sh <;> simp only [hsh] at hk <;> try exact hk.elim
  rename_i kt vt
  cases m <;> simp only at hk <;> try exact hk.elim
  rename_i o r
  cases r <;> simp only at hk <;> try exact hk.elim
  cases hob : st.obj o <;> simp only [hob] at hk <;> try exact hk.elim
  rename_i xo
  cases xo <;> simp only at hk <;> try exact hk.elim
  rename_i kt2 vt2 ks agg β z enc clock es
  have ho := obj_some hob (by simp)
  have hlt : o < st.objs.length := (List.getElem?_eq_some_iff.1 ho).1
  obtain ⟨b, arr, e1, hb, hl, hw, hf, hr⟩ := map_open h.good hob
  obtain ⟨rfl, hm2⟩ := hm
  have hu : P.underlying t = some (.map kt vt) := hT.sh hsh (by simp)
  have hgm := run_getMap (P := P) hb
  obtain ⟨hS, hV⟩ := h.new (ob := .ext (.iter (.xr o .self) clock [] clock)) (u := .pointer (some ⟨w.heap.size, 0, none⟩)) (w' := w.alloc (.mapIter (some b) clock #[] clock)) (Keep.alloc _ w _) (fun b hb => by simp [foot, XObj.foot, hblk] at hb; omega) fun hcc hdd => by
    refine ⟨w.heap.size, b, rfl, ?_, heap_alloc_new w _⟩
    exact hcc (x := .xr o .self) (v := .map (some b)) ⟨e1.symm, by rw [e1]; rfl, by rw [e1]; simp⟩
  refine ⟨.pointer (some ⟨w.heap.size, 0, none⟩), _, ?_, _, _, _, hk, hS, ?_⟩
  · rw [e1]
    simp [Instr.range, run_underlying hu, hgm, Go.newObj]
    rfl
  · exact ⟨by rw [setH_same], by rw [setH_same]; rfl, by rw [setH_same]; simp⟩
theorem find_born' {β : Type} : ∀ (l : List (Nat × List KA × β)) (y : Nat × List KA × β), l.Pairwise (fun a b => a.1 ≠ b.1) → y ∈ l → l.find? (fun x => x.1 == y.1) = some y
  | [], y, _, hy => by cases hy
  | c :: l, y, hp, hy => by
    obtain ⟨p1, p2⟩ := List.pairwise_cons.1 hp
    rcases List.mem_cons.1 hy with rfl | hy
    · simp
    · have := p1 y hy
      rw [List.find?_cons_of_neg (by simpa using this)]
      exact find_born' l y p2 hy
theorem next_sound (h : Sim F st hs a w) {dst : Option Tmp} {x : AC} {vx : Value} {ty : TypeId} (hx : RC w (avoid F st.objs hs) hs x vx) {K : ASt → Prop} (hk : anext st dst x K) :
    ∃ v w', (Instr.next vx false ty).run P w = .ok v w' ∧ ∃ st' hs' av, K (st'.put dst av) ∧ Sim F st' hs' a w' ∧ RV w' (avoid F st'.objs hs') hs' av v := by
  unfold anext at hk
  cases x <;> simp only at hk <;> try exact hk.elim
  rename_i i r
  cases r <;> simp only at hk <;> try exact hk.elim
  cases hob : st.obj i <;> simp only [hob] at hk <;> try exact hk.elim
  rename_i xi
  cases xi <;> simp only at hk <;> try exact hk.elim
  rename_i m since seen last
  cases m <;> simp only at hk <;> try exact hk.elim
  rename_i o r2
  cases r2 <;> simp only at hk <;> try exact hk.elim
  cases hoo : st.obj o <;> simp only [hoo] at hk <;> try exact hk.elim
  rename_i xo
  cases xo <;> simp only at hk <;> try exact hk.elim
  rename_i kt vt ks agg β z enc clock es
  have hi := obj_some hob (by simp)
  obtain ⟨r, b, e1, hm, hr⟩ := h.good.rel i _ hi
  obtain ⟨b', arr, e2, hb, hl, hw, hf, hd⟩ := map_open h.good hoo
  have hm' := hm
  obtain ⟨e3, _⟩ := hm
  rw [e2] at e3
  cases e3
  obtain ⟨rfl, _⟩ := hx
  obtain ⟨h1, h2, h3, h4⟩ := hk hw
  have hold : ∀ x ∈ arr.toList, x.born < since := fun x hx => by
    obtain ⟨j, hj⟩ := List.mem_iff_getElem?.1 hx
    have hj' : arr[j]? = some x := by simpa using hj
    have hjl : j < es.length := by rw [← hl]; exact (Array.getElem?_eq_some_iff.1 hj').1
    obtain ⟨d1, _⟩ := hd j _ x (List.getElem?_eq_getElem hjl) hj'
    rw [d1]
    exact h1 _ (List.getElem_mem hjl)
  have mem_seen : ∀ x : MapEntry, x ∈ (leftOf arr seen.toArray).toList ↔ x ∈ arr.toList ∧ x.born ∉ seen := fun x => by
    simp [leftOf]
  rcases run_next_at (P := P) w ty r b since last seen.toArray arr clock hr hb hold h2 with ⟨h0, hrun⟩ | ⟨e, he, w1, hal, hrun⟩
  · refine ⟨_, _, by rw [e1]; exact hrun, st, hs, _, h4 fun e he => ?_, h, ?_⟩
    · obtain ⟨j, hj⟩ := List.mem_iff_getElem?.1 he
      have hjl : j < arr.size := by rw [hl]; exact (List.getElem?_eq_some_iff.1 hj).1
      obtain ⟨d1, _⟩ := hd j e _ hj (Array.getElem?_eq_getElem hjl)
      apply Classical.byContradiction
      intro hns
      have hmem : arr[j] ∈ (leftOf arr seen.toArray).toList := (mem_seen _).2 ⟨by simp, by rw [d1]; exact hns⟩
      have : (leftOf arr seen.toArray).toList.length = 0 := by simpa using h0
      rw [List.length_eq_zero_iff] at this
      rw [this] at hmem
      cases hmem
    · refine ⟨_, rfl, rfl, fun k p u hp hu => ?_⟩
      match k, hp, hu with
      | 0, hp, hu => simp at hp hu; subst hp; subst hu; intro x hx; simp at hx; subst hx; rfl
      | k + 1, hp, hu => simp at hp
  · obtain ⟨g1, g2⟩ := (mem_seen e).1 he
    obtain ⟨j, hj⟩ := List.mem_iff_getElem?.1 g1
    have hj' : arr[j]? = some e := by simpa using hj
    have hjl : j < es.length := by rw [← hl]; exact (Array.getElem?_eq_some_iff.1 hj').1
    have hx := List.getElem?_eq_getElem hjl
    obtain ⟨d1, d2, d3⟩ := hd j _ e hx hj'
    have hfind : es.find? (fun x => x.1 == es[j].1) = some es[j] := by
      exact find_born' es _ hw.2.1 (List.getElem_mem hjl)
    have hS1 : Sim F st hs a w1 := by
      rcases hal with e5 | e5
      · rw [e5]; exact h
      · rw [e5]; exact h.drew
    have hheap : w1.heap = w.heap := by
      rcases hal with e5 | e5
      · exact congrArg World.heap e5
      · exact show w1.heap = w.drew.heap from congrArg World.heap e5
    have hr1 : w1.heap[r]? = some (.mapIter (some b) since seen.toArray last) := by rw [hheap]; exact hr
    have hsz1 : w1.heap.size = w.heap.size := by rw [hheap]
    have hb1 : ∀ c : Nat, w1.heap[c]? = w.heap[c]? := fun c => by rw [hheap]
    have hS := hS1.write hi (ob' := .ext (.iter (.xr o .self) since (seen ++ [es[j].1]) clock)) (b := r) (w' := setBlock w1 r (.mapIter (some b) since (seen.toArray.push e.born) clock)) (by simp [foot, XObj.foot, e1, hblk]) (fun c => by simp [foot, XObj.foot]) (block_keep r _) fun hcc hdd => by
      refine ⟨r, b, e1, ⟨e2.symm, by rw [e2]; rfl, by rw [e2]; simp⟩, ?_⟩
      rw [show setBlock w1 r (.mapIter (some b) since (seen.toArray.push e.born) clock) = { w1 with heap := w1.heap.setIfInBounds r (.mapIter (some b) since (seen.toArray.push e.born) clock) } from rfl, block_same hr1, d1]
      simp
    refine ⟨_, _, by rw [e1]; exact hrun, _, hs, _, h3 es[j] (List.getElem_mem hjl) (by rw [← d1]; exact g2) hfind, hS, ?_⟩
    have d3' : VRel (setBlock w1 r (.mapIter (some b) since (seen.toArray.push e.born) clock)) (avoid F (st.setObj i (.ext (.iter (.xr o .self) since (seen ++ [es[j].1]) clock))).objs hs) agg (enc es[j].2.2) e.val := by
      refine d3.imp fun hr => RD.mono ?_ (fun c hc hn => ⟨?_, ?_⟩) hr
      · simp [setBlock, hsz1]
      · have hne : ¬ r = c := fun ec => hn (.inl ⟨i, _, hi, by subst ec; simp [foot, XObj.foot, e1, hblk]⟩)
        have := hb1 c
        simp only [setBlock, Array.getElem?_setIfInBounds, hne, if_false]
        exact this
      · intro hA
        refine hn (hA.imp (fun ho => ?_) id)
        exact (own_set hi (fun c => by simp [foot, XObj.foot]) c).1 ho
    rw [d2]
    refine ⟨_, rfl, rfl, fun k p u hp hu => ?_⟩
    match k, hp, hu with
    | 0, hp, hu => simp at hp hu; subst hp; subst hu; intro x hx; simp at hx; subst hx; rfl
    | 1, hp, hu => simp at hp hu; subst hp; subst hu; exact keyParts (hf _ (List.getElem_mem hjl))
    | 2, hp, hu => simp at hp hu; subst hp; subst hu; exact d3'.part
    | k + 3, hp, hu => simp at hp

theorem clear_sound (hT : TabOK P T) (h : Sim F st hs a w) {t ty : TypeId} {x : AC} {vx : Value} (hx : RC w (avoid F st.objs hs) hs x vx) {K : ASt → Prop} (hk : aclear T st t x K) :
    ∃ w' st', (Builtin.clear_ #[t] ty #[vx]).run P w = .ok (.tuple #[]) w' ∧ K st' ∧ Sim F st' hs a w' := by
  unfold aclear at hk
  cases hsh : (T t).sh <;> simp only [hsh] at hk <;> try exact hk.elim
  rename_i e
  cases x <;> simp only at hk <;> try exact hk.elim
  rename_i o sz lo n
  cases hob : st.obj o <;> simp only [hob] at hk <;> try exact hk.elim
  rename_i ty' size α z enc xs
  obtain ⟨rfl, rfl, h0, hle, hE, hK⟩ := hk
  have hu : P.underlying t = some (.slice e) := hT.sh hsh (by simp)
  have hTe := hT.sub hsh (by simp) (e := e) (by simp [Sh.subs])
  have ho := obj_some hob (by simp)
  have hro := h.good.rel o _ ho
  by_cases hn : n = 0
  · subst hn
    have hnil : splice xs lo (zeros 0 z) = xs := by simp [splice, zeros]
    rw [hnil] at hK
    have hsame : st.setObj o (.row ty' (T e).size α z enc xs) = st := by
      have : st.objs.set o (.row ty' (T e).size α z enc xs) = st.objs := by
        apply List.ext_getElem?
        intro i
        rw [List.getElem?_set]
        split
        · rename_i hi; subst hi
          rw [if_pos (List.getElem?_eq_some_iff.1 ho).1, ho]
        · rfl
      simp only [ASt.setObj, this]
    rw [hsame] at hK
    refine ⟨w, st, ?_, hK, h⟩
    have key : ∀ A c, vx = .slice A 0 c → (Builtin.clear_ #[t] ty #[vx]).run P w = .ok (.tuple #[]) w := by
      intro A c e
      subst e
      cases A <;> simp [Builtin.clear_, run_underlying hu]
    rcases hx with ⟨_, A, cap, e1, _⟩ | ⟨_, b, m, cap, c, _, e1, _⟩
    · exact key _ _ e1
    · exact key _ _ e1
  · obtain ⟨b, cap, cur, e1, hcur, hc1, hc2, hc3, hd⟩ := row_handle hro (by omega)
    obtain ⟨c, rfl, g1, g2, g3, g4⟩ := hx.partAt e1 (by omega)
    obtain ⟨zv, hz, hzr⟩ := zero_VRel (P := P) (w := w) (O := avoid F st.objs hs) hs hTe h0 hE
    obtain ⟨j, z', hj, hjs, hjb, hz', hzc, hzl, hpl⟩ := hTe.info h0
    have hzz : zv = z' := by
      have := hz w
      rw [run_zeroValue hj hz'] at this
      cases this
      rfl
    subst hzz
    have hzs : zv.cells.size = (T e).size := by have := congrArg List.length hzc; simpa [hzl] using this
    have hzd : ∀ (k : Nat) (d : DV), (enc z)[k]? = some d → ∃ cv, zv.cells.toList[k]? = some cv ∧ RD w (avoid F st.objs hs) d cv := fun k d hkd => by
      cases hE' : (T e).enc with
      | none => rw [hE'] at hE; exact hE.elim
      | some E =>
        rw [hE'] at hE
        obtain ⟨f1, f2, f3⟩ := hE
        obtain ⟨α', z'', enc'⟩ := E
        simp only at f1 f2 f3
        subst f1
        cases f2; cases f3
        exact zero_RD hTe hE' hzc hpl k d hkd
    have hnews : ∀ i k, i < n → k < (T e).size → (Builtin.zeroCells zv.cells n).toList[i * (T e).size + k]? = zv.cells.toList[k]? := fun i k hi hk => by
      have hlt : i * (T e).size + k < n * zv.cells.size := by
        rw [hzs]
        calc i * (T e).size + k < i * (T e).size + (T e).size := by omega
          _ = (i + 1) * (T e).size := by rw [Nat.add_mul, Nat.one_mul]
          _ ≤ n * (T e).size := Nat.mul_le_mul_right _ hi
      have hmod : (i * (T e).size + k) % zv.cells.size = k := by rw [hzs, Nat.mul_comm, Nat.mul_add_mod, Nat.mod_eq_of_lt hk]
      have hkz : k < zv.cells.size := by omega
      simp only [Builtin.zeroCells, Array.toList_map, Array.toList_range, List.getElem?_map, List.getElem?_range hlt, Option.map_some, hmod, Array.getElem?_toList, Array.getElem?_eq_getElem hkz]
      simp [hkz]
    have hnl : (Builtin.zeroCells zv.cells n).toList.length = n * (T e).size := by simp [Builtin.zeroCells, hzs]
    have hfit : lo * (T e).size + (Builtin.zeroCells zv.cells n).toList.length ≤ cur.size := by
      rw [hnl, hc3, ← Nat.add_mul]
      exact Nat.mul_le_mul_right _ (by omega)
    have hone : ∀ u ∈ (Builtin.zeroCells zv.cells n).toList, u.oneCell' = true := fun u hu => by
      have hzo : ∀ v ∈ zv.cells.toList, v.oneCell' = true := fun v hv => by
        rw [hzc] at hv
        obtain ⟨x, hx, rfl⟩ := List.mem_map.1 hv
        have := List.all_eq_true.1 hpl x hx
        cases x <;> first | rfl | cases this | exact this
      simp only [Builtin.zeroCells, Array.toList_map, Array.toList_range, List.mem_map, List.mem_range] at hu
      obtain ⟨q, hq, rfl⟩ := hu
      have hlt : q % zv.cells.size < zv.cells.size := Nat.mod_lt _ (by omega)
      apply hzo
      simp [hlt]
    have hst := run_storeCells_at (P := P) b (lo * (T e).size) ty' (Builtin.zeroCells zv.cells n).toList 0 cur w hcur (by simpa using hfit) hone
    simp only [Nat.add_zero] at hst
    have hS := h.splice (ys := zeros n z) (p := lo) (news := (Builtin.zeroCells zv.cells n).toList) ho e1 hcur hc1 hc2 hc3 hd hro.1 (by simp [zeros]; omega) (by simpa [zeros] using hnl) fun i k d hi hkd => by
      simp only [zeros, List.length_replicate] at hi
      have e3 : (zeros n z).getD i z = z := by simp [zeros, List.getD, hi]
      rw [e3] at hkd
      obtain ⟨cv, h5, h6⟩ := hzd k d hkd
      have hk' : k < (T e).size := by rw [← hro.1 z]; exact (List.getElem?_eq_some_iff.1 hkd).1
      exact ⟨cv, by rw [hnews i k hi hk', h5], h6⟩
    refine ⟨_, _, ?_, hK, hS⟩
    cases n with
    | zero => exact absurd rfl hn
    | succ n => simp [Builtin.clear_, run_underlying hu, hz, hst, splice]
theorem copy_sound (hT : TabOK P T) (h : Sim F st hs a w) {dst : Option Tmp} {t u ty : TypeId} {s x : AC} {vS vx : Value} (hs' : RC w (avoid F st.objs hs) hs s vS) (hx : RC w (avoid F st.objs hs) hs x vx) {K : ASt → Prop} (hk : acopy T st dst t s x K) :
    ∃ v w', (Builtin.copy_ #[t, u] ty #[vS, vx]).run P w = .ok v w' ∧ ∃ st' hs' av, K (st'.put dst av) ∧ Sim F st' hs' a w' ∧ RV w' (avoid F st'.objs hs') hs' av v := by
  unfold acopy at hk
  cases hsh : (T t).sh <;> simp only [hsh] at hk <;> try exact hk.elim
  rename_i e
  have ht : P.underlying t = some (.slice e) := hT.sh hsh (by simp)
  have hTe := hT.sub hsh (by simp) (e := e) (by simp [Sh.subs])
  -- the part, told once for both kinds of a destination
  have main : ∀ {o lo n : Nat} {ty' : TypeId} {size : Nat} {α : Type} {z : α} {enc : α → List DV} {xs : List α}, st.obj o = .row ty' size α z enc xs → size = (T e).size → ¬ (T e).size = 0 → lo + n ≤ xs.length →
      (n = 0 ∧ (∃ A c, vS = .slice A 0 c) ∨ RC w (avoid F st.objs hs) hs (.sub o size lo n) vS) → appSrc st size enc x (fun ys => K ((st.setObj o (.row ty' size α z enc (splice xs lo (ys.take n)))).put dst (.c (.int .i64 ((min ys.length n : Nat) : Int))))) →
      ∃ v w', (Builtin.copy_ #[t, u] ty #[vS, vx]).run P w = .ok v w' ∧ ∃ st' hs' av, K (st'.put dst av) ∧ Sim F st' hs' a w' ∧ RV w' (avoid F st'.objs hs') hs' av v := by
    intro o lo n ty' size α z enc xs hob he h0 hle hvS hk
    obtain ⟨j, zv, hj, hjs, hjb, hz, hzc, hzl, hpl⟩ := hTe.info h0
    obtain ⟨ys, news, hK, hsrc, _⟩ := appSrc_sound (P := P) (z := z) h hx hk
    have ho := obj_some hob (by simp)
    have hro := h.good.rel o _ ho
    have hf := hsrc.firstK w (fun _ _ => rfl) (min ys.length n) (by omega)
    by_cases hm : min ys.length n = 0
    · have hnil : splice xs lo (ys.take n) = xs := by
        have : ys.take n = [] := by
          apply List.eq_nil_of_length_eq_zero
          rw [List.length_take]
          omega
        rw [this]
        simp [splice]
      rw [hnil] at hK
      have hsame : st.setObj o (.row ty' size α z enc xs) = st := by
        have : st.objs.set o (.row ty' size α z enc xs) = st.objs := by
          apply List.ext_getElem?
          intro i
          rw [List.getElem?_set]
          split
          · rename_i hi; subst hi
            rw [if_pos (List.getElem?_eq_some_iff.1 ho).1, ho]
          · rfl
        simp only [ASt.setObj, this]
      rw [hsame, hm] at hK
      rw [hm] at hf
      simp only [Nat.zero_mul, List.take_zero] at hf
      have key : ∀ A c, vS = .slice A n c → (Builtin.copy_ #[t, u] ty #[vS, vx]).run P w = .ok (goInt 0) w := by
        intro A c ev
        subst ev
        have hmn : Nat.min ys.length n = 0 := hm
        cases A <;> simp [Builtin.copy_, run_underlying ht, sizeOf, typeInfo, hj, hsrc.len, hjs, ← he, hmn, hf, storeCells]
      have hvn : ∃ A c, vS = .slice A n c := by
        rcases hvS with ⟨rfl, A, c, hv⟩ | hv
        · exact ⟨A, c, hv⟩
        · rcases hv with ⟨rfl, A, cap, e1, _⟩ | ⟨_, b, m, cap, c, _, e1, _⟩
          · exact ⟨_, _, e1⟩
          · exact ⟨_, _, e1⟩
      obtain ⟨A, c, hv⟩ := hvn
      exact ⟨_, w, key A c hv, st, hs, _, hK, h, rfl⟩
    · have hn : ¬ n = 0 := fun hn => hm (by omega)
      have hv := hvS.resolve_left fun h' => hn h'.1
      obtain ⟨b, cap, cur, e1, hcur, hc1, hc2, hc3, hd⟩ := row_handle hro (by omega)
      obtain ⟨c, rfl, g1, g2, g3, g4⟩ := hv.partAt e1 (by omega)
      have hnl : (news.take (min ys.length n * size)).length = min ys.length n * size := by
        rw [List.length_take, hsrc.nlen]
        exact Nat.min_eq_left (Nat.mul_le_mul_right _ (by omega))
      have hfit : lo * size + (news.take (min ys.length n * size)).length ≤ cur.size := by
        rw [hnl, hc3, ← Nat.add_mul]
        exact Nat.mul_le_mul_right _ (by omega)
      have hone : ∀ q ∈ news.take (min ys.length n * size), q.oneCell' = true := fun q hq => hsrc.one q (List.mem_of_mem_take hq)
      have hst := run_storeCells_at (P := P) b (lo * size) ty' (news.take (min ys.length n * size)) 0 cur w hcur (by simpa using hfit) hone
      simp only [Nat.add_zero] at hst
      have hyl : (ys.take n).length = min ys.length n := by rw [List.length_take, Nat.min_comm]
      have hS := h.splice (ys := ys.take n) (p := lo) (news := news.take (min ys.length n * size)) ho e1 hcur hc1 hc2 hc3 hd hro.1 (by rw [hyl]; omega) (by rw [hnl, hyl]) fun i k d hi hkd => by
        rw [hyl] at hi
        have e3 : (ys.take n).getD i z = ys.getD i z := by simp [List.getD, List.getElem?_take, show i < n by omega]
        rw [e3] at hkd
        obtain ⟨cv, h5, h6⟩ := hsrc.data i k d (by omega) hkd
        have hk' : k < size := by rw [← hro.1 (ys.getD i z)]; exact (List.getElem?_eq_some_iff.1 hkd).1
        refine ⟨cv, ?_, h6⟩
        rw [List.getElem?_take_of_lt]
        · exact h5
        · calc i * size + k < i * size + size := by omega
            _ = (i + 1) * size := by rw [Nat.add_mul, Nat.one_mul]
            _ ≤ min ys.length n * size := Nat.mul_le_mul_right _ (by omega)
      refine ⟨goInt ((min ys.length n : Nat) : Int), _, ?_, _, _, _, hK, hS, rfl⟩
      have hmn : Nat.min ys.length n = min ys.length n := rfl
      simp [Builtin.copy_, run_underlying ht, sizeOf, typeInfo, hj, hsrc.len, hjs, ← he, hmn, hf, hst, splice]
  cases s <;> simp only at hk <;> try exact hk.elim
  case sub o sz0 lo n =>
    cases hob : st.obj o <;> simp only [hob] at hk <;> try exact hk.elim
    rename_i ty' size α z enc xs
    obtain ⟨he, rfl, h0, hle, hk⟩ := hk
    exact main hob he h0 hle (.inr hs') hk
  case sl o =>
    cases hob : st.obj o <;> simp only [hob] at hk <;> try exact hk.elim
    rename_i ty' size α z enc xs
    obtain ⟨he, h0, hk⟩ := hk
    refine main (lo := 0) (n := xs.length) hob he h0 (by omega) ?_ hk
    have hro := h.good.rel o _ (obj_some hob (by simp))
    obtain ⟨henc, vs, hrow, _⟩ := hro
    obtain ⟨hv0, hsl⟩ := hs'
    rcases hrow.2 with ⟨e1, e2⟩ | ⟨g, cap, cur, e1, g0, hg, r⟩
    · exact .inl ⟨e2, none, 0, by rw [hv0, e1]⟩
    · by_cases hp : xs.length = 0
      · exact .inl ⟨hp, some ⟨g, 0, none⟩, cap, by rw [hv0, e1, hp]⟩
      · refine .inr (.inr ⟨by omega, g, xs.length, cap, cap, e1, by rw [hv0, e1]; simp, ?_, ?_, by omega, by omega, ?_⟩)
        all_goals (obtain ⟨r1, r2, _⟩ := r; omega)
end
end Go.Vc
