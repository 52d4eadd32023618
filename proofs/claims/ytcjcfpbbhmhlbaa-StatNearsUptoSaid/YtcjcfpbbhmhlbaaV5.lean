/- All operations that only look, in one law. -/
import Derived.Test.YtcjcfpbbhmhlbaaV4
import Derived.Maps.RangeRun
set_option linter.unusedVariables false
set_option linter.unusedSimpArgs false
namespace Go.Vc
section
variable {P : Program} {T : Tab} {w : World} {O : Nat → Prop} {hs : Nat → Value}

theorem RC.val {x : AC} (h : x.plain = true) : RC w O hs x x.val := by
  cases x <;> simp only [AC.plain] at h <;> try cases h
  all_goals rfl
theorem RCs_zero {cs : List AC} (h : (cs.all AC.plain) = true) : RCs w O hs cs (cs.map AC.val) :=
  ⟨by simp, fun i x v hx hv => by
    rw [List.getElem?_map, hx] at hv
    simp only [Option.map_some, Option.some.injEq] at hv
    subst hv
    exact RC.val (List.all_eq_true.1 h x (List.mem_of_getElem? hx))⟩

theorem run_zeroValue {t : TypeId} {z : Value} {j : TypeInfo} (h : P.info? t = some j) (hz : j.zero = some z) : (zeroValue t).run P w = .ok z w := by
  simp [zeroValue, typeInfo, h, hz]

theorem mapM_sizes (hT : TabOK P T) {fields : List Field} (h : ∀ f ∈ fields, (T f.type).sh ≠ .none) :
    (fields.mapM (m := Sem) fun f => do pure (f.offset, ← sizeOf f.type)).run P w = .ok (fields.map fun f => (f.offset, (T f.type).size)) w := by
  induction fields with
  | nil => rfl
  | cons f fs ih =>
    have h1 := (hT.of (h f (by simp))).sized
    simp only [List.mapM_cons, Sem.run_bind, run_sizeOf h1, Result.andThen_ok, Sem.run_pure, ih fun g hg => h g (by simp [hg])]
    rfl

theorem qbuild_sound (hT : TabOK P T) {t : TypeId} {ps : List (Nat × List AC)} {vs : Array (Nat × Value)} (hl : vs.toList.length = ps.length)
    (hp : ∀ (i : Nat) (p : Nat × List AC) (q : Nat × Value), ps[i]? = some p → vs.toList[i]? = some q → p.1 = q.1 ∧ RCs w O hs p.2 q.2.cells.toList) (h : (qbuild T t ps).1) :
    ∃ v, (Instr.build t vs).run P w = .ok v w ∧ RV w O hs (qbuild T t ps).2 v := by
  unfold qbuild at h ⊢
  cases hsh : (T t).sh <;> simp only [hsh] at h ⊢ <;> try exact h.elim
  case struct fs =>
    have hTt := hT.of (t := t) (by rw [hsh]; simp)
    obtain ⟨hn, h⟩ := h
    obtain ⟨j, z, hj, _, _, hz, hzc, _, hpl⟩ := hTt.info hn
    obtain ⟨fields, hu, hfs⟩ := hT.sh hsh (by simp)
    have hfn : ∀ f ∈ fields.toList, (T f.type).sh ≠ .none := fun f hf => hT.closed (t := t) (by rw [hsh]; simp) (by rw [hsh, ← hfs]; simp [Sh.subs]; exact ⟨f, by simpa using hf, rfl⟩)
    have hm := mapM_sizes (P := P) (w := w) hT hfn
    have hpl' : structPlace T fs = fun i => (fields.toList.map fun f => (f.offset, (T f.type).size))[i]? := by
      funext i
      simp only [structPlace, ← hfs, List.getElem?_map]
      cases fields.toList[i]? <;> rfl
    have hzr : RCs w O hs (T t).zero z.cells.toList := by rw [hzc]; exact RCs_zero hpl
    rw [hpl'] at h ⊢
    obtain ⟨arr', h1, h2⟩ := fill_sound ps vs.toList _ z.cells hzr hl hp h
    refine ⟨.agg arr', ?_, arr', rfl, h2⟩
    have hmA : (fields.mapM (m := Sem) fun f => do pure (f.offset, ← sizeOf f.type)).run P w = .ok (fields.toList.map fun f => (f.offset, (T f.type).size)).toArray w := by
      rw [Array.mapM_eq_mapM_toList]
      rw [Sem.run_map, hm]
      rfl
    have h1' : Instr.fill (fun x => (List.map (fun f => (f.offset, (T f.type).size)) fields.toList).toArray[x]?) z.cells vs.toList = some arr' := by
      rw [← h1]; congr 1; funext i; simp
    simp only [Instr.build, Sem.run_bind, run_zeroValue hj hz, Result.andThen_ok, run_underlying hu, hmA, h1', Sem.run_pure]
  case array n e =>
    have hTt := hT.of (t := t) (by rw [hsh]; simp)
    obtain ⟨hn, h⟩ := h
    obtain ⟨j, z, hj, _, _, hz, hzc, _, hpl⟩ := hTt.info hn
    have hu : P.underlying t = some (.array n e) := hT.sh hsh (by simp)
    have hse := (hT.sub hsh (by simp) (e := e) (by simp [Sh.subs])).sized
    have hzr : RCs w O hs (T t).zero z.cells.toList := by rw [hzc]; exact RCs_zero hpl
    obtain ⟨arr', h1, h2⟩ := fill_sound ps vs.toList _ z.cells hzr hl hp h
    refine ⟨.agg arr', ?_, arr', rfl, h2⟩
    simp only [Instr.build, Sem.run_bind, run_zeroValue hj hz, Result.andThen_ok, run_underlying hu, run_sizeOf hse, h1, Sem.run_pure]

/-! ### maps -/
def kshD (ks : KSh) (d : TypeDesc) : Prop :=
  match ks with
  | .int k => d = .int k
  | .bool => d = .bool
  | .str => d = .string
  | .no => False
theorem kshOf_sound (hT : TabOK P T) {kt : TypeId} {ks : KSh} (h : kshOf T kt = ks) (hn : ∃ l, keyFit ks l) : ∃ d, P.underlying kt = some d ∧ kshD ks d := by
  unfold kshOf at h
  cases hsh : (T kt).sh <;> simp only [hsh] at h <;> subst h <;> first | exact ⟨_, hT.sh hsh (by simp), rfl⟩ | (obtain ⟨l, hl⟩ := hn; exact hl.elim)
theorem keyOf_sound {ks : KSh} {x : AV} {v : Value} (hx : RV w O hs x v) (hn : x.need true) (h : (keyOf ks x).1) : v = keyVal (keyOf ks x).2 ∧ keyFit ks (keyOf ks x).2 := by
  have ha := hx.ac rfl hn
  unfold keyOf at h ⊢
  cases ks <;> simp only at h ⊢ <;> try exact h.elim
  all_goals (cases hc : x.ac <;> simp only [hc] at h ha ⊢ <;> try exact h.elim)
  · subst h; exact ⟨ha, _, rfl⟩
  · exact ⟨ha, _, rfl⟩
  · exact ⟨ha, _, rfl⟩
theorem ba_beq (a b : ByteArray) : (a == b) = decide (a = b) := by
  obtain ⟨a⟩ := a
  obtain ⟨b⟩ := b
  show (a == b) = _
  by_cases h : a = b
  · subst h; simp
  · simp [h]
theorem sameNow_key {ks : KSh} {d : TypeDesc} (hd : kshD ks d) {a b : List KA} (ha : keyFit ks a) (hb : keyFit ks b) : Instr.sameNow d (keyVal a) (keyVal b) = some (decide (b = a)) := by
  cases ks <;> simp only [kshD, keyFit] at hd ha hb
  case int k =>
    subst hd
    obtain ⟨n, rfl⟩ := ha
    obtain ⟨m, rfl⟩ := hb
    simp only [keyVal, KA.val, Instr.sameNow, if_true]
    congr 1
    by_cases h : n = m
    · subst h; simp
    · have h' : ¬ m = n := fun e => h e.symm
      simp [h, h']
  case bool =>
    subst hd
    obtain ⟨n, rfl⟩ := ha
    obtain ⟨m, rfl⟩ := hb
    cases n <;> cases m <;> rfl
  case str =>
    subst hd
    obtain ⟨n, rfl⟩ := ha
    obtain ⟨m, rfl⟩ := hb
    simp only [keyVal, KA.val, Instr.sameNow, ba_beq]
    congr 1
    by_cases h : n = m
    · subst h; simp
    · have h' : ¬ m = n := fun e => h e.symm
      simp [h, h']
/-- where a key stands among the entries -/
theorem findNow_map {β : Type} {ks : KSh} {d : TypeDesc} (hd : kshD ks d) {key : List KA} (hkey : keyFit ks key) : ∀ (es : List (Nat × List KA × β)) (L : List MapEntry) (i : Nat), L.length = es.length →
    (∀ (j : Nat) (x : Nat × List KA × β) (e : MapEntry), es[j]? = some x → L[j]? = some e → e.key = keyVal x.2.1) → (∀ x ∈ es, keyFit ks x.2.1) →
    (mfind key es = none ∧ Instr.findNow d (keyVal key) L i = some none) ∨
    ∃ (j : Nat) (x : Nat × List KA × β) (e : MapEntry), es[j]? = some x ∧ L[j]? = some e ∧ x.2.1 = key ∧ mfind key es = some x.2.2 ∧ Instr.findNow d (keyVal key) L i = some (some (i + j, e.val)) ∧ (∀ j' x', j' < j → es[j']? = some x' → x'.2.1 ≠ key)
  | [], [], i, _, _, _ => .inl ⟨rfl, rfl⟩
  | [], _ :: _, i, h, _, _ => by simp at h
  | _ :: _, [], i, h, _, _ => by simp at h
  | x :: es, e :: L, i, hl, hk, hf => by
    have he := hk 0 x e rfl rfl
    have hs1 := sameNow_key hd hkey (hf x (by simp))
    unfold Instr.findNow
    rw [he, hs1]
    by_cases hc : x.2.1 = key
    · right
      refine ⟨0, x, e, rfl, rfl, hc, by simp [mfind, hc], by simp [hc], fun j' x' h => by omega⟩
    · have hdc : decide (x.2.1 = key) = false := by simp [hc]
      rw [hdc]
      simp only
      rcases findNow_map hd hkey es L (i + 1) (by simpa using hl) (fun j x e h1 h2 => hk (j + 1) x e h1 h2) (fun x h => hf x (by simp [h])) with ⟨h1, h2⟩ | ⟨j, y, e', h1, h2, h3, h4, h5, h6⟩
      · exact .inl ⟨by simp [mfind, hc, h1], h2⟩
      · refine .inr ⟨j + 1, y, e', h1, h2, h3, by simp [mfind, hc, h4], by rw [h5]; congr 3; omega, fun j' x' hj hx => ?_⟩
        cases j' with
        | zero => simp at hx; subst hx; exact hc
        | succ j' => exact h6 j' x' (by omega) hx
theorem run_findKeyNow {kt : TypeId} {d : TypeDesc} {key : Value} {L : List MapEntry} {a : Option (Nat × Value)} (hd : P.underlying kt = some d) (h : Instr.findNow d key L 0 = some a) : (Instr.findKey kt key L).run P w = .ok a w := by
  simp [Instr.findKey, run_underlying hd, h]
theorem run_checkKeyNow {kt : TypeId} {d : TypeDesc} {ks : KSh} (hd : P.underlying kt = some d) (hk : kshD ks d) (e : Bool) (v : Value) : (Instr.checkKey e 10000 kt v).run P w = .ok () w := by
  show (Instr.checkKey e (9999 + 1) kt v).run P w = _
  unfold Instr.checkKey
  simp only [Sem.run_bind, run_underlying hd, Result.andThen_ok]
  cases ks <;> simp only [kshD] at hk <;> try exact hk.elim
  all_goals (subst hk; cases v <;> rfl)
theorem VRel.look {agg : Bool} {ds : List DV} {v : Value} (h : VRel w O agg ds v) : RV w O hs (ofCells agg (ds.map DV.ac)) v := by
  cases agg with
  | true =>
    obtain ⟨arr, rfl, h1, h2⟩ := h
    exact ⟨arr, rfl, RCs_of_RD (by simpa using h1) fun j d v hd hv => h2 j d v hd (by simpa using hv)⟩
  | false =>
    obtain ⟨d, rfl, h1⟩ := h
    have := RCs_of_RD (w := w) (O := O) (hs := hs) (ds := [d]) (vs := [v]) rfl fun j d' v' hd hv => by
      cases j with
      | zero => simp at hd hv; subst hd; subst hv; exact h1
      | succ j => simp at hd
    exact this.2 0 _ v rfl rfl
theorem VRel.part {agg : Bool} {ds : List DV} {v : Value} (h : VRel w O agg ds v) : RP w O hs (agg, ds.map DV.ac) v := by
  cases agg with
  | true =>
    obtain ⟨arr, rfl, h1, h2⟩ := h
    exact ⟨arr, rfl, RCs_of_RD (by simpa using h1) fun j d v hd hv => h2 j d v hd (by simpa using hv)⟩
  | false =>
    intro x hx
    have := VRel.look (hs := hs) h
    rw [hx] at this
    exact this
theorem leD1_RD' {d e : DV} {v : Value} (h : leD1 d e) (hr : RD w O d v) : RD w O e v := by
  unfold leD1 at h
  split at h
  · subst h
    cases hr
    exact .empty _ _ _ _ none 0 (by simp [maxLen]) (fun _ => rfl)
  · subst h; exact hr
theorem leD_get' : ∀ {ds es : List DV}, leD ds es → ds.length = es.length ∧ ∀ (i : Nat) (e : DV), es[i]? = some e → ∃ d, ds[i]? = some d ∧ leD1 d e
  | [], [], _ => ⟨rfl, fun i e h => by simp at h⟩
  | [], _ :: _, h => h.elim
  | _ :: _, [], h => h.elim
  | d :: ds, e :: es, h => by
    obtain ⟨h1, h2⟩ := leD_get' h.2
    refine ⟨by simp [h1], fun i x hx => ?_⟩
    cases i with
    | zero => simp at hx; subst hx; exact ⟨d, rfl, h.1⟩
    | succ i => exact h2 i x (by simpa using hx)
theorem dv_RD' {x : AC} {d : DV} {v : Value} (hd : x.dv = some d) (h : RC w O hs x v) : RD w O d v := by
  cases x <;> simp only [AC.dv, Option.some.injEq] at hd <;> try cases hd
  all_goals (simp only [RC] at h; first | (subst h; constructor) | exact h)
theorem dvs_RD' : ∀ {cs : List AC} {ds : List DV} {vs : List Value}, dvs cs = some ds → RCs w O hs cs vs → ds.length = vs.length ∧ ∀ (i : Nat) (d : DV) (v : Value), ds[i]? = some d → vs[i]? = some v → RD w O d v
  | [], ds, vs, hd, hr => by
    simp only [dvs, Option.some.injEq] at hd
    subst hd
    exact ⟨by have := hr.1; simpa using this.symm, fun i d v h => by simp at h⟩
  | c :: cs, ds, vs, hd, hr => by
    simp only [dvs] at hd
    cases hc : c.dv with
    | none => rw [hc] at hd; cases hd
    | some d =>
      cases hcs : dvs cs with
      | none => rw [hc, hcs] at hd; cases hd
      | some ds' =>
        rw [hc, hcs] at hd
        simp only [Option.some.injEq] at hd
        subst hd
        cases vs with
        | nil => have := hr.1; simp at this
        | cons v vs =>
          obtain ⟨h1, h2⟩ := dvs_RD' (vs := vs) hcs ⟨by have := hr.1; simpa using this, fun i x u hx hu => hr.2 (i + 1) x u hx hu⟩
          refine ⟨by simp [h1], fun i d' u hd hu => ?_⟩
          cases i with
          | zero => simp at hd hu; subst hd; subst hu; exact dv_RD' hc (hr.2 0 c v rfl rfl)
          | succ i => exact h2 i d' u (by simpa using hd) (by simpa using hu)
/-- a type's zero value -/
theorem zero_VRel (hs : Nat → Value) {t : TypeId} {i : TI} (hT : TOK P t i) (hn : ¬ i.size = 0) {β : Type} {z : β} {enc : β → List DV} (hE : encIs i.enc β z enc) :
    ∃ v, (∀ w', (zeroValue t).run P w' = .ok v w') ∧ VRel w O i.isAgg (enc z) v := by
  obtain ⟨j, zv, hj, _, _, hz, hzc, hzl, hpl⟩ := hT.info hn
  cases he : i.enc with
  | none => rw [he] at hE; exact hE.elim
  | some E =>
    rw [he] at hE
    obtain ⟨h1, h2, h3⟩ := hE
    obtain ⟨α, z', enc'⟩ := E
    simp only at h1 h2 h3
    subst h1
    cases h2; cases h3
    obtain ⟨g1, ds, g2, g3⟩ := hT.enc _ he
    refine ⟨zv, fun w' => run_zeroValue hj hz, ?_⟩
    have hcs : RCs w O hs i.zero zv.cells.toList := by rw [hzc]; exact RCs_zero hpl
    obtain ⟨hl1, hr1⟩ := dvs_RD' g2 hcs
    obtain ⟨hl2, hr2⟩ := leD_get' g3
    have key : ∀ (k : Nat) (d : DV) (v : Value), (enc' z')[k]? = some d → zv.cells.toList[k]? = some v → RD w O d v := fun k d v hd hv => by
      obtain ⟨d', hd', hle⟩ := hr2 k d hd
      exact leD1_RD' hle (hr1 k d' v hd' hv)
    have hlen : (enc' z').length = i.size := g1 z'
    have hzsz : zv.cells.toList.length = i.size := by rw [hzc]; simp [hzl]
    obtain ⟨dd, hdd, hag⟩ := hT.agg
    have hf := hT.isaggv hn hj hz
    cases ha : i.isAgg with
    | true =>
      rw [ha] at hf
      obtain ⟨arr, rfl⟩ : ∃ arr, zv = .agg arr := by cases zv <;> simp [valAgg] at hf; exact ⟨_, rfl⟩
      exact ⟨arr, rfl, by have : arr.toList.length = i.size := hzsz; simpa [hlen] using this, fun k d u hd hu => key k d u hd (by simpa [Value.cells] using hu)⟩
    | false =>
      have h1 := hT.one ha
      rw [h1] at hlen hzsz
      obtain ⟨d, hd⟩ := List.length_eq_one_iff.1 hlen
      refine ⟨d, hd, key 0 d zv (by rw [hd]; rfl) ?_⟩
      rw [ha] at hf
      cases zv <;> first | rfl | simp [valAgg] at hf
theorem lookup_core (hT : TabOK P T) {k : AV} {vk : Value} {t : TypeId} {ok : Bool} (hk : RV w O hs k vk) (hn : k.need true) {b : Nat} {arr : Array MapEntry} {clock : Nat} {kt2 vt2 : TypeId} {ks : KSh} {agg : Bool} {β : Type} {z : β} {enc : β → List DV} {es : List (Nat × List KA × β)}
    (hsh : (T t).sh = .map kt2 vt2) (h : (keyOf ks k).1 ∧ kshOf T kt2 = ks ∧ agg = (T vt2).isAgg ∧ ¬ (T vt2).size = 0 ∧ encIs (T vt2).enc β z enc)
    (hb : w.heap[b]? = some (.map arr clock)) (hl : arr.size = es.length) (hf : ∀ e ∈ es, keyFit ks e.2.1)
    (hr : ∀ (i : Nat) (x : Nat × List KA × β) (e : MapEntry), es[i]? = some x → arr[i]? = some e → e.born = x.1 ∧ e.key = keyVal x.2.1 ∧ VRel w O agg (enc x.2.2) e.val) :
    ∃ v, (∀ w' : World, w'.heap[b]? = w.heap[b]? → (Instr.lookup t (.map (some b)) vk ok).run P w' = .ok v w') ∧ RV w O hs (lookRes agg z enc es (keyOf ks k).2 ok) v := by
  obtain ⟨h1, h4, h5, h6, h7⟩ := h
  obtain ⟨hv, hkf⟩ := keyOf_sound hk hn h1
  obtain ⟨d, hd, hkd⟩ := kshOf_sound hT h4 ⟨_, hkf⟩
  have hu : P.underlying t = some (.map kt2 vt2) := hT.sh hsh (by simp)
  have hvt := hT.of (t := vt2) fun e => h6 (hT.none e)
  obtain ⟨zv, hz, hzr⟩ := zero_VRel (w := w) (O := O) hs hvt h6 h7
  subst h5
  have fin : ∀ (v : Value) (y : β) (found : Bool), VRel w O (T vt2).isAgg (enc y) v → mget z es (keyOf ks k).2 = y → mhas es (keyOf ks k).2 = found →
      RV w O hs (lookRes (T vt2).isAgg z enc es (keyOf ks k).2 ok) (if ok then .tuple #[v, .bool found] else v) := by
    intro v y found hvr hy hfd
    unfold lookRes
    rw [hy, hfd]
    cases ok with
    | false => exact hvr.look
    | true =>
      refine ⟨#[v, .bool found], rfl, rfl, fun i p u hp hu => ?_⟩
      match i, hp, hu with
      | 0, hp, hu => simp at hp hu; subst hp; subst hu; exact hvr.part
      | 1, hp, hu => simp at hp hu; subst hp; subst hu; intro x hx; simp at hx; subst hx; rfl
      | i + 2, hp, hu => simp at hp
  rcases findNow_map hkd hkf es arr.toList 0 (by simpa using hl) (fun j x e hx he => (hr j x e hx (by simpa using he)).2.1) hf with ⟨g1, g2⟩ | ⟨j, x, e, g1, g2, g3, g4, g5, _⟩
  · refine ⟨_, fun w' hw' => ?_, fin zv z false hzr (by simp [mget, g1]) (by simp [mhas, g1])⟩
    rw [hv]
    have hgm := run_getMap (P := P) (hw'.trans hb)
    cases ok <;> simp [Instr.lookup, run_underlying hu, hgm, run_checkKeyNow hd hkd, run_findKeyNow hd g2, hz]
  · refine ⟨_, fun w' hw' => ?_, fin e.val x.2.2 true (hr j x e g1 (by simpa using g2)).2.2 (by simp [mget, g4]) (by simp [mhas, g4])⟩
    rw [hv]
    have hgm := run_getMap (P := P) (hw'.trans hb)
    cases ok <;> simp [Instr.lookup, run_underlying hu, hgm, run_checkKeyNow hd hkd, run_findKeyNow hd g5]
theorem qlookup_sound (hT : TabOK P T) {st : ASt} (hg : Good w O st.objs hs) {m : AC} {k : AV} {vm vk : Value} {t : TypeId} {ok : Bool} (hm : RC w O hs m vm) (hk : RV w O hs k vk) (hn : k.need true)
    (h : (qlookup T st t m k ok).1) : ∃ v b, vm = .map (some b) ∧ True ∧ b < w.heap.size ∧ (∀ w' : World, w'.heap[b]? = w.heap[b]? → (Instr.lookup t vm vk ok).run P w' = .ok v w') ∧ RV w O hs (qlookup T st t m k ok).2 v := by
  unfold qlookup at h ⊢
  cases hsh : (T t).sh <;> simp only [hsh] at h ⊢ <;> try exact h.elim
  rename_i kt vt
  cases m <;> simp only at h ⊢ <;> try exact h.elim
  case md kt2 vt2 ks β z enc clock es =>
    obtain ⟨h1, rfl, rfl, h4, h5, h6, h7⟩ := h
    obtain ⟨b, arr, rfl, hb, hl, hw, hf, hr⟩ := map_data hm
    obtain ⟨v, g1, g2⟩ := lookup_core (ok := ok) hT hk hn hsh ⟨h1, h4, h5.symm, h6, h7⟩ hb hl hf hr
    exact ⟨v, b, rfl, trivial, (Array.getElem?_eq_some_iff.1 hb).1, g1, g2⟩
  rename_i o r
  cases r <;> simp only at h ⊢ <;> try exact h.elim
  cases hob : st.obj o <;> simp only [hob] at h ⊢ <;> try exact h.elim
  rename_i xo
  cases xo <;> simp only at h ⊢ <;> try exact h.elim
  rename_i kt2 vt2 ks agg β z enc clock es
  obtain ⟨h1, rfl, rfl, h4, h5, h6, h7⟩ := h
  obtain ⟨b, arr, e1, hb, hl, hw, hf, hr⟩ := map_open hg hob
  obtain ⟨rfl, _⟩ := hm
  obtain ⟨v, g1, g2⟩ := lookup_core (ok := ok) hT hk hn hsh ⟨h1, h4, h5, h6, h7⟩ hb hl hf hr
  refine ⟨v, b, e1, trivial, (Array.getElem?_eq_some_iff.1 hb).1, fun w' hw' => ?_, g2⟩
  rw [e1]
  exact g1 w' hw'

theorem nodup_born {β : Type} {es : List (Nat × List KA × β)} {arr : Array MapEntry} (hl : arr.size = es.length) (hb : ∀ (i : Nat) (x : Nat × List KA × β) (e : MapEntry), es[i]? = some x → arr[i]? = some e → e.born = x.1) (hp : es.Pairwise (fun a b => a.1 ≠ b.1)) :
    (arr.toList.map (·.born)).Nodup ∧ arr.toList.map (·.born) = es.map (·.1) := by
  have e : arr.toList.map (·.born) = es.map (·.1) := by
    apply List.ext_getElem?
    intro i
    rw [List.getElem?_map, List.getElem?_map]
    by_cases hi : i < es.length
    · rw [List.getElem?_eq_getElem hi, Array.getElem?_toList, Array.getElem?_eq_getElem (by omega)]
      simp only [Option.map_some]
      rw [hb i _ _ (List.getElem?_eq_getElem hi) (Array.getElem?_eq_getElem (by omega))]
    · rw [List.getElem?_eq_none (l := arr.toList) (by simp; omega), List.getElem?_eq_none (l := es) (by omega)]
      rfl
  refine ⟨?_, e⟩
  rw [e]
  exact List.pairwise_map.2 hp
theorem find_at {β : Type} {es : List (Nat × List KA × β)} {s : Nat} {e : Nat × List KA × β} (h : es.find? (fun x => x.1 == s) = some e) : e ∈ es ∧ e.1 = s :=
  ⟨List.mem_of_find?_eq_some h, by simpa using List.find?_some h⟩
theorem keyParts {ks : KSh} {l : List KA} (h : keyFit ks l) : RP w O hs (false, l.map KA.ac) (keyVal l) := by
  intro x hx
  cases ks <;> simp only [keyFit] at h <;> try exact h.elim
  all_goals (obtain ⟨n, rfl⟩ := h; simp only [List.map_cons, List.map_nil, List.cons.injEq, and_true] at hx; subst hx; rfl)
theorem pairTup {agg : Bool} {ds : List DV} {ks : KSh} {l : List KA} {v : Value} (hk : keyFit ks l) (hv : VRel w O agg ds v) : RV w O hs (.tup [(false, l.map KA.ac), (agg, ds.map DV.ac)]) (.tuple #[keyVal l, v]) := by
  refine ⟨_, rfl, rfl, fun i p u hp hu => ?_⟩
  match i, hp, hu with
  | 0, hp, hu => simp at hp hu; subst hp; subst hu; exact keyParts hk
  | 1, hp, hu => simp at hp hu; subst hp; subst hu; exact hv.part
  | i + 2, hp, hu => simp at hp
theorem qentry_sound {st : ASt} (hg : Good w O st.objs hs) {x : AC} {vx : Value} (hx : RC w O hs x vx) (h : (qentry st x).1) :
    ∃ v, (Instr.entry vx).run P w = .ok v w ∧ RV w O hs (qentry st x).2 v := by
  unfold qentry at h ⊢
  cases x <;> simp only at h ⊢ <;> try exact h.elim
  rename_i i r
  cases r <;> simp only at h ⊢ <;> try exact h.elim
  cases hob : st.obj i <;> simp only [hob] at h ⊢ <;> try exact h.elim
  rename_i xi
  cases xi <;> simp only at h ⊢ <;> try exact h.elim
  rename_i m since seen last
  cases m <;> simp only at h ⊢ <;> try exact h.elim
  rename_i o r2
  cases r2 <;> simp only at h ⊢ <;> try exact h.elim
  cases hoo : st.obj o <;> simp only [hoo] at h ⊢ <;> try exact h.elim
  rename_i xo
  cases xo <;> simp only at h ⊢ <;> try exact h.elim
  rename_i kt vt ks agg β z enc clock es
  obtain ⟨r, b, e1, hm, hr⟩ := hg.rel i _ (obj_some hob (by simp))
  obtain ⟨b', arr, e2, hb, hl, hw, hf, hd⟩ := map_open hg hoo
  obtain ⟨e3, _⟩ := hm
  rw [e2] at e3
  cases e3
  obtain ⟨rfl, _⟩ := hx
  cases hls : seen.getLast? with
  | none => rw [hls] at h; exact h.elim
  | some s =>
    simp only [hls] at h ⊢
    cases hfd : es.find? (fun x => x.1 == s) with
    | none => rw [hfd] at h; exact h.elim
    | some e =>
      simp only [hfd] at h ⊢
      subst h
      obtain ⟨g1, g2⟩ := find_at hfd
      obtain ⟨j, hj⟩ := List.mem_iff_getElem?.1 g1
      have hjl : j < arr.size := by rw [hl]; exact (List.getElem?_eq_some_iff.1 hj).1
      have hje : arr[j]? = some arr[j] := Array.getElem?_eq_getElem hjl
      obtain ⟨d1, d2, d3⟩ := hd j e _ hj hje
      obtain ⟨hnd, _⟩ := nodup_born hl (fun i x e h1 h2 => (hd i x e h1 h2).1) hw.2.1
      have hne : seen ≠ [] := by intro e0; rw [e0] at hls; cases hls
      have hsn : seen.toArray = (seen.dropLast.toArray).push arr[j].born := by
        apply Array.ext'
        have e5 : seen.getLast hne = s := by
          have := List.getLast?_eq_some_getLast hne
          rw [hls] at this
          exact (Option.some.inj this).symm
        have e4 := List.dropLast_concat_getLast hne
        rw [e5] at e4
        rw [d1, g2]
        simpa using e4.symm
      rw [hsn] at hr
      have hrun := Go.run_entry_at (P := P) w r b since seen.dropLast.toArray arr clock arr[j] hr hb (by simp) hnd
      refine ⟨.tuple #[arr[j].key, arr[j].val], by rw [e1]; exact hrun, ?_⟩
      rw [d2]
      exact pairTup (hf e g1) d3

theorem capsOf_sound : ∀ {l : List AV} {vs : List Value} {cs : List (Nat × Nat)}, capsOf l = some cs → vs.length = l.length → (∀ (i : Nat) (x : AV) (v : Value), l[i]? = some x → vs[i]? = some v → RV w O hs x v) →
    vs.length = cs.length ∧ ∀ (i : Nat) (p : Nat × Nat), cs[i]? = some p → ∃ b, hs p.1 = .pointer (some ⟨b, 0, none⟩) ∧ vs[i]? = some (.pointer (some ⟨b, p.2, none⟩))
  | [], vs, cs, h, hl, _ => by
    simp only [capsOf, Option.some.injEq] at h
    subst h
    exact ⟨hl, fun i p hp => by simp at hp⟩
  | x :: l, vs, cs, h, hl, hr => by
    cases vs with
    | nil => simp at hl
    | cons v vs =>
      simp only [capsOf] at h
      cases x <;> simp only at h <;> try cases h
      rename_i c
      cases c <;> simp only at h <;> try cases h
      rename_i o j
      cases hc : capsOf l with
      | none => rw [hc] at h; cases h
      | some cs' =>
        rw [hc] at h
        simp only [Option.some.injEq] at h
        subst h
        obtain ⟨h1, h2⟩ := capsOf_sound hc (by simpa using hl) fun i x v hx hv => hr (i + 1) x v hx hv
        refine ⟨by simp [h1], fun i p hp => ?_⟩
        cases i with
        | zero =>
          simp only [List.getElem?_cons_zero, Option.some.injEq] at hp
          subst hp
          obtain ⟨b, e1, e2⟩ := hr 0 _ v rfl rfl
          exact ⟨b, e1, by simp [e2]⟩
        | succ i => simpa using h2 i p (by simpa using hp)
end

section
variable {P : Program} {T : Tab} {F : Fr} {st : ASt} {hs : Nat → Value} {a : Act} {w : World}

theorem Sim.ac (h : Sim F st hs a w) {x : Operand} {g : Bool} (hg : g = true) (hn : (st.eval x).need g) : RC w (avoid F st.objs hs) hs (st.eval x).ac (a.eval x) := (h.eval x).ac hg hn

theorem need_true {x : AV} {g : Bool} (hg : g = true) (h : x.need g) : x.need true := by subst hg; exact h

theorem needAll_mem {g : Bool} : ∀ {l : List AV}, needAll g l → ∀ x ∈ l, x.need g ∧ x.isTup = false
  | _ :: _, h, x, hx => by
    rcases List.mem_cons.1 hx with rfl | hx
    · exact ⟨h.1, h.2.1⟩
    · exact needAll_mem h.2.2 x hx

theorem fitAll_mem : ∀ {l : List (Nat × List AC)}, fitAll l = true → ∀ p ∈ l, (p.2.all AC.fits) = true
  | _ :: _, h, p, hp => by
    simp only [fitAll, Bool.and_eq_true] at h
    rcases List.mem_cons.1 hp with rfl | hp
    · exact h.1
    · exact fitAll_mem h.2 p hp

theorem parts_sound (h : Sim F st hs a w) (ps : Array (Nat × Operand)) (hn : needAll true (ps.toList.map fun p => st.eval p.2)) (hf : fitAll (partsOf st ps.toList) = true) :
    (ps.map fun (p : Nat × Operand) => (p.1, a.eval p.2)).toList.length = (partsOf st ps.toList).length ∧
    ∀ (i : Nat) (p : Nat × List AC) (q : Nat × Value), (partsOf st ps.toList)[i]? = some p → (ps.map fun (p : Nat × Operand) => (p.1, a.eval p.2)).toList[i]? = some q →
      p.1 = q.1 ∧ RCs w (avoid F st.objs hs) hs p.2 q.2.cells.toList ∧ ∀ u ∈ q.2.cells.toList, u.oneCell' = true := by
  refine ⟨by simp [partsOf], fun i p q hp hq => ?_⟩
  simp only [partsOf, List.getElem?_map, Array.toList_map] at hp hq
  cases hi : ps.toList[i]? with
  | none => rw [hi] at hp; cases hp
  | some r =>
    rw [hi] at hp hq
    simp only [Option.map_some, Option.some.injEq] at hp hq
    subst hp
    subst hq
    have hm := List.mem_of_getElem? hi
    obtain ⟨h1, h2⟩ := needAll_mem hn _ (List.mem_map.2 ⟨r, hm, rfl⟩)
    exact ⟨rfl, (h.eval r.2).cells h1 h2 (fitAll_mem hf _ (List.mem_map.2 ⟨r, hm, rfl⟩))⟩

theorem bounds_sound (h : Sim F st hs a w) (lo : Option Operand) (hn : needAll true (lo.toList.map st.eval)) :
    (∀ x, (lo.map fun y => (st.eval y).ac) = some x → ∃ v, lo.map a.eval = some v ∧ RC w (avoid F st.objs hs) hs x v) ∧ ((lo.map fun y => (st.eval y).ac) = none → lo.map a.eval = none) := by
  cases lo with
  | none =>
    refine ⟨fun x hx => ?_, fun _ => rfl⟩
    cases hx
  | some y => exact ⟨fun x hx => by
      simp only [Option.map_some, Option.some.injEq] at hx
      subst hx
      exact ⟨_, rfl, h.ac rfl hn.1⟩, fun hx => (by cases hx)⟩

/-- **An operation that only looks gives what V0 says, and leaves the world alone.** -/
theorem qop_sound (hT : TabOK P T) (h : Sim F st hs a w) {o : Oper} {g : Bool} (hg : g = true) (hq : (qop T st g o).1) :
    ∃ v, (execOp a.eval o).run P w = .ok (.value v) w ∧ RV w (avoid F st.objs hs) hs (qop T st g o).2 v := by
  subst hg
  obtain ⟨dst, op, ty, pos, after, guard⟩ := o
  have lift : ∀ {s : Sem Value} {av : AV}, execOp a.eval ⟨dst, op, ty, pos, after, guard⟩ = (do pure (.value (← s)) : Sem Next) → (∃ v, s.run P w = .ok v w ∧ RV w (avoid F st.objs hs) hs av v) →
      ∃ v, (execOp a.eval ⟨dst, op, ty, pos, after, guard⟩).run P w = .ok (.value v) w ∧ RV w (avoid F st.objs hs) hs av v := fun e ⟨v, h1, h2⟩ => ⟨v, by rw [e, Sem.run_bind, h1]; rfl, h2⟩
  cases op <;> simp only [qop] at hq ⊢ <;> try exact hq.elim
  case move x => exact ⟨_, rfl, h.eval x⟩
  case assign x => exact ⟨_, rfl, h.eval x⟩
  case pick c x y =>
    cases hc : (st.eval c).ac <;> simp only [hc] at hq ⊢ <;> try exact hq.elim
    rename_i cb
    obtain ⟨h1, h2, h3⟩ := hq
    have hcr := h.ac rfl h1
    rw [hc] at hcr
    refine ⟨if cb = true then a.eval x else a.eval y, ?_, qpick_sound (fun hcb => ?_) fun hcb => ?_⟩
    · show (do pure (.value (if ← asBool (a.eval c) then a.eval x else a.eval y)) : Sem Next).run P w = _
      rw [hcr]
      rfl
    · exact (h.eval x).ac (g := true && cb) (by simp [hcb]) h2
    · exact (h.eval y).ac (g := true && !cb) (by simp [hcb]) h3
  case binOp bop t x y yt =>
    obtain ⟨h1, h2, h3⟩ := hq
    exact lift rfl (qbin_sound hT (h.ac rfl h1) (h.ac rfl h2) h3 x y)
  case unOp u t x =>
    obtain ⟨h1, h2⟩ := hq
    refine lift rfl ?_
    have hx := h.ac rfl h1
    unfold qun at h2 ⊢
    cases u <;> simp only at h2 ⊢ <;> try exact h2.elim
    case not => cases hc : (st.eval x).ac <;> simp only [hc] at h2 hx ⊢ <;> first | exact h2.elim | exact ⟨_, by rw [hx]; rfl, rfl⟩
    case neg => cases hc : (st.eval x).ac <;> simp only [hc] at h2 hx ⊢ <;> first | exact h2.elim | exact ⟨_, by rw [hx]; rfl, rfl⟩
    case xor => cases hc : (st.eval x).ac <;> simp only [hc] at h2 hx ⊢ <;> first | exact h2.elim | exact ⟨_, by rw [hx]; rfl, rfl⟩
  case convert src d x =>
    obtain ⟨h1, h2⟩ := hq
    exact lift rfl (qconvert_sound hT (h.ac rfl h1) h2)
  case indexAddr t x ix =>
    obtain ⟨h1, h2, h3⟩ := hq
    exact lift rfl (qindexAddr_sound hT h.good (h.ac rfl h1) (h.ac rfl h2) h3)
  case fieldAddr s x f =>
    obtain ⟨h1, h2⟩ := hq
    exact lift rfl (qfieldAddr_sound hT (h.ac rfl h1) h2)
  case field s x f =>
    refine lift rfl ?_
    cases hx : st.eval x <;> simp only [hx] at hq ⊢ <;> try exact hq.elim
    exact qfield_sound hT (h.eval x) hx hq
  case index t x ix =>
    obtain ⟨h1, h2, h3⟩ := hq
    exact lift rfl (qindex_sound hT (h.eval x) h1 (h.ac rfl h2) h3)
  case load t x =>
    obtain ⟨h1, h2⟩ := hq
    exact lift rfl (qload_sound hT h.good (qload_sh hT h2) (h.ac rfl h1) h2)
  case entry x =>
    obtain ⟨h1, h2⟩ := hq
    exact lift rfl (qentry_sound h.good (h.ac rfl h1) h2)
  case lookup t m k ok =>
    obtain ⟨h1, h2, h3⟩ := hq
    obtain ⟨v, b, _, _, _, h4, h5⟩ := qlookup_sound hT h.good (h.ac rfl h1) (h.eval k) h2 h3
    exact lift rfl ⟨v, h4 w rfl, h5⟩
  case slice t x lo hi mx =>
    cases mx with
    | some mx =>
      obtain ⟨h1, h2, h3, h4, h5⟩ := hq
      have bl := bounds_sound h lo h2
      have bh := bounds_sound h hi h3
      exact lift rfl (qslice3v_sound (P := P) hT h.good (h.ac rfl h1) bl.1 bl.2 bh.1 bh.2 (h.ac rfl h4) h5)
    | none =>
      obtain ⟨h1, h2, h3, h4⟩ := hq
      have bl := bounds_sound h lo h2
      have bh := bounds_sound h hi h3
      exact lift rfl (qslice_sound hT h.good (h.ac rfl h1) bl.1 bl.2 bh.1 bh.2 h4)
  case extract x i => exact lift rfl (qextract_sound (h.eval x) hq)
  case build t ps =>
    obtain ⟨h1, h2, h3⟩ := hq
    obtain ⟨hl, hp⟩ := parts_sound h ps h1 h2
    exact lift rfl (qbuild_sound hT hl (fun i p q h h' => ⟨(hp i p q h h').1, (hp i p q h h').2.1⟩) h3)
  case nilCheck x =>
    cases hc : (st.eval x).ac <;> simp only [hc] at hq ⊢ <;> try exact hq.elim
    case ptr o j =>
      have hx := h.ac rfl hq
      rw [hc] at hx
      obtain ⟨b, e1, e2⟩ := hx
      exact ⟨_, by simp only [execOp, e2]; rfl, b, e1, rfl⟩
    case fn f caps =>
      have hx := h.ac rfl hq
      rw [hc] at hx
      obtain ⟨arr, e1, e2⟩ := hx
      exact ⟨_, by simp only [execOp, e1]; rfl, arr, rfl, e2⟩
  case makeFunc fn first caps =>
    cases fn <;> simp only at hq ⊢ <;> try exact hq.elim
    rename_i f
    cases hf : first.toList with
    | cons => rw [hf] at hq; exact hq.elim
    | nil =>
      simp only [hf] at hq ⊢
      cases hc : capsOf (caps.toList.map st.eval) with
      | none => rw [hc] at hq; exact hq.elim
      | some l =>
        simp only [hc] at hq ⊢
        obtain ⟨h1, h2⟩ := capsOf_sound (w := w) (O := avoid F st.objs hs) (hs := hs) (vs := caps.toList.map a.eval) hc (by simp) fun i x v hx hv => by
          rw [List.getElem?_map] at hx hv
          cases hi : caps.toList[i]? with
          | none => rw [hi] at hx; cases hx
          | some y =>
            rw [hi] at hx hv
            simp only [Option.map_some, Option.some.injEq] at hx hv
            subst hx; subst hv
            exact h.eval y
        have hfe : first = #[] := by apply Array.ext'; simpa using hf
        refine ⟨.func (.func f) #[] (caps.map a.eval), ?_, caps.map a.eval, rfl, by simpa using h1, fun i p hp => ?_⟩
        · subst hfe; simp [execOp, Instr.makeFunc]
        · obtain ⟨b, e1, e2⟩ := h2 i p hp
          exact ⟨b, e1, by rw [← Array.getElem?_toList, Array.toList_map]; exact e2⟩
  case call c =>
    obtain ⟨callee, args, ats⟩ := c
    cases callee <;> simp only at hq ⊢ <;> try exact hq.elim
    rename_i b
    match hargs : args.toList, hq with
    | [x], hq =>
      have hae : args = #[x] := by apply Array.ext'; simpa using hargs
      subst hae
      cases b <;> simp only [hargs] at hq ⊢ <;> try exact hq.elim
      cases hats : ats.toList with
      | nil => rw [hats] at hq; exact hq.elim
      | cons t r =>
        have hat : ats[0]? = some t := by rw [← Array.getElem?_toList, hats]; rfl
        simp only [hats] at hq ⊢
        cases hsh : (T t).sh <;> simp only [hsh] at hq ⊢ <;> try exact hq.elim
        case str =>
          cases hc : (st.eval x).ac <;> simp only [hc] at hq ⊢ <;> try exact hq.elim
          rename_i s
          have hx := h.ac rfl hq
          rw [hc] at hx
          have hu : P.underlying t = some .string := hT.sh hsh (by simp)
          have hx' : a.eval x = .string s := hx
          exact ⟨.int .i64 s.size, by simp [execOp, resolve, invoke, builtin, Builtin.len_, hat, hx', run_underlying hu, goInt], by simp [RV, RC]⟩
        case map kt vt =>
          obtain ⟨h1, h2⟩ := hq
          have hu : P.underlying t = some (.map kt vt) := hT.sh hsh (by simp)
          obtain ⟨v, b, _, _, _, h3, h4⟩ := qmlen_sound (P := P) h.good (h.ac rfl h1) h2 hu ty hat
          exact ⟨v, by simp [execOp, resolve, invoke, builtin, h3 w rfl], h4⟩
        case slice el =>
          obtain ⟨h1, h2⟩ := hq
          have hu : P.underlying t = some (.slice el) := hT.sh hsh (by simp)
          obtain ⟨v, h3, h4⟩ := qlen_sound (P := P) h.good (h.ac rfl h1) h2 hu ty hat
          exact ⟨v, by simp [execOp, resolve, invoke, builtin, h3], h4⟩
    | [x, y], hq =>
      have hae : args = #[x, y] := by apply Array.ext'; simpa using hargs
      subst hae
      cases b <;> simp only [hargs] at hq ⊢ <;> try exact hq.elim
      case max =>
        obtain ⟨h1, h2, h3⟩ := hq
        have hx := h.ac rfl h1
        have hy := h.ac rfl h2
        unfold qmax at h3 ⊢
        cases hcx : (st.eval x).ac <;> simp only [hcx] at h3 hx ⊢ <;> try exact h3.elim
        cases hcy : (st.eval y).ac <;> simp only [hcy] at h3 hy ⊢ <;> try exact h3.elim
        simp only [RC] at hx hy
        exact ⟨_, by simp [execOp, resolve, invoke, builtin, Builtin.max_, hx, hy, Builtin.max2], rfl⟩
      case min =>
        obtain ⟨h1, h2, h3⟩ := hq
        have hx := h.ac rfl h1
        have hy := h.ac rfl h2
        unfold qmin at h3 ⊢
        cases hcx : (st.eval x).ac <;> simp only [hcx] at h3 hx ⊢ <;> try exact h3.elim
        cases hcy : (st.eval y).ac <;> simp only [hcy] at h3 hy ⊢ <;> try exact h3.elim
        simp only [RC] at hx hy
        exact ⟨_, by simp [execOp, resolve, invoke, builtin, Builtin.min_, hx, hy, Builtin.min2], rfl⟩
    | [], hq => exact hq.elim
    | [x, y, z], hq =>
      have hae : args = #[x, y, z] := by apply Array.ext'; simpa using hargs
      subst hae
      cases b <;> simp only [hargs] at hq ⊢ <;> try exact hq.elim
      case max =>
        obtain ⟨h1, h2, h2', h3, h4⟩ := hq
        have hx := h.ac rfl h1
        have hy := h.ac rfl h2
        have hz := h.ac rfl h2'
        unfold qmax at h3 h4 ⊢
        cases hcx : (st.eval x).ac <;> simp only [hcx] at h3 h4 hx ⊢ <;> try exact h3.elim
        cases hcy : (st.eval y).ac <;> simp only [hcy] at h3 h4 hy ⊢ <;> try exact h3.elim
        cases hcz : (st.eval z).ac <;> simp only [hcz] at h4 hz ⊢ <;> try exact h4.elim
        simp only [RC] at hx hy hz
        exact ⟨_, by simp [execOp, resolve, invoke, builtin, Builtin.max_, hx, hy, hz, Builtin.max2], rfl⟩
      case min =>
        obtain ⟨h1, h2, h2', h3, h4⟩ := hq
        have hx := h.ac rfl h1
        have hy := h.ac rfl h2
        have hz := h.ac rfl h2'
        unfold qmin at h3 h4 ⊢
        cases hcx : (st.eval x).ac <;> simp only [hcx] at h3 h4 hx ⊢ <;> try exact h3.elim
        cases hcy : (st.eval y).ac <;> simp only [hcy] at h3 h4 hy ⊢ <;> try exact h3.elim
        cases hcz : (st.eval z).ac <;> simp only [hcz] at h4 hz ⊢ <;> try exact h4.elim
        simp only [RC] at hx hy hz
        exact ⟨_, by simp [execOp, resolve, invoke, builtin, Builtin.min_, hx, hy, hz, Builtin.min2], rfl⟩
    | _ :: _ :: _ :: _ :: _, hq => exact hq.elim
end
end Go.Vc
