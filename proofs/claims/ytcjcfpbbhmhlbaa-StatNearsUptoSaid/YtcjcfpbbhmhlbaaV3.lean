/- Each operation that only looks gives on the machine what V0 says. -/
import Derived.Test.YtcjcfpbbhmhlbaaV2
set_option linter.unusedVariables false
set_option linter.unusedSimpArgs false
namespace Go.Vc
section
variable {P : Program} {T : Tab} {w : World} {O : Nat → Prop} {hs : Nat → Value}

theorem obj_some {st : ASt} {o : Nat} {ob : AObj} (h : st.obj o = ob) (hn : ob ≠ .gone) : st.objs[o]? = some ob := by
  unfold ASt.obj at h
  cases ho : st.objs[o]? with
  | none => simp [List.getD, ho] at h; exact absurd h.symm hn
  | some x => simp [List.getD, ho] at h; rw [h]

theorem asIntOf_run {k : IntKind} {i : Int} : (asIntOf (.int k i)).run P w = .ok (k, i) w := rfl

/-- a row's handle, where it has an element -/
theorem row_handle {ty : TypeId} {size : Nat} {α : Type} {z : α} {enc : α → List DV} {xs : List α} {h : Value} (hr : RO w O hs (.row ty size α z enc xs) h) (h0 : 0 < xs.length) :
    ∃ b cap cur, h = .slice (some ⟨b, 0, none⟩) xs.length cap ∧ w.heap[b]? = some (.cells cur ty (0, 0)) ∧ xs.length ≤ cap ∧ cap ≤ maxLen ∧ cur.size = cap * size ∧
      ∀ i j d, i < xs.length → (enc (xs.getD i z))[j]? = some d → ∃ cv, cur[i * size + j]? = some cv ∧ RD w O d cv := by
  obtain ⟨_, vs, ho, hd⟩ := hr
  rcases ho.2 with ⟨_, hn⟩ | ⟨g, cap, cur, rfl, _, hg, h1, h2, h3, h4⟩
  · omega
  · refine ⟨g, cap, cur, rfl, hg, h1, h2, h3, fun i j d hi hj => ?_⟩
    obtain ⟨cv, hcv, hrd⟩ := hd i j d hi hj
    refine ⟨cv, ?_, hrd⟩
    rw [← h4, List.getElem?_take] at hcv
    split at hcv
    · simpa using hcv
    · cases hcv
theorem row_slice {ty : TypeId} {size : Nat} {α : Type} {z : α} {enc : α → List DV} {xs : List α} {h : Value} (hr : RO w O hs (.row ty size α z enc xs) h) :
    ∃ A cap, h = .slice A xs.length cap ∧ cap ≤ maxLen ∧ xs.length ≤ cap ∧ (A = none → cap = 0) := by
  obtain ⟨_, vs, ho, hd⟩ := hr
  rcases ho.2 with ⟨rfl, hn⟩ | ⟨g, cap, cur, rfl, _, hg, h1, h2, h3, h4⟩
  · exact ⟨none, 0, by rw [hn], by simp [maxLen], by omega, fun _ => rfl⟩
  · exact ⟨_, cap, rfl, h2, h1, by simp⟩

/-! ### rows of rows -/
theorem ownsRow_sl {ty : TypeId} {size n : Nat} {h : Value} {vs : List Value} (ho : w.ownsRow 0 ty size h n vs) : ∃ A cap, h = .slice A n cap ∧ cap ≤ maxLen ∧ n ≤ cap ∧ (A = none → cap = 0) := by
  rcases ho.2 with ⟨rfl, hn⟩ | ⟨g, cap, cur, rfl, _, hg, h1, h2, h3, h4⟩
  · exact ⟨none, 0, by rw [hn], by simp [maxLen], by omega, fun _ => rfl⟩
  · exact ⟨_, cap, rfl, h2, h1, by simp⟩
theorem ownsRow_at {ty : TypeId} {size n : Nat} {h : Value} {vs : List Value} (ho : w.ownsRow 0 ty size h n vs) (h0 : 0 < n) :
    ∃ b cap cur, h = .slice (some ⟨b, 0, none⟩) n cap ∧ w.heap[b]? = some (.cells cur ty (0, 0)) ∧ n ≤ cap ∧ cap ≤ maxLen ∧ cur.size = cap * size ∧ ∀ (i : Nat) (v : Value), vs[i]? = some v → cur[i]? = some v := by
  rcases ho.2 with ⟨_, hn⟩ | ⟨g, cap, cur, rfl, _, hg, h1, h2, h3, h4⟩
  · omega
  · refine ⟨g, cap, cur, rfl, hg, h1, h2, h3, fun i v hi => ?_⟩
    rw [← h4, List.getElem?_take] at hi
    split at hi
    · simpa using hi
    · cases hi
theorem ORow.row {ty : TypeId} {size : Nat} {α : Type} {z : α} {enc : α → List DV} {xs : List α} {h : Value} (hr : ORow w O ty size α z enc xs h) : RO w O hs (.row ty size α z enc xs) h := hr
structure Rows (w : World) (O : Nat → Prop) (ty ety : TypeId) (size : Nat) (α : Type) (z : α) (enc : α → List DV) (xss : List (List α)) (u : Value) (l : List Value) : Prop where
  out : w.ownsRow 0 ty 1 u xss.length l
  len : l.length = xss.length
  sz : ∀ x, (enc x).length = size
  inn : ∀ (i : Nat) (v : Value) (xs : List α), l[i]? = some v → xss[i]? = some xs → ORow w O ety size α z enc xs v
  apart : ∀ (i j : Nat) (v v' : Value) (b : Nat), (u :: l)[i]? = some v → (u :: l)[j]? = some v' → hblk v = some b → hblk v' = some b → i = j
theorem rows_open {st : ASt} (hg : Good w O st.objs hs) {o : Nat} {ty ety : TypeId} {size : Nat} {α : Type} {z : α} {enc : α → List DV} {xss : List (List α)} (hob : st.obj o = .ext (.rows ty ety size α z enc xss)) :
    ∃ u l, hs o = .tuple (u :: l).toArray ∧ Rows w O ty ety size α z enc xss u l := by
  obtain ⟨u, l, e, h1, h2, h3, h4⟩ := hg.rel o _ (obj_some hob (by simp))
  exact ⟨u, l, e, h1, by have := h1.1; omega, h2, h3, h4⟩
theorem Rows.at {ty ety : TypeId} {size : Nat} {α : Type} {z : α} {enc : α → List DV} {xss : List (List α)} {u : Value} {l : List Value} (h : Rows w O ty ety size α z enc xss u l) {i : Nat} {v : Value} (hi : l[i]? = some v) :
    i < xss.length ∧ ORow w O ety size α z enc (xss.getD i []) v := by
  have hlt : i < xss.length := by rw [← h.len]; exact (List.getElem?_eq_some_iff.1 hi).1
  refine ⟨hlt, h.inn i v _ hi ?_⟩
  rw [List.getD_eq_getElem?_getD, List.getElem?_eq_getElem hlt]
  rfl
theorem cons_inj {h u u' : Value} {l l' : List Value} (e1 : h = .tuple (u :: l).toArray) (e2 : h = .tuple (u' :: l').toArray) : u = u' ∧ l = l' := by
  have := tuple_inj (e1.symm.trans e2)
  simpa using this

theorem qlen_sound {st : ASt} (hg : Good w O st.objs hs) {x : AC} {vx : Value} {t e : TypeId} (hx : RC w O hs x vx) (h : (qlen st x).1)
    (hu : P.underlying t = some (.slice e)) (ty : TypeId) {ats : Array TypeId} (hat : ats[0]? = some t) : ∃ v, (Builtin.len_ ats ty #[vx]).run P w = .ok v w ∧ RC w O hs (qlen st x).2 v := by
  have key : ∀ A n c, vx = .slice A n c → (Builtin.len_ ats ty #[vx]).run P w = .ok (.int .i64 n) w := by
    intro A n c e
    subst e
    simp [Builtin.len_, hat, run_underlying hu, goInt]
  unfold qlen at h ⊢
  cases x <;> simp only at h ⊢ <;> try exact h.elim
  case nil => exact ⟨_, key none 0 0 hx, by simp [RC]⟩
  case rd =>
    cases hx with
    | empty _ _ _ _ A cap _ _ => exact ⟨_, key A 0 cap rfl, by simp [RC]⟩
    | list _ _ _ _ xs b off cap => exact ⟨_, key _ _ _ rfl, by simp [RC]⟩
  case sl o =>
    cases hob : st.obj o <;> simp only [hob] at h ⊢ <;> try exact h.elim
    obtain ⟨rfl, _⟩ := hx
    obtain ⟨A, cap, e, _⟩ := row_slice (hg.rel o _ (obj_some hob (by simp)))
    exact ⟨_, key _ _ _ e, by simp [RC]⟩
  case sub o size lo n =>
    rcases hx with ⟨rfl, A, cap, e, _⟩ | ⟨_, b, m, cap, c, _, e, _⟩
    · exact ⟨_, key _ _ _ e, by simp [RC]⟩
    · exact ⟨_, key _ _ _ e, by simp [RC]⟩
  case xr o r =>
    cases hob : st.obj o <;> simp only [hob] at h ⊢ <;> try exact h.elim
    rename_i xo
    cases xo <;> simp only at h ⊢ <;> try exact h.elim
    obtain ⟨u, l, e, hR⟩ := rows_open hg hob
    cases r <;> simp only at h ⊢ <;> try exact h.elim
    case whole =>
      obtain ⟨l', e', _⟩ := hx
      obtain ⟨rfl, rfl⟩ := cons_inj e e'
      obtain ⟨A, cap, e2, _⟩ := ownsRow_sl hR.out
      exact ⟨_, key _ _ _ e2, by simp [RC]⟩
    case inn i =>
      obtain ⟨u', l', e', hi, _⟩ := hx
      obtain ⟨rfl, rfl⟩ := cons_inj e e'
      obtain ⟨_, hr⟩ := hR.at hi
      obtain ⟨A, cap, e2, _⟩ := row_slice (hs := hs) hr.row
      exact ⟨_, key _ _ _ e2, by simp [RC]⟩
theorem map_open {st : ASt} (hg : Good w O st.objs hs) {o : Nat} {kt vt : TypeId} {ks : KSh} {agg : Bool} {β : Type} {z : β} {enc : β → List DV} {clock : Nat} {es : List (Nat × List KA × β)} (hob : st.obj o = .ext (.map kt vt ks agg β z enc clock es)) :
    ∃ (b : Nat) (arr : Array MapEntry), hs o = .map (some b) ∧ w.heap[b]? = some (.map arr clock) ∧ arr.size = es.length ∧ mwf clock es ∧ (∀ e ∈ es, keyFit ks e.2.1) ∧
      ∀ (i : Nat) (x : Nat × List KA × β) (e : MapEntry), es[i]? = some x → arr[i]? = some e → e.born = x.1 ∧ e.key = keyVal x.2.1 ∧ VRel w O agg (enc x.2.2) e.val := hg.rel o _ (obj_some hob (by simp))
theorem run_getMap {b : Nat} {arr : Array MapEntry} {clock : Nat} (hb : w.heap[b]? = some (.map arr clock)) : (getObj b).run P w = .ok (.map arr clock) w := by
  simp [getObj, Sem.run, hb]
theorem map_data {kt vt : TypeId} {ks : KSh} {β : Type} {z : β} {enc : β → List DV} {clock : Nat} {es : List (Nat × List KA × β)} {v : Value} (h : RD w O (.map kt vt ks β z enc clock es) v) :
    ∃ (b : Nat) (arr : Array MapEntry), v = .map (some b) ∧ w.heap[b]? = some (.map arr clock) ∧ arr.size = es.length ∧ mwf clock es ∧ (∀ e ∈ es, keyFit ks e.2.1) ∧
      ∀ (i : Nat) (x : Nat × List KA × β) (e : MapEntry), es[i]? = some x → arr[i]? = some e → e.born = x.1 ∧ e.key = keyVal x.2.1 ∧ VRel w O false (enc x.2.2) e.val := by
  cases h with
  | map _ _ _ _ _ _ _ _ b arr hO hb hl hm hf hk hn hd =>
    refine ⟨b, arr, rfl, hb, hl, hm, hf, fun i x e hx he => ⟨(hk i x e hx he).1, (hk i x e hx he).2, ?_⟩⟩
    obtain ⟨d, hd'⟩ := List.length_eq_one_iff.1 (hn x (List.mem_of_getElem? hx))
    exact ⟨d, hd', hd i x e d hx he hd'⟩
theorem qmlen_sound {st : ASt} (hg : Good w O st.objs hs) {x : AC} {vx : Value} {t kt vt : TypeId} (hx : RC w O hs x vx) (h : (qmlen st x).1)
    (hu : P.underlying t = some (.map kt vt)) (ty : TypeId) {ats : Array TypeId} (hat : ats[0]? = some t) : ∃ v b, vx = .map (some b) ∧ True ∧ b < w.heap.size ∧
      (∀ w' : World, w'.heap[b]? = w.heap[b]? → (Builtin.len_ ats ty #[vx]).run P w' = .ok v w') ∧ RC w O hs (qmlen st x).2 v := by
  unfold qmlen at h ⊢
  cases x <;> simp only at h ⊢ <;> try exact h.elim
  case md =>
    obtain ⟨b, arr, rfl, hb, hl, _⟩ := map_data hx
    refine ⟨.int .i64 arr.size, b, rfl, trivial, (Array.getElem?_eq_some_iff.1 hb).1, fun w' hw => ?_, by simp [RC, hl]⟩
    simp [Builtin.len_, hat, run_underlying hu, run_getMap (hw.trans hb), goInt]
  rename_i o r
  cases r <;> simp only at h ⊢ <;> try exact h.elim
  cases hob : st.obj o <;> simp only [hob] at h ⊢ <;> try exact h.elim
  rename_i xo
  cases xo <;> simp only at h ⊢ <;> try exact h.elim
  obtain ⟨b, arr, e1, hb, hl, _⟩ := map_open hg hob
  obtain ⟨rfl, _⟩ := hx
  refine ⟨.int .i64 arr.size, b, e1, trivial, (Array.getElem?_eq_some_iff.1 hb).1, fun w' hw => ?_, by simp [RC, hl]⟩
  rw [e1]
  simp [Builtin.len_, hat, run_underlying hu, run_getMap (hw.trans hb), goInt]

theorem qload_sh (hT : TabOK P T) {st : ASt} {t : TypeId} {x : AC} (h : (qload T st t x).1) : (T t).sh ≠ .none := by
  intro hn
  have h0 := hT.none hn
  unfold qload at h
  cases x <;> simp only at h <;> try exact h.elim
  case ptr o j => cases hob : st.obj o <;> simp only [hob] at h <;> first | exact h.elim | exact h.1 h0
  case re ds => exact h.1 h0
  case el o size i j => cases hob : st.obj o <;> simp only [hob] at h <;> first | exact h.elim | exact h.2.2.1 h0
  case xr o r =>
    cases hob : st.obj o <;> simp only [hob] at h <;> try exact h.elim
    rename_i xo
    cases xo <;> simp only at h <;> try exact h.elim
    cases r <;> simp only at h <;> first | exact h.elim | exact h.2.1 h0 | exact h.2.2.2.1 h0

theorem toNat_lt {i : Int} {n : Nat} (h0 : 0 ≤ i) (h1 : i < n) : i.toNat < n := by omega

theorem qindexAddr_sound (hT : TabOK P T) {st : ASt} (hg : Good w O st.objs hs) {x ix : AC} {vx vix : Value} {t : TypeId} (hx : RC w O hs x vx) (hix : RC w O hs ix vix)
    (h : (qindexAddr T t st x ix).1) : ∃ v, (Instr.indexAt t vx vix).run P w = .ok v w ∧ RC w O hs (qindexAddr T t st x ix).2 v := by
  unfold qindexAddr at h ⊢
  cases ix <;> simp only at h ⊢ <;> try exact h.elim
  rename_i k i
  subst hix
  cases hsh : (T t).sh <;> simp only [hsh] at h ⊢ <;> try exact h.elim
  case slice e =>
    have hu : P.underlying t = some (.slice e) := hT.sh hsh (by simp)
    have hse := (hT.sub hsh (by simp) (e := e) (by simp [Sh.subs])).sized
    have key : ∀ b off n c, vx = .slice (some ⟨b, off, none⟩) n c → 0 ≤ i → i < n →
        (Instr.indexAt t vx (.int k i)).run P w = .ok (.pointer (some ⟨b, off + i.toNat * (T e).size, none⟩)) w := by
      intro b off n c e' h0 h1
      subst e'
      simp [Instr.indexAt, asIntOf, run_underlying hu, h0, h1, run_sizeOf hse, Addr.add_lit]
    cases x <;> simp only at h ⊢ <;> try exact h.elim
    case rd size α z enc xs =>
      obtain ⟨rfl, h0, h1⟩ := h
      cases hx with
      | empty => simp at h1; omega
      | list _ _ _ _ _ b off cap val hpos hO hb hcap hc hsz hcell hd =>
        refine ⟨_, key b off _ _ rfl h0 h1, b, off + i.toNat * (T e).size, rfl, hb, hO, fun j d hj => ?_⟩
        have hi := toNat_lt h0 h1
        have hj' : j < (T e).size := by rw [← hsz (xs.getD i.toNat z)]; exact (List.getElem?_eq_some_iff.1 hj).1
        exact ⟨val i.toNat j, hcell _ _ hi hj', hd _ _ d hi hj⟩
    case sl o =>
      cases hob : st.obj o <;> simp only [hob] at h ⊢ <;> try exact h.elim
      rename_i ty size α z enc xs
      obtain ⟨rfl, h0, h1⟩ := h
      obtain ⟨rfl, _⟩ := hx
      obtain ⟨b, cap, cur, e', _⟩ := row_handle (hg.rel o _ (obj_some hob (by simp))) (by omega)
      refine ⟨_, key b 0 _ _ e' h0 h1, b, xs.length, cap, e', by simp⟩
    case sub o size lo n =>
      obtain ⟨rfl, h0, h1⟩ := h
      rcases hx with ⟨rfl, _⟩ | ⟨hn, b, m, cap, c, e1, e2, _⟩
      · omega
      · refine ⟨_, key b _ _ _ e2 h0 h1, b, m, cap, e1, ?_⟩
        simp [Nat.add_mul]
    case xr o r =>
      cases hob : st.obj o <;> simp only [hob] at h ⊢ <;> try exact h.elim
      rename_i xo
      cases xo <;> simp only at h ⊢ <;> try exact h.elim
      rename_i ty ety size α z enc xss
      obtain ⟨u, l, e', hR⟩ := rows_open hg hob
      cases r <;> simp only at h ⊢ <;> try exact h.elim
      case whole =>
        obtain ⟨h9, h0, h1⟩ := h
        obtain ⟨l', e3, _⟩ := hx
        obtain ⟨rfl, rfl⟩ := cons_inj e' e3
        obtain ⟨b, cap, cur, e2, _⟩ := ownsRow_at hR.out (by omega)
        refine ⟨_, key b 0 _ _ e2 h0 h1, b, xss.length, cap, l, by rw [e', e2], ?_⟩
        rw [← h9]; simp
      case inn a =>
        obtain ⟨rfl, ha, h0, h1⟩ := h
        obtain ⟨u', l', e3, hi, _⟩ := hx
        obtain ⟨rfl, rfl⟩ := cons_inj e' e3
        obtain ⟨_, hr⟩ := hR.at hi
        obtain ⟨b, cap, cur, e2, _⟩ := row_handle (hs := hs) hr.row (by omega)
        exact ⟨_, key b 0 _ _ e2 h0 h1, u, l, b, _, cap, e', by rw [hi, e2], by simp⟩
  case array n e =>
    have hu : P.underlying t = some (.array n e) := hT.sh hsh (by simp)
    have hse := (hT.sub hsh (by simp) (e := e) (by simp [Sh.subs])).sized
    have key : ∀ b off, vx = .pointer (some ⟨b, off, none⟩) → 0 ≤ i → i < n →
        (Instr.indexAt t vx (.int k i)).run P w = .ok (.pointer (some ⟨b, off + i.toNat * (T e).size, none⟩)) w := by
      intro b off e' h0 h1
      subst e'
      simp [Instr.indexAt, asIntOf, run_underlying hu, h0, h1, run_sizeOf hse, Addr.add_lit, Instr.sureAddr]
    cases x <;> simp only at h ⊢ <;> try exact h.elim
    case ptr o j =>
      obtain ⟨b, e1, e2⟩ := hx
      exact ⟨_, key b j e2 h.1 h.2, b, e1, rfl⟩
    case re ds =>
      obtain ⟨b, off, e2, hb, hO, hd⟩ := hx
      refine ⟨_, key b off e2 h.1 h.2, b, _, rfl, hb, hO, fun j d hj => ?_⟩
      rw [List.getElem?_drop] at hj
      rw [Nat.add_assoc]
      exact hd _ d hj
    case el o size a j =>
      obtain ⟨b, m, cap, e1, e2⟩ := hx
      exact ⟨_, key b _ e2 h.1 h.2, b, m, cap, e1, by rw [Nat.add_assoc]⟩
    case xr o r =>
      cases r <;> simp only at h ⊢ <;> try exact h.elim
      obtain ⟨u, l, b, m, cap, e1, e3, e2⟩ := hx
      exact ⟨_, key b _ e2 h.1 h.2, u, l, b, m, cap, e1, e3, by rw [Nat.add_assoc]⟩

theorem run_fieldAt (hT : TabOK P T) {s : TypeId} {fs : List (Nat × TypeId)} {f : Nat} {p : Nat × TypeId} (hsh : (T s).sh = .struct fs) (hf : fs[f]? = some p) (hn : ¬ (T p.2).size = 0) (b off : Nat) :
    (Instr.fieldAt s (.pointer (some ⟨b, off, none⟩)) f).run P w = .ok (.pointer (some ⟨b, off + p.1, none⟩)) w := by
  obtain ⟨fields, hu, hfs⟩ := hT.sh hsh (by simp)
  have hse := (hT.sub hsh (by simp) (e := p.2) (by simp [Sh.subs]; exact ⟨_, List.mem_of_getElem? hf⟩)).sized
  rw [← hfs, List.getElem?_map] at hf
  cases hfl : fields.toList[f]? with
  | none => rw [hfl] at hf; cases hf
  | some fl =>
    rw [hfl] at hf
    simp only [Option.map_some, Option.some.injEq] at hf
    subst hf
    have hfl' : fields[f]? = some fl := by simpa using hfl
    simp [Instr.fieldAt, run_underlying hu, hfl', Instr.sureAddr, fieldPlace, run_sizeOf hse, hn, Addr.add_lit]

theorem qfieldAddr_sound (hT : TabOK P T) {x : AC} {vx : Value} {s : TypeId} {f : Nat} (hx : RC w O hs x vx) (h : (qfieldAddr T s x f).1) :
    ∃ v, (Instr.fieldAt s vx f).run P w = .ok v w ∧ RC w O hs (qfieldAddr T s x f).2 v := by
  unfold qfieldAddr at h ⊢
  cases hsh : (T s).sh <;> simp only [hsh] at h ⊢ <;> try exact h.elim
  rename_i fs
  cases hf : fs[f]? with
  | none => rw [hf] at h; exact h.elim
  | some p =>
    simp only [hf] at h ⊢
    cases x <;> simp only at h ⊢ <;> try exact h.elim
    case ptr o j =>
      obtain ⟨b, e1, rfl⟩ := hx
      exact ⟨_, run_fieldAt hT hsh hf h b j, b, e1, rfl⟩
    case re ds =>
      obtain ⟨b, off, rfl, hb, hO, hd⟩ := hx
      refine ⟨_, run_fieldAt hT hsh hf h b off, b, _, rfl, hb, hO, fun j d hj => ?_⟩
      rw [List.getElem?_drop] at hj
      rw [Nat.add_assoc]
      exact hd _ d hj
    case el o size i j =>
      obtain ⟨b, m, cap, e1, rfl⟩ := hx
      exact ⟨_, run_fieldAt hT hsh hf h b _, b, m, cap, e1, by rw [Nat.add_assoc]⟩
    case xr o r =>
      cases r <;> simp only at h ⊢ <;> try exact h.elim
      obtain ⟨u, l, b, m, cap, e1, e3, rfl⟩ := hx
      exact ⟨_, run_fieldAt hT hsh hf h b _, u, l, b, m, cap, e1, e3, by rw [Nat.add_assoc]⟩

theorem run_part {t : TypeId} {i : TI} (hT : TOK P t i) {arr : Array Value} {off : Nat} (h : off + i.size ≤ arr.size) :
    (part t arr off).run P w = .ok (if i.isAgg = true then .agg ((arr.toList.drop off).take i.size).toArray else (((arr.toList.drop off).take i.size).headD undef)) w := by
  simp only [part, Sem.run_bind, run_isAgg hT.agg, Result.andThen_ok]
  cases hi : i.isAgg with
  | true =>
    simp only [if_true, Sem.run_bind, run_sizeOf hT.sized, Result.andThen_ok, Sem.run_pure]
    congr 2
    apply Array.ext'
    simp [Array.toList_extract, List.take_drop, List.extract_eq_take_drop]
  | false =>
    have h1 := hT.one hi
    have hlt : off < arr.size := by omega
    have e : (arr.toList.drop off).take 1 = [arr[off]] := by
      rw [List.drop_eq_getElem_cons (by simpa using hlt)]
      simp
    simp [hlt, h1, e]

theorem part_sound {t : TypeId} {i : TI} (hT : TOK P t i) {cs : List AC} {arr : Array Value} (hr : RCs w O hs cs arr.toList) {off : Nat} (h : off + i.size ≤ cs.length) :
    ∃ v, (part t arr off).run P w = .ok v w ∧ RV w O hs (ofCells i.isAgg ((cs.drop off).take i.size)) v := by
  have hl : arr.size = cs.length := by have := hr.1; simpa using this
  refine ⟨_, run_part hT (by omega), ofCells_sound (t := t) ((hr.drop off).take i.size) rfl fun hi => ?_⟩
  have := hT.one hi
  simp
  omega

theorem RV.aggOf {x : AV} {v : Value} (h : RV w O hs x v) (cs : List AC) (hx : x = .agg cs) : ∃ arr : Array Value, v = .agg arr ∧ RCs w O hs cs arr.toList := by
  subst hx; exact h

theorem qfield_sound (hT : TabOK P T) {x : AV} {cs : List AC} {vx : Value} {s : TypeId} {f : Nat} (hx : RV w O hs x vx) (hc : x = .agg cs) (h : (qfield T s cs f).1) :
    ∃ v, (Instr.field s vx f).run P w = .ok v w ∧ RV w O hs (qfield T s cs f).2 v := by
  obtain ⟨arr, rfl, hr⟩ := hx.aggOf cs hc
  unfold qfield at h ⊢
  cases hsh : (T s).sh <;> simp only [hsh] at h ⊢ <;> try exact h.elim
  rename_i fs
  cases hf : fs[f]? with
  | none => rw [hf] at h; exact h.elim
  | some p =>
    simp only [hf] at h ⊢
    obtain ⟨fields, hu, hfs⟩ := hT.sh hsh (by simp)
    have hse := hT.sub hsh (by simp) (e := p.2) (by simp [Sh.subs]; exact ⟨_, List.mem_of_getElem? hf⟩)
    rw [← hfs, List.getElem?_map] at hf
    cases hfl : fields.toList[f]? with
    | none => rw [hfl] at hf; cases hf
    | some fl =>
      rw [hfl] at hf
      simp only [Option.map_some, Option.some.injEq] at hf
      subst hf
      have hfl' : fields[f]? = some fl := by simpa using hfl
      obtain ⟨v, h1, h2⟩ := part_sound hse hr h
      exact ⟨v, by simp [Instr.field, run_underlying hu, hfl', asAgg, h1], h2⟩

theorem qindex_sound (hT : TabOK P T) {x : AV} {ix : AC} {vx vix : Value} {t : TypeId} (hx : RV w O hs x vx) (hn : x.need true) (hix : RC w O hs ix vix) (h : (qindex T t x ix).1) :
    ∃ v, (Instr.index t vx vix).run P w = .ok v w ∧ RV w O hs (qindex T t x ix).2 v := by
  unfold qindex at h ⊢
  cases ix <;> simp only at h ⊢ <;> try exact h.elim
  rename_i k i
  subst hix
  cases hsh : (T t).sh <;> simp only [hsh] at h ⊢ <;> try exact h.elim
  case str =>
    have hu : P.underlying t = some .string := hT.sh hsh (by simp)
    have hxa := hx.ac rfl hn
    cases hac : x.ac <;> simp only [hac] at h hxa ⊢ <;> try exact h.elim
    rename_i s
    obtain ⟨h0, h1⟩ := h
    simp only [RC] at hxa
    subst hxa
    have hi : i.toNat < s.size := toNat_lt h0 h1
    refine ⟨.int .u8 (bt s i), ?_, by simp [RV, RC]⟩
    have e : s[i.toNat]? = some (s[i.toNat]'hi) := by simp [getElem?_def, hi]
    simp [Instr.index, asIntOf, run_underlying hu, h0, e, bt, hi]
  case array n e =>
    have hu : P.underlying t = some (.array n e) := hT.sh hsh (by simp)
    have hse := hT.sub hsh (by simp) (e := e) (by simp [Sh.subs])
    cases x <;> simp only at h ⊢ <;> try exact h.elim
    rename_i cs
    obtain ⟨h0, h1, h2⟩ := h
    obtain ⟨arr, rfl, hr⟩ := hx
    obtain ⟨v, h3, h4⟩ := part_sound hse hr (off := i.toNat * (T e).size) (by rw [Nat.add_mul, Nat.one_mul] at h2; exact h2)
    exact ⟨v, by simp [Instr.index, asIntOf, run_underlying hu, h0, h1, run_sizeOf hse.sized, h3], h4⟩

theorem load_cells {t : TypeId} {i : TI} (hT : TOK P t i) {b off : Nat} {cs : List AC} {vs : List Value} (hr : RCs w O hs cs vs) (hl : cs.length = i.size) (hn : ¬ i.size = 0)
    (hc : ∀ j v, vs[j]? = some v → w.cell? ⟨b, off + j, none⟩ = some v) :
    ∃ v, (∀ w' : World, w'.heap[b]? = w.heap[b]? → (Instr.loadAt t (.pointer (some ⟨b, off, none⟩))).run P w' = .ok v w') ∧ RV w O hs (ofCells i.isAgg cs) v := by
  refine ⟨_, fun w' hw => ?_, ofCells_sound (t := t) hr rfl fun hi => by omega⟩
  simp only [Instr.loadAt, Instr.sureAddr, Sem.run_bind, Sem.run_pure, Result.andThen_ok]
  exact run_loadVar hT.sized hT.agg (by rw [hr.1, hl]) (fun hi => by rw [hr.1, hl, hT.one hi]) fun j v hv => by
    rw [Addr.add_lit, World.cell?_of_block (w := w) (a := ⟨b, off + j, none⟩) hw]
    exact hc j v hv

theorem u_sl {ty ety : TypeId} {size : Nat} {α : Type} {z : α} {enc : α → List DV} {xss : List (List α)} {u : Value} {l : List Value} {o : Nat} (h : Rows w O ty ety size α z enc xss u l) (e : hs o = .tuple (u :: l).toArray) {i : Nat} {v : Value} (hi : l[i]? = some v) :
    RV w O hs (.c (.xr o (.inn i))) v := by
  obtain ⟨_, hr⟩ := h.at hi
  obtain ⟨A, cap, e2, _⟩ := row_slice (hs := hs) hr.row
  exact ⟨u, l, e, hi, by rw [e2]; rfl⟩
/-- a load from an element of an own row -/
theorem load_row {t : TypeId} (hTt : TOK P t (T t)) {ty : TypeId} {size : Nat} {α : Type} {z : α} {enc : α → List DV} {xs : List α} {b m cap i j : Nat}
    (hro : ORow w O ty size α z enc xs (.slice (some ⟨b, 0, none⟩) m cap)) (hi : i < xs.length) (h0 : ¬ (T t).size = 0) (hl : j + (T t).size ≤ size) :
    ∃ v, b < w.heap.size ∧ (∀ w' : World, w'.heap[b]? = w.heap[b]? → (Instr.loadAt t (.pointer (some ⟨b, i * size + j, none⟩))).run P w' = .ok v w') ∧ RV w O hs (ofCells (T t).isAgg ((((enc (xs.getD i z)).drop j).take (T t).size).map DV.ac)) v := by
  have hsz := hro.1
  obtain ⟨b', cap', cur, e2, hb, hc1, hc2, hc3, hd⟩ := row_handle (hs := hs) hro.row (by omega)
  simp only [Value.slice.injEq, Option.some.injEq, Addr.mk.injEq, and_true] at e2
  obtain ⟨rfl, rfl, rfl⟩ := e2
  have hfit : i * size + size ≤ cur.size := by
    rw [hc3]
    calc i * size + size = (i + 1) * size := by rw [Nat.add_mul, Nat.one_mul]
      _ ≤ cap * size := Nat.mul_le_mul_right _ (by omega)
  refine (load_cells hTt (cs := (((enc (xs.getD i z)).drop j).take (T t).size).map DV.ac) (vs := (cur.toList.drop (i * size + j)).take (T t).size) (RCs_of_RD (by simp [hsz]; omega) fun k d v hk hv => ?_) (by simp [hsz]; omega) h0 fun k v hv => ?_).imp fun v h => ⟨(Array.getElem?_eq_some_iff.1 hb).1, h⟩
  · rw [List.getElem?_take] at hk hv
    split at hk
    · rename_i hk'
      rw [if_pos hk', List.getElem?_drop] at hv
      rw [List.getElem?_drop] at hk
      obtain ⟨cv, hcv, hrd⟩ := hd i (j + k) d hi hk
      have : cur.toList[i * size + j + k]? = some cv := by rw [Nat.add_assoc]; simpa using hcv
      rw [this] at hv
      cases hv
      exact hrd
    · cases hk
  · rw [cell_of_row w b _ cur ty (0, 0) hb]
    rw [List.getElem?_take] at hv
    split at hv
    · rw [List.getElem?_drop] at hv; simpa using hv
    · cases hv

theorem qload_same (hT : TabOK P T) {st : ASt} (hg : Good w O st.objs hs) {x : AC} {vx : Value} {t : TypeId} (ht : (T t).sh ≠ .none) (hx : RC w O hs x vx) (h : (qload T st t x).1) :
    ∃ v b, hblk vx = some b ∧ b < w.heap.size ∧ (∀ w' : World, w'.heap[b]? = w.heap[b]? → (Instr.loadAt t vx).run P w' = .ok v w') ∧ RV w O hs (qload T st t x).2 v := by
  have hTt := hT.of ht
  unfold qload at h ⊢
  cases x <;> simp only at h ⊢ <;> try exact h.elim
  case ptr o j =>
    cases hob : st.obj o <;> simp only [hob] at h ⊢ <;> try exact h.elim
    rename_i ty cs
    obtain ⟨b, e1, rfl⟩ := hx
    obtain ⟨b', vals, e2, hb, hr⟩ := hg.rel o _ (obj_some hob (by simp))
    rw [e1] at e2
    simp only [Value.pointer.injEq, Option.some.injEq, Addr.mk.injEq, and_true] at e2
    subst e2
    refine (load_cells hTt ((hr.drop j).take (T t).size) (by simp; omega) h.1 fun i v hv => ?_).imp fun v h => ⟨b, rfl, (Array.getElem?_eq_some_iff.1 hb).1, h⟩
    rw [cell_of_row w b (j + i) vals ty (0, 0) hb]
    rw [List.getElem?_take] at hv
    split at hv
    · rw [List.getElem?_drop] at hv; simpa using hv
    · cases hv
  case re ds =>
    obtain ⟨b, off, rfl, hb, hO, hd⟩ := hx
    obtain ⟨h0, hl⟩ := h
    have hex : ∃ vs : List Value, vs.length = (T t).size ∧ ∀ j v, vs[j]? = some v → w.cell? ⟨b, off + j, none⟩ = some v ∧ ∀ d, ds[j]? = some d → RD w O d v := by
      refine ⟨(List.range (T t).size).map fun j => (w.cell? ⟨b, off + j, none⟩).getD undef, by simp, fun j v hv => ?_⟩
      rw [List.getElem?_map] at hv
      have hj : j < (T t).size := by
        rcases Nat.lt_or_ge j (T t).size with h' | h'
        · exact h'
        · simp [List.getElem?_range, Nat.not_lt.2 h'] at hv
      rw [List.getElem?_range hj] at hv
      simp only [Option.map_some, Option.some.injEq] at hv
      obtain ⟨cv, hcv, hrd⟩ := hd j ds[j] (List.getElem?_eq_getElem (by omega))
      rw [hcv] at hv
      simp only [Option.getD_some] at hv
      subst hv
      refine ⟨hcv, fun d hd' => ?_⟩
      rw [List.getElem?_eq_getElem (by omega)] at hd'
      cases hd'
      exact hrd
    obtain ⟨vs, hvl, hvs⟩ := hex
    refine (load_cells hTt (cs := (ds.take (T t).size).map DV.ac) (vs := vs) (RCs_of_RD (by simp [hvl]; omega) fun j d v hj hv => ?_) (by simp; omega) h0 fun j v hv => (hvs j v hv).1).imp fun v h => ⟨b, rfl, hb, h⟩
    rw [List.getElem?_take] at hj
    split at hj
    · exact (hvs j v hv).2 d hj
    · cases hj
  case el o size i j =>
    cases hob : st.obj o <;> simp only [hob] at h ⊢ <;> try exact h.elim
    rename_i ty sz α z enc xs
    obtain ⟨rfl, hi, h0, hl⟩ := h
    obtain ⟨b, m, cap, e1, rfl⟩ := hx
    have hro := hg.rel o _ (obj_some hob (by simp))
    rw [e1] at hro
    obtain ⟨v, h1, h2, h3⟩ := load_row (P := P) (T := T) (hs := hs) hTt (show ORow w O ty size α z enc xs _ from hro) hi h0 hl
    exact ⟨v, b, rfl, h1, h2, h3⟩
  case xr o r =>
    cases hob : st.obj o <;> simp only [hob] at h ⊢ <;> try exact h.elim
    rename_i xo
    cases xo <;> simp only at h ⊢ <;> try exact h.elim
    rename_i ty ety sz α z enc xss
    obtain ⟨u, l, e, hR⟩ := rows_open hg hob
    cases r <;> simp only at h ⊢ <;> try exact h.elim
    case cell i =>
      obtain ⟨hi, h0, hag⟩ := h
      obtain ⟨b, n, c, l', e', rfl⟩ := hx
      obtain ⟨rfl, rfl⟩ := cons_inj e e'
      obtain ⟨b', cap, cur, e2, hb, _, _, _, hd⟩ := ownsRow_at hR.out (by omega)
      simp only [Value.slice.injEq, Option.some.injEq, Addr.mk.injEq, and_true] at e2
      obtain ⟨rfl, rfl, rfl⟩ := e2
      have hil : i < l.length := by rw [hR.len]; exact hi
      have hli : l[i]? = some l[i] := List.getElem?_eq_getElem hil
      have hc := hd i _ hli
      have h1 := hTt.one hag
      refine ⟨l[i], b, rfl, (Array.getElem?_eq_some_iff.1 hb).1, fun w' hw => ?_, u_sl hR e hli⟩
      simp only [Instr.loadAt, Instr.sureAddr, Sem.run_bind, Sem.run_pure, Result.andThen_ok]
      have := run_loadVar (P := P) (w := w') (t := t) (a := ⟨b, i, none⟩) (i := T t) (vs := [l[i]]) hTt.sized hTt.agg (by simp [h1]) (fun _ => rfl) fun j v hv => by
        cases j with
        | zero =>
          simp only [List.getElem?_cons_zero, Option.some.injEq] at hv
          subst hv
          rw [Addr.add_lit, World.cell?_of_block (w := w) (a := ⟨b, i + 0, none⟩) hw, cell_of_row w b _ cur ty (0, 0) hb]
          exact hc
        | succ j => simp at hv
      rw [this, hag]
      rfl
    case inel a size k j =>
      obtain ⟨rfl, ha, hk, h0, hl⟩ := h
      obtain ⟨u', l', b, n, c, e', hi, rfl⟩ := hx
      obtain ⟨rfl, rfl⟩ := cons_inj e e'
      obtain ⟨_, hr⟩ := hR.at hi
      obtain ⟨v, h1, h2, h3⟩ := load_row (P := P) (T := T) (hs := hs) hTt hr hk h0 hl
      exact ⟨v, b, rfl, h1, h2, h3⟩

theorem qload_sound (hT : TabOK P T) {st : ASt} (hg : Good w O st.objs hs) {x : AC} {vx : Value} {t : TypeId} (ht : (T t).sh ≠ .none) (hx : RC w O hs x vx) (h : (qload T st t x).1) :
    ∃ v, (Instr.loadAt t vx).run P w = .ok v w ∧ RV w O hs (qload T st t x).2 v :=
  let ⟨v, b, _, _, h1, h2⟩ := qload_same hT hg ht hx h
  ⟨v, h1 w rfl, h2⟩

theorem qconvert_sound (hT : TabOK P T) {x : AC} {vx : Value} {src dst : TypeId} (hx : RC w O hs x vx) (h : (qconvert T src dst x).1) :
    ∃ v, (convert src dst vx).run P w = .ok v w ∧ RC w O hs (qconvert T src dst x).2 v := by
  unfold qconvert at h ⊢
  cases hs1 : (T src).sh <;> simp only [hs1] at h ⊢ <;> try exact h.elim
  case int k0 =>
    cases hs2 : (T dst).sh <;> simp only [hs2] at h ⊢ <;> try exact h.elim
    rename_i k
    cases x <;> simp only at h ⊢ <;> try exact h.elim
    simp only [RC] at hx
    subst hx
    exact ⟨_, by simp [convert, run_underlying (hT.sh hs1 (by simp)), run_underlying (hT.sh hs2 (by simp)), Conv.intToInt]; rfl, by simp [RC]⟩
  case str =>
    cases hs2 : (T dst).sh <;> simp only [hs2] at h ⊢ <;> try exact h.elim
    cases x <;> simp only at h ⊢ <;> try exact h.elim
    simp only [RC] at hx
    subst hx
    exact ⟨_, by simp [convert, run_underlying (hT.sh hs1 (by simp)), run_underlying (hT.sh hs2 (by simp))]; rfl, by simp [RC]⟩
end
end Go.Vc
