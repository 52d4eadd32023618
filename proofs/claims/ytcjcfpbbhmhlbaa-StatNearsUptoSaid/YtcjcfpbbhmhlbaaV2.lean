/- The operations that only look do on the machine what V0 says of them. -/
import Derived.Test.YtcjcfpbbhmhlbaaV1
set_option linter.unusedVariables false
set_option linter.unusedSimpArgs false
namespace Go.Vc

def AC.val : AC → Value
  | .int k n => .int k n
  | .bool b => .bool b
  | .str s => .string s
  | .raw v => v
  | .nil => .slice none 0 0
  | _ => undef
def AC.plain : AC → Bool
  | .int .. | .bool _ | .str _ | .nil => true
  | .raw v => v.oneCell'
  | _ => false

def shOK (P : Program) (t : TypeId) : Sh → Prop
  | .none => True
  | .int k => P.underlying t = some (.int k)
  | .bool => P.underlying t = some .bool
  | .str => P.underlying t = some .string
  | .slice e => P.underlying t = some (.slice e)
  | .array n e => P.underlying t = some (.array n e)
  | .struct fs => ∃ fields, P.underlying t = some (.struct fields) ∧ fields.toList.map (fun f => (f.offset, f.type)) = fs
  | .ptr e => P.underlying t = some (.pointer e)
  | .map k v => P.underlying t = some (.map k v)
  | .iface => ∃ ms, P.underlying t = some (.interface ms)
  | .func => ∃ a b c, P.underlying t = some (.func a b c)

def valAgg : Value → Bool
  | .agg _ => true
  | _ => false
/-- the table tells the truth of a type -/
structure TOK (P : Program) (t : TypeId) (i : TI) : Prop where
  sh : shOK P t i.sh
  info : ¬ i.size = 0 → ∃ j z, P.info? t = some j ∧ j.size = i.size ∧ j.bytes = i.bytes ∧ j.zero = some z ∧ z.cells.toList = i.zero.map AC.val ∧ i.zero.length = i.size ∧ (i.zero.all AC.plain) = true
  sized : ∃ j, P.info? t = some j ∧ j.size = i.size
  agg : ∃ d, P.underlying t = some d ∧ (match d with | .struct _ | .array _ _ => true | _ => false) = i.isAgg
  one : i.isAgg = false → i.size = 1
  zagg : ¬ i.size = 0 → ∃ j z, P.info? t = some j ∧ j.zero = some z ∧ valAgg z = i.isAgg
  enc : ∀ E, i.enc = some E → (∀ x, (E.enc x).length = i.size) ∧ ∃ ds, dvs i.zero = some ds ∧ leD ds (E.enc E.z)

theorem TOK.isaggv {P : Program} {t : TypeId} {i : TI} (h : TOK P t i) (hn : ¬ i.size = 0) {j : TypeInfo} {z : Value} (hj : P.info? t = some j) (hz : j.zero = some z) : valAgg z = i.isAgg := by
  obtain ⟨j', z', h1, h2, h3⟩ := h.zagg hn
  rw [hj] at h1
  cases h1
  rw [hz] at h2
  cases h2
  exact h3
def Sh.subs : Sh → List TypeId
  | .slice e => [e]
  | .array _ e => [e]
  | .struct fs => fs.map (·.2)
  | .map k v => [k, v]
  | _ => []
structure TabOK (P : Program) (T : Tab) : Prop where
  of : ∀ {t}, (T t).sh ≠ .none → TOK P t (T t)
  none : ∀ {t}, (T t).sh = .none → (T t).size = 0
  closed : ∀ {t e}, (T t).sh ≠ .none → e ∈ (T t).sh.subs → (T e).sh ≠ .none

theorem TabOK.sub {P : Program} {T : Tab} (h : TabOK P T) {t e : TypeId} {s : Sh} (hs : (T t).sh = s) (hn : s ≠ .none) (he : e ∈ s.subs) : TOK P e (T e) :=
  h.of (h.closed (t := t) (by rw [hs]; exact hn) (by rw [hs]; exact he))
theorem TabOK.sh {P : Program} {T : Tab} (h : TabOK P T) {t : TypeId} {s : Sh} (hs : (T t).sh = s) (hn : s ≠ .none) : shOK P t s := by
  have := (h.of (t := t) (by rw [hs]; exact hn)).sh
  rwa [hs] at this

section
variable {P : Program} {T : Tab} {w : World} {O : Nat → Prop} {hs : Nat → Value}

theorem run_sizeOf {t : TypeId} {n : Nat} (h : ∃ j, P.info? t = some j ∧ j.size = n) : (sizeOf t).run P w = .ok n w := by
  obtain ⟨j, hj, rfl⟩ := h
  simp [sizeOf, typeInfo, hj]
theorem run_isAgg {t : TypeId} {b : Bool} (h : ∃ d, P.underlying t = some d ∧ (match d with | .struct _ | .array _ _ => true | _ => false) = b) : (isAgg t).run P w = .ok b w := by
  obtain ⟨d, hd, rfl⟩ := h
  cases d <;> simp [Go.isAgg, run_underlying hd]

theorem binInt_sound {op : BinOp} {k k2 : IntKind} {a b : Int} {t : TypeId} (h : (binInt op k k2 a b).1) :
    ∃ v, (binOp op t (.int k a) (.int k2 b)).run P w = .ok v w ∧ RC w O hs (binInt op k k2 a b).2 v := by
  cases op <;> simp only [binInt] at h ⊢
  case shl => exact ⟨_, by simp [binOp, Op.shift, show ¬ b < 0 by omega]; rfl, by simp [RC, shl]⟩
  case shr => exact ⟨_, by simp [binOp, Op.shift, show ¬ b < 0 by omega]; rfl, by simp [RC, shr]⟩
  case quo => obtain ⟨rfl, hb⟩ := h; exact ⟨_, by simp [binOp, Op.intDiv, hb]; rfl, by simp [RC]⟩
  case rem => obtain ⟨rfl, hb⟩ := h; exact ⟨_, by simp [binOp, Op.intDiv, hb]; rfl, by simp [RC]⟩
  all_goals (subst h)
  case add => exact ⟨_, by simp [binOp, Op.intArith]; rfl, by simp [RC]⟩
  case sub => exact ⟨_, by simp [binOp, Op.intArith]; rfl, by simp [RC]⟩
  case mul => exact ⟨_, by simp [binOp, Op.intArith]; rfl, by simp [RC]⟩
  case and => exact ⟨_, by simp [binOp, intBits_and]; rfl, by simp [RC, bits]⟩
  case or => exact ⟨_, by simp [binOp, intBits_or]; rfl, by simp [RC, bits]⟩
  case xor => exact ⟨_, by simp [binOp, intBits_xor]; rfl, by simp [RC, bits]⟩
  case andNot => exact ⟨_, by simp [binOp, intBits_andNot]; rfl, by simp [RC, bits]⟩
  case eql => exact ⟨_, by simp [binOp, Op.intCmp]; rfl, by simp [RC, BEq.beq]⟩
  case neq => exact ⟨_, by simp [binOp, Op.intCmp]; rfl, by simp [RC, bne, BEq.beq]⟩
  case lss => exact ⟨_, by simp [binOp, Op.intCmp]; rfl, by simp [RC]⟩
  case leq => exact ⟨_, by simp [binOp, Op.intCmp]; rfl, by simp [RC]⟩
  case gtr => exact ⟨_, by simp [binOp, Op.intCmp]; rfl, by simp [RC]⟩
  case geq => exact ⟨_, by simp [binOp, Op.intCmp]; rfl, by simp [RC]⟩

theorem binStr_sound {op : BinOp} {a b : ByteArray} {t : TypeId} (h : (binStr op a b).1) :
    ∃ v, (binOp op t (.string a) (.string b)).run P w = .ok v w ∧ RC w O hs (binStr op a b).2 v := by
  cases op <;> simp only [binStr] at h ⊢ <;> try exact h.elim
  case add =>
    refine ⟨.string (a ++ b), ?_, by simp [RC]⟩
    have h2 : ¬ (((a.size + b.size : Nat) : Int) > IntKind.i64.max) := by simp [IntKind.max, IntKind.bits, IntKind.signed]; omega
    simp only [binOp, Op.stringOp, h2, if_false]
    rfl
  all_goals exact ⟨_, by simp [binOp, Op.stringOp]; rfl, by simp [RC]⟩

theorem run_equal_bool {t : TypeId} (hu : P.underlying t = some .bool) (a b : Bool) : (Op.equal t (.bool a) (.bool b)).run P w = .ok (a == b) w := by
  show (Op.equalIn (9999 + 1) t (.bool a) (.bool b)).run P w = _
  rw [Op.equalIn, Sem.run_bind, run_underlying hu]
  rfl
theorem run_binOp_bool {t : TypeId} (hu : P.underlying t = some .bool) (a b : Bool) :
    (binOp .eql t (.bool a) (.bool b)).run P w = .ok (.bool (a == b)) w ∧ (binOp .neq t (.bool a) (.bool b)).run P w = .ok (.bool !(a == b)) w := by
  constructor
  · show (do pure (.bool (← Op.equal t (.bool a) (.bool b))) : Sem Value).run P w = _
    rw [Sem.run_bind, run_equal_bool hu]
    rfl
  · show (do pure (.bool (!(← Op.equal t (.bool a) (.bool b)))) : Sem Value).run P w = _
    rw [Sem.run_bind, run_equal_bool hu]
    rfl

theorem qbin_sound (hT : TabOK P T) {op : BinOp} {x y : AC} {vx vy : Value} {t : TypeId} (hx : RC w O hs x vx) (hy : RC w O hs y vy) (h : (qbin T t op x y).1) (ox oy : Operand) :
    ∃ v, (do eqGuard op t ox oy vx vy; binOp op t vx vy : Sem Value).run P w = .ok v w ∧ RC w O hs (qbin T t op x y).2 v := by
  unfold qbin at h ⊢
  cases x with
  | int k a => cases y with
    | int k2 b =>
      subst hx; subst hy
      obtain ⟨v, h1, h2⟩ := binInt_sound (P := P) (w := w) (O := O) (hs := hs) (t := t) h
      exact ⟨v, by cases op <;> simp [eqGuard, h1], h2⟩
    | _ => exact h.elim
  | str a => cases y with
    | str b =>
      subst hx; subst hy
      obtain ⟨v, h1, h2⟩ := binStr_sound (P := P) (w := w) (O := O) (hs := hs) (t := t) h
      exact ⟨v, by cases op <;> simp [eqGuard, h1], h2⟩
    | _ => exact h.elim
  | bool a => cases y with
    | bool b =>
      subst hx; subst hy
      dsimp only at h ⊢
      cases hsh : (T t).sh <;> simp only [hsh] at h ⊢ <;> try exact h.elim
      have hu : P.underlying t = some .bool := hT.sh hsh (by simp)
      cases op <;> simp only [binBool] at h ⊢ <;> try exact h.elim
      · exact ⟨.bool (a == b), by simp [eqGuard, (run_binOp_bool hu a b).1], by simp [RC]⟩
      · exact ⟨.bool !(a == b), by simp [eqGuard, (run_binOp_bool hu a b).2], by simp [RC]⟩
    | _ => exact h.elim
  | _ => exact h.elim

theorem qpick0_sound {c : Bool} {a b : AC} {va vb : Value} (ha : c = true → RC w O hs a va) (hb : c = false → RC w O hs b vb) : RC w O hs (qpick0 c a b) (if c = true then va else vb) := by
  unfold qpick0
  cases a with
  | int k n => cases b with
    | int k2 m =>
      dsimp only
      cases hk : decide (k = k2) with
      | true =>
        have := of_decide_eq_true hk
        subst this
        cases c <;> simp [RC] at ha hb ⊢ <;> assumption
      | false => exact trivial
    | _ => exact trivial
  | bool n => cases b with
    | bool m => cases c <;> simp [RC] at ha hb ⊢ <;> assumption
    | _ => exact trivial
  | str n => cases b with
    | str m => cases c <;> simp [RC] at ha hb ⊢ <;> assumption
    | _ => exact trivial
  | _ => exact trivial

theorem qpick_sound {c : Bool} {a b : AC} {va vb : Value} (ha : c = true → RC w O hs a va) (hb : c = false → RC w O hs b vb) : RC w O hs (qpick c a b) (if c = true then va else vb) := by
  unfold qpick
  cases b with
  | junk => cases c with
    | true => exact ha rfl
    | false => exact trivial
  | _ => cases a with
    | junk => cases c with
      | true => exact trivial
      | false => exact hb rfl
    | _ => exact qpick0_sound ha hb

theorem RCs.take {cs : List AC} {vs : List Value} (h : RCs w O hs cs vs) (n : Nat) : RCs w O hs (cs.take n) (vs.take n) :=
  ⟨by simp [h.1], fun i x v hx hv => by
    rw [List.getElem?_take] at hx hv
    split at hx
    · rename_i hi; rw [if_pos hi] at hv; exact h.2 i x v hx hv
    · cases hx⟩
theorem RCs.drop {cs : List AC} {vs : List Value} (h : RCs w O hs cs vs) (n : Nat) : RCs w O hs (cs.drop n) (vs.drop n) :=
  ⟨by simp [h.1], fun i x v hx hv => by
    rw [List.getElem?_drop] at hx hv
    exact h.2 _ x v hx hv⟩

theorem RCs.append {cs cs' : List AC} {vs vs' : List Value} (h : RCs w O hs cs vs) (h' : RCs w O hs cs' vs') : RCs w O hs (cs ++ cs') (vs ++ vs') :=
  ⟨by simp [h.1, h'.1], fun i x v hx hv => by
    rw [List.getElem?_append] at hx hv
    rw [h.1] at hv
    split at hx
    · rename_i hi; rw [if_pos hi] at hv; exact h.2 i x v hx hv
    · rename_i hi; rw [if_neg hi] at hv; exact h'.2 _ x v hx hv⟩
theorem RCs.splice {cs new : List AC} {vs nv : List Value} (h : RCs w O hs cs vs) (h' : RCs w O hs new nv) (j : Nat) : RCs w O hs (splice cs j new) (splice vs j nv) := by
  unfold Vc.splice
  rw [show nv.length = new.length from h'.1]
  exact ((h.take j).append h').append (h.drop _)

theorem RV.cells {x : AV} {v : Value} (h : RV w O hs x v) (hn : x.need true) (ht : x.isTup = false) (hf : (x.cells.all AC.fits) = true) : RCs w O hs x.cells v.cells.toList ∧ ∀ u ∈ v.cells.toList, u.oneCell' = true := by
  have one : ∀ c, RC w O hs c v → c.fits = true → RCs w O hs [c] v.cells.toList ∧ ∀ u ∈ v.cells.toList, u.oneCell' = true := fun c hc hfc => by
    have h1 := hc.one hfc
    have e : v.cells.toList = [v] := by cases v <;> first | rfl | cases h1
    rw [e]
    refine ⟨⟨rfl, fun i x u hx hu => ?_⟩, fun u hu => by simp at hu; subst hu; exact h1⟩
    cases i with
    | zero => simp at hx hu; subst hx; subst hu; exact hc
    | succ i => simp at hx
  cases x with
  | c x => exact one x h (by simpa [AV.cells] using hf)
  | on g x => exact one x (h.1 (hn rfl)) (by simpa [AV.cells] using hf)
  | agg cs =>
    obtain ⟨arr, rfl, hr⟩ := h
    refine ⟨hr, fun u hu => ?_⟩
    obtain ⟨i, hi⟩ := List.mem_iff_getElem?.1 hu
    have hl : i < cs.length := by rw [← hr.1]; exact (List.getElem?_eq_some_iff.1 hi).1
    have hc : cs[i]? = some cs[i] := List.getElem?_eq_getElem hl
    exact (hr.2 i _ u hc hi).one (List.all_eq_true.1 hf _ (List.getElem_mem hl))
  | tup vs => cases ht

/-- a part of a value's cells, as a value -/
theorem ofCells_sound {t : TypeId} {i : TI} {cs : List AC} {vs : List Value} {v : Value} (h : RCs w O hs cs vs)
    (hv : v = if i.isAgg = true then .agg vs.toArray else vs.headD undef) (hl : i.isAgg = false → 0 < cs.length) : RV w O hs (ofCells i.isAgg cs) v := by
  unfold ofCells
  cases hi : i.isAgg with
  | true => rw [hi] at hv; subst hv; exact ⟨vs.toArray, rfl, by simpa using h⟩
  | false =>
    rw [hi] at hv
    subst hv
    cases cs with
    | nil => exact absurd (hl hi) (by simp)
    | cons c cs =>
      cases vs with
      | nil => have := h.1; simp at this
      | cons v vs => exact h.2 0 c v rfl rfl

theorem RCs_of_RD {ds : List DV} {vs : List Value} (hl : vs.length = ds.length) (h : ∀ (j : Nat) (d : DV) (v : Value), ds[j]? = some d → vs[j]? = some v → RD w O d v) : RCs w O hs (ds.map DV.ac) vs :=
  ⟨by simp [hl], fun i x v hx hv => by
    rw [List.getElem?_map] at hx
    cases hd : ds[i]? with
    | none => rw [hd] at hx; cases hx
    | some d =>
      rw [hd] at hx
      simp only [Option.map_some, Option.some.injEq] at hx
      subst hx
      have hr := h i d v hd hv
      cases hr with
      | list => exact .list _ _ _ _ _ _ _ _ _ ‹_› ‹_› ‹_› ‹_› ‹_› ‹_› ‹_› ‹_›
      | empty => exact .empty _ _ _ _ _ _ ‹_› ‹_›
      | map => exact .map _ _ _ _ _ _ _ _ _ _ ‹_› ‹_› ‹_› ‹_› ‹_› ‹_› ‹_› ‹_›
      | _ => rfl⟩

theorem run_loadVar {t : TypeId} {a : Addr} {i : TI} {vs : List Value} (hs' : ∃ j, P.info? t = some j ∧ j.size = i.size) (ha : ∃ d, P.underlying t = some d ∧ (match d with | .struct _ | .array _ _ => true | _ => false) = i.isAgg)
    (hl : vs.length = i.size) (h1 : i.isAgg = false → vs.length = 1) (hc : ∀ j v, vs[j]? = some v → w.cell? (a.add j) = some v) :
    (loadVar t a).run P w = .ok (if i.isAgg = true then .agg vs.toArray else vs.headD undef) w := by
  have hll := run_loadCells_list (P := P) w a vs hc
  rw [hl] at hll
  simp only [loadVar, Sem.run_bind, run_isAgg ha, Result.andThen_ok]
  cases hi : i.isAgg with
  | true => simp [run_sizeOf hs', hll]
  | false =>
    have h1' := h1 hi
    cases vs with
    | nil => simp at h1'
    | cons v vs =>
      have h0 := hc 0 v rfl
      simp only [Addr.add, if_true] at h0
      simp [run_load, h0]
end
end Go.Vc
