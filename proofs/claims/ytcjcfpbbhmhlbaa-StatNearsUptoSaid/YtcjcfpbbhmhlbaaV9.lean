/- Made rows, literals, appends. -/
import Derived.Test.YtcjcfpbbhmhlbaaV8
import Derived.Laws.BytesString
set_option linter.unusedVariables false
set_option linter.unusedSimpArgs false
namespace Go.Vc
section
variable {P : Program} {T : Tab} {F : Fr} {st : ASt} {hs : Nat → Value} {a : Act} {w : World}

theorem box_sound (h : Sim F st hs a w) {t : TypeId} {V : AV} {vV : Value} (hV : RV w (avoid F st.objs hs) hs V vV) (hn : V.need true) (ht : V.isTup = false) (hf : (V.cells.all AC.fits) = true) :
    ∃ w' hs', (Instr.box t vV).run P w = .ok (.pointer (some ⟨w.heap.size, 0, none⟩)) w' ∧ Sim F (newObj st (.cells t V.cells)) hs' a w' ∧
      RV w' (avoid F (newObj st (.cells t V.cells)).objs hs') hs' (.c (.ptr st.objs.length 0)) (.pointer (some ⟨w.heap.size, 0, none⟩)) := by
  obtain ⟨hc, _⟩ := hV.cells hn ht hf
  obtain ⟨h1, h2⟩ := h.new (ob := .cells t V.cells) (u := .pointer (some ⟨w.heap.size, 0, none⟩)) (w' := w.alloc (.cells vV.cells t (0, 0))) (Keep.alloc _ w _) (fun b hb => by simp [foot, hblk] at hb; omega)
    fun hcc hdd => ⟨w.heap.size, vV.cells, rfl, heap_alloc_new w _, hc.1, fun i x v hx hv => hcc (hc.2 i x v hx hv)⟩
  exact ⟨_, _, by simp [Instr.box, newVar, newRow], h1, w.heap.size, by simp [setH], rfl⟩

theorem alloc_sound (hT : TabOK P T) (h : Sim F st hs a w) {t : TypeId} (h0 : ¬ (T t).size = 0) :
    ∃ w' hs', (Instr.alloc t true (.tuple #[])).run P w = .ok (.pointer (some ⟨w.heap.size, 0, none⟩)) w' ∧ Sim F (newObj st (.cells t (T t).zero)) hs' a w' ∧
      RV w' (avoid F (newObj st (.cells t (T t).zero)).objs hs') hs' (.c (.ptr st.objs.length 0)) (.pointer (some ⟨w.heap.size, 0, none⟩)) := by
  obtain ⟨j, z, hj, _, _, hz, hzc, _, hpl⟩ := (hT.of (t := t) fun e => h0 (hT.none e)).info h0
  obtain ⟨h1, h2⟩ := h.new (ob := .cells t (T t).zero) (u := .pointer (some ⟨w.heap.size, 0, none⟩)) (w' := w.alloc (.cells z.cells t (0, 0))) (Keep.alloc _ w _) (fun b hb => by simp [foot, hblk] at hb; omega)
    fun hcc hdd => ⟨w.heap.size, z.cells, rfl, heap_alloc_new w _, by rw [hzc]; exact RCs_zero hpl⟩
  exact ⟨_, _, by simp [Instr.alloc, run_zeroValue hj hz, newVar, newRow], h1, w.heap.size, by simp [setH], rfl⟩

theorem zero_RD {O : Nat → Prop} {t : TypeId} {i : TI} (hT : TOK P t i) {E : Enc} (hE : i.enc = some E) {vs : List Value} (hv : vs = i.zero.map AC.val) (hp : (i.zero.all AC.plain) = true) :
    ∀ (j : Nat) (d : DV), (E.enc E.z)[j]? = some d → ∃ v, vs[j]? = some v ∧ RD w O d v := by
  intro j d hd
  obtain ⟨hl, ds, h1, h2⟩ := hT.enc E hE
  obtain ⟨_, hg⟩ := leD_get h2
  obtain ⟨d0, hd0, hle⟩ := hg j d hd
  obtain ⟨h3, h4⟩ := dvs_RD (w := w) (O := O) (hs := fun _ => .nilFunc) h1 (RCs_zero hp)
  have hj : j < (i.zero.map AC.val).length := by rw [← h3]; exact (List.getElem?_eq_some_iff.1 hd0).1
  rw [hv]
  exact ⟨_, List.getElem?_eq_getElem hj, leD1_RD hle (h4 j d0 _ hd0 (List.getElem?_eq_getElem hj))⟩

theorem make_sound (hT : TabOK P T) (h : Sim F st hs a w) {dst : Option Tmp} {t : TypeId} {l c : AC} {vl vc : Value} (hl : RC w (avoid F st.objs hs) hs l vl) (hc : RC w (avoid F st.objs hs) hs c vc)
    {K : ASt → Prop} (hk : amake T st dst t l c K) :
    ∃ v w', (Instr.makeSlice t vl vc).run P w = .ok v w' ∧ ∃ st' hs' av, K (st'.put dst av) ∧ Sim F st' hs' a w' ∧ RV w' (avoid F st'.objs hs') hs' av v := by
  unfold amake at hk
  cases hsh : (T t).sh <;> simp only [hsh] at hk <;> try exact hk.elim
  rename_i e
  cases hE : (T e).enc with
  | none => rw [hE] at hk; exact hk.elim
  | some E =>
    simp only [hE] at hk
    have plain : amakePlain T st dst e E l c K → ∃ v w', (Instr.makeSlice t vl vc).run P w = .ok v w' ∧ ∃ st' hs' av, K (st'.put dst av) ∧ Sim F st' hs' a w' ∧ RV w' (avoid F st'.objs hs') hs' av v := by
      clear hk
      intro hk
      unfold amakePlain zeros at hk
      cases l <;> simp only at hk <;> try exact hk.elim
      rename_i kl n
      cases c <;> simp only at hk <;> try exact hk.elim
      rename_i kc m
      obtain ⟨hz0, h0, h1, h2, h3, hK⟩ := hk
      simp only [RC] at hl hc
      subst hl; subst hc
      have hu : P.underlying t = some (.slice e) := hT.sh hsh (by simp)
      have hTe := hT.sub hsh (by simp) (e := e) (by simp [Sh.subs])
      obtain ⟨hEl, _⟩ := hTe.enc E hE
      obtain ⟨j, z, hj, hjs, hjb, hz, hzc, hzl, hpl⟩ := hTe.info hz0
      have hr := run_make (P := P) w t e j z hu hj hz kl kc n m h0 h1 (by rw [hjb, Int.mul_comm]; omega) (by omega)
      rw [hjs] at hr
      have hzs : z.cells.size = (T e).size := by have := congrArg List.length hzc; simpa [hzl] using this
      obtain ⟨hS, hV⟩ := h.new (ob := .row e (T e).size E.α E.z E.enc (List.replicate n.toNat E.z)) (u := .slice (some ⟨w.heap.size, 0, none⟩) n.toNat m.toNat)
        (w' := w.alloc (.cells (madeCells z.cells (m.toNat * (T e).size)) e)) (Keep.alloc _ w _) (fun b hb => by simp [foot, hblk] at hb; omega) fun hcc hdd => by
          refine ⟨hEl, (madeCells z.cells (m.toNat * (T e).size)).toList.take (n.toNat * (T e).size), ⟨?_, .inr ⟨w.heap.size, m.toNat, _, by simp, Nat.zero_le _, heap_alloc_new w _, by simp; omega, by simp only [maxLen]; omega, size_madeCells _ _, by simp⟩⟩, fun i k d hi hk => ?_⟩
          · simp only [List.length_take, Array.length_toList, size_madeCells, List.length_replicate]
            exact Nat.min_eq_left (Nat.mul_le_mul_right _ (by omega))
          · simp only [List.length_replicate] at hi
            have e1 : (List.replicate n.toNat E.z).getD i E.z = E.z := by simp [List.getD, hi]
            rw [e1] at hk
            have hk' : k < (T e).size := by rw [← hEl E.z]; exact (List.getElem?_eq_some_iff.1 hk).1
            have hlt : i * (T e).size + k < n.toNat * (T e).size := by
              calc i * (T e).size + k < i * (T e).size + (T e).size := by omega
                _ = (i + 1) * (T e).size := by rw [Nat.add_mul, Nat.one_mul]
                _ ≤ n.toNat * (T e).size := Nat.mul_le_mul_right _ hi
            have hlt2 : i * (T e).size + k < m.toNat * (T e).size := Nat.lt_of_lt_of_le hlt (Nat.mul_le_mul_right _ (by omega))
            obtain ⟨v, hv, hrd⟩ := zero_RD (w := w) (O := avoid F st.objs hs) hTe hE hzc hpl k d hk
            refine ⟨v, ?_, hdd hrd⟩
            rw [List.getElem?_take, if_pos hlt]
            have hmod : (i * (T e).size + k) % z.cells.size = k := by rw [hzs, Nat.mul_comm, Nat.mul_add_mod, Nat.mod_eq_of_lt hk']
            have hkz : k < z.cells.size := by omega
            have hv' : z.cells[k] = v := by
              have : z.cells.toList[k]? = some v := hv
              rw [Array.getElem?_toList, Array.getElem?_eq_getElem hkz] at this
              exact Option.some.inj this
            simp [madeCells, hlt2, hmod, hkz, hv']
      refine ⟨_, _, hr, _, _, _, hK, hS, ?_⟩
      exact ⟨by simp [setH], by simp [setH, isSl]⟩
    cases hshe : (T e).sh <;> simp only [hshe] at hk <;> try exact plain hk
    rename_i e2
    cases hE2 : (T e2).enc with
    | none => rw [hE2] at hk; exact hk.elim
    | some E2 =>
      simp only [hE2] at hk
      cases l <;> simp only at hk <;> try exact hk.elim
      rename_i kl n
      cases c <;> simp only at hk <;> try exact hk.elim
      rename_i kc m
      obtain ⟨hz1, hnz, h0, h1, h2, h3, hK⟩ := hk
      simp only [RC] at hl hc
      subst hl; subst hc
      have hu : P.underlying t = some (.slice e) := hT.sh hsh (by simp)
      have hTe := hT.sub hsh (by simp) (e := e) (by simp [Sh.subs])
      have hTe2 := hT.sub hshe (by simp) (e := e2) (by simp [Sh.subs])
      obtain ⟨hEl, _⟩ := hTe2.enc E2 hE2
      obtain ⟨j, z, hj, hjs, hjb, hz, hzc, hzl, hpl⟩ := hTe.info (by omega)
      have hzz : z.cells.toList = [.slice none 0 0] := by
        rw [hzc]
        unfold nilZero at hnz
        split at hnz
        · split at hnz
          · rename_i e0; rw [e0]; rfl
          · exact hnz.elim
        · exact hnz.elim
      have hr := run_make (P := P) w t e j z hu hj hz kl kc n m h0 h1 (by rw [hjb, Int.mul_comm]; omega) (by omega)
      rw [hjs, hz1, Nat.mul_one] at hr
      have hmade : ∀ (i : Nat), i < m.toNat → (madeCells z.cells m.toNat)[i]? = some (.slice none 0 0) := fun i hi => by
        have hzs : z.cells = #[.slice none 0 0] := by apply Array.ext'; simpa using hzz
        rw [hzs]
        simp [madeCells, hi, Nat.mod_one]
      obtain ⟨hS, hV⟩ := h.new (ob := .ext (.rows e e2 (T e2).size E2.α E2.z E2.enc (zeros n.toNat []))) (u := .tuple (.slice (some ⟨w.heap.size, 0, none⟩) n.toNat m.toNat :: List.replicate n.toNat (.slice none 0 0)).toArray)
        (w' := w.alloc (.cells (madeCells z.cells m.toNat) e)) (Keep.alloc _ w _) (fun b hb => by
          obtain ⟨l', i, v, e1, hi, hv⟩ := hb
          have e1 := tuple_inj e1
          subst e1
          cases i with
          | zero => simp only [List.getElem?_cons_zero, Option.some.injEq] at hi; subst hi; simp only [hblk, Option.some.injEq] at hv; omega
          | succ i =>
            simp only [List.getElem?_cons_succ] at hi
            have := (List.mem_replicate.1 (List.mem_of_getElem? hi)).2
            subst this
            simp [hblk] at hv) fun hcc hdd => by
          unfold zeros
          refine ⟨_, _, rfl, ⟨by simp, .inr ⟨w.heap.size, m.toNat, _, by simp, Nat.zero_le _, heap_alloc_new w _, by simp; omega, by simp only [maxLen]; omega, by simp [size_madeCells], ?_⟩⟩, hEl, fun i v xs hi hx => ?_, fun i k v v' b hi hk' hv hv' => ?_⟩
          · simp only [List.length_replicate, Nat.mul_one]
            apply List.ext_getElem?
            intro i
            rw [List.getElem?_take]
            by_cases hi : i < n.toNat
            · rw [if_pos hi, Array.getElem?_toList, hmade i (by omega), List.getElem?_replicate, if_pos hi]
            · rw [if_neg hi, List.getElem?_replicate, if_neg hi]
          · have e1 := (List.mem_replicate.1 (List.mem_of_getElem? hi)).2
            have e2 := (List.mem_replicate.1 (List.mem_of_getElem? hx)).2
            subst e1 e2
            exact ⟨hEl, [], World.ownsRow_nil _ 0 e2 (T e2).size, fun i j d hi => by simp at hi⟩
          · have nil : ∀ (i : Nat) (v : Value) (b : Nat), (Value.slice (some ⟨w.heap.size, 0, none⟩) n.toNat m.toNat :: List.replicate n.toNat (Value.slice none 0 0))[i]? = some v → hblk v = some b → i = 0 := fun i v b hi hv => by
              cases i with
              | zero => rfl
              | succ i =>
                simp only [List.getElem?_cons_succ] at hi
                have := (List.mem_replicate.1 (List.mem_of_getElem? hi)).2
                subst this
                simp [hblk] at hv
            rw [nil i v b hi hv, nil k v' b hk' hv']
      refine ⟨_, _, hr, _, _, _, hK, hS, ?_⟩
      exact ⟨List.replicate n.toNat (.slice none 0 0), if_pos rfl, rfl⟩

theorem nilTest_sound (hT : TabOK P T) (h : Sim F st hs a w) {t e : TypeId} (hu : P.underlying t = some (.slice e)) {x : AC} {vx : Value} (hx : RC w (avoid F st.objs hs) hs x vx) {K : Bool → Prop} (hk : nilTest st x K) :
    ∃ b, (Op.equal t vx (.slice none 0 0)).run P w = .ok b w ∧ K b ∧ ∃ A n c, vx = .slice A n c := by
  have key : ∀ A n c, vx = .slice A n c → (Op.equal t vx (.slice none 0 0)).run P w = .ok A.isNone w := by
    intro A n c e'
    subst e'
    show (Op.equalIn (9999 + 1) t _ _).run P w = _
    rw [Op.equalIn, Sem.run_bind, run_underlying hu]
    cases A <;> rfl
  unfold nilTest at hk
  cases x <;> simp only at hk <;> try exact hk.elim
  case nil => exact ⟨true, by rw [key none 0 0 hx]; rfl, hk, none, 0, 0, hx⟩
  case rd size α z enc xs =>
    cases hx with
    | empty _ _ _ _ A cap hc hn => exact ⟨_, key A 0 cap rfl, hk _ fun _ => rfl, A, 0, cap, rfl⟩
    | list _ _ _ _ _ b off cap => exact ⟨_, key _ _ _ rfl, hk _ fun hb => by simp at hb, _, _, _, rfl⟩
  case sl o =>
    cases hob : st.obj o <;> simp only [hob] at hk <;> try exact hk.elim
    obtain ⟨A, cap, e1, h1, h2, h3⟩ := row_slice (h.good.rel o _ (obj_some hob (by simp)))
    obtain ⟨rfl, _⟩ := hx
    exact ⟨_, key _ _ _ e1, hk _ fun hb => by
      have := h3 (by simpa using hb)
      omega, _, _, _, e1⟩
  case sub o size lo n =>
    rcases RC.part hx with ⟨rfl, A, cap, e1, h1, h2⟩ | ⟨h0, b, m, cap, c, _, e1, _⟩
    · exact ⟨_, key _ _ _ e1, hk _ fun _ => rfl, _, _, _, e1⟩
    · exact ⟨_, key _ _ _ e1, hk _ fun hb => by simp at hb, _, _, _, e1⟩

/-- the source of an append or a copy, in the machine -/
structure Src (P : Program) (w : World) (O : Nat → Prop) (size : Nat) {α : Type} (z : α) (enc : α → List DV) (ys : List α) (v : Value) (news : List Value) : Prop where
  len : (Builtin.lenOf v).run P w = Result.ok ys.length w
  firstK : ∀ (w1 : World), (∀ b, b < w.heap.size → w1.heap[b]? = w.heap[b]?) → ∀ k, k ≤ ys.length → (Builtin.firstCells size k v).run P w1 = .ok (news.take (k * size)).toArray w1
  nlen : news.length = ys.length * size
  one : ∀ u ∈ news, u.oneCell' = true
  data : ∀ (i j : Nat) (d : DV), i < ys.length → (enc (ys.getD i z))[j]? = some d → ∃ cv, news[i * size + j]? = some cv ∧ RD w O d cv

theorem Src.first {O : Nat → Prop} {size : Nat} {α : Type} {z : α} {enc : α → List DV} {ys : List α} {v : Value} {news : List Value} (h : Src P w O size z enc ys v news) : ∀ (w1 : World), (∀ b, b < w.heap.size → w1.heap[b]? = w.heap[b]?) → (Builtin.firstCells size ys.length v).run P w1 = .ok news.toArray w1 := fun w1 h1 => by
  have := h.firstK w1 h1 ys.length (Nat.le_refl _)
  rw [List.take_of_length_le (by rw [h.nlen]; exact Nat.le_refl _)] at this
  exact this
theorem Src.nil {O : Nat → Prop} {size : Nat} {α : Type} {z : α} {enc : α → List DV} (A : Option Addr) (c : Nat) : Src P w O size z enc [] (.slice A 0 c) [] :=
  ⟨rfl, fun w1 _ k hk => by
    have : k = 0 := by simpa using hk
    subst this
    cases A <;> simp [Builtin.firstCells, loadCells, loadCellsFrom], by simp, fun u hu => by simp at hu, fun i j d hi => by simp at hi⟩

/-- cells that lie one behind the other -/
theorem Src.cells {O : Nat → Prop} {size : Nat} {α : Type} {z : α} {enc : α → List DV} {ys : List α} {b off cap : Nat} (val : Nat → Nat → Value) (hb : b < w.heap.size) (hs' : ∀ x, (enc x).length = size)
    (hc : ∀ i j, i < ys.length → j < size → w.cell? ⟨b, off + i * size + j, none⟩ = some (val i j)) (hd : ∀ i j d, i < ys.length → (enc (ys.getD i z))[j]? = some d → RD w O d (val i j)) :
    ∃ news, Src P w O size z enc ys (.slice (some ⟨b, off, none⟩) ys.length cap) news := by
  have hidx : ∀ k, k < ys.length * size → k / size < ys.length ∧ k % size < size ∧ (k / size) * size + k % size = k := fun k hk => by
    have hp : 0 < size := by
      rcases Nat.eq_zero_or_pos size with h0 | h0
      · rw [h0] at hk; omega
      · exact h0
    exact ⟨(Nat.div_lt_iff_lt_mul hp).2 hk, Nat.mod_lt _ hp, by rw [Nat.mul_comm]; exact Nat.div_add_mod k size⟩
  have hget : ∀ k, k < ys.length * size → ((List.range (ys.length * size)).map fun k => val (k / size) (k % size))[k]? = some (val (k / size) (k % size)) := fun k hk => by
    rw [List.getElem?_map, List.getElem?_range hk]; rfl
  refine ⟨(List.range (ys.length * size)).map fun k => val (k / size) (k % size), rfl, fun w1 h1 q hq => ?_, by simp, fun u hu => ?_, fun i j d hi hj => ?_⟩
  · have hqs : q * size ≤ ys.length * size := Nat.mul_le_mul_right _ hq
    have := run_loadCells_list (P := P) w1 ⟨b, off, none⟩ (((List.range (ys.length * size)).map fun k => val (k / size) (k % size)).take (q * size)) fun k v hv => by
      have hkq : k < q * size := by
        have := (List.getElem?_eq_some_iff.1 hv).1
        rw [List.length_take] at this
        omega
      have hk : k < ys.length * size := by omega
      rw [List.getElem?_take_of_lt hkq, hget k hk] at hv
      cases hv
      obtain ⟨h2, h3, h4⟩ := hidx k hk
      rw [Addr.add_lit, World.cell?_of_block (w := w) (h1 b hb)]
      have := hc _ _ h2 h3
      rw [Nat.add_assoc, h4] at this
      exact this
    have hl : (((List.range (ys.length * size)).map fun k => val (k / size) (k % size)).take (q * size)).length = q * size := by rw [List.length_take, List.length_map, List.length_range]; exact Nat.min_eq_left hqs
    rw [hl] at this
    simpa [Builtin.firstCells] using this
  · obtain ⟨k, hk⟩ := List.mem_iff_getElem?.1 hu
    have hk' : k < ys.length * size := by
      have := (List.getElem?_eq_some_iff.1 hk).1
      simpa using this
    rw [hget k hk'] at hk
    cases hk
    obtain ⟨h2, h3, h4⟩ := hidx k hk'
    exact (hd _ _ _ h2 (List.getElem?_eq_getElem (by rw [hs']; exact h3))).one
  · have hj' : j < size := by rw [← hs' (ys.getD i z)]; exact (List.getElem?_eq_some_iff.1 hj).1
    have hlt : i * size + j < ys.length * size := by
      calc i * size + j < i * size + size := by omega
        _ = (i + 1) * size := by rw [Nat.add_mul, Nat.one_mul]
        _ ≤ ys.length * size := Nat.mul_le_mul_right _ hi
    have e1 : (i * size + j) / size = i := by rw [Nat.mul_comm, Nat.mul_add_div (by omega), Nat.div_eq_of_lt hj', Nat.add_zero]
    have e2 : (i * size + j) % size = j := by rw [Nat.mul_comm, Nat.mul_add_mod, Nat.mod_eq_of_lt hj']
    refine ⟨_, hget _ hlt, ?_⟩
    rw [e1, e2]
    exact hd i j d hi hj

theorem appSrc_sound (h : Sim F st hs a w) {x : AC} {vx : Value} (hx : RC w (avoid F st.objs hs) hs x vx) {α : Type} {size : Nat} {z : α} {enc : α → List DV} {K : List α → Prop} (hk : appSrc st size enc x K) :
    ∃ ys news, K ys ∧ Src P w (avoid F st.objs hs) size z enc ys vx news ∧ ((∃ A n c, vx = .slice A n c) ∨ ∃ s, vx = .string s) := by
  unfold appSrc at hk
  cases x <;> simp only at hk <;> try exact hk.elim
  case nil =>
    simp only [RC] at hx
    subst hx
    exact ⟨[], [], hk, Src.nil _ _, .inl ⟨_, _, _, rfl⟩⟩
  case str s =>
    obtain ⟨rfl, hα, he, hK⟩ := hk
    subst hα
    have he' := eq_of_heq he
    subst he'
    simp only [RC] at hx
    subst hx
    have hsz : (u8s s).length = s.size := by
      show (s.data.toList.map _).length = s.data.size
      simp
    refine ⟨u8s s, (u8s s).map fun n => .int .u8 n, hK, ⟨by simp [Builtin.lenOf, hsz], fun w1 _ k hk => ?_, by simp, fun u hu => ?_, fun i j d hi hj => ?_⟩, .inr ⟨s, rfl⟩⟩
    · simp only [Builtin.firstCells, Sem.run_pure]
      congr 1
      apply Array.ext'
      simp [u8s, ByteArray.data_extract, Nat.mul_one, List.map_take]
      rfl
    · obtain ⟨n, _, rfl⟩ := List.mem_map.1 hu
      rfl
    · cases j with
      | succ j => simp [encU8] at hj
      | zero =>
        simp only [encU8, List.getElem?_cons_zero, Option.some.injEq] at hj
        subst hj
        refine ⟨.int .u8 ((u8s s).getD i z), ?_, .int _ _⟩
        simp [List.getD, hi]
  case rd sz β z' enc' ys =>
    obtain ⟨rfl, hα, he, hK⟩ := hk
    subst hα
    have he' := eq_of_heq he
    subst he'
    cases hx with
    | empty _ _ _ _ A cap hc hn => exact ⟨[], [], hK, Src.nil _ _, .inl ⟨_, _, _, rfl⟩⟩
    | list _ _ _ _ _ b off cap val hpos hO hb hcap hc hs' hcell hd =>
      obtain ⟨news, hsrc⟩ := Src.cells (P := P) (z := z) (cap := cap) val hb hs' hcell fun i j d hi hj => hd i j d hi (by
        have e : ys.getD i z' = ys.getD i z := by simp [List.getD, hi]
        rw [e]; exact hj)
      exact ⟨ys, news, hK, hsrc, .inl ⟨_, _, _, rfl⟩⟩
  case sl o =>
    cases hob : st.obj o <;> simp only [hob] at hk <;> try exact hk.elim
    rename_i ty sz β z' enc' ys
    obtain ⟨rfl, hα, he, hK⟩ := hk
    subst hα
    have he' := eq_of_heq he
    subst he'
    have hro := h.good.rel o _ (obj_some hob (by simp))
    obtain ⟨rfl, _⟩ := hx
    by_cases hp : 0 < ys.length
    · obtain ⟨b, cap, cur, e1, hb, g1, g2, g3, hd⟩ := row_handle hro hp
      obtain ⟨news, hsrc⟩ := Src.cells (P := P) (w := w) (O := avoid F st.objs hs) (z := z) (ys := ys) (enc := enc') (b := b) (off := 0) (cap := cap) (fun i j => cur.getD (i * sz + j) undef) (Array.getElem?_eq_some_iff.1 hb).1 hro.1 (fun i j hi hj => by
        rw [Nat.zero_add, cell_of_row w b _ cur ty (0, 0) hb]
        have hlt : i * sz + j < cur.size := by
          rw [g3]
          calc i * sz + j < i * sz + sz := by omega
            _ = (i + 1) * sz := by rw [Nat.add_mul, Nat.one_mul]
            _ ≤ cap * sz := Nat.mul_le_mul_right _ (by omega)
        simp [Array.getD, hlt]) fun i j d hi hj => by
          have e : ys.getD i z' = ys.getD i z := by simp [List.getD, hi]
          obtain ⟨cv, h1, h2⟩ := hd i j d hi (by rw [e]; exact hj)
          have : cur.getD (i * sz + j) undef = cv := by rw [Array.getD_eq_getD_getElem?, h1]; rfl
          rw [this]
          exact h2
      exact ⟨ys, news, hK, by rw [e1]; exact hsrc, .inl ⟨_, _, _, e1⟩⟩
    · obtain ⟨A, cap, e1, _⟩ := row_slice hro
      have : ys = [] := List.eq_nil_of_length_eq_zero (by omega)
      subst this
      exact ⟨[], [], hK, by rw [e1]; exact Src.nil _ _, .inl ⟨_, _, _, e1⟩⟩
  case sub o sz0 lo n =>
    cases hob : st.obj o <;> simp only [hob] at hk <;> try exact hk.elim
    rename_i ty sz β z' enc' ys
    obtain ⟨e0, rfl, hle, hα, he, hK⟩ := hk
    subst e0
    subst hα
    have he' := eq_of_heq he
    subst he'
    have hro := h.good.rel o _ (obj_some hob (by simp))
    have hlen : ((ys.drop lo).take n).length = n := by simp; omega
    rcases RC.part hx with ⟨rfl, A, cap, rfl, _⟩ | ⟨h0, b, m, cap, c, e1, rfl, g0, _⟩
    · exact ⟨(ys.drop lo).take 0, [], hK, by simp only [List.take_zero]; exact Src.nil _ _, .inl ⟨_, _, _, rfl⟩⟩
    · obtain ⟨b', cap', cur, e2, hb, g1, g2, g3, hd⟩ := row_handle hro (by omega)
      rw [e1] at e2
      simp only [Value.slice.injEq, Option.some.injEq, Addr.mk.injEq, and_true] at e2
      obtain ⟨rfl, rfl, rfl⟩ := e2
      obtain ⟨news, hsrc⟩ := Src.cells (P := P) (w := w) (O := avoid F st.objs hs) (z := z) (ys := (ys.drop lo).take n) (enc := enc') (b := b) (off := lo * sz) (cap := c) (fun i j => cur.getD ((lo + i) * sz + j) undef) (Array.getElem?_eq_some_iff.1 hb).1 hro.1 (fun i j hi hj => by
        rw [cell_of_row w b _ cur ty (0, 0) hb]
        have hlt : (lo + i) * sz + j < cur.size := by
          rw [g3]
          calc (lo + i) * sz + j < (lo + i) * sz + sz := by omega
            _ = (lo + i + 1) * sz := by rw [Nat.add_mul (lo + i) 1, Nat.one_mul]
            _ ≤ cap * sz := Nat.mul_le_mul_right _ (by omega)
        rw [show lo * sz + i * sz + j = (lo + i) * sz + j by rw [Nat.add_mul]]
        simp [Array.getD, hlt]) fun i j d hi hj => by
          rw [getD_take_drop _ _ _ _ _ (by omega)] at hj
          have e : ys.getD (lo + i) z' = ys.getD (lo + i) z := by simp [List.getD, show lo + i < ys.length by omega]
          obtain ⟨cv, h1, h2⟩ := hd (lo + i) j d (by omega) (by rw [e]; exact hj)
          have : cur.getD ((lo + i) * sz + j) undef = cv := by rw [Array.getD_eq_getD_getElem?, h1]; rfl
          rw [this]
          exact h2
      rw [hlen] at hsrc
      exact ⟨_, news, hK, hsrc, .inl ⟨_, _, _, rfl⟩⟩
end
end Go.Vc
