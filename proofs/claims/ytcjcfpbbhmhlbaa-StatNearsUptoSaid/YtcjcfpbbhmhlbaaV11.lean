/- Literals of slices; bytes and strings. -/
import Derived.Test.YtcjcfpbbhmhlbaaV10
import Derived.Lib.ConvBytes
set_option linter.unusedVariables false
set_option linter.unusedSimpArgs false
namespace Go.Vc
section
variable {P : Program} {T : Tab} {F : Fr} {st : ASt} {hs : Nat → Value} {a : Act} {w : World}

theorem flatten_set {β : Type _} (size : Nat) : ∀ (els : List (List β)) (i : Nat) (new : List β), (∀ l ∈ els, l.length = size) → new.length = size → i < els.length → (els.set i new).flatten = splice els.flatten (i * size) new
  | [], i, new, _, _, hi => by simp at hi
  | l :: els, 0, new, hl, hn, _ => by
    have := hl l (by simp)
    simp [splice, hn, ← this]
  | l :: els, i + 1, new, hl, hn, hi => by
    have h1 := hl l (by simp)
    have ih := flatten_set size els i new (fun l' h' => hl l' (by simp [h'])) hn (by simpa using hi)
    simp only [List.set_cons_succ, List.flatten_cons, ih, splice]
    have e : (i + 1) * size = l.length + i * size := by rw [Nat.add_mul, Nat.one_mul, h1, Nat.add_comm]
    rw [e, List.take_append, List.drop_append]
    have e2 : l.length + i * size - l.length = i * size := by omega
    have e3 : l.length + i * size + new.length - l.length = i * size + new.length := by omega
    have a1 : l.take (l.length + i * size) = l := List.take_of_length_le (by omega)
    have a2 : l.drop (l.length + i * size + new.length) = [] := List.drop_of_length_le (by omega)
    rw [e2, e3, a1, a2]
    simp

theorem flatten_len {β : Type _} (size : Nat) : ∀ (els : List (List β)), (∀ l ∈ els, l.length = size) → els.flatten.length = els.length * size
  | [], _ => by simp
  | l :: els, h => by
    rw [List.flatten_cons, List.length_append, flatten_len size els fun l' h' => h l' (by simp [h']), h l (by simp), List.length_cons, Nat.add_mul, Nat.one_mul, Nat.add_comm]

theorem setPart_fill (size : Nat) : ∀ (ps : List (Nat × List AC)) (els : List (List AC)), (∀ l ∈ els, l.length = size) → (setPart els size ps).1 →
    (fillParts (fun i => some (i * size, size)) ps els.flatten).1 ∧ (fillParts (fun i => some (i * size, size)) ps els.flatten).2 = (setPart els size ps).2.flatten ∧ (∀ l ∈ (setPart els size ps).2, l.length = size) ∧ (setPart els size ps).2.length = els.length
  | [], els, hl, _ => ⟨trivial, rfl, hl, rfl⟩
  | p :: ps, els, hl, h => by
    simp only [setPart] at h ⊢
    obtain ⟨h1, h2, h3⟩ := h
    have hl' : ∀ l ∈ els.set p.1 p.2, l.length = size := fun l hm => by
      rcases List.mem_or_eq_of_mem_set hm with h' | rfl
      · exact hl l h'
      · exact h2
    obtain ⟨g1, g2, g3, g4⟩ := setPart_fill size ps (els.set p.1 p.2) hl' h3
    have e := flatten_set size els p.1 p.2 hl h2 h1
    simp only [fillParts]
    rw [← e]
    refine ⟨⟨h2, ?_, g1⟩, g2, g3, by rw [g4]; simp⟩
    rw [flatten_len size els hl, h2]
    calc p.1 * size + size = (p.1 + 1) * size := by rw [Nat.add_mul, Nat.one_mul]
      _ ≤ els.length * size := Nat.mul_le_mul_right _ h1

theorem elems_sound {α : Type} {enc : α → List DV} : ∀ {els : List (List AC)} {K : List α → Prop}, elems enc els K → ∃ ys : List α, ys.length = els.length ∧ K ys ∧
    ∀ (i : Nat) (c : List AC) (y : α), els[i]? = some c → ys[i]? = some y → ∃ ds, dvs c = some ds ∧ leD ds (enc y)
  | [], K, h => ⟨[], rfl, h, fun i c y hc => by simp at hc⟩
  | c :: cs, K, h => by
    simp only [elems] at h
    cases hd : dvs c with
    | none => rw [hd] at h; exact h.elim
    | some ds =>
      rw [hd] at h
      obtain ⟨y, hy, h⟩ := h
      obtain ⟨ys, h1, h2, h3⟩ := elems_sound h
      refine ⟨y :: ys, by simp [h1], h2, fun i c' y' hc hy' => ?_⟩
      cases i with
      | zero => simp at hc hy'; subst hc; subst hy'; exact ⟨ds, hd, hy⟩
      | succ i => exact h3 i c' y' (by simpa using hc) (by simpa using hy')

theorem flatten_get {β : Type _} (size : Nat) : ∀ (els : List (List β)) (i j : Nat), (∀ l ∈ els, l.length = size) → j < size → els.flatten[i * size + j]? = (els[i]?).bind (·[j]?)
  | [], i, j, _, _ => by simp
  | l :: els, 0, j, hl, hj => by
    have h1 := hl l (by simp)
    rw [List.flatten_cons, List.getElem?_append, if_pos (by omega)]
    simp
  | l :: els, i + 1, j, hl, hj => by
    have h1 := hl l (by simp)
    rw [List.flatten_cons, List.getElem?_append, if_neg (by rw [Nat.add_mul]; omega)]
    have e : (i + 1) * size + j - l.length = i * size + j := by rw [Nat.add_mul]; omega
    rw [e, flatten_get size els i j (fun l' h' => hl l' (by simp [h'])) hj]
    simp

theorem buildSlice_sound (hT : TabOK P T) (h : Sim F st hs a w) {dst : Option Tmp} {t : TypeId} {len : Nat} {ps : List (Nat × List AC)} {vs : Array (Nat × Value)} (hl : vs.toList.length = ps.length)
    (hp : ∀ (i : Nat) (p : Nat × List AC) (q : Nat × Value), ps[i]? = some p → vs.toList[i]? = some q → p.1 = q.1 ∧ RCs w (avoid F st.objs hs) hs p.2 q.2.cells.toList) {K : ASt → Prop} (hk : abuildSlice T st dst t len ps K) :
    ∃ v w', (Instr.buildSlice t len vs).run P w = .ok v w' ∧ ∃ st' hs' av, K (st'.put dst av) ∧ Sim F st' hs' a w' ∧ RV w' (avoid F st'.objs hs') hs' av v := by
  unfold abuildSlice at hk
  cases hsh : (T t).sh <;> simp only [hsh] at hk <;> try exact hk.elim
  rename_i e
  cases hE : (T e).enc with
  | none =>
    simp only [hE] at hk
    cases hme : (T e).sh <;> simp only [hme] at hk <;> try exact hk.elim
    match len, ps, hk, hl, hp with
    | 1, [p], hk, hl, hp =>
    simp only at hk
    obtain ⟨p1, p2⟩ := p
    match p2, hk, hp with
    | [x], hk, hp =>
    cases x <;> simp only at hk <;> try exact hk.elim
    rename_i kt vt ks β zb enc clock es
    obtain ⟨hp1, hs1, hK⟩ := hk
    subst hp1
    have h0 : ¬ (T e).size = 0 := by omega
    have h1 : (setPart (List.replicate 1 (T e).zero) (T e).size [(0, [AC.md kt vt ks β zb enc clock es])]).1 := ⟨by simp, by simp [hs1], trivial⟩
    have e2 : (setPart (List.replicate 1 (T e).zero) (T e).size [(0, [AC.md kt vt ks β zb enc clock es])]).2 = [[AC.md kt vt ks β zb enc clock es]] := rfl
    have h2 : 1 * (T e).size ≤ 16777216 := by rw [hs1]; omega
    have hu : P.underlying t = some (.slice e) := hT.sh hsh (by simp)
    have hTe := hT.sub hsh (by simp) (e := e) (by simp [Sh.subs])
    obtain ⟨j, z, hj, hjs, hjb, hz, hzc, hzl, hpl⟩ := hTe.info h0
    have hzs : z.cells.size = (T e).size := by have := congrArg List.length hzc; simpa [hzl] using this
    have hlz : ∀ l ∈ List.replicate 1 (T e).zero, l.length = (T e).size := fun l hm => by rw [(List.mem_replicate.1 hm).2, hzl]
    obtain ⟨g1, g2, g3, g4⟩ := setPart_fill (T e).size _ _ hlz h1
    have hzr : RCs w (avoid F st.objs hs) hs (List.replicate 1 (T e).zero).flatten ((Array.range (1 * (T e).size)).map fun k => z.cells[k % z.cells.size]!).toList := by
      refine ⟨by simp [flatten_len (T e).size _ hlz, hzl], fun k x v hx hv => ?_⟩
      have hk' : k < 1 * (T e).size := by
        have := (List.getElem?_eq_some_iff.1 hv).1
        simpa using this
      have hp0 : 0 < (T e).size := by omega
      have hkm : k % (T e).size < (T e).size := Nat.mod_lt _ hp0
      have hki : k / (T e).size < 1 := (Nat.div_lt_iff_lt_mul hp0).2 hk'
      have e1 : k = k / (T e).size * (T e).size + k % (T e).size := by rw [Nat.mul_comm]; exact (Nat.div_add_mod k _).symm
      rw [e1, flatten_get (T e).size _ _ _ hlz hkm, List.getElem?_replicate, if_pos hki] at hx
      simp only [Option.bind_some] at hx
      simp only [Array.toList_map, Array.toList_range, List.getElem?_map, List.getElem?_range hk', Option.map_some, Option.some.injEq] at hv
      rw [hzs] at hv
      have hz2 : z.cells.toList[k % (T e).size]? = some v := by
        rw [← hv]
        rw [Array.getElem?_toList, Array.getElem?_eq_getElem (by omega)]
        simp [show k % (T e).size < z.cells.size by omega]
      rw [hzc] at hz2
      exact (RCs_zero hpl).2 _ x v hx hz2
    obtain ⟨arr, h3, h4⟩ := fill_sound _ vs.toList _ _ hzr hl hp g1
    rw [g2, e2] at h4
    have hal : arr.size = 1 := by simpa using h4.1
    have hr : (Instr.buildSlice t 1 vs).run P w = .ok (.slice (some ⟨w.heap.size, 0, none⟩) 1 1) (w.alloc (.cells arr e (0, 0))) := by
      have n2 : ¬ (1 * (T e).size > 2 ^ 24) := by omega
      have hse := hTe.sized
      have n3 : ¬ (1 * (T e).size = 0) := by omega
      simp only [Instr.buildSlice, Sem.run_bind, run_underlying hu, Result.andThen_ok, run_sizeOf hse, n2, n3, if_false, run_zeroValue hj hz, Sem.run_pure, h3]
      simp [newRow]
    obtain ⟨hS, _⟩ := h.new (ob := .row e 1 (MapD β) (0, []) (encM kt vt ks β zb enc) [(clock, es)]) (u := .slice (some ⟨w.heap.size, 0, none⟩) 1 1) (w' := w.alloc (.cells arr e (0, 0))) (Keep.alloc _ w _) (fun b hb => by simp [foot, hblk] at hb; omega) fun hcc hdd => by
      refine ⟨fun x => rfl, arr.toList, ⟨by simp [hal], .inr ⟨w.heap.size, 1, arr, rfl, Nat.zero_le _, heap_alloc_new w _, by simp, by simp only [maxLen]; omega, by rw [hal], ?_⟩⟩, fun i k d hi hk' => ?_⟩
      · exact List.take_of_length_le (by simp [hal])
      · have hi0 : i = 0 := by simpa using hi
        subst hi0
        cases k with
        | succ k => simp [encM] at hk'
        | zero =>
          have hd : d = .map kt vt ks β zb enc clock es := by simpa [encM] using hk'.symm
          subst hd
          have hlt : 0 < arr.toList.length := by simp [hal]
          refine ⟨_, List.getElem?_eq_getElem hlt, hdd ?_⟩
          exact h4.2 0 _ _ rfl (List.getElem?_eq_getElem hlt)
    exact ⟨_, _, hr, _, _, _, hK, hS, by simp [setH], by simp [setH, isSl]⟩
  | some E =>
    simp only [hE] at hk
    obtain ⟨h0, h1, h2, hk⟩ := hk
    have hu : P.underlying t = some (.slice e) := hT.sh hsh (by simp)
    have hTe := hT.sub hsh (by simp) (e := e) (by simp [Sh.subs])
    obtain ⟨j, z, hj, hjs, hjb, hz, hzc, hzl, hpl⟩ := hTe.info h0
    obtain ⟨hEl, _⟩ := hTe.enc E hE
    have hzs : z.cells.size = (T e).size := by have := congrArg List.length hzc; simpa [hzl] using this
    obtain ⟨ys, hy1, hK, hy2⟩ := elems_sound hk
    have hlz : ∀ l ∈ List.replicate len (T e).zero, l.length = (T e).size := fun l hm => by rw [(List.mem_replicate.1 hm).2, hzl]
    obtain ⟨g1, g2, g3, g4⟩ := setPart_fill (T e).size ps _ hlz h1
    have hzr : RCs w (avoid F st.objs hs) hs (List.replicate len (T e).zero).flatten ((Array.range (len * (T e).size)).map fun k => z.cells[k % z.cells.size]!).toList := by
      refine ⟨by simp [flatten_len (T e).size _ hlz], fun k x v hx hv => ?_⟩
      have hk' : k < len * (T e).size := by
        have := (List.getElem?_eq_some_iff.1 hv).1
        simpa using this
      have hp0 : 0 < (T e).size := by omega
      have hkm : k % (T e).size < (T e).size := Nat.mod_lt _ hp0
      have hki : k / (T e).size < len := (Nat.div_lt_iff_lt_mul hp0).2 hk'
      have e1 : k = k / (T e).size * (T e).size + k % (T e).size := by rw [Nat.mul_comm]; exact (Nat.div_add_mod k _).symm
      rw [e1, flatten_get (T e).size _ _ _ hlz hkm, List.getElem?_replicate, if_pos hki] at hx
      simp only [Option.bind_some] at hx
      simp only [Array.toList_map, Array.toList_range, List.getElem?_map, List.getElem?_range hk', Option.map_some, Option.some.injEq] at hv
      rw [hzs] at hv
      have hz2 : z.cells.toList[k % (T e).size]? = some v := by
        rw [← hv]
        rw [Array.getElem?_toList, Array.getElem?_eq_getElem (by omega)]
        simp [show k % (T e).size < z.cells.size by omega]
      rw [hzc] at hz2
      exact (RCs_zero hpl).2 _ x v hx hz2
    obtain ⟨arr, h3, h4⟩ := fill_sound ps vs.toList _ _ hzr hl hp g1
    rw [g2] at h4
    have hal : arr.size = len * (T e).size := by
      have := h4.1
      rw [flatten_len _ _ g3, g4] at this
      simpa using this
    have hyl : ys.length = len := by rw [hy1, g4]; simp
    have hr : (Instr.buildSlice t len vs).run P w = .ok (.slice (some ⟨w.heap.size, 0, none⟩) len len) (w.alloc (.cells arr e (0, 0))) := by
      have n2 : ¬ (len * (T e).size > 2 ^ 24) := by omega
      have hse := hTe.sized
      by_cases hl0 : len = 0
      · subst hl0
        have h3' : Instr.fill (fun i => some (i * (T e).size, (T e).size)) #[] vs.toList = some arr := by
          rw [← h3]; congr 1; simp [Array.range_zero']
        simp [Instr.buildSlice, run_underlying hu, run_sizeOf hse, Array.range_zero', h3', newRow]
      · have n3 : ¬ (len * (T e).size = 0) := by
          intro hh
          rcases Nat.mul_eq_zero.1 hh with h' | h'
          · exact hl0 h'
          · exact h0 h'
        simp only [Instr.buildSlice, Sem.run_bind, run_underlying hu, Result.andThen_ok, run_sizeOf hse, n2, n3, if_false, run_zeroValue hj hz, Sem.run_pure, h3]
        simp [newRow]
    obtain ⟨hS, _⟩ := h.new (ob := .row e (T e).size E.α E.z E.enc ys) (u := .slice (some ⟨w.heap.size, 0, none⟩) len len) (w' := w.alloc (.cells arr e (0, 0))) (Keep.alloc _ w _) (fun b hb => by simp [foot, hblk] at hb; omega) fun hcc hdd => by
      refine ⟨hEl, arr.toList, ⟨by simp [hal, hyl], .inr ⟨w.heap.size, len, arr, by rw [hyl], Nat.zero_le _, heap_alloc_new w _, by omega, ?_, hal, ?_⟩⟩, fun i k d hi hk' => ?_⟩
      · simp only [maxLen]
        have : len * 1 ≤ len * (T e).size := Nat.mul_le_mul_left _ (by omega)
        omega
      · rw [hyl, ← hal]; exact List.take_of_length_le (by simp)
      · have hkk : k < (T e).size := by rw [← hEl (ys.getD i E.z)]; exact (List.getElem?_eq_some_iff.1 hk').1
        have hi' : i < (setPart (List.replicate len (T e).zero) (T e).size ps).2.length := by rw [← hy1]; exact hi
        have ey : ys[i]? = some (ys.getD i E.z) := by simp [List.getD, hi]
        obtain ⟨ds, hds, hle⟩ := hy2 i _ _ (List.getElem?_eq_getElem hi') ey
        obtain ⟨_, hg⟩ := leD_get hle
        obtain ⟨d0, hd0, hl1⟩ := hg k d hk'
        have hlt : i * (T e).size + k < arr.toList.length := by
          simp only [Array.length_toList, hal]
          rw [hyl] at hi
          calc i * (T e).size + k < i * (T e).size + (T e).size := by omega
            _ = (i + 1) * (T e).size := by rw [Nat.add_mul, Nat.one_mul]
            _ ≤ len * (T e).size := Nat.mul_le_mul_right _ hi
        refine ⟨_, List.getElem?_eq_getElem hlt, hdd (leD1_RD hl1 ?_)⟩
        -- the cell of the element
        have hcell : ∀ (m : Nat) (x : AC), ((setPart (List.replicate len (T e).zero) (T e).size ps).2[i])[m]? = some x → m < (T e).size → ∀ v, arr.toList[i * (T e).size + m]? = some v → RC w (avoid F st.objs hs) hs x v := fun m x hx hm v hv =>
          h4.2 (i * (T e).size + m) x v (by rw [flatten_get _ _ _ _ g3 hm, List.getElem?_eq_getElem hi']; exact hx) hv
        have hrow : RCs w (avoid F st.objs hs) hs ((setPart (List.replicate len (T e).zero) (T e).size ps).2[i]) ((arr.toList.drop (i * (T e).size)).take (T e).size) := by
          have hel := g3 _ (List.getElem_mem hi')
          refine ⟨?_, fun m x v hx hv => ?_⟩
          · rw [hel]
            simp only [List.length_take, List.length_drop, Array.length_toList, hal]
            rw [hyl] at hi
            have : (i + 1) * (T e).size ≤ len * (T e).size := Nat.mul_le_mul_right _ hi
            rw [Nat.add_mul, Nat.one_mul] at this
            omega
          · have hm : m < (T e).size := by rw [← hel]; exact (List.getElem?_eq_some_iff.1 hx).1
            rw [List.getElem?_take, if_pos hm, List.getElem?_drop] at hv
            exact hcell m x hx hm v hv
        obtain ⟨hdl, hdr⟩ := dvs_RD hds hrow
        refine hdr k d0 _ hd0 ?_
        rw [List.getElem?_take, if_pos hkk, List.getElem?_drop, List.getElem?_eq_getElem hlt]
    exact ⟨_, _, hr, _, _, _, hK, hS, by simp [setH], by simp [setH, isSl]⟩

theorem strOf_fold : ∀ (ns : List Int) (s : ByteArray), ns.foldl (fun r n => r.push (UInt8.ofNat n.toNat)) s = ⟨s.data ++ (ns.map fun n => UInt8.ofNat n.toNat).toArray⟩
  | [], s => by simp
  | n :: ns, s => by
    rw [List.foldl_cons, strOf_fold ns]
    simp [ByteArray.push]

theorem Src.bytes {O : Nat → Prop} {z : Int} {ys : List Int} {v : Value} {news : List Value} (h : Src P w O 1 z encU8 ys v news) : news = ys.map (Value.int .u8) := by
  apply List.ext_getElem?
  intro i
  by_cases hi : i < ys.length
  · obtain ⟨cv, h1, h2⟩ := h.data i 0 (.int .u8 (ys.getD i z)) hi rfl
    cases h2
    rw [Nat.mul_one, Nat.add_zero] at h1
    rw [h1, List.getElem?_map]
    simp [List.getD, hi]
  · have := h.nlen
    rw [List.getElem?_eq_none (by omega), List.getElem?_eq_none (by simp; omega)]

/-! ### The mark behind a literal's row -/
section
variable {w w' : World}
theorem RD.look {O : Nat → Prop} (hsz : w.heap.size ≤ w'.heap.size) (hc : ∀ b k, w'.cell? ⟨b, k, none⟩ = w.cell? ⟨b, k, none⟩) (hM : ∀ (b : Nat) (arr : Array MapEntry) (clock : Nat), w.heap[b]? = some (.map arr clock) → w'.heap[b]? = some (.map arr clock)) {d : DV} {v : Value} (h : RD w O d v) : RD w' O d v := by
  induction h with
  | int k n => exact .int k n
  | bool b => exact .bool b
  | str s => exact .str s
  | raw v h => exact .raw v h
  | nil => exact .nil
  | empty size α z enc A cap hc hn => exact .empty size α z enc A cap hc hn
  | list size α z enc xs b off cap val h0 hO hb hcap hc' hs hcell hd ih =>
    exact .list size α z enc xs b off cap val h0 hO (Nat.lt_of_lt_of_le hb hsz) hcap hc' hs (fun i j hi hj => by rw [hc]; exact hcell i j hi hj) ih
  | map kt vt ks β z enc clock es b arr hO hb hl hm hf hkk hn hd ih => exact .map kt vt ks β z enc clock es b arr hO (hM b arr clock hb) hl hm hf hkk hn ih
theorem RC.look {O : Nat → Prop} {hs : Nat → Value} (hsz : w.heap.size ≤ w'.heap.size) (hc : ∀ b k, w'.cell? ⟨b, k, none⟩ = w.cell? ⟨b, k, none⟩) (hM : ∀ (b : Nat) (arr : Array MapEntry) (clock : Nat), w.heap[b]? = some (.map arr clock) → w'.heap[b]? = some (.map arr clock)) {x : AC} {v : Value} (h : RC w O hs x v) : RC w' O hs x v := by
  cases x <;> simp only [RC] at h ⊢ <;> try exact h
  case rd => exact RD.look hsz hc hM h
  case md => exact RD.look hsz hc hM h
  case re ds =>
    obtain ⟨b, off, rfl, hb, hO, hd⟩ := h
    refine ⟨b, off, rfl, Nat.lt_of_lt_of_le hb hsz, hO, fun j d hj => ?_⟩
    obtain ⟨cv, h1, h2⟩ := hd j d hj
    exact ⟨cv, by rw [hc]; exact h1, h2.look hsz hc hM⟩
theorem RV.look {O : Nat → Prop} {hs : Nat → Value} (hsz : w.heap.size ≤ w'.heap.size) (hc : ∀ b k, w'.cell? ⟨b, k, none⟩ = w.cell? ⟨b, k, none⟩) (hM : ∀ (b : Nat) (arr : Array MapEntry) (clock : Nat), w.heap[b]? = some (.map arr clock) → w'.heap[b]? = some (.map arr clock)) {x : AV} {v : Value} (h : RV w O hs x v) : RV w' O hs x v := by
  have := RV.map (f := fun x => x) (fun hr => RC.look hsz hc hM hr) h
  have e : x.map (fun x => x) = x := by cases x <;> simp [AV.map]
  rwa [e] at this
theorem Sim.look (h : Sim F st hs a w) {b : Nat} (hb : ¬ own st.objs hs b) (hL : F.L b ∨ F.w0.heap.size ≤ b) (hk : Keep (fun x => x = b) w w') (hc : ∀ b k, w'.cell? ⟨b, k, none⟩ = w.cell? ⟨b, k, none⟩) (hM : ∀ (b : Nat) (arr : Array MapEntry) (clock : Nat), w.heap[b]? = some (.map arr clock) → w'.heap[b]? = some (.map arr clock)) : Sim F st hs a w' := by
  refine ⟨h.len, fun i av v h1 h2 => (h.slots i av v h1 h2).look hk.size hc hM, ⟨fun o ob ho => ?_, h.good.disj⟩, h.defers, h.keep.trans hk fun c hc' hn e => ?_, h.ownb, h.fix, h.fx, h.dead, h.n0le⟩
  · have hr := h.good.rel o ob ho
    have hf : ∀ c, foot ob (hs o) c → w'.heap[c]? = w.heap[c]? := fun c hc' => hk.block c (hr.foot_lt hc') fun e => hb ⟨o, ob, ho, e ▸ hc'⟩
    cases ob with
    | ext x => exact XObj.imp_id (fun hr => RC.look hk.size hc hM hr) (fun hr => RD.look hk.size hc hM hr) hf hr
    | gone => exact trivial
    | cells ty cs =>
      obtain ⟨c, vals, e, h1, h2⟩ := hr
      exact ⟨c, vals, e, by rw [hf c (by simp [foot, hblk, e])]; exact h1, h2.1, fun i x v hx hv => (h2.2 i x v hx hv).look hk.size hc hM⟩
    | row ty size α z enc xs =>
      obtain ⟨h1, vs, h2, h3⟩ := hr
      refine ⟨h1, vs, ⟨h2.1, ?_⟩, fun i j d hi hj => ?_⟩
      · rcases h2.2 with hn | ⟨g, cap, cur, e, h0, hg, r⟩
        · exact .inl hn
        · exact .inr ⟨g, cap, cur, e, h0, by rw [hf g (by simp [foot, hblk, e])]; exact hg, r⟩
      · obtain ⟨cv, h4, h5⟩ := h3 i j d hi hj
        exact ⟨cv, h4, h5.look hk.size hc hM⟩
  · subst e
    rcases hL with hL | hL
    · exact hn hL
    · omega
theorem modify_get (h : Array Obj) (b c : Nat) (f : Obj → Obj) : (h.modify b f)[c]? = if b = c then (h[c]?).map f else h[c]? := by
  rw [Array.getElem?_modify]
theorem mark_look (w : World) (b k : Nat) : Keep (fun x => x = b) w (w.freeze ⟨b, k, none⟩ 1) ∧ (∀ c j, (w.freeze ⟨b, k, none⟩ 1).cell? ⟨c, j, none⟩ = w.cell? ⟨c, j, none⟩) ∧ ∀ (c : Nat) (arr : Array MapEntry) (clock : Nat), w.heap[c]? = some (.map arr clock) → (w.freeze ⟨b, k, none⟩ 1).heap[c]? = some (.map arr clock) := by
  unfold World.freeze
  rw [if_neg (by decide)]
  refine ⟨⟨rfl, rfl, rfl, by simp, fun c hc hn => ?_⟩, fun c j => ?_, fun c arr clock hx => ?_⟩
  · simp only [modify_get]
    rw [if_neg (fun e => hn e.symm)]
  · simp only [World.cell?, modify_get]
    by_cases e : b = c
    · rw [if_pos e]
      cases hx : w.heap[c]? with
      | none => rfl
      | some x => cases x <;> rfl
    · rw [if_neg e]
  · simp only [modify_get]
    by_cases e : b = c
    · rw [if_pos e, hx]; rfl
    · rw [if_neg e]; exact hx
end

theorem aconv_sound (hT : TabOK P T) (h : Sim F st hs a w) {dst : Option Tmp} {src t : TypeId} {x : AC} {vx : Value} (hx : RC w (avoid F st.objs hs) hs x vx) {K : ASt → Prop} (hk : aconv T st dst src t x K) :
    ∃ v w', (convert src t vx).run P w = .ok v w' ∧ ∃ st' hs' av, K (st'.put dst av) ∧ Sim F st' hs' a w' ∧ RV w' (avoid F st'.objs hs') hs' av v := by
  unfold aconv at hk
  cases hsh : (T src).sh <;> simp only [hsh] at hk <;> try exact hk.elim
  case slice e =>
    cases hse : (T e).sh <;> simp only [hse] at hk <;> try exact hk.elim
    rename_i k
    cases k <;> simp only at hk <;> try exact hk.elim
    cases hsd : (T t).sh <;> simp only [hsd] at hk <;> try exact hk.elim
    case slice e' =>
      have hu := hT.sh hsh (by simp)
      have hue := hT.sh hse (by simp)
      simp only [shOK] at hu hue
      cases x <;> simp only at hk <;> try exact hk.elim
      rename_i o
      cases hob : st.obj o <;> simp only [hob] at hk <;> try exact hk.elim
      rename_i ty size α z enc xs
      obtain ⟨rfl, h0, hK⟩ := hk
      have ho := obj_some hob (by simp)
      obtain ⟨rfl, hsl⟩ := hx
      obtain ⟨b, cap, cur, e1, hb, hc1, hc2, hc3, hd⟩ := row_handle (h.good.rel o _ ho) h0
      have hS := h.freeze o
      have hfo : foot (.row ty size α z enc xs) (hs o) b := by simp [foot, hblk, e1]
      have hnb : ¬ own (st.freeze o).objs hs b := by
        rintro ⟨p, ob, hp, hf⟩
        simp only [ASt.freeze, hob, ASt.setObj, ASt.map] at hp
        rw [List.getElem?_set] at hp
        split at hp
        · split at hp
          · cases hp; exact hf.elim
          · cases hp
        · rename_i hne
          rw [List.getElem?_map] at hp
          cases hy : st.objs[p]? with
          | none => rw [hy] at hp; cases hp
          | some y =>
            rw [hy] at hp
            cases hp
            exact hne (h.good.disj o p _ y b ho hy hfo (foot_map.1 hf))
      obtain ⟨hk1, hk2, hk3⟩ := mark_look w b cur.size
      have hsh' : w.shape? b = some (ty, cur.size) := by unfold World.shape?; rw [hb]
      refine ⟨hs o, w.freeze ⟨b, cur.size, none⟩ 1, ?_, st.freeze o, hs, .c (.rd size α z enc xs), hK, hS.look hnb (h.ownb b ⟨o, _, ho, hfo⟩) hk1 hk2 hk3, ?_⟩
      · rw [e1]
        simp [convert, run_underlying hu, run_underlying hue, markStringish, hsh']
      · have hown : ∀ c, own (st.freeze o).objs hs c → own st.objs hs c := fun c ⟨p, ob, hp, hf⟩ => by
          simp only [ASt.freeze, hob, ASt.setObj, ASt.map] at hp
          rw [List.getElem?_set] at hp
          split at hp
          · split at hp
            · cases hp; exact hf.elim
            · cases hp
          · rw [List.getElem?_map] at hp
            cases hy : st.objs[p]? with
            | none => rw [hy] at hp; cases hp
            | some y => rw [hy] at hp; cases hp; exact ⟨p, y, hy, foot_map.1 hf⟩
        have hlose : ∀ c, foot (.row ty size α z enc xs) (hs o) c → ¬ avoid F (st.freeze o).objs hs c := fun c hc hA => by
          have : b = c := by simpa [foot, hblk, e1] using hc
          subst this
          rcases hA with hA | hA
          · exact hnb hA
          · have h5 := h.fx b hA
            rcases h.ownb b ⟨o, _, ho, hc⟩ with h6 | h6
            · exact h5.2 h6
            · omega
        have key := RC_frz (O := avoid F st.objs hs) (O' := avoid F (st.freeze o).objs hs) (h.good.rel o _ ho) (fun c hc hn => ⟨rfl, fun hA => hn (hA.imp (hown c) id)⟩) hlose (x := .sl o) (v := hs o) ⟨rfl, hsl⟩
        simp only [AC.frz, beq_self_eq_true, cond_true] at key
        exact RC.look hk1.size hk2 hk3 key
    have hu := hT.sh hsh (by simp)
    have hue := hT.sh hse (by simp)
    have hud := hT.sh hsd (by simp)
    simp only [shOK] at hu hue hud
    have key : (∀ s, vx ≠ .string s) → appSrc st 1 encU8 x (fun ys => K (st.put dst (.c (.str (strOf ys))))) → ∃ v w', (convert src t vx).run P w = .ok v w' ∧ ∃ st' hs' av, K (st'.put dst av) ∧ Sim F st' hs' a w' ∧ RV w' (avoid F st'.objs hs') hs' av v := by
      intro hns hk
      obtain ⟨ys, news, hK, hsrc, hsl⟩ := appSrc_sound (P := P) (z := (0 : Int)) h hx hk
      have hnb := hsrc.bytes
      have hrun : (convert src t vx).run P w = .ok (.string (strOf ys)) w := by
        rcases hsl with ⟨A, n, c, rfl⟩ | ⟨s, rfl⟩
        · have hlen : n = ys.length := by
            have := hsrc.len
            simp only [Builtin.lenOf, Sem.run_pure, Result.ok.injEq, and_true] at this
            exact this
          subst hlen
          cases A with
          | none =>
            have := hsrc.first w fun _ _ => rfl
            simp only [Builtin.firstCells, Sem.run_pure, Result.ok.injEq, and_true] at this
            have hn0 : news = [] := by have := congrArg Array.toList this; simpa using this.symm
            have : ys = [] := by rw [hn0] at hnb; simpa using hnb.symm
            subst this
            simp [convert, run_underlying hu, run_underlying hud, run_underlying hue, Conv.bytesToString, strOf]
            rfl
          | some ad =>
            have hf := hsrc.first w fun _ _ => rfl
            simp only [Builtin.firstCells, Nat.mul_one] at hf
            rw [hnb] at hf
            have := run_bytesToString (P := P) w ad ys.length c ys hf
            rw [strOf_fold] at this
            simp only [convert, Sem.run_bind, run_underlying hu, run_underlying hud, run_underlying hue, Result.andThen_ok, this]
            simp [strOf]
        · exact absurd rfl (hns s)
      exact ⟨_, w, hrun, st, hs, _, hK, h, rfl⟩
    cases x <;> simp only at hk <;> try exact hk.elim
    all_goals first
      | (refine key (fun s e => ?_) hk; subst e; simp only [RC] at hx; first | (cases hx; done) | (obtain ⟨e, hsl⟩ := hx; rw [← e] at hsl; cases hsl; done) | (rcases hx with ⟨_, A, cap, e, _⟩ | ⟨_, b, m, cap, c, _, e, _⟩ <;> cases e))
      | exact hk.elim
  case str =>
    cases hsd : (T t).sh <;> simp only [hsd] at hk <;> try exact hk.elim
    rename_i e
    cases hse : (T e).sh <;> simp only [hse] at hk <;> try exact hk.elim
    rename_i k
    cases k <;> simp only at hk <;> try exact hk.elim
    cases x <;> simp only at hk <;> try exact hk.elim
    rename_i s
    obtain ⟨hsz, hK⟩ := hk
    have hu := hT.sh hsh (by simp)
    have hue := hT.sh hse (by simp)
    have hud := hT.sh hsd (by simp)
    simp only [shOK] at hu hue hud
    simp only [RC] at hx
    subst hx
    have hr := Lib.run_convert_string_bytes (P := P) w src t e s hu hud hue
    have hav : ∀ b, avoid F st.objs hs b → b < w.heap.size := fun b hb => by
      rcases hb with hb | hb
      · exact h.own_lt hb
      · exact Nat.lt_of_lt_of_le (h.fx b hb).1 h.keep.size
    have hk : Keep (own st.objs hs) w (Lib.bytesWorld w e s) := ⟨rfl, rfl, rfl, by rw [Lib.bytesWorld_size]; omega, fun b hb _ => Lib.bytesWorld_at_old w e s b hb⟩
    refine ⟨_, _, hr, st, hs, _, hK, h.step hk fun o ob ho => (RO.mono hk.size (fun b hb hO => ⟨Lib.bytesWorld_at_old w e s b hb, hO⟩) (h.good.rel o ob ho) fun b hb => Lib.bytesWorld_at_old w e s b ((h.good.rel o ob ho).foot_lt hb)), ?_⟩
    have hul : (u8s s).length = s.size := by
      show (s.data.toList.map _).length = s.data.size
      simp
    have hge := grownCap_ge w s.size 0 e
    have hcm : grownCap w s.size 0 e ≤ maxLen := grownCap_le_maxLen w s.size 0 e (by simp only [maxLen]; omega)
    show RD _ _ (.list 1 Int 0 encU8 (u8s s)) _
    by_cases h0 : s.size = 0
    · have : u8s s = [] := List.eq_nil_of_length_eq_zero (by omega)
      rw [this, h0]
      exact .empty _ _ _ _ _ _ (by rw [h0] at hcm; exact hcm) (by simp)
    · have key := RD.list (w := Lib.bytesWorld w e s) (O := avoid F st.objs hs) 1 Int 0 encU8 (u8s s) w.heap.size 0 (grownCap w s.size 0 e) (fun i _ => .int .u8 ((u8s s).getD i 0)) (by omega) (fun hb => by have := hav _ hb; omega)
        (by rw [Lib.bytesWorld_size]; omega) (by omega) hcm (fun _ => rfl) (fun i j hi hj => by
          have hj0 : j = 0 := by omega
          subst hj0
          have := Lib.bytesWorld_cell w e s i (by omega)
          simp only [Nat.zero_add, Nat.mul_one, Nat.add_zero]
          rw [this]
          have hi' : i < s.data.size := by simpa [u8s] using hi
          simp [u8s, List.getD, Array.getElem?_eq_getElem hi']) (fun i j d hi hj => by
          cases j with
          | zero => simp only [encU8, List.getElem?_cons_zero, Option.some.injEq] at hj; subst hj; exact .int _ _
          | succ j => simp [encU8] at hj)
      rw [hul] at key
      exact key
end
end Go.Vc
