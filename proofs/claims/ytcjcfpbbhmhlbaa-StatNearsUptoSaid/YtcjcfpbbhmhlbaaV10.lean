/- Appends, literals of slices, bytes and strings; all operations in one law. -/
import Derived.Test.YtcjcfpbbhmhlbaaV9
import Derived.Deep.DeepAppendWide
set_option linter.unusedVariables false
set_option linter.unusedSimpArgs false
namespace Go.Vc
section
variable {P : Program} {T : Tab} {F : Fr} {st : ASt} {hs : Nat → Value} {a : Act} {w : World}

theorem run_append {t u ty e : TypeId} {j : TypeInfo} {z : Value} {size bytes : Nat} (ht : P.underlying t = some (.slice e)) (hu : (∃ e', P.underlying u = some (.slice e')) ∨ P.underlying u = some .string)
    (hj : P.info? e = some j) (hjs : j.size = size) (hjb : j.bytes = bytes) (hz : j.zero = some z) (hzs : z.cells.size = size) (h0 : ¬ size = 0)
    {v : Value} {n : Nat} {vs : List Value} (hown : w.ownsRow 0 e size v n vs) {x : Value} {m : Nat} {news : List Value} (hlen : (Builtin.lenOf x).run P w = .ok m w)
    (hfirst : ∀ (w1 : World), (∀ b, b < w.heap.size → w1.heap[b]? = w.heap[b]?) → (Builtin.firstCells size m x).run P w1 = .ok news.toArray w1) (hnl : news.length = m * size) (h1 : ∀ u ∈ news, u.oneCell' = true)
    (hb : (n + m) * bytes ≤ 140737488355328 ∨ (n + m + (n + m) / 4 + 192) * bytes ≤ 281474976710656) (hn : n + m ≤ 281474976710656) :
    ∃ v' w', (Builtin.append_ #[t, u] ty #[v, x]).run P w = .ok v' w' ∧ w'.ownsRow 0 e size v' (n + m) (vs ++ news) ∧ w.grownBy w' v.ownBlock ∧ ∀ b, v'.ownBlock = some b → v.ownBlock = some b ∨ w.heap.size ≤ b := by
  subst hjs; subst hjb
  have hzs' : (do let zeros ← (do pure ((← underlying u) matches .int _) : Sem Bool); pure zeros).run P w = .ok false w := by
    rcases hu with ⟨e', hu⟩ | hu <;> simp [run_underlying hu]
  have hl2 : (vs ++ news).length = (n + m) * j.size := by rw [List.length_append, hown.1, hnl, Nat.add_mul]
  have hpos : 0 < j.size := by omega
  -- a new block
  have grow : ∀ (A : Option Addr) (cap : Nat), cap < n + m → v = .slice A n cap → (Builtin.firstCells j.size n v).run P w.drew = .ok vs.toArray w.drew →
      ∃ v' w', (Builtin.append_ #[t, u] ty #[v, x]).run P w = .ok v' w' ∧ w'.ownsRow 0 e j.size v' (n + m) (vs ++ news) ∧ w.grownBy w' v.ownBlock ∧ ∀ b, v'.ownBlock = some b → v.ownBlock = some b ∨ w.heap.size ≤ b := by
    intro A cap hc hv hold
    have hfit : Builtin.nextslicecap (n + m) cap * j.bytes ≤ 281474976710656 := hb.elim (fun hb => growslice_fits (need := n + m) (old := cap) (bytes := j.bytes) hc hb) fun hb => growslice_fits_wide hc hb
    have hge := grownCap_ge w (n + m) cap e
    have hcm : grownCap w (n + m) cap e ≤ maxLen := grownCap_le_maxLen w (n + m) cap e (by simp only [maxLen]; omega)
    refine ⟨.slice (some ⟨w.heap.size, 0, none⟩) (n + m) (grownCap w (n + m) cap e),
      w.drew.alloc (.cells (vs.toArray ++ news.toArray ++ Builtin.zeroCells z.cells (grownCap w (n + m) cap e - (n + m))) e), ?_, ⟨hl2, .inr ⟨w.heap.size, _, _, rfl, Nat.zero_le _, heap_alloc_new w.drew _, hge, hcm, ?_, ?_⟩⟩,
      ⟨rfl, rfl, rfl, by simp, fun k hk _ => (Keep.alloc (fun _ => False) w.drew _).block k hk fun e => e⟩, fun b hb' => .inr (by simp [Value.ownBlock] at hb'; omega)⟩
    · have n1 : ¬ n + m ≤ cap := by omega
      have n2 : ¬ (9223372036854775807 < (n : Int) + (m : Int)) := by omega
      have n3 : ¬ (281474976710656 < Builtin.nextslicecap (n + m) cap * j.bytes) := by omega
      have hf := hfirst w.drew fun b _ => rfl
      rw [hv] at hold ⊢
      rcases hu with ⟨e', hu⟩ | hu
      · simp [Builtin.append_, run_underlying ht, run_underlying hu, sizeOf, typeInfo, zeroValue, hj, hz, hlen, n1, n2, n3, Question.forced, hf, hold, newRow, grownCap]
        congr 2
        apply Array.ext'
        simp [List.append_assoc]
      · simp [Builtin.append_, run_underlying ht, run_underlying hu, sizeOf, typeInfo, zeroValue, hj, hz, hlen, n1, n2, n3, Question.forced, hf, hold, newRow, grownCap]
        congr 2
        apply Array.ext'
        simp [List.append_assoc]
    · simp only [Array.size_append, List.size_toArray, size_zeroCells, hzs, hown.1, hnl, ← Nat.add_mul]
      congr 1
      omega
    · simp only [Array.toList_append, List.append_assoc]
      rw [← List.append_assoc, ← hl2]
      exact List.take_left
  rcases hown.2 with ⟨rfl, rfl⟩ | ⟨g, cap, cur, rfl, hbg, hg, hnc, hcm, hcs, htake⟩
  · by_cases hm : m = 0
    · subst hm
      have hx : vs = [] := List.eq_nil_of_length_eq_zero (by simpa using hown.1)
      have hnn : news = [] := List.eq_nil_of_length_eq_zero (by simpa using hnl)
      subst hx; subst hnn
      have hf := hfirst w fun b _ => rfl
      refine ⟨.slice none 0 0, w, ?_, World.ownsRow_nil w 0 e j.size, ⟨rfl, rfl, rfl, Nat.le_refl _, fun _ _ _ => rfl⟩, fun b hb' => by simp [Value.ownBlock] at hb'⟩
      rcases hu with ⟨e', hu⟩ | hu <;> simp [Builtin.append_, run_underlying ht, run_underlying hu, sizeOf, typeInfo, hj, hlen, hf]
    · have hx : vs = [] := List.eq_nil_of_length_eq_zero (by simpa using hown.1)
      subst hx
      exact grow none 0 (by omega) rfl (by simp [Builtin.firstCells])
  · by_cases hroom : n + m ≤ cap
    · have hfit : n * j.size + news.length ≤ cur.size := by rw [hnl, hcs, ← Nat.add_mul]; exact Nat.mul_le_mul_right _ hroom
      have hf := hfirst w fun b _ => rfl
      have hst := run_storeCells_at (P := P) g (n * j.size) e news 0 cur w hg (by simpa using hfit) h1
      simp only [Nat.add_zero] at hst
      refine ⟨.slice (some ⟨g, 0, none⟩) (n + m) cap, w.setRow g (cur.toList.take (n * j.size) ++ news ++ cur.toList.drop (n * j.size + news.length)).toArray, ?_,
        ⟨hl2, .inr ⟨g, cap, _, rfl, Nat.zero_le _, setRow_heap w g cur _ e _ hg, hroom, hcm, ?_, ?_⟩⟩, ⟨rfl, rfl, rfl, by simp, fun k hk hne => setRow_other w g k _ fun e' => hne (by simp [Value.ownBlock, e'])⟩, fun b hb' => .inl (by simpa [Value.ownBlock] using hb')⟩
      · rcases hu with ⟨e', hu⟩ | hu <;> simp [Builtin.append_, run_underlying ht, run_underlying hu, sizeOf, typeInfo, hj, hlen, hroom, hf, Addr.add_lit, hst]
      · simp only [List.size_toArray, List.length_append, List.length_take, List.length_drop, Array.length_toList]
        omega
      · rw [htake, ← hl2]
        exact List.take_left
    · refine grow (some ⟨g, 0, none⟩) cap (by omega) rfl ?_
      have holds : ∀ j u, vs[j]? = some u → w.cell? ((⟨g, 0, none⟩ : Addr).add j) = some u := hown.cells (g := g) rfl
      exact run_firstCells_some (P := P) w.drew j.size n ⟨g, 0, none⟩ n cap vs hown.1 (by simpa using holds)

theorem ownBlock_hblk {A : Option Addr} {n c : Nat} : (Value.slice A n c).ownBlock = hblk (.slice A n c) := by cases A <;> rfl
theorem ownsRow_slice {ty : TypeId} {size n : Nat} {v : Value} {vs : List Value} (h : w.ownsRow 0 ty size v n vs) : ∃ A c, v = .slice A n c := by
  rcases h.2 with ⟨rfl, rfl⟩ | ⟨g, cap, cur, rfl, _⟩
  · exact ⟨none, 0, rfl⟩
  · exact ⟨_, _, rfl⟩

/-- elements of an own row are written -/
theorem Sim.splice (h : Sim F st hs a w) {o : Nat} {ty : TypeId} {size : Nat} {α : Type} {z : α} {enc : α → List DV} {xs ys : List α} (ho : st.objs[o]? = some (.row ty size α z enc xs)) {b cap : Nat} {cur : Array Value}
    (e : hs o = .slice (some ⟨b, 0, none⟩) xs.length cap) (hb : w.heap[b]? = some (.cells cur ty (0, 0))) (hc1 : xs.length ≤ cap) (hc2 : cap ≤ maxLen) (hc3 : cur.size = cap * size)
    (hd : ∀ i j d, i < xs.length → (enc (xs.getD i z))[j]? = some d → ∃ cv, cur[i * size + j]? = some cv ∧ RD w (avoid F st.objs hs) d cv) (henc : ∀ x, (enc x).length = size)
    {p : Nat} {news : List Value} (hp : p + ys.length ≤ xs.length) (hnl : news.length = ys.length * size)
    (hdat : ∀ (i j : Nat) (d : DV), i < ys.length → (enc (ys.getD i z))[j]? = some d → ∃ cv, news[i * size + j]? = some cv ∧ RD w (avoid F st.objs hs) d cv) :
    Sim F (st.setObj o (.row ty size α z enc (Vc.splice xs p ys))) hs a (w.setRow b (Vc.splice cur.toList (p * size) news).toArray) := by
  have hcl : cur.toList.length = cap * size := by simp [hc3]
  have hfit : p * size + news.length ≤ cur.toList.length := by
    rw [hnl, hcl, ← Nat.add_mul]
    exact Nat.mul_le_mul_right _ (by omega)
  have hxl : (Vc.splice xs p ys).length = xs.length := splice_len hp
  refine h.write ho (ob' := .row ty size α z enc (Vc.splice xs p ys)) (b := b) (by simp [foot, hblk, e]) (fun _ => Iff.rfl) (setRow_keep b _) fun hcc hdd => ?_
  refine ⟨henc, (Vc.splice cur.toList (p * size) news).take (xs.length * size), ⟨?_, .inr ⟨b, cap, _, by rw [e, hxl], Nat.zero_le _, setRow_heap w b cur _ ty (0, 0) hb, by rw [hxl]; exact hc1, hc2, ?_, ?_⟩⟩, fun i k d hi hk => ?_⟩
  · rw [List.length_take, splice_len hfit, hxl, hcl]
    exact Nat.min_eq_left (Nat.mul_le_mul_right _ hc1)
  · rw [List.size_toArray, splice_len hfit]; simpa using hc3
  · simp [hxl]
  · rw [hxl] at hi
    have hk' : k < size := by rw [← henc ((Vc.splice xs p ys).getD i z)]; exact (List.getElem?_eq_some_iff.1 hk).1
    have hlt : i * size + k < xs.length * size := by
      calc i * size + k < i * size + size := by omega
        _ = (i + 1) * size := by rw [Nat.add_mul, Nat.one_mul]
        _ ≤ xs.length * size := Nat.mul_le_mul_right _ (by omega)
    rw [List.getElem?_take, if_pos hlt, splice_get hfit]
    rw [List.getD_eq_getElem?_getD, splice_get hp] at hk
    by_cases c1 : i < p
    · rw [if_pos c1, ← List.getD_eq_getElem?_getD] at hk
      have : (i + 1) * size ≤ p * size := Nat.mul_le_mul_right _ c1
      rw [Nat.add_mul, Nat.one_mul] at this
      rw [if_pos (by omega)]
      obtain ⟨cv, h2, h3⟩ := hd i k d hi hk
      exact ⟨cv, by simpa using h2, hdd h3⟩
    · have hge : p * size ≤ i * size := Nat.mul_le_mul_right _ (by omega)
      by_cases c2 : i < p + ys.length
      · rw [if_neg c1, if_pos c2, ← List.getD_eq_getElem?_getD] at hk
        have hlt2 : (i - p) * size + k < ys.length * size := by
          calc (i - p) * size + k < (i - p) * size + size := by omega
            _ = (i - p + 1) * size := by rw [Nat.add_mul, Nat.one_mul]
            _ ≤ ys.length * size := Nat.mul_le_mul_right _ (by omega)
        have hsub : i * size - p * size = (i - p) * size := by rw [Nat.sub_mul]
        rw [if_neg (by omega), if_pos (by omega)]
        obtain ⟨cv, h2, h3⟩ := hdat (i - p) k d (by omega) hk
        exact ⟨cv, by rw [← h2]; congr 1; omega, hdd h3⟩
      · rw [if_neg c1, if_neg c2, ← List.getD_eq_getElem?_getD] at hk
        have : (p + ys.length) * size ≤ i * size := Nat.mul_le_mul_right _ (by omega)
        rw [Nat.add_mul] at this
        rw [if_neg (by omega), if_neg (by omega)]
        obtain ⟨cv, h2, h3⟩ := hd i k d hi hk
        exact ⟨cv, by simpa using h2, hdd h3⟩
/-- an append into a part's spare room -/
theorem run_append_room {t u ty e : TypeId} {j : TypeInfo} {size : Nat} (ht : P.underlying t = some (.slice e)) (hu : (∃ e', P.underlying u = some (.slice e')) ∨ P.underlying u = some .string)
    (hj : P.info? e = some j) (hjs : j.size = size) {b o n c : Nat} {cur : Array Value} (hb : w.heap[b]? = some (.cells cur e (0, 0))) {x : Value} {m : Nat} {news : List Value} (hlen : (Builtin.lenOf x).run P w = .ok m w)
    (hfirst : (Builtin.firstCells size m x).run P w = .ok news.toArray w) (hfit : o + n * size + news.length ≤ cur.size) (h1 : ∀ u ∈ news, u.oneCell' = true) (hroom : n + m ≤ c) :
    (Builtin.append_ #[t, u] ty #[.slice (some ⟨b, o, none⟩) n c, x]).run P w = .ok (.slice (some ⟨b, o, none⟩) (n + m) c) (w.setRow b (Vc.splice cur.toList (o + n * size) news).toArray) := by
  subst hjs
  have hst := run_storeCells_at (P := P) b (o + n * j.size) e news 0 cur w hb (by simpa using hfit) h1
  simp only [Nat.add_zero] at hst
  rcases hu with ⟨e', hu⟩ | hu <;> simp [Builtin.append_, run_underlying ht, run_underlying hu, sizeOf, typeInfo, hj, hlen, hroom, hfirst, Addr.add_lit, hst, Vc.splice]
theorem RC.partAt {w : World} {O : Nat → Prop} {o size lo n : Nat} {v : Value} {b m cap : Nat} (h : RC w O hs (.sub o size lo n) v) (e : hs o = .slice (some ⟨b, 0, none⟩) m cap) (hlt : lo < m) :
    ∃ c, v = .slice (some ⟨b, lo * size, none⟩) n c ∧ n ≤ c ∧ c ≤ maxLen ∧ lo + n ≤ m ∧ m ≤ lo + c := by
  rcases h with ⟨_, _, _, _, _, _, _, h5⟩ | ⟨_, b', m', cap', c, e1, e2, h1, h2, h3, h4, h5⟩
  · have := h5 b m cap e; omega
  · rw [e] at e1
    simp only [Value.slice.injEq, Option.some.injEq, Addr.mk.injEq, and_true] at e1
    obtain ⟨rfl, rfl, rfl⟩ := e1
    exact ⟨c, e2, h1, h2, h4, h5⟩

theorem append_sound (hT : TabOK P T) (h : Sim F st hs a w) {dst : Option Tmp} {t u ty : TypeId} (hu : (∃ e', P.underlying u = some (.slice e')) ∨ P.underlying u = some .string) {s x : AC} {vS vx : Value}
    (hs' : RC w (avoid F st.objs hs) hs s vS) (hx : RC w (avoid F st.objs hs) hs x vx) {K : ASt → Prop} (hk : aappend T st dst t s x K) :
    ∃ v w', (Builtin.append_ #[t, u] ty #[vS, vx]).run P w = .ok v w' ∧ ∃ st' hs' av, K (st'.put dst av) ∧ Sim F st' hs' a w' ∧ RV w' (avoid F st'.objs hs') hs' av v := by
  unfold aappend at hk
  cases hsh : (T t).sh <;> simp only [hsh] at hk <;> try exact hk.elim
  rename_i e
  have ht : P.underlying t = some (.slice e) := hT.sh hsh (by simp)
  have hTe := hT.sub hsh (by simp) (e := e) (by simp [Sh.subs])
  cases s <;> simp only at hk <;> try exact hk.elim
  case nil =>
    cases hE : (T e).enc with
    | none => rw [hE] at hk; exact hk.elim
    | some E =>
      simp only [hE] at hk
      obtain ⟨h0, hk⟩ := hk
      obtain ⟨j, z, hj, hjs, hjb, hz, hzc, hzl, hpl⟩ := hTe.info h0
      have hzs : z.cells.size = (T e).size := by have := congrArg List.length hzc; simpa [hzl] using this
      obtain ⟨ys, news, ⟨hb, hn, hK⟩, hsrc, _⟩ := appSrc_sound (P := P) (z := E.z) h hx hk
      simp only [RC] at hs'
      subst hs'
      obtain ⟨v', w', hr, ho, hg, hblk'⟩ := run_append (ty := ty) ht hu hj hjs hjb hz hzs h0 (World.ownsRow_nil w 0 e (T e).size) hsrc.len hsrc.first hsrc.nlen hsrc.one (by simpa using hb) (by simpa using hn)
      obtain ⟨A, c, hv⟩ := ownsRow_slice ho
      have hfr : ∀ b, foot (.row e (T e).size E.α E.z E.enc ys) v' b → w.heap.size ≤ b := fun b hb' => by
        rcases hblk' b (by rw [hv, ownBlock_hblk, ← hv]; exact hb') with h1 | h1
        · simp [Value.ownBlock] at h1
        · exact h1
      obtain ⟨hS, _⟩ := h.new (ob := .row e (T e).size E.α E.z E.enc ys) (u := v') (w' := w') (Keep.grown hg fun k hk' => by simp [Value.ownBlock] at hk') hfr fun hcc hdd =>
        ⟨(hTe.enc E hE).1, news, by simpa using ho, fun i k d hi hk' => by
          obtain ⟨cv, h1, h2⟩ := hsrc.data i k d hi hk'
          exact ⟨cv, h1, hdd h2⟩⟩
      exact ⟨v', w', hr, _, _, _, hK, hS, by simp [setH], by simp [setH, hv, isSl]⟩
  case sl o =>
    cases hob : st.obj o <;> simp only [hob] at hk <;> try exact hk.elim
    rename_i ty' size α z' enc xs
    obtain ⟨hno, rfl, rfl, h0, hk⟩ := hk
    obtain ⟨j, z, hj, hjs, hjb, hz, hzc, hzl, hpl⟩ := hTe.info h0
    have hzs : z.cells.size = (T ty').size := by have := congrArg List.length hzc; simpa [hzl] using this
    obtain ⟨ys, news, ⟨hb, hn, hK⟩, hsrc, _⟩ := appSrc_sound (P := P) (z := z') h hx hk
    have ho := obj_some hob (by simp)
    have hro := h.good.rel o _ ho
    obtain ⟨henc, vs, hown, hd⟩ := hro
    obtain ⟨rfl, hsl⟩ := hs'
    obtain ⟨v', w', hr, ho', hg, hblk'⟩ := run_append (ty := ty) ht hu hj hjs hjb hz hzs h0 hown hsrc.len hsrc.first hsrc.nlen hsrc.one hb hn
    obtain ⟨A, c, hv⟩ := ownsRow_slice ho'
    obtain ⟨A0, c0, hv0⟩ := ownsRow_slice hown
    refine ⟨v', w', hr, _, setH hs o v', _, hK, ?_, by simp [setH], by simp [setH, hv, isSl]⟩
    refine h.remap (f := AC.kill o) ho (fun p hp => by simp [setH, hp]) (Keep.grown hg fun k hk' => by rw [hv0, ownBlock_hblk, ← hv0] at hk'; exact hk') (fun b hb' => ?_) (fun hlt => by omega) (fun {O'} hm hl {x v} hr' => ?_) fun {O'} hdd => ?_
    · have e1 : setH hs o v' o = v' := by simp [setH]
      rw [e1] at hb'
      rcases hblk' b (by rw [hv, ownBlock_hblk, ← hv]; exact hb') with h1 | h1
      · left; rw [hv0, ownBlock_hblk, ← hv0] at h1; exact h1
      · exact .inr h1
    · exact RC.killed (by rw [hv0]; rfl) (fun p hp => by simp [setH, hp]) (RC.mono hg.size hm hr')
    · have e1 : setH hs o v' o = v' := by simp [setH]
      rw [e1]
      refine ⟨henc, vs ++ news, by simpa using ho', fun i k d hi hk' => ?_⟩
      have hvl : vs.length = xs.length * (T ty').size := hown.1
      have hkk : k < (T ty').size := by rw [← henc ((xs ++ ys).getD i z')]; exact (List.getElem?_eq_some_iff.1 hk').1
      by_cases hix : i < xs.length
      · have e2 : (xs ++ ys).getD i z' = xs.getD i z' := by simp [List.getD, List.getElem?_append, hix]
        rw [e2] at hk'
        obtain ⟨cv, h1, h2⟩ := hd i k d hix hk'
        refine ⟨cv, ?_, hdd h2⟩
        have hlt : i * (T ty').size + k < vs.length := (List.getElem?_eq_some_iff.1 h1).1
        rw [List.getElem?_append, if_pos hlt]
        exact h1
      · have e2 : (xs ++ ys).getD i z' = ys.getD (i - xs.length) z' := by simp [List.getD, List.getElem?_append, hix]
        rw [e2] at hk'
        simp only [List.length_append] at hi
        obtain ⟨cv, h1, h2⟩ := hsrc.data (i - xs.length) k d (by omega) hk'
        refine ⟨cv, ?_, hdd h2⟩
        have hge : xs.length * (T ty').size ≤ i * (T ty').size := Nat.mul_le_mul_right _ (by omega)
        rw [List.getElem?_append, if_neg (by omega), hvl]
        have e3 : i * (T ty').size + k - xs.length * (T ty').size = (i - xs.length) * (T ty').size + k := by rw [Nat.sub_mul]; omega
        rw [e3]
        exact h1
  case sub o size0 lo n =>
    cases hob : st.obj o <;> simp only [hob] at hk <;> try exact hk.elim
    rename_i ty' size α z' enc xs
    obtain ⟨rfl, rfl, rfl, h0, hk⟩ := hk
    obtain ⟨j, z, hj, hjs, hjb, hz, hzc, hzl, hpl⟩ := hTe.info h0
    obtain ⟨ys, news, ⟨hb, hlt, hK⟩, hsrc, _⟩ := appSrc_sound (P := P) (z := z') h hx hk
    have ho := obj_some hob (by simp)
    have hro := h.good.rel o _ ho
    obtain ⟨b, cap, cur, e1, hcur, hc1, hc2, hc3, hd⟩ := row_handle hro (by omega)
    obtain ⟨c, rfl, g1, g2, g3, g4⟩ := hs'.partAt e1 hlt
    have hr := run_append_room (P := P) (ty := ty) (o := lo * (T ty').size) (n := n) (c := c) ht hu hj hjs hcur hsrc.len (hsrc.first w fun _ _ => rfl) (by
      rw [hsrc.nlen, hc3, ← Nat.add_mul, ← Nat.add_mul]
      exact Nat.mul_le_mul_right _ (by omega)) hsrc.one (by omega)
    rw [← Nat.add_mul] at hr
    have hS := h.splice (ys := ys) (p := lo + n) (news := news) ho e1 hcur hc1 hc2 hc3 hd hro.1 (by omega) hsrc.nlen hsrc.data
    exact ⟨_, _, hr, _, _, _, hK, hS, .inr ⟨by omega, b, xs.length, cap, c, e1, rfl, by omega, g2, hlt, by omega, g4⟩⟩
end
end Go.Vc
