/- Each operation that only looks gives on the machine what V0 says: cuts, builds, and all of them together. -/
import Derived.Test.YtcjcfpbbhmhlbaaV3
set_option linter.unusedVariables false
set_option linter.unusedSimpArgs false
namespace Go.Vc
section
variable {P : Program} {T : Tab} {w : World} {O : Nat → Prop} {hs : Nat → Value}

/-- a bound of a cut as it stands in the machine -/
def Bnd (v : Option Value) (i dflt : Int) : Prop := (v = none ∧ i = dflt) ∨ ∃ k, v = some (.int k i)

theorem run_boundsC {isS : Bool} {len cap : Nat} {lo hi : Option Value} {l h : Int} (hlo : Bnd lo l 0) (hhi : Bnd hi h len) (h0 : 0 ≤ l) (h1 : l ≤ h) (h2 : h ≤ cap) :
    (Instr.sliceBounds isS len cap lo hi none).run P w = .ok (l.toNat, h.toNat, cap) w := by
  have hb : ∀ (k : IntKind) (i : Int) (y : Nat) (c : BoundsCode), 0 ≤ i → i ≤ y → (Instr.sliceBound (.int k i) y c).run P w = .ok i.toNat w := fun k i y c h h' => by
    simp [Instr.sliceBound, asIntOf, h, h']
  have hh : (h.toNat : Int) = h := Int.toNat_of_nonneg (by omega)
  rcases hlo with ⟨rfl, rfl⟩ | ⟨kl, rfl⟩ <;> rcases hhi with ⟨rfl, rfl⟩ | ⟨kh, rfl⟩
  · simp [Instr.sliceBounds]
  · simp [Instr.sliceBounds, hb kh h cap _ (by omega) (by omega)]
  · simp [Instr.sliceBounds, hb kl l len _ h0 h1]
  · have e := hb kl l h.toNat .sliceB h0 (by omega)
    simp [Instr.sliceBounds, hb kh h cap _ (by omega) (by omega), e]

theorem run_bounds {isS : Bool} {len cap : Nat} {lo hi : Option Value} {l h : Int} (hlo : Bnd lo l 0) (hhi : Bnd hi h len) (h0 : 0 ≤ l) (h1 : l ≤ h) (h2 : h ≤ len) (h3 : len ≤ cap) :
    (Instr.sliceBounds isS len cap lo hi none).run P w = .ok (l.toNat, h.toNat, cap) w := run_boundsC hlo hhi h0 h1 (by omega)

theorem cutLo_bnd {lo : Option AC} {vlo : Option Value} {l : Int} (h : cutLo lo = some l) (hr : ∀ x, lo = some x → ∃ v, vlo = some v ∧ RC w O hs x v) (hn : lo = none → vlo = none) : Bnd vlo l 0 := by
  cases lo with
  | none => simp only [cutLo, Option.some.injEq] at h; exact .inl ⟨hn rfl, h.symm⟩
  | some x =>
    obtain ⟨v, hv, hx⟩ := hr x rfl
    cases x <;> simp only [cutLo, Option.some.injEq] at h <;> try cases h
    simp only [RC] at hx
    exact .inr ⟨_, by rw [hv, hx]⟩
theorem cutHi_bnd {n : Nat} {hi : Option AC} {vhi : Option Value} {h : Int} (he : cutHi n hi = some h) (hr : ∀ x, hi = some x → ∃ v, vhi = some v ∧ RC w O hs x v) (hn : hi = none → vhi = none) : Bnd vhi h n := by
  cases hi with
  | none => simp only [cutHi, Option.some.injEq] at he; exact .inl ⟨hn rfl, he.symm⟩
  | some x =>
    obtain ⟨v, hv, hx⟩ := hr x rfl
    cases x <;> simp only [cutHi, Option.some.injEq] at he <;> try cases he
    simp only [RC] at hx
    exact .inr ⟨_, by rw [hv, hx]⟩

theorem run_cut {t e : TypeId} {n : Nat} (hu : P.underlying t = some (.slice e)) (hse : ∃ j, P.info? e = some j ∧ j.size = n) {A : Option Addr} {len cap : Nat} {lo hi : Option Value} {l h : Int}
    (hlo : Bnd lo l 0) (hhi : Bnd hi h len) (h0 : 0 ≤ l) (h1 : l ≤ h) (h2 : h ≤ len) (h3 : len ≤ cap) :
    (Instr.sliceAt t (.slice A len cap) lo hi none).run P w = .ok (.slice (if cap = l.toNat then A else A.map (·.add (l.toNat * n))) (h.toNat - l.toNat) (cap - l.toNat)) w := by
  simp [Instr.sliceAt, Instr.slice, run_underlying hu, run_bounds hlo hhi h0 h1 h2 h3, run_sizeOf hse]

theorem run_cutC {t e : TypeId} {n : Nat} (hu : P.underlying t = some (.slice e)) (hse : ∃ j, P.info? e = some j ∧ j.size = n) {A : Option Addr} {len cap : Nat} {lo hi : Option Value} {l h : Int}
    (hlo : Bnd lo l 0) (hhi : Bnd hi h len) (h0 : 0 ≤ l) (h1 : l ≤ h) (h2 : h ≤ cap) :
    (Instr.sliceAt t (.slice A len cap) lo hi none).run P w = .ok (.slice (if cap = l.toNat then A else A.map (·.add (l.toNat * n))) (h.toNat - l.toNat) (cap - l.toNat)) w := by
  simp [Instr.sliceAt, Instr.slice, run_underlying hu, run_boundsC hlo hhi h0 h1 h2, run_sizeOf hse]

theorem getD_take_drop {α : Type} (xs : List α) (a n i : Nat) (z : α) (h : i < n) : ((xs.drop a).take n).getD i z = xs.getD (a + i) z := by
  simp [List.getD, List.getElem?_take, h, List.getElem?_drop]

theorem rd_cut {size : Nat} {α : Type} {z : α} {enc : α → List DV} {xs : List α} {b off cap : Nat} {val : Nat → Nat → Value} (hO : ¬ O b) (hb : b < w.heap.size) (hcap : xs.length ≤ cap) (hc : cap ≤ maxLen) (hs' : ∀ x, (enc x).length = size)
    (hcell : ∀ i j, i < xs.length → j < size → w.cell? ⟨b, off + i * size + j, none⟩ = some (val i j))
    (hd : ∀ i j d, i < xs.length → (enc (xs.getD i z))[j]? = some d → RD w O d (val i j)) (l h : Nat) (h1 : l ≤ h) (h2 : h ≤ xs.length) :
    RD w O (.list size α z enc ((xs.drop l).take (h - l))) (.slice (if cap = l then some ⟨b, off, none⟩ else (some (⟨b, off, none⟩ : Addr)).map (·.add (l * size))) (h - l) (cap - l)) := by
  have hlen : ((xs.drop l).take (h - l)).length = h - l := by simp; omega
  by_cases he : h - l = 0
  · have e0 : (xs.drop l).take (h - l) = [] := by rw [he]; rfl
    rw [e0, he]
    exact .empty _ _ _ _ _ _ (by omega) (by split <;> simp)
  · have hne : ¬ cap = l := by omega
    rw [if_neg hne]
    simp only [Option.map_some, Addr.add_lit]
    have key := RD.list (w := w) (O := O) size α z enc ((xs.drop l).take (h - l)) b (off + l * size) (cap - l) (fun i j => val (l + i) j) (by omega) hO hb (by omega) (by omega) hs' (fun i j hi hj => by
        have := hcell (l + i) j (by omega) hj
        rw [Nat.add_mul, ← Nat.add_assoc] at this
        exact this) (fun i j d hi hj => by
        rw [getD_take_drop _ _ _ _ _ (by omega)] at hj
        exact hd (l + i) j d (by omega) hj)
    rw [hlen] at key
    exact key

theorem qslice_sound (hT : TabOK P T) {st : ASt} (hg : Good w O st.objs hs) {x : AC} {vx : Value} {t : TypeId} {lo hi : Option AC} {vlo vhi : Option Value} (hx : RC w O hs x vx)
    (hlo : ∀ x, lo = some x → ∃ v, vlo = some v ∧ RC w O hs x v) (hlo' : lo = none → vlo = none) (hhi : ∀ x, hi = some x → ∃ v, vhi = some v ∧ RC w O hs x v) (hhi' : hi = none → vhi = none)
    (h : (qslice T t st x lo hi).1) : ∃ v, (Instr.sliceAt t vx vlo vhi none).run P w = .ok v w ∧ RC w O hs (qslice T t st x lo hi).2 v := by
  unfold qslice at h ⊢
  cases hcl : cutLo lo with
  | none => rw [hcl] at h; exact h.elim
  | some l =>
    have bl := cutLo_bnd hcl hlo hlo'
    simp only [hcl] at h ⊢
    cases hsh : (T t).sh <;> simp only [hsh] at h ⊢ <;> try exact h.elim
    case str =>
      have hu : P.underlying t = some .string := hT.sh hsh (by simp)
      cases x <;> simp only at h ⊢ <;> try exact h.elim
      rename_i s
      cases hch : cutHi s.size hi with
      | none => rw [hch] at h; exact h.elim
      | some e =>
        have bh := cutHi_bnd hch hhi hhi'
        simp only [hch] at h ⊢
        obtain ⟨h0, h1, h2⟩ := h
        simp only [RC] at hx
        subst hx
        refine ⟨.string (s.extract l.toNat e.toNat), ?_, by simp [RC]⟩
        simp [Instr.sliceAt, Instr.slice, run_underlying hu, run_bounds bl bh h0 h1 h2 (Nat.le_refl _)]
    case slice el =>
      have hu : P.underlying t = some (.slice el) := hT.sh hsh (by simp)
      have hse := (hT.sub hsh (by simp) (e := el) (by simp [Sh.subs])).sized
      cases x <;> simp only at h ⊢ <;> try exact h.elim
      case nil =>
        cases hch : cutHi 0 hi with
        | none => rw [hch] at h; exact h.elim
        | some e =>
          have bh := cutHi_bnd hch hhi hhi'
          simp only [hch] at h ⊢
          obtain ⟨rfl, rfl⟩ := h
          simp only [RC] at hx
          subst hx
          exact ⟨_, run_cut hu hse bl bh (by omega) (by omega) (by omega) (by omega), by simp [RC]⟩
      case rd size α z enc xs =>
        cases hch : cutHi xs.length hi with
        | none => rw [hch] at h; exact h.elim
        | some e =>
          have bh := cutHi_bnd hch hhi hhi'
          simp only [hch] at h ⊢
          obtain ⟨rfl, h0, h1, h2⟩ := h
          cases hx with
          | empty _ _ _ _ A cap hc hn =>
            refine ⟨_, run_cut hu hse bl bh h0 h1 h2 (by simp), ?_⟩
            simp only [List.length_nil, Int.ofNat_zero, List.drop_nil, List.take_nil] at h2 bh ⊢
            have e1 : e.toNat - l.toNat = 0 := by omega
            have e2 : l.toNat = 0 := by omega
            rw [e1]
            simp only [List.take_nil, RC]
            refine .empty _ _ _ _ _ _ (by omega) fun hA => ?_
            split at hA
            · rename_i hh; omega
            · cases A with
              | none => have := hn rfl; omega
              | some a => cases hA
          | list _ _ _ _ _ b off cap val hpos hO hb hcap hc hs' hcell hd =>
            refine ⟨_, run_cut hu hse bl bh h0 h1 h2 hcap, ?_⟩
            exact rd_cut hO hb hcap hc hs' hcell hd l.toNat e.toNat (by omega) (by omega)
      case sl o =>
        cases hob : st.obj o <;> simp only [hob] at h ⊢ <;> try exact h.elim
        rename_i ty size α z enc xs
        cases hch : cutHi xs.length hi with
        | none => rw [hch] at h; exact h.elim
        | some e =>
          have bh := cutHi_bnd hch hhi hhi'
          simp only [hch] at h ⊢
          obtain ⟨rfl, h0, h1, h2⟩ := h
          obtain ⟨rfl, _⟩ := hx
          have hro := hg.rel o _ (obj_some hob (by simp))
          by_cases hp : 0 < xs.length
          · obtain ⟨b, cap, cur, e1, hb, hc1, hc2, hc3, hd⟩ := row_handle hro hp
            refine ⟨_, by rw [e1]; exact run_cut hu hse bl bh h0 h1 h2 hc1, ?_⟩
            by_cases he : l.toNat < xs.length
            · have hne : ¬ cap = l.toNat := by omega
              refine .inr ⟨by omega, b, xs.length, cap, cap - l.toNat, e1, ?_, by omega, by omega, by omega, by omega, by omega⟩
              rw [if_neg hne]
              simp [Addr.add_lit]
            · have he' : e.toNat - l.toNat = 0 := by omega
              refine .inl ⟨he', _, _, by rw [he'], by omega, by split <;> simp, by rw [e1]; rfl, fun b2 m2 c2 e2 => ?_⟩
              rw [e1] at e2
              simp only [Value.slice.injEq] at e2
              omega
          · obtain ⟨A, cap, e1, hc1, hc2, hn⟩ := row_slice hro
            have hz : xs.length = 0 := by omega
            have e2 : e.toNat - l.toNat = 0 := by omega
            refine ⟨_, by rw [e1]; exact run_cut hu hse bl bh h0 h1 h2 hc2, .inl ⟨e2, _, _, by rw [e2], by omega, fun hA => ?_, by rw [e1]; rfl, fun b2 m2 c2 e3 => ?_⟩⟩
            · split at hA
              · omega
              · cases A with
                | none => have := hn rfl; omega
                | some a => cases hA
            · rw [e1] at e3
              simp only [Value.slice.injEq] at e3
              omega
      case sub o size a n =>
        cases hch : cutHi n hi with
        | none => rw [hch] at h; exact h.elim
        | some e =>
          have bh := cutHi_bnd hch hhi hhi'
          simp only [hch] at h ⊢
          obtain ⟨rfl, h0, h1, h2⟩ := h
          rcases hx with ⟨rfl, A, cap, rfl, hc, hn, hsl, hm⟩ | ⟨hn, b, m, cap, c, e1, rfl, hc1, hc2, hc3, hc4, hc5⟩
          · have h2 : e ≤ (0 : Nat) := by
              rcases h2 with h2 | h2
              · exact h2
              · cases hob : st.obj o <;> simp only [hob] at h2 <;> try exact h2.elim
                obtain ⟨b, cap', cur, g1, _⟩ := row_handle (hg.rel o _ (obj_some hob (by simp))) (by omega)
                have := hm _ _ _ g1
                omega
            have e2 : e.toNat - l.toNat = 0 := by omega
            refine ⟨_, run_cut hu hse bl bh h0 h1 h2 (by omega), .inl ⟨e2, _, _, by rw [e2], by omega, fun hA => ?_, hsl, fun b2 m2 c2 e3 => by have := hm b2 m2 c2 e3; omega⟩⟩
            split at hA
            · rename_i hh; have := hn hA; omega
            · cases A with
              | none => have := hn rfl; omega
              | some a => cases hA
          · have h2 : a + e ≤ m := by
              rcases h2 with h2 | h2
              · omega
              · cases hob : st.obj o <;> simp only [hob] at h2 <;> try exact h2.elim
                obtain ⟨b', cap', cur, g1, _⟩ := row_handle (hg.rel o _ (obj_some hob (by simp))) (by omega)
                rw [e1] at g1
                simp only [Value.slice.injEq] at g1
                omega
            refine ⟨_, run_cutC hu hse bl bh h0 h1 (by omega), ?_⟩
            by_cases he : a + l.toNat < m
            · have hne : ¬ c = l.toNat := by omega
              refine .inr ⟨by omega, b, m, cap, c - l.toNat, e1, ?_, by omega, by omega, by omega, by omega, by omega⟩
              rw [if_neg hne]
              simp [Addr.add_lit, Nat.add_mul]
            · have he' : e.toNat - l.toNat = 0 := by omega
              refine .inl ⟨he', _, _, by rw [he'], by omega, by split <;> simp, by rw [e1]; rfl, fun b2 m2 c2 e3 => ?_⟩
              rw [e1] at e3
              simp only [Value.slice.injEq] at e3
              omega

theorem run_bounds3 {len cap : Nat} {lo : Option Value} {l h m : Int} {kh km : IntKind} (hlo : Bnd lo l 0) (h0 : 0 ≤ l) (h1 : l ≤ h) (h2 : h ≤ m) (h3 : m ≤ cap) :
    (Instr.sliceBounds true len cap lo (some (.int kh h)) (some (.int km m))).run P w = .ok (l.toNat, h.toNat, m.toNat) w := by
  have hb : ∀ (k : IntKind) (i : Int) (y : Nat) (c : BoundsCode), 0 ≤ i → i ≤ y → (Instr.sliceBound (.int k i) y c).run P w = .ok i.toNat w := fun k i y c h h' => by
    simp [Instr.sliceBound, asIntOf, h, h']
  have e1 := hb km m cap .slice3Acap (by omega) h3
  have e2 := hb kh h m.toNat .slice3B (by omega) (by omega)
  rcases hlo with ⟨rfl, rfl⟩ | ⟨kl, rfl⟩
  · simp [Instr.sliceBounds, e1, e2]
  · have e3 := hb kl l h.toNat .slice3C h0 (by omega)
    simp [Instr.sliceBounds, e1, e2, e3]
theorem qslice3_sound (hT : TabOK P T) {st : ASt} {x : AC} {vx : Value} {t : TypeId} {lo hi : Option AC} {vlo vhi : Option Value} {m : AC} {vm : Value} (hx : RC w O hs x vx)
    (hlo : ∀ x, lo = some x → ∃ v, vlo = some v ∧ RC w O hs x v) (hlo' : lo = none → vlo = none) (hhi : ∀ x, hi = some x → ∃ v, vhi = some v ∧ RC w O hs x v) (hhi' : hi = none → vhi = none)
    (hm : RC w O hs m vm) (h : qslice3 T t st x lo hi m) : ∃ v, (Instr.sliceAt t vx vlo vhi (some vm)).run P w = .ok v w := by
  unfold qslice3 at h
  cases hcl : cutLo lo with
  | none => rw [hcl] at h; exact h.elim
  | some l =>
    have bl := cutLo_bnd hcl hlo hlo'
    simp only [hcl] at h
    cases m <;> simp only at h <;> try exact h.elim
    rename_i km mx
    simp only [RC] at hm
    subst hm
    cases hsh : (T t).sh <;> simp only [hsh] at h <;> try exact h.elim
    rename_i el
    have hu : P.underlying t = some (.slice el) := hT.sh hsh (by simp)
    have hse := (hT.sub hsh (by simp) (e := el) (by simp [Sh.subs])).sized
    have key : ∀ (A : Option Addr) (len cap : Nat) (kh : IntKind) (h : Int), vx = .slice A len cap → vhi = some (.int kh h) → 0 ≤ l → l ≤ h → h ≤ mx → mx ≤ cap → ∃ v, (Instr.sliceAt t vx vlo vhi (some (.int km mx))).run P w = .ok v w := by
      intro A len cap kh h e1 e2 h0 h1 h2 h3
      subst e1 e2
      exact ⟨_, by simp only [Instr.sliceAt, Instr.slice, Sem.run_bind, run_underlying hu, Result.andThen_ok, run_bounds3 bl h0 h1 h2 h3, run_sizeOf hse, Sem.run_pure]; rfl⟩
    cases x <;> simp only at h <;> try exact h.elim
    · cases hi with
      | none => exact h.elim
      | some y =>
        obtain ⟨vy, e1, e2⟩ := hhi y rfl
        cases y <;> simp only at h <;> try exact h.elim
        simp only [RC] at e2
        subst e2
        cases hx with
        | empty _ _ _ _ A cap hc hn => exact key _ _ cap _ _ rfl e1 h.1 h.2.1 h.2.2.1 (by have := h.2.2.2; simp at this; omega)
        | list _ _ _ _ _ b off cap val hpos hO hb hcap => exact key _ _ cap _ _ rfl e1 h.1 h.2.1 h.2.2.1 (by omega)
    · cases hi with
      | none => exact h.elim
      | some y =>
        obtain ⟨vy, e1, e2⟩ := hhi y rfl
        cases y <;> simp only at h <;> try exact h.elim
        simp only [RC] at e2
        subst e2
        rcases hx with ⟨rfl, A, cap, e, _⟩ | ⟨_, b, m, cap, c, _, e, hc, _⟩
        · exact key _ _ cap _ _ e e1 h.1 h.2.1 h.2.2.1 (by omega)
        · exact key _ _ c _ _ e e1 h.1 h.2.1 h.2.2.1 (by omega)

theorem qslice3v_sound (hT : TabOK P T) {st : ASt} (hg : Good w O st.objs hs) {x : AC} {vx : Value} {t : TypeId} {lo hi : Option AC} {vlo vhi : Option Value} {m : AC} {vm : Value} (hx : RC w O hs x vx)
    (hlo : ∀ x, lo = some x → ∃ v, vlo = some v ∧ RC w O hs x v) (hlo' : lo = none → vlo = none) (hhi : ∀ x, hi = some x → ∃ v, vhi = some v ∧ RC w O hs x v) (hhi' : hi = none → vhi = none)
    (hm : RC w O hs m vm) (h : qslice3 T t st x lo hi m) : ∃ v, (Instr.sliceAt t vx vlo vhi (some vm)).run P w = .ok v w ∧ RC w O hs (qslice3v T t st x lo hi m) v := by
  by_cases hj : qslice3v T t st x lo hi m = .junk
  · obtain ⟨v, hv⟩ := qslice3_sound (P := P) hT hx hlo hlo' hhi hhi' hm h
    rw [hj]
    exact ⟨v, hv, trivial⟩
  · unfold qslice3v at hj ⊢
    unfold qslice3 at h
    cases x <;> simp only at hj h ⊢ <;> try (first | exact absurd trivial hj | exact absurd rfl hj)
    rename_i o sz a n
    cases hcl : cutLo lo with
    | none => rw [hcl] at h; exact h.elim
    | some l =>
      have bl := cutLo_bnd hcl hlo hlo'
      simp only [hcl] at h hj ⊢
      cases hi with
      | none => first | exact absurd trivial hj | exact absurd rfl hj
      | some y =>
        obtain ⟨vy, e1, e2⟩ := hhi y rfl
        cases y <;> simp only at hj h ⊢ <;> try (first | exact absurd trivial hj | exact absurd rfl hj)
        rename_i kh hh
        cases m <;> simp only at hj h ⊢ <;> try (first | exact absurd trivial hj | exact absurd rfl hj)
        rename_i km mx
        cases hsh : (T t).sh <;> simp only [hsh] at h hj ⊢ <;> try (first | exact h.elim | exact absurd trivial hj)
        rename_i el
        have hu : P.underlying t = some (.slice el) := hT.sh hsh (by simp)
        have hse := (hT.sub hsh (by simp) (e := el) (by simp [Sh.subs])).sized
        cases hob : st.obj o <;> simp only [hob] at hj ⊢ <;> try (first | exact absurd trivial hj | exact absurd rfl hj)
        rename_i ty size α z enc xs
        cases hd : decide (sz = (T el).size ∧ a + mx.toNat = xs.length) with
        | false => simp only [hd] at hj; first | exact absurd trivial hj | exact absurd rfl hj
        | true =>
          simp only
          obtain ⟨rfl, hax⟩ := of_decide_eq_true hd
          simp only [RC] at hm e2
          subst hm
          subst e2
          subst e1
          obtain ⟨h0, h1, h2, h3⟩ := h
          have hro := hg.rel o _ (obj_some hob (by simp))
          have run : ∀ (A : Option Addr) (len cap : Nat), mx ≤ cap → (Instr.sliceAt t (.slice A len cap) vlo (some (.int kh hh)) (some (.int km mx))).run P w =
              .ok (.slice (if mx.toNat = l.toNat then A else A.map (·.add (l.toNat * (T el).size))) (hh.toNat - l.toNat) (mx.toNat - l.toNat)) w := fun A len cap hc => by
            simp only [Instr.sliceAt, Instr.slice, Sem.run_bind, run_underlying hu, Result.andThen_ok, run_bounds3 bl h0 h1 h2 hc, run_sizeOf hse, Sem.run_pure]
          rcases hx with ⟨rfl, A, cap, rfl, hc, hn, hsl, hmm⟩ | ⟨_, b, m', cap, c, e3, rfl, hc1, hc2, hc3, hc4, hc5⟩
          · refine ⟨_, run _ _ _ (by omega), .inl ⟨by omega, A, 0, ?_, by simp [maxLen], fun _ => rfl, hsl, fun b2 m2 c2 e4 => by have := hmm b2 m2 c2 e4; omega⟩⟩
            rw [if_pos (by omega), show hh.toNat - l.toNat = 0 by omega, show mx.toNat - l.toNat = 0 by omega]
          · refine ⟨_, run _ _ _ (by omega), ?_⟩
            obtain ⟨A', cap', g1, _⟩ := row_slice hro
            rw [e3] at g1
            simp only [Value.slice.injEq] at g1
            by_cases he : a + l.toNat < m'
            · refine .inr ⟨by omega, b, m', cap, mx.toNat - l.toNat, e3, ?_, by omega, by omega, by omega, by omega, by omega⟩
              rw [if_neg (by omega)]
              simp [Addr.add_lit, Nat.add_mul]
            · refine .inl ⟨by omega, some ⟨b, a * (T el).size, none⟩, 0, ?_, by simp [maxLen], fun e => by (cases e), by rw [e3]; rfl, fun b2 m2 c2 e4 => ?_⟩
              · rw [if_pos (by omega), show hh.toNat - l.toNat = 0 by omega, show mx.toNat - l.toNat = 0 by omega]
              · rw [e3] at e4
                simp only [Value.slice.injEq] at e4
                omega

theorem qextract_sound {x : AV} {vx : Value} {i : Nat} (hx : RV w O hs x vx) (h : (qextract x i).1) :
    ∃ v, (Instr.extract vx i).run P w = .ok v w ∧ RV w O hs (qextract x i).2 v := by
  unfold qextract at h ⊢
  cases x <;> simp only at h ⊢ <;> try exact h.elim
  rename_i vs
  obtain ⟨arr, rfl, hl, hr⟩ := hx
  cases hv : vs[i]? with
  | none => rw [hv] at h; exact h.elim
  | some p =>
    simp only [hv] at h ⊢
    have hi : i < arr.size := by rw [hl]; exact (List.getElem?_eq_some_iff.1 hv).1
    have hrp := hr i p arr[i] hv (Array.getElem?_eq_getElem hi)
    refine ⟨arr[i], by simp [Instr.extract, hi], ?_⟩
    obtain ⟨g, cs⟩ := p
    cases g with
    | true => exact hrp
    | false =>
      simp only at h ⊢
      match cs, h with
      | [c], _ => exact hrp c rfl

theorem fill_sound {place : Nat → Option (Nat × Nat)} : ∀ (ps : List (Nat × List AC)) (vs : List (Nat × Value)) (cs : List AC) (arr : Array Value), RCs w O hs cs arr.toList →
    vs.length = ps.length → (∀ (i : Nat) (p : Nat × List AC) (q : Nat × Value), ps[i]? = some p → vs[i]? = some q → p.1 = q.1 ∧ RCs w O hs p.2 q.2.cells.toList) → (fillParts place ps cs).1 →
    ∃ arr', Instr.fill place arr vs = some arr' ∧ RCs w O hs (fillParts place ps cs).2 arr'.toList
  | [], vs, cs, arr, hr, hl, _, _ => by
    cases vs with
    | nil => exact ⟨arr, rfl, hr⟩
    | cons => simp at hl
  | p :: ps, vs, cs, arr, hr, hl, hp, h => by
    cases vs with
    | nil => simp at hl
    | cons q vs =>
      obtain ⟨e1, hq⟩ := hp 0 p q rfl rfl
      simp only [fillParts] at h ⊢
      cases hpl : place p.1 with
      | none => rw [hpl] at h; exact h.elim
      | some r =>
        simp only [hpl] at h ⊢
        obtain ⟨h1, h2, h3⟩ := h
        obtain ⟨i, v⟩ := q
        dsimp only at e1 hq
        subst e1
        have hsz : v.cells.size = p.2.length := by have := hq.1; simpa using this
        have hal : arr.size = cs.length := by have := hr.1; simpa using this
        simp only [Instr.fill, hpl]
        rw [if_neg (by simp [hsz, h1, hal]; omega)]
        have hfold : (v.cells.zipIdx.foldl (fun cs (x : Value × Nat) => cs.setIfInBounds (r.1 + x.2) x.1) arr).toList = splice arr.toList r.1 v.cells.toList := by
          have key : ∀ (l : List Value) (k : Nat) (arr : Array Value), r.1 + k + l.length ≤ arr.size →
              ((l.zipIdx k).foldl (fun (cs : Array Value) (x : Value × Nat) => cs.setIfInBounds (r.1 + x.2) x.1) arr).toList = splice arr.toList (r.1 + k) l := by
            intro l
            induction l with
            | nil => intro k arr _; simp [splice]
            | cons v l ih =>
              intro k arr hk
              simp only [List.zipIdx_cons, List.foldl_cons]
              rw [ih (k + 1) _ (by simp at hk ⊢; omega)]
              have hlt : r.1 + k < arr.toList.length := by simp at hk ⊢; omega
              simp only [splice, Array.toList_setIfInBounds]
              apply List.ext_getElem?
              intro j
              simp only [List.getElem?_append, List.getElem?_take, List.getElem?_drop, List.length_take, List.length_set, List.length_append, List.length_cons, List.getElem?_set]
              simp only [List.length_cons] at hk
              simp only [Array.length_toList] at hlt ⊢
              by_cases c1 : j < r.1 + k
              · rw [if_pos (by omega), if_pos (by omega), if_pos (by omega), if_neg (by omega), if_pos (by omega), if_pos (by omega), if_pos (by omega)]
              · by_cases c2 : j = r.1 + k
                · subst c2
                  rw [if_pos (by omega), if_pos (by omega), if_pos (by omega), if_pos rfl, if_pos hlt, if_pos (by omega), if_neg (by omega)]
                  simp [Nat.min_eq_left (Nat.le_of_lt hlt)]
                · by_cases c3 : j < r.1 + k + (l.length + 1)
                  · rw [if_pos (by omega), if_neg (by omega), if_pos (by omega), if_neg (by omega)]
                    have e : j - min (r.1 + k) arr.size = (j - min (r.1 + (k + 1)) arr.size) + 1 := by omega
                    rw [e, List.getElem?_cons_succ]
                  · rw [if_neg (by omega), if_neg (by omega), if_neg (by omega)]
                    congr 1
                    omega
          have := key v.cells.toList 0 arr (by simp [hsz, hal]; omega)
          rw [Nat.add_zero] at this
          rw [← this, ← Array.foldl_toList]
          simp [Array.toList_zipIdx]
        exact fill_sound ps vs _ _ (by rw [hfold]; exact hr.splice hq r.1) (by simpa using hl) (fun i p q h h' => hp (i + 1) p q h h') h3
end
end Go.Vc
