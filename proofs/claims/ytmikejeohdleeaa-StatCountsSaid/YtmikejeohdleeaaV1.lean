/- What the states of V0 say of the machine's memory: plain definitions and their first laws. -/
import Derived.Test.YtmikejeohdleeaaV0
import Derived.Laws.AppendOwn
import Derived.Laws.MakeOwn
import Derived.Laws.Slices
import Derived.Orders
import Derived.Below
set_option linter.unusedVariables false
set_option linter.unusedSimpArgs false
namespace Go.Vc

/-- a value reads as the data; what it reads lies in no block of O -/
inductive RD (w : World) (O : Nat → Prop) : DV → Value → Prop
  | int (k n) : RD w O (.int k n) (.int k n)
  | bool (b) : RD w O (.bool b) (.bool b)
  | str (s) : RD w O (.str s) (.string s)
  | raw (v) (h : v.oneCell' = true) : RD w O (.raw v) v
  | nil : RD w O .nil (.slice none 0 0)
  | empty (size α z enc A cap) (hc : cap ≤ maxLen) (hn : A = none → cap = 0) : RD w O (.list size α z enc []) (.slice A 0 cap)
  | list (size α z enc) (xs : List α) (b off cap : Nat) (val : Nat → Nat → Value) (h0 : 0 < xs.length) (hO : ¬ O b) (hb : b < w.heap.size)
      (hcap : xs.length ≤ cap) (hc : cap ≤ maxLen) (hs : ∀ x, (enc x).length = size)
      (hcell : ∀ i j, i < xs.length → j < size → w.cell? ⟨b, off + i * size + j, none⟩ = some (val i j))
      (hd : ∀ (i j : Nat) (d : DV), i < xs.length → (enc (xs.getD i z))[j]? = some d → RD w O d (val i j)) :
      RD w O (.list size α z enc xs) (.slice (some ⟨b, off, none⟩) xs.length cap)

theorem RD.mono {w w' : World} {O O' : Nat → Prop} (hsz : w.heap.size ≤ w'.heap.size) (hk : ∀ b, b < w.heap.size → ¬ O b → w'.heap[b]? = w.heap[b]? ∧ ¬ O' b)
    {d : DV} {v : Value} (h : RD w O d v) : RD w' O' d v := by
  induction h with
  | int k n => exact .int k n
  | bool b => exact .bool b
  | str s => exact .str s
  | raw v h => exact .raw v h
  | nil => exact .nil
  | empty size α z enc A cap hc hn => exact .empty size α z enc A cap hc hn
  | list size α z enc xs b off cap val h0 hO hb hcap hc hs hcell hd ih =>
    exact .list size α z enc xs b off cap val h0 (hk b hb hO).2 (Nat.lt_of_lt_of_le hb hsz) hcap hc hs
      (fun i j hi hj => by rw [World.cell?_of_block (w := w) (hk b hb hO).1]; exact hcell i j hi hj) ih

theorem RD.one {w : World} {O : Nat → Prop} {d : DV} {v : Value} (h : RD w O d v) : v.oneCell' = true := by
  cases h <;> first | rfl | assumption

def hblk : Value → Option Nat
  | .pointer (some a) => some a.block
  | .slice (some a) _ _ => some a.block
  | .map (some b) => some b
  | _ => none
def foot (ob : AObj) (h : Value) (b : Nat) : Prop :=
  match ob with
  | .gone => False
  | _ => hblk h = some b
/-- the blocks of the objects -/
def own (objs : List AObj) (hs : Nat → Value) (b : Nat) : Prop := ∃ o ob, objs[o]? = some ob ∧ foot ob (hs o) b

def isSl : Value → Bool
  | .slice .. => true
  | _ => false

def RC (w : World) (O : Nat → Prop) (hs : Nat → Value) : AC → Value → Prop
  | .junk, _ => True
  | .int k n, v => v = .int k n
  | .bool b, v => v = .bool b
  | .str s, v => v = .string s
  | .raw u, v => v = u
  | .nil, v => v = .slice none 0 0
  | .rd size α z enc xs, v => RD w O (.list size α z enc xs) v
  | .re ds, v => ∃ b off, v = .pointer (some ⟨b, off, none⟩) ∧ b < w.heap.size ∧ ¬ O b ∧ ∀ (j : Nat) (d : DV), ds[j]? = some d → ∃ cv, w.cell? ⟨b, off + j, none⟩ = some cv ∧ RD w O d cv
  | .ptr o j, v => ∃ b, hs o = .pointer (some ⟨b, 0, none⟩) ∧ v = .pointer (some ⟨b, j, none⟩)
  | .sl o, v => v = hs o ∧ isSl (hs o) = true
  | .sub o size lo n, v => (n = 0 ∧ ∃ A cap, v = .slice A 0 cap ∧ cap ≤ maxLen ∧ (A = none → cap = 0)) ∨
      (0 < n ∧ ∃ b m cap c, hs o = .slice (some ⟨b, 0, none⟩) m cap ∧ v = .slice (some ⟨b, lo * size, none⟩) n c ∧ n ≤ c ∧ c ≤ maxLen ∧ lo + n ≤ m)
  | .el o size i j, v => ∃ b m cap, hs o = .slice (some ⟨b, 0, none⟩) m cap ∧ v = .pointer (some ⟨b, i * size + j, none⟩)
  | .mp o, v => v = hs o ∧ ∃ b, hs o = .map (some b)
  | .it o, v => v = hs o ∧ ∃ b, hs o = .pointer (some ⟨b, 0, none⟩)
  | .fn f caps, v => ∃ arr : Array Value, v = .func (.func f) #[] arr ∧ arr.size = caps.length ∧
      ∀ (i : Nat) (p : Nat × Nat), caps[i]? = some p → ∃ b, hs p.1 = .pointer (some ⟨b, 0, none⟩) ∧ arr[i]? = some (.pointer (some ⟨b, p.2, none⟩))

def RCs (w : World) (O : Nat → Prop) (hs : Nat → Value) (cs : List AC) (vs : List Value) : Prop :=
  vs.length = cs.length ∧ ∀ (i : Nat) (x : AC) (v : Value), cs[i]? = some x → vs[i]? = some v → RC w O hs x v

def RP (w : World) (O : Nat → Prop) (hs : Nat → Value) : Bool × List AC → Value → Prop
  | (true, cs), v => ∃ arr : Array Value, v = .agg arr ∧ RCs w O hs cs arr.toList
  | (false, cs), v => ∀ x, cs = [x] → RC w O hs x v

def RV (w : World) (O : Nat → Prop) (hs : Nat → Value) : AV → Value → Prop
  | .c x, v => RC w O hs x v
  | .agg cs, v => ∃ arr : Array Value, v = .agg arr ∧ RCs w O hs cs arr.toList
  | .tup vs, v => ∃ arr : Array Value, v = .tuple arr ∧ arr.size = vs.length ∧ ∀ (i : Nat) (p : Bool × List AC) (u : Value), vs[i]? = some p → arr[i]? = some u → RP w O hs p u
  | .on g x, v => (g = true → RC w O hs x v) ∧ (g = false → v = undef)

def RO (w : World) (O : Nat → Prop) (hs : Nat → Value) (ob : AObj) (h : Value) : Prop :=
  match ob with
  | .gone => True
  | .cells ty cs => ∃ b vals, h = .pointer (some ⟨b, 0, none⟩) ∧ w.heap[b]? = some (.cells vals ty (0, 0)) ∧ RCs w O hs cs vals.toList
  | .row ty size α z enc xs => (∀ x, (enc x).length = size) ∧ ∃ vs : List Value, w.ownsRow 0 ty size h xs.length vs ∧
      ∀ (i j : Nat) (d : DV), i < xs.length → (enc (xs.getD i z))[j]? = some d → ∃ cv, vs[i * size + j]? = some cv ∧ RD w O d cv

structure Keep (X : Nat → Prop) (w w' : World) : Prop where
  os : w'.os = w.os
  tape : w'.tape = w.tape
  output : w'.output = w.output
  size : w.heap.size ≤ w'.heap.size
  block : ∀ b, b < w.heap.size → ¬ X b → w'.heap[b]? = w.heap[b]?

theorem Keep.refl (X : Nat → Prop) (w : World) : Keep X w w := ⟨rfl, rfl, rfl, Nat.le_refl _, fun _ _ _ => rfl⟩
theorem Keep.trans {X Y : Nat → Prop} {w w1 w2 : World} (h : Keep X w w1) (k : Keep Y w1 w2) (hY : ∀ b, b < w.heap.size → ¬ X b → ¬ Y b) : Keep X w w2 :=
  ⟨k.os.trans h.os, k.tape.trans h.tape, k.output.trans h.output, Nat.le_trans h.size k.size,
    fun b hb hx => (k.block b (Nat.lt_of_lt_of_le hb h.size) (hY b hb hx)).trans (h.block b hb hx)⟩
theorem Keep.grown {X : Nat → Prop} {w w' : World} {row : Option Nat} (h : w.grownBy w' row) (hX : ∀ k, row = some k → X k) : Keep X w w' :=
  ⟨h.os, h.tape, h.output, h.size, fun b hb hx => h.block b hb fun e => hx (hX b e.symm)⟩
theorem Keep.drew (X : Nat → Prop) (w : World) : Keep X w w.drew := ⟨rfl, rfl, rfl, Nat.le_refl _, fun _ _ _ => rfl⟩
theorem Keep.alloc (X : Nat → Prop) (w : World) (o : Obj) : Keep X w (w.alloc o) := ⟨rfl, rfl, rfl, by simp, fun b hb _ => heap_alloc_old w o b hb⟩

/-- what a frame starts from: the world, the blocks that are lent to it, those that are barred, the lent objects' handles -/
structure Fr where
  w0 : World
  L : Nat → Prop
  X : Nat → Prop
  h0 : Nat → Value

def avoid (F : Fr) (objs : List AObj) (hs : Nat → Value) : Nat → Prop := fun b => own objs hs b ∨ F.X b

structure Good (w : World) (O : Nat → Prop) (objs : List AObj) (hs : Nat → Value) : Prop where
  rel : ∀ (o : Nat) (ob : AObj), objs[o]? = some ob → RO w O hs ob (hs o)
  disj : ∀ (o o' : Nat) (ob ob' : AObj) (b : Nat), objs[o]? = some ob → objs[o']? = some ob' → foot ob (hs o) b → foot ob' (hs o') b → o = o'

structure Sim (F : Fr) (st : ASt) (hs : Nat → Value) (a : Act) (w : World) : Prop where
  len : a.tmps.size = st.slots.length
  slots : ∀ (i : Nat) (av : AV) (v : Value), st.slots[i]? = some av → a.tmps[i]? = some v → RV w (avoid F st.objs hs) hs av v
  good : Good w (avoid F st.objs hs) st.objs hs
  defers : a.defers = []
  keep : Keep F.L F.w0 w
  ownb : ∀ b, own st.objs hs b → F.L b ∨ F.w0.heap.size ≤ b
  fix : ∀ o, o < st.n0 → hs o = F.h0 o
  fx : ∀ b, F.X b → b < F.w0.heap.size ∧ ¬ F.L b
  dead : ∀ o, st.objs.length ≤ o → hs o = .nilFunc
  n0le : st.n0 ≤ st.objs.length

/-! ### Carrying facts from world to world -/
theorem RC.mono {w w' : World} {O O' : Nat → Prop} {hs : Nat → Value} (hsz : w.heap.size ≤ w'.heap.size)
    (hk : ∀ b, b < w.heap.size → ¬ O b → w'.heap[b]? = w.heap[b]? ∧ ¬ O' b) {x : AC} {v : Value} (h : RC w O hs x v) : RC w' O' hs x v := by
  cases x <;> simp only [RC] at h ⊢ <;> try exact h
  case rd => exact RD.mono hsz hk h
  case re ds =>
    obtain ⟨b, off, rfl, hb, hO, hd⟩ := h
    refine ⟨b, off, rfl, Nat.lt_of_lt_of_le hb hsz, (hk b hb hO).2, fun j d hj => ?_⟩
    obtain ⟨cv, hc, hr⟩ := hd j d hj
    exact ⟨cv, by rw [World.cell?_of_block (w := w) (hk b hb hO).1]; exact hc, RD.mono hsz hk hr⟩

theorem RCs.mono {w w' : World} {O O' : Nat → Prop} {hs : Nat → Value} (hsz : w.heap.size ≤ w'.heap.size)
    (hk : ∀ b, b < w.heap.size → ¬ O b → w'.heap[b]? = w.heap[b]? ∧ ¬ O' b) {cs : List AC} {vs : List Value} (h : RCs w O hs cs vs) : RCs w' O' hs cs vs :=
  ⟨h.1, fun i x v hx hv => RC.mono hsz hk (h.2 i x v hx hv)⟩

theorem RP.mono {w w' : World} {O O' : Nat → Prop} {hs : Nat → Value} (hsz : w.heap.size ≤ w'.heap.size)
    (hk : ∀ b, b < w.heap.size → ¬ O b → w'.heap[b]? = w.heap[b]? ∧ ¬ O' b) {p : Bool × List AC} {v : Value} (h : RP w O hs p v) : RP w' O' hs p v := by
  obtain ⟨g, cs⟩ := p
  cases g
  · exact fun x hx => RC.mono hsz hk (h x hx)
  · obtain ⟨arr, e, hr⟩ := h
    exact ⟨arr, e, hr.mono hsz hk⟩

theorem RV.mono {w w' : World} {O O' : Nat → Prop} {hs : Nat → Value} (hsz : w.heap.size ≤ w'.heap.size)
    (hk : ∀ b, b < w.heap.size → ¬ O b → w'.heap[b]? = w.heap[b]? ∧ ¬ O' b) {x : AV} {v : Value} (h : RV w O hs x v) : RV w' O' hs x v := by
  cases x with
  | c x => exact RC.mono hsz hk h
  | agg cs => obtain ⟨arr, e, hr⟩ := h; exact ⟨arr, e, hr.mono hsz hk⟩
  | tup vs => obtain ⟨arr, e, hl, hr⟩ := h; exact ⟨arr, e, hl, fun i p u hp hu => (hr i p u hp hu).mono hsz hk⟩
  | on g x => exact ⟨fun hg => RC.mono hsz hk (h.1 hg), h.2⟩

/-- references to objects are told by the handles alone -/
def AC.refs : AC → List Nat
  | .ptr o _ => [o]
  | .sl o => [o]
  | .sub o _ _ _ => [o]
  | .el o _ _ _ => [o]
  | .mp o => [o]
  | .it o => [o]
  | .fn _ caps => caps.map (·.1)
  | _ => []
theorem RC.handles {w : World} {O : Nat → Prop} {hs hs' : Nat → Value} {x : AC} {v : Value} (h : RC w O hs x v) (he : ∀ o ∈ x.refs, hs' o = hs o) : RC w O hs' x v := by
  cases x <;> simp only [RC, AC.refs, List.mem_singleton, List.not_mem_nil, forall_eq] at h he ⊢ <;> try exact h
  case ptr => rw [he]; exact h
  case sl => rw [he]; exact h
  case sub => rw [he]; exact h
  case el => rw [he]; exact h
  case mp => rw [he]; exact h
  case it => rw [he]; exact h
  case fn f caps =>
    obtain ⟨arr, e, hl, hc⟩ := h
    refine ⟨arr, e, hl, fun i p hp => ?_⟩
    rw [he p.1 (List.mem_map.2 ⟨p, List.mem_of_getElem? hp, rfl⟩)]
    exact hc i p hp

theorem RC.one {w : World} {O : Nat → Prop} {hs : Nat → Value} {x : AC} {v : Value} (h : RC w O hs x v) (hf : x.fits = true) : v.oneCell' = true := by
  cases x <;> simp only [RC, AC.fits] at h hf
  case junk => cases hf
  case int => subst h; rfl
  case bool => subst h; rfl
  case str => subst h; rfl
  case raw => subst h; exact hf
  case nil => subst h; rfl
  case rd => exact RD.one h
  case re => obtain ⟨b, off, rfl, _⟩ := h; rfl
  case ptr => obtain ⟨b, _, rfl⟩ := h; rfl
  case sl o => obtain ⟨rfl, h⟩ := h; cases hv : hs o <;> simp_all [isSl, Value.oneCell']
  case sub => rcases h with ⟨_, A, cap, rfl, _⟩ | ⟨_, b, m, cap, c, _, rfl, _⟩ <;> rfl
  case el => obtain ⟨b, m, cap, _, rfl⟩ := h; rfl
  case mp => obtain ⟨rfl, b, h⟩ := h; rw [h]; rfl
  case it => obtain ⟨rfl, b, h⟩ := h; rw [h]; rfl
  case fn => obtain ⟨arr, rfl, _⟩ := h; rfl

theorem RO.foot_lt {w : World} {O : Nat → Prop} {hs : Nat → Value} {ob : AObj} {h : Value} (hr : RO w O hs ob h) {b : Nat} (hf : foot ob h b) : b < w.heap.size := by
  cases ob with
  | gone => exact hf.elim
  | cells ty cs =>
    obtain ⟨b', vals, rfl, hb, _⟩ := hr
    simp only [foot, hblk, Option.some.injEq] at hf
    subst hf
    exact (Array.getElem?_eq_some_iff.1 hb).1
  | row ty size α z enc xs =>
    obtain ⟨_, vs, ho, _⟩ := hr
    rcases ho.2 with ⟨rfl, _⟩ | ⟨g, cap, cur, rfl, _, hg, _⟩
    · simp [foot, hblk] at hf
    · simp only [foot, hblk, Option.some.injEq] at hf
      subst hf
      exact (Array.getElem?_eq_some_iff.1 hg).1

theorem Sim.own_lt {F : Fr} {st : ASt} {hs : Nat → Value} {a : Act} {w : World} (h : Sim F st hs a w) {b : Nat} (hb : own st.objs hs b) : b < w.heap.size := by
  obtain ⟨o, ob, ho, hf⟩ := hb
  exact (h.good.rel o ob ho).foot_lt hf

/-! ### Operands -/
theorem RC_acOf (w : World) (O : Nat → Prop) (hs : Nat → Value) (v : Value) : RC w O hs (acOf v) v := by
  unfold acOf
  split <;> try rfl
  rename_i a n c
  cases a with
  | some a => rfl
  | none =>
    dsimp only
    cases h : (n == 0 && c == 0) with
    | true => simp at h; obtain ⟨rfl, rfl⟩ := h; simp [RC]
    | false => simp [RC]

theorem RV_avOf (w : World) (O : Nat → Prop) (hs : Nat → Value) (v : Value) : RV w O hs (avOf v) v := by
  unfold avOf
  split
  · rename_i cs
    refine ⟨cs, rfl, by simp, fun i x v hx hv => ?_⟩
    rw [List.getElem?_map] at hx
    rw [hv] at hx
    simp only [Option.map_some, Option.some.injEq] at hx
    subst hx
    exact RC_acOf w O hs v
  · exact RC_acOf w O hs v

theorem Sim.eval {F : Fr} {st : ASt} {hs : Nat → Value} {a : Act} {w : World} (h : Sim F st hs a w) (x : Operand) :
    RV w (avoid F st.objs hs) hs (st.eval x) (a.eval x) := by
  cases x with
  | tmp t =>
    simp only [ASt.eval, Act.eval]
    by_cases ht : t < st.slots.length
    · have ht' : t < a.tmps.size := by rw [h.len]; exact ht
      have h1 : st.slots[t]? = some st.slots[t] := List.getElem?_eq_getElem ht
      have h2 : a.tmps[t]? = some a.tmps[t] := Array.getElem?_eq_getElem ht'
      have := h.slots t _ _ h1 h2
      simpa [List.getD, h1, Array.getD, ht'] using this
    · have h1 : st.slots[t]? = none := List.getElem?_eq_none (Nat.le_of_not_lt ht)
      simp [List.getD, h1, RV, RC]
  | const v => exact RV_avOf _ _ _ v
  | global g => rfl
  | func f => exact ⟨#[], rfl, by simp, fun i p hp => by simp at hp⟩

theorem RV.ac {w : World} {O : Nat → Prop} {hs : Nat → Value} {x : AV} {v : Value} {g : Bool} (h : RV w O hs x v) (hg : g = true) (hn : x.need g) : RC w O hs x.ac v := by
  cases x with
  | c x => exact h
  | agg cs => exact trivial
  | tup vs => exact trivial
  | on k x => exact h.1 (hn hg)

/-- a put of a value -/
theorem Sim.put {F : Fr} {st : ASt} {hs : Nat → Value} {a : Act} {w : World} (h : Sim F st hs a w) (d : Option Tmp) {av : AV} {v : Value}
    (hv : RV w (avoid F st.objs hs) hs av v) : Sim F (st.put d av) hs (a.put d v) w := by
  cases d with
  | none => exact h
  | some d =>
    refine ⟨by simp [ASt.put, Act.put, h.len], fun i av' v' h1 h2 => ?_, h.good, h.defers, h.keep, h.ownb, h.fix, h.fx, h.dead, h.n0le⟩
    simp only [ASt.put, Act.put] at h1 h2 ⊢
    rw [List.getElem?_set] at h1
    rw [Array.getElem?_setIfInBounds] at h2
    by_cases hd : d = i
    · subst hd
      rw [if_pos rfl] at h1 h2
      split at h1
      · split at h2
        · cases h1; cases h2; exact hv
        · cases h2
      · cases h1
    · rw [if_neg hd] at h1 h2
      exact h.slots i av' v' h1 h2

/-- the world goes on, what is not owned stays, the own objects are told anew -/
theorem Sim.step {F : Fr} {st : ASt} {hs : Nat → Value} {a : Act} {w w' : World} (h : Sim F st hs a w) (hk : Keep (own st.objs hs) w w')
    (hg : ∀ (o : Nat) (ob : AObj), st.objs[o]? = some ob → RO w' (avoid F st.objs hs) hs ob (hs o)) : Sim F st hs a w' := by
  have hm : ∀ b, b < w.heap.size → ¬ avoid F st.objs hs b → w'.heap[b]? = w.heap[b]? ∧ ¬ avoid F st.objs hs b := fun b hb hO => ⟨hk.block b hb fun ho => hO (.inl ho), hO⟩
  refine ⟨h.len, fun i av v h1 h2 => RV.mono hk.size hm (h.slots i av v h1 h2), ⟨hg, h.good.disj⟩, h.defers, ?_, h.ownb, h.fix, h.fx, h.dead, h.n0le⟩
  exact h.keep.trans hk fun b hb hL ho => (h.ownb b ho).elim hL fun hle => by omega

/-- an object whose blocks stay as they are -/
theorem RO.mono {w w' : World} {O O' : Nat → Prop} {hs : Nat → Value} (hsz : w.heap.size ≤ w'.heap.size)
    (hk : ∀ b, b < w.heap.size → ¬ O b → w'.heap[b]? = w.heap[b]? ∧ ¬ O' b) {ob : AObj} {h : Value} (hr : RO w O hs ob h)
    (hf : ∀ b, foot ob h b → w'.heap[b]? = w.heap[b]?) : RO w' O' hs ob h := by
  cases ob with
  | gone => exact trivial
  | cells ty cs =>
    obtain ⟨b, vals, rfl, hb, hc⟩ := hr
    exact ⟨b, vals, rfl, by rw [hf b (by simp [foot, hblk])]; exact hb, hc.mono hsz hk⟩
  | row ty size α z enc xs =>
    obtain ⟨hs', vs, ho, hd⟩ := hr
    refine ⟨hs', vs, ⟨ho.1, ?_⟩, fun i j d hi hj => ?_⟩
    · rcases ho.2 with hn | ⟨g, cap, cur, rfl, h0, hg, r⟩
      · exact .inl hn
      · exact .inr ⟨g, cap, cur, rfl, h0, by rw [hf g (by simp [foot, hblk])]; exact hg, r⟩
    · obtain ⟨cv, h1, h2⟩ := hd i j d hi hj
      exact ⟨cv, h1, RD.mono hsz hk h2⟩

theorem Sim.drew {F : Fr} {st : ASt} {hs : Nat → Value} {a : Act} {w : World} (h : Sim F st hs a w) : Sim F st hs a w.drew :=
  h.step (Keep.drew _ w) fun o ob ho => RO.mono (w := w) (w' := w.drew) (Nat.le_refl _) (fun b hb hO => ⟨rfl, hO⟩) (h.good.rel o ob ho) fun b hb => rfl
end Go.Vc
