/- What the states of V0 say of the machine's memory: plain definitions and their first laws. -/
import Derived.Test.YtcjcfpbbhmhlbaaV0
import Derived.Laws.AppendOwn
import Derived.Laws.MakeOwn
import Derived.Laws.Slices
import Derived.Orders
import Derived.Below
set_option linter.unusedVariables false
set_option linter.unusedSimpArgs false
namespace Go.Vc

def KA.val : KA → Value
  | .int k n => .int k n
  | .bool b => .bool b
  | .str s => .string s
def keyVal : List KA → Value
  | [a] => a.val
  | _ => undef
def keyFit (ks : KSh) (l : List KA) : Prop :=
  match ks with
  | .int k => ∃ n, l = [.int k n]
  | .bool => ∃ b, l = [.bool b]
  | .str => ∃ s, l = [.str s]
  | .no => False

/-- a value reads as the data; what it reads lies in no block of O -/
inductive RD (w : World) (O : Nat → Prop) : DV → Value → Prop
  | int (k n) : RD w O (.int k n) (.int k n)
  | bool (b) : RD w O (.bool b) (.bool b)
  | str (s) : RD w O (.str s) (.string s)
  | raw (v) (h : v.oneCell' = true) : RD w O (.raw v) v
  | nil : RD w O .nil (.slice none 0 0)
  | empty (size α z enc A cap) (hc : cap ≤ maxLen) (hn : A = none → cap = 0) : RD w O (.list size α z enc []) (.slice A 0 cap)
  | list (size α z enc) (xs : List α) (b off cap : Nat) (val : Nat → Nat → Value) (h0 : 0 < xs.length) (hO : ¬ O b) (hb : b < w.heap.size)
      (hcap : xs.length ≤ cap) (hc : cap ≤ maxLen) (hs : ∀ x, (enc x).length = size)
      (hcell : ∀ i j, i < xs.length → j < size → w.cell? ⟨b, off + i * size + j, none⟩ = some (val i j))
      (hd : ∀ (i j : Nat) (d : DV), i < xs.length → (enc (xs.getD i z))[j]? = some d → RD w O d (val i j)) :
      RD w O (.list size α z enc xs) (.slice (some ⟨b, off, none⟩) xs.length cap)
  | map (kt vt ks) (β : Type) (z : β) (enc) (clock : Nat) (es : List (Nat × List KA × β)) (b : Nat) (arr : Array MapEntry) (hO : ¬ O b) (hb : w.heap[b]? = some (.map arr clock)) (hl : arr.size = es.length)
      (hm : mwf clock es) (hf : ∀ e ∈ es, keyFit ks e.2.1) (hk : ∀ (i : Nat) (x : Nat × List KA × β) (e : MapEntry), es[i]? = some x → arr[i]? = some e → e.born = x.1 ∧ e.key = keyVal x.2.1)
      (hn : ∀ e ∈ es, (enc e.2.2).length = 1)
      (hd : ∀ (i : Nat) (x : Nat × List KA × β) (e : MapEntry) (d : DV), es[i]? = some x → arr[i]? = some e → enc x.2.2 = [d] → RD w O d e.val) :
      RD w O (.map kt vt ks β z enc clock es) (.map (some b))

theorem RD.mono {w w' : World} {O O' : Nat → Prop} (hsz : w.heap.size ≤ w'.heap.size) (hk : ∀ b, b < w.heap.size → ¬ O b → w'.heap[b]? = w.heap[b]? ∧ ¬ O' b)
    {d : DV} {v : Value} (h : RD w O d v) : RD w' O' d v := by
  induction h with
  | int k n => exact .int k n
  | bool b => exact .bool b
  | str s => exact .str s
  | raw v h => exact .raw v h
  | nil => exact .nil
  | empty size α z enc A cap hc hn => exact .empty size α z enc A cap hc hn
  | list size α z enc xs b off cap val h0 hO hb hcap hc hs hcell hd ih =>
    exact .list size α z enc xs b off cap val h0 (hk b hb hO).2 (Nat.lt_of_lt_of_le hb hsz) hcap hc hs
      (fun i j hi hj => by rw [World.cell?_of_block (w := w) (hk b hb hO).1]; exact hcell i j hi hj) ih
  | map kt vt ks β z enc clock es b arr hO hb hl hm hf hkk hn hd ih =>
    have hbl := (Array.getElem?_eq_some_iff.1 hb).1
    exact .map kt vt ks β z enc clock es b arr (hk b hbl hO).2 (by rw [(hk b hbl hO).1]; exact hb) hl hm hf hkk hn ih

theorem RD.one {w : World} {O : Nat → Prop} {d : DV} {v : Value} (h : RD w O d v) : v.oneCell' = true := by
  cases h <;> first | rfl | assumption

def hblk : Value → Option Nat
  | .pointer (some a) => some a.block
  | .slice (some a) _ _ => some a.block
  | .map (some b) => some b
  | _ => none
def XObj.foot (x : XObj) (h : Value) (b : Nat) : Prop :=
  match x with
  | .rows .. => ∃ (l : List Value) (i : Nat) (u : Value), h = .tuple l.toArray ∧ l[i]? = some u ∧ hblk u = some b
  | _ => hblk h = some b
def foot (ob : AObj) (h : Value) (b : Nat) : Prop :=
  match ob with
  | .gone => False
  | .ext x => x.foot h b
  | _ => hblk h = some b
/-- the blocks of the objects -/
def own (objs : List AObj) (hs : Nat → Value) (b : Nat) : Prop := ∃ o ob, objs[o]? = some ob ∧ foot ob (hs o) b

def isSl : Value → Bool
  | .slice .. => true
  | _ => false

/-- how a reference leads from an object's handle -/
def XRef.rel : XRef → Value → Value → Prop
  | .self, h, v => v = h ∧ h.oneCell' = true ∧ h ≠ .nilFunc
  | .whole, h, v => ∃ l : List Value, h = .tuple (v :: l).toArray ∧ isSl v = true
  | .cell i, h, v => ∃ (b n c : Nat) (l : List Value), h = .tuple (.slice (some ⟨b, 0, none⟩) n c :: l).toArray ∧ v = .pointer (some ⟨b, i, none⟩)
  | .inn i, h, v => ∃ (u : Value) (l : List Value), h = .tuple (u :: l).toArray ∧ l[i]? = some v ∧ isSl v = true
  | .inel i size k j, h, v => ∃ (u : Value) (l : List Value) (b n c : Nat), h = .tuple (u :: l).toArray ∧ l[i]? = some (.slice (some ⟨b, 0, none⟩) n c) ∧ v = .pointer (some ⟨b, k * size + j, none⟩)
theorem XRef.rel_one {r : XRef} {h v : Value} (hr : r.rel h v) : v.oneCell' = true := by
  have sl : ∀ v : Value, isSl v = true → v.oneCell' = true := fun v h => by cases v <;> simp_all [isSl, Value.oneCell']
  cases r with
  | self => obtain ⟨rfl, h1, _⟩ := hr; exact h1
  | whole => obtain ⟨l, _, h1⟩ := hr; exact sl v h1
  | cell i => obtain ⟨b, n, c, l, _, rfl⟩ := hr; rfl
  | inn i => obtain ⟨u, l, _, _, h1⟩ := hr; exact sl v h1
  | inel i s k j => obtain ⟨u, l, b, n, c, _, _, rfl⟩ := hr; rfl
theorem XRef.rel_ne {r : XRef} {h v : Value} (hr : r.rel h v) : h ≠ .nilFunc := by
  cases r with
  | self => exact hr.2.2
  | whole => obtain ⟨l, rfl, _⟩ := hr; simp
  | cell i => obtain ⟨b, n, c, l, rfl, _⟩ := hr; simp
  | inn i => obtain ⟨u, l, rfl, _⟩ := hr; simp
  | inel i s k j => obtain ⟨u, l, b, n, c, rfl, _⟩ := hr; simp

def RC (w : World) (O : Nat → Prop) (hs : Nat → Value) : AC → Value → Prop
  | .junk, _ => True
  | .int k n, v => v = .int k n
  | .bool b, v => v = .bool b
  | .str s, v => v = .string s
  | .raw u, v => v = u
  | .nil, v => v = .slice none 0 0
  | .rd size α z enc xs, v => RD w O (.list size α z enc xs) v
  | .md kt vt ks β z enc clock es, v => RD w O (.map kt vt ks β z enc clock es) v
  | .re ds, v => ∃ b off, v = .pointer (some ⟨b, off, none⟩) ∧ b < w.heap.size ∧ ¬ O b ∧ ∀ (j : Nat) (d : DV), ds[j]? = some d → ∃ cv, w.cell? ⟨b, off + j, none⟩ = some cv ∧ RD w O d cv
  | .ptr o j, v => ∃ b, hs o = .pointer (some ⟨b, 0, none⟩) ∧ v = .pointer (some ⟨b, j, none⟩)
  | .sl o, v => v = hs o ∧ isSl (hs o) = true
  | .sub o size lo n, v => (n = 0 ∧ ∃ A cap, v = .slice A 0 cap ∧ cap ≤ maxLen ∧ (A = none → cap = 0) ∧ isSl (hs o) = true ∧ ∀ b m cp, hs o = .slice (some ⟨b, 0, none⟩) m cp → m ≤ lo) ∨
      (lo < lo + 1 ∧ ∃ b m cap c, hs o = .slice (some ⟨b, 0, none⟩) m cap ∧ v = .slice (some ⟨b, lo * size, none⟩) n c ∧ n ≤ c ∧ c ≤ maxLen ∧ lo < m ∧ lo + n ≤ m ∧ m ≤ lo + c)
  | .el o size i j, v => ∃ b m cap, hs o = .slice (some ⟨b, 0, none⟩) m cap ∧ v = .pointer (some ⟨b, i * size + j, none⟩)
  | .xr o r, v => r.rel (hs o) v
  | .fn f caps, v => ∃ arr : Array Value, v = .func (.func f) #[] arr ∧ arr.size = caps.length ∧
      ∀ (i : Nat) (p : Nat × Nat), caps[i]? = some p → ∃ b, hs p.1 = .pointer (some ⟨b, 0, none⟩) ∧ arr[i]? = some (.pointer (some ⟨b, p.2, none⟩))

/-- a part: without elements, or with its place -/
theorem RC.part {w : World} {O : Nat → Prop} {hs : Nat → Value} {o size lo n : Nat} {v : Value} (h : RC w O hs (.sub o size lo n) v) :
    (n = 0 ∧ ∃ A cap, v = .slice A 0 cap ∧ cap ≤ maxLen ∧ (A = none → cap = 0)) ∨ (0 < n ∧ ∃ b m cap c, hs o = .slice (some ⟨b, 0, none⟩) m cap ∧ v = .slice (some ⟨b, lo * size, none⟩) n c ∧ n ≤ c ∧ c ≤ maxLen ∧ lo + n ≤ m) := by
  rcases h with ⟨g0, A, cap, g1, g2, g3, _⟩ | ⟨_, b, m, cap, c, e1, e2, hc1, hc2, _, hc3, _⟩
  · exact .inl ⟨g0, A, cap, g1, g2, g3⟩
  · by_cases hn : 0 < n
    · exact .inr ⟨hn, b, m, cap, c, e1, e2, hc1, hc2, hc3⟩
    · have : n = 0 := by omega
      subst this
      exact .inl ⟨rfl, _, _, e2, hc2, fun e => by cases e⟩

def RCs (w : World) (O : Nat → Prop) (hs : Nat → Value) (cs : List AC) (vs : List Value) : Prop :=
  vs.length = cs.length ∧ ∀ (i : Nat) (x : AC) (v : Value), cs[i]? = some x → vs[i]? = some v → RC w O hs x v

def RP (w : World) (O : Nat → Prop) (hs : Nat → Value) : Bool × List AC → Value → Prop
  | (true, cs), v => ∃ arr : Array Value, v = .agg arr ∧ RCs w O hs cs arr.toList
  | (false, cs), v => ∀ x, cs = [x] → RC w O hs x v

def RV (w : World) (O : Nat → Prop) (hs : Nat → Value) : AV → Value → Prop
  | .c x, v => RC w O hs x v
  | .agg cs, v => ∃ arr : Array Value, v = .agg arr ∧ RCs w O hs cs arr.toList
  | .tup vs, v => ∃ arr : Array Value, v = .tuple arr ∧ arr.size = vs.length ∧ ∀ (i : Nat) (p : Bool × List AC) (u : Value), vs[i]? = some p → arr[i]? = some u → RP w O hs p u
  | .on g x, v => (g = true → RC w O hs x v) ∧ (g = false → v = undef)

/-- an own row -/
def ORow (w : World) (O : Nat → Prop) (ty : TypeId) (size : Nat) (α : Type) (z : α) (enc : α → List DV) (xs : List α) (h : Value) : Prop :=
  (∀ x, (enc x).length = size) ∧ ∃ vs : List Value, w.ownsRow 0 ty size h xs.length vs ∧
      ∀ (i j : Nat) (d : DV), i < xs.length → (enc (xs.getD i z))[j]? = some d → ∃ cv, vs[i * size + j]? = some cv ∧ RD w O d cv
/-- a value in a map -/
def VRel (w : World) (O : Nat → Prop) (agg : Bool) (ds : List DV) (v : Value) : Prop :=
  match agg with
  | true => ∃ arr : Array Value, v = .agg arr ∧ arr.size = ds.length ∧ ∀ (j : Nat) (d : DV) (u : Value), ds[j]? = some d → arr[j]? = some u → RD w O d u
  | false => ∃ d, ds = [d] ∧ RD w O d v
def XObj.rel (w : World) (O : Nat → Prop) (hs : Nat → Value) (x : XObj) (h : Value) : Prop :=
  match x with
  | .rows ty ety size α z enc xss => ∃ (u : Value) (l : List Value), h = .tuple (u :: l).toArray ∧ w.ownsRow 0 ty 1 u xss.length l ∧ (∀ x, (enc x).length = size) ∧
      (∀ (i : Nat) (v : Value) (xs : List α), l[i]? = some v → xss[i]? = some xs → ORow w O ety size α z enc xs v) ∧
      ∀ (i j : Nat) (v v' : Value) (b : Nat), (u :: l)[i]? = some v → (u :: l)[j]? = some v' → hblk v = some b → hblk v' = some b → i = j
  | .map kt vt ks agg β z enc clock es => ∃ (b : Nat) (arr : Array MapEntry), h = .map (some b) ∧ w.heap[b]? = some (.map arr clock) ∧ arr.size = es.length ∧ mwf clock es ∧ (∀ e ∈ es, keyFit ks e.2.1) ∧
      ∀ (i : Nat) (x : Nat × List KA × β) (e : MapEntry), es[i]? = some x → arr[i]? = some e → e.born = x.1 ∧ e.key = keyVal x.2.1 ∧ VRel w O agg (enc x.2.2) e.val
  | .iter m since seen last => ∃ r b : Nat, h = .pointer (some ⟨r, 0, none⟩) ∧ RC w O hs m (.map (some b)) ∧ w.heap[r]? = some (.mapIter (some b) since seen.toArray last)

def RO (w : World) (O : Nat → Prop) (hs : Nat → Value) (ob : AObj) (h : Value) : Prop :=
  match ob with
  | .gone => True
  | .cells ty cs => ∃ b vals, h = .pointer (some ⟨b, 0, none⟩) ∧ w.heap[b]? = some (.cells vals ty (0, 0)) ∧ RCs w O hs cs vals.toList
  | .ext x => x.rel w O hs h
  | .row ty size α z enc xs => (∀ x, (enc x).length = size) ∧ ∃ vs : List Value, w.ownsRow 0 ty size h xs.length vs ∧
      ∀ (i j : Nat) (d : DV), i < xs.length → (enc (xs.getD i z))[j]? = some d → ∃ cv, vs[i * size + j]? = some cv ∧ RD w O d cv

theorem VRel.imp {w w' : World} {O O' : Nat → Prop} (hD : ∀ {d v}, RD w O d v → RD w' O' d v) {agg : Bool} {ds : List DV} {v : Value} (h : VRel w O agg ds v) : VRel w' O' agg ds v := by
  cases agg with
  | true => obtain ⟨arr, e, h1, h2⟩ := h; exact ⟨arr, e, h1, fun j d u hd hu => hD (h2 j d u hd hu)⟩
  | false => obtain ⟨d, e, h1⟩ := h; exact ⟨d, e, hD h1⟩
theorem ownsRow_block {w w' : World} {ty : TypeId} {size n : Nat} {h : Value} {vs : List Value} (ho : w.ownsRow 0 ty size h n vs) (hb : ∀ b, hblk h = some b → w'.heap[b]? = w.heap[b]?) : w'.ownsRow 0 ty size h n vs := by
  refine ⟨ho.1, ?_⟩
  rcases ho.2 with hn | ⟨g, cap, cur, rfl, h0, hg, r⟩
  · exact .inl hn
  · exact .inr ⟨g, cap, cur, rfl, h0, by rw [hb g rfl]; exact hg, r⟩
theorem ORow.imp {w w' : World} {O O' : Nat → Prop} (hD : ∀ {d v}, RD w O d v → RD w' O' d v) {ty : TypeId} {size : Nat} {α : Type} {z : α} {enc : α → List DV} {xs : List α} {h : Value} (hb : ∀ b, hblk h = some b → w'.heap[b]? = w.heap[b]?)
    (hr : ORow w O ty size α z enc xs h) : ORow w' O' ty size α z enc xs h := by
  obtain ⟨h1, vs, h2, h3⟩ := hr
  exact ⟨h1, vs, ownsRow_block h2 hb, fun i j d hi hj => by
    obtain ⟨cv, e1, e2⟩ := h3 i j d hi hj
    exact ⟨cv, e1, hD e2⟩⟩
theorem XObj.imp {w w' : World} {O O' : Nat → Prop} {hs hs' : Nat → Value} {f : AC → AC} (hC : ∀ {x v}, RC w O hs x v → RC w' O' hs' (f x) v) (hD : ∀ {d v}, RD w O d v → RD w' O' d v)
    {x : XObj} {h : Value} (hb : ∀ b, x.foot h b → w'.heap[b]? = w.heap[b]?) (hr : x.rel w O hs h) : (x.amap f).rel w' O' hs' h := by
  cases x with
  | rows ty ety size α z enc xss =>
    obtain ⟨u, l, rfl, h1, h2, h3, h4⟩ := hr
    have hb' : ∀ (i : Nat) (v : Value) (b : Nat), (u :: l)[i]? = some v → hblk v = some b → w'.heap[b]? = w.heap[b]? := fun i v b hi hv => hb b ⟨u :: l, i, v, rfl, hi, hv⟩
    exact ⟨u, l, rfl, ownsRow_block h1 fun b hv => hb' 0 u b rfl hv, h2, fun i v xs hi hx => (h3 i v xs hi hx).imp hD fun b hv => hb' (i + 1) v b hi hv, h4⟩
  | map kt vt ks agg β z enc clock es =>
    obtain ⟨b, arr, rfl, h1, h2, h3, h4, h5⟩ := hr
    exact ⟨b, arr, rfl, by rw [hb b rfl]; exact h1, h2, h3, h4, fun i x e hx he => by
      obtain ⟨e1, e2, e3⟩ := h5 i x e hx he
      exact ⟨e1, e2, e3.imp hD⟩⟩
  | iter m since seen last =>
    obtain ⟨r, b, rfl, h1, h2⟩ := hr
    exact ⟨r, b, rfl, hC h1, by rw [hb r rfl]; exact h2⟩
theorem XObj.imp_m {w w' : World} {O O' : Nat → Prop} {hs hs' : Nat → Value} {x : XObj} (hC : ∀ m a b c, x = .iter m a b c → ∀ {v}, RC w O hs m v → RC w' O' hs' m v) (hD : ∀ {d v}, RD w O d v → RD w' O' d v)
    {h : Value} (hb : ∀ b, x.foot h b → w'.heap[b]? = w.heap[b]?) (hr : x.rel w O hs h) : x.rel w' O' hs' h := by
  cases x with
  | rows ty ety size α z enc xss =>
    obtain ⟨u, l, rfl, h1, h2, h3, h4⟩ := hr
    have hb' : ∀ (i : Nat) (v : Value) (b : Nat), (u :: l)[i]? = some v → hblk v = some b → w'.heap[b]? = w.heap[b]? := fun i v b hi hv => hb b ⟨u :: l, i, v, rfl, hi, hv⟩
    exact ⟨u, l, rfl, ownsRow_block h1 fun b hv => hb' 0 u b rfl hv, h2, fun i v xs hi hx => (h3 i v xs hi hx).imp hD fun b hv => hb' (i + 1) v b hi hv, h4⟩
  | map kt vt ks agg β z enc clock es =>
    obtain ⟨b, arr, rfl, h1, h2, h3, h4, h5⟩ := hr
    exact ⟨b, arr, rfl, by rw [hb b rfl]; exact h1, h2, h3, h4, fun i x e hx he => by
      obtain ⟨e1, e2, e3⟩ := h5 i x e hx he
      exact ⟨e1, e2, e3.imp hD⟩⟩
  | iter m since seen last =>
    obtain ⟨r, b, rfl, h1, h2⟩ := hr
    exact ⟨r, b, rfl, hC m _ _ _ rfl h1, by rw [hb r rfl]; exact h2⟩
theorem XObj.amap_id (x : XObj) : x.amap (fun y => y) = x := by cases x <;> rfl
theorem XObj.imp_id {w w' : World} {O O' : Nat → Prop} {hs hs' : Nat → Value} (hC : ∀ {x v}, RC w O hs x v → RC w' O' hs' x v) (hD : ∀ {d v}, RD w O d v → RD w' O' d v)
    {x : XObj} {h : Value} (hb : ∀ b, x.foot h b → w'.heap[b]? = w.heap[b]?) (hr : x.rel w O hs h) : x.rel w' O' hs' h := by
  have := XObj.imp (f := fun y => y) hC hD hb hr
  rwa [XObj.amap_id] at this
theorem foot_amap {f : AC → AC} {x : XObj} {h : Value} {b : Nat} : (x.amap f).foot h b ↔ x.foot h b := by cases x <;> exact Iff.rfl
theorem ownsRow_lt {w : World} {ty : TypeId} {size n : Nat} {h : Value} {vs : List Value} (ho : w.ownsRow 0 ty size h n vs) {b : Nat} (hb : hblk h = some b) : b < w.heap.size := by
  rcases ho.2 with ⟨rfl, _⟩ | ⟨g, cap, cur, rfl, _, hg, _⟩
  · simp [hblk] at hb
  · simp only [hblk, Option.some.injEq] at hb
    subst hb
    exact (Array.getElem?_eq_some_iff.1 hg).1
theorem tuple_inj {l l' : List Value} (h : Value.tuple l.toArray = .tuple l'.toArray) : l = l' := by
  have := congrArg Array.toList (Value.tuple.inj h)
  simpa using this
theorem XObj.foot_lt {w : World} {O : Nat → Prop} {hs : Nat → Value} {x : XObj} {h : Value} (hr : x.rel w O hs h) {b : Nat} (hf : x.foot h b) : b < w.heap.size := by
  cases x with
  | rows ty ety size α z enc xss =>
    obtain ⟨u, l, rfl, h1, h2, h3, h4⟩ := hr
    obtain ⟨l', i, v, e, hi, hv⟩ := hf
    have e := tuple_inj e
    subst e
    cases i with
    | zero => simp only [List.getElem?_cons_zero, Option.some.injEq] at hi; subst hi; exact ownsRow_lt h1 hv
    | succ i =>
      simp only [List.getElem?_cons_succ] at hi
      have hl : l.length = xss.length := by have := h1.1; omega
      have hlt : i < xss.length := by rw [← hl]; exact (List.getElem?_eq_some_iff.1 hi).1
      obtain ⟨_, vs, h5, _⟩ := h3 i v _ hi (List.getElem?_eq_getElem hlt)
      exact ownsRow_lt h5 hv
  | map kt vt ks agg β z enc clock es =>
    obtain ⟨c, arr, rfl, h1, _⟩ := hr
    simp only [XObj.foot, hblk, Option.some.injEq] at hf
    subst hf
    exact (Array.getElem?_eq_some_iff.1 h1).1
  | iter m since seen last =>
    obtain ⟨r, c, rfl, _, h2⟩ := hr
    simp only [XObj.foot, hblk, Option.some.injEq] at hf
    subst hf
    exact (Array.getElem?_eq_some_iff.1 h2).1

structure Keep (X : Nat → Prop) (w w' : World) : Prop where
  os : w'.os = w.os
  tape : w'.tape = w.tape
  output : w'.output = w.output
  size : w.heap.size ≤ w'.heap.size
  block : ∀ b, b < w.heap.size → ¬ X b → w'.heap[b]? = w.heap[b]?

theorem Keep.refl (X : Nat → Prop) (w : World) : Keep X w w := ⟨rfl, rfl, rfl, Nat.le_refl _, fun _ _ _ => rfl⟩
theorem Keep.trans {X Y : Nat → Prop} {w w1 w2 : World} (h : Keep X w w1) (k : Keep Y w1 w2) (hY : ∀ b, b < w.heap.size → ¬ X b → ¬ Y b) : Keep X w w2 :=
  ⟨k.os.trans h.os, k.tape.trans h.tape, k.output.trans h.output, Nat.le_trans h.size k.size,
    fun b hb hx => (k.block b (Nat.lt_of_lt_of_le hb h.size) (hY b hb hx)).trans (h.block b hb hx)⟩
theorem Keep.grown {X : Nat → Prop} {w w' : World} {row : Option Nat} (h : w.grownBy w' row) (hX : ∀ k, row = some k → X k) : Keep X w w' :=
  ⟨h.os, h.tape, h.output, h.size, fun b hb hx => h.block b hb fun e => hx (hX b e.symm)⟩
theorem Keep.drew (X : Nat → Prop) (w : World) : Keep X w w.drew := ⟨rfl, rfl, rfl, Nat.le_refl _, fun _ _ _ => rfl⟩
theorem Keep.alloc (X : Nat → Prop) (w : World) (o : Obj) : Keep X w (w.alloc o) := ⟨rfl, rfl, rfl, by simp, fun b hb _ => heap_alloc_old w o b hb⟩

/-- what a frame starts from: the world, the blocks that are lent to it, those that are barred, the lent objects' handles -/
structure Fr where
  w0 : World
  L : Nat → Prop
  X : Nat → Prop
  h0 : Nat → Value

def avoid (F : Fr) (objs : List AObj) (hs : Nat → Value) : Nat → Prop := fun b => own objs hs b ∨ F.X b

structure Good (w : World) (O : Nat → Prop) (objs : List AObj) (hs : Nat → Value) : Prop where
  rel : ∀ (o : Nat) (ob : AObj), objs[o]? = some ob → RO w O hs ob (hs o)
  disj : ∀ (o o' : Nat) (ob ob' : AObj) (b : Nat), objs[o]? = some ob → objs[o']? = some ob' → foot ob (hs o) b → foot ob' (hs o') b → o = o'

structure Sim (F : Fr) (st : ASt) (hs : Nat → Value) (a : Act) (w : World) : Prop where
  len : a.tmps.size = st.slots.length
  slots : ∀ (i : Nat) (av : AV) (v : Value), st.slots[i]? = some av → a.tmps[i]? = some v → RV w (avoid F st.objs hs) hs av v
  good : Good w (avoid F st.objs hs) st.objs hs
  defers : a.defers = []
  keep : Keep F.L F.w0 w
  ownb : ∀ b, own st.objs hs b → F.L b ∨ F.w0.heap.size ≤ b
  fix : ∀ o, o < st.n0 → hs o = F.h0 o
  fx : ∀ b, F.X b → b < F.w0.heap.size ∧ ¬ F.L b
  dead : ∀ o, st.objs.length ≤ o → hs o = .nilFunc
  n0le : st.n0 ≤ st.objs.length

/-! ### Carrying facts from world to world -/
theorem RC.mono {w w' : World} {O O' : Nat → Prop} {hs : Nat → Value} (hsz : w.heap.size ≤ w'.heap.size)
    (hk : ∀ b, b < w.heap.size → ¬ O b → w'.heap[b]? = w.heap[b]? ∧ ¬ O' b) {x : AC} {v : Value} (h : RC w O hs x v) : RC w' O' hs x v := by
  cases x <;> simp only [RC] at h ⊢ <;> try exact h
  case rd => exact RD.mono hsz hk h
  case md => exact RD.mono hsz hk h
  case re ds =>
    obtain ⟨b, off, rfl, hb, hO, hd⟩ := h
    refine ⟨b, off, rfl, Nat.lt_of_lt_of_le hb hsz, (hk b hb hO).2, fun j d hj => ?_⟩
    obtain ⟨cv, hc, hr⟩ := hd j d hj
    exact ⟨cv, by rw [World.cell?_of_block (w := w) (hk b hb hO).1]; exact hc, RD.mono hsz hk hr⟩

theorem RCs.mono {w w' : World} {O O' : Nat → Prop} {hs : Nat → Value} (hsz : w.heap.size ≤ w'.heap.size)
    (hk : ∀ b, b < w.heap.size → ¬ O b → w'.heap[b]? = w.heap[b]? ∧ ¬ O' b) {cs : List AC} {vs : List Value} (h : RCs w O hs cs vs) : RCs w' O' hs cs vs :=
  ⟨h.1, fun i x v hx hv => RC.mono hsz hk (h.2 i x v hx hv)⟩

theorem RP.mono {w w' : World} {O O' : Nat → Prop} {hs : Nat → Value} (hsz : w.heap.size ≤ w'.heap.size)
    (hk : ∀ b, b < w.heap.size → ¬ O b → w'.heap[b]? = w.heap[b]? ∧ ¬ O' b) {p : Bool × List AC} {v : Value} (h : RP w O hs p v) : RP w' O' hs p v := by
  obtain ⟨g, cs⟩ := p
  cases g
  · exact fun x hx => RC.mono hsz hk (h x hx)
  · obtain ⟨arr, e, hr⟩ := h
    exact ⟨arr, e, hr.mono hsz hk⟩

theorem RV.mono {w w' : World} {O O' : Nat → Prop} {hs : Nat → Value} (hsz : w.heap.size ≤ w'.heap.size)
    (hk : ∀ b, b < w.heap.size → ¬ O b → w'.heap[b]? = w.heap[b]? ∧ ¬ O' b) {x : AV} {v : Value} (h : RV w O hs x v) : RV w' O' hs x v := by
  cases x with
  | c x => exact RC.mono hsz hk h
  | agg cs => obtain ⟨arr, e, hr⟩ := h; exact ⟨arr, e, hr.mono hsz hk⟩
  | tup vs => obtain ⟨arr, e, hl, hr⟩ := h; exact ⟨arr, e, hl, fun i p u hp hu => (hr i p u hp hu).mono hsz hk⟩
  | on g x => exact ⟨fun hg => RC.mono hsz hk (h.1 hg), h.2⟩

/-- references to objects are told by the handles alone -/
def AC.refs : AC → List Nat
  | .ptr o _ => [o]
  | .sl o => [o]
  | .sub o _ _ _ => [o]
  | .el o _ _ _ => [o]
  | .xr o _ => [o]
  | .fn _ caps => caps.map (·.1)
  | _ => []
theorem RC.handles {w : World} {O : Nat → Prop} {hs hs' : Nat → Value} {x : AC} {v : Value} (h : RC w O hs x v) (he : ∀ o ∈ x.refs, hs' o = hs o) : RC w O hs' x v := by
  cases x <;> simp only [RC, AC.refs, List.mem_singleton, List.not_mem_nil, forall_eq] at h he ⊢ <;> try exact h
  case ptr => rw [he]; exact h
  case sl => rw [he]; exact h
  case sub => rw [he]; exact h
  case el => rw [he]; exact h
  case xr => rw [he]; exact h
  case fn f caps =>
    obtain ⟨arr, e, hl, hc⟩ := h
    refine ⟨arr, e, hl, fun i p hp => ?_⟩
    rw [he p.1 (List.mem_map.2 ⟨p, List.mem_of_getElem? hp, rfl⟩)]
    exact hc i p hp

theorem RC.one {w : World} {O : Nat → Prop} {hs : Nat → Value} {x : AC} {v : Value} (h : RC w O hs x v) (hf : x.fits = true) : v.oneCell' = true := by
  cases x <;> simp only [RC, AC.fits] at h hf
  case junk => cases hf
  case int => subst h; rfl
  case bool => subst h; rfl
  case str => subst h; rfl
  case raw => subst h; exact hf
  case nil => subst h; rfl
  case rd => exact RD.one h
  case md => exact RD.one h
  case re => obtain ⟨b, off, rfl, _⟩ := h; rfl
  case ptr => obtain ⟨b, _, rfl⟩ := h; rfl
  case sl o => obtain ⟨rfl, h⟩ := h; cases hv : hs o <;> simp_all [isSl, Value.oneCell']
  case sub => rcases h with ⟨_, A, cap, rfl, _⟩ | ⟨_, b, m, cap, c, _, rfl, _⟩ <;> rfl
  case el => obtain ⟨b, m, cap, _, rfl⟩ := h; rfl
  case xr => exact XRef.rel_one h
  case fn => obtain ⟨arr, rfl, _⟩ := h; rfl

theorem RO.foot_lt {w : World} {O : Nat → Prop} {hs : Nat → Value} {ob : AObj} {h : Value} (hr : RO w O hs ob h) {b : Nat} (hf : foot ob h b) : b < w.heap.size := by
  cases ob with
  | ext x => exact XObj.foot_lt hr hf
  | gone => exact hf.elim
  | cells ty cs =>
    obtain ⟨b', vals, rfl, hb, _⟩ := hr
    simp only [foot, hblk, Option.some.injEq] at hf
    subst hf
    exact (Array.getElem?_eq_some_iff.1 hb).1
  | row ty size α z enc xs =>
    obtain ⟨_, vs, ho, _⟩ := hr
    rcases ho.2 with ⟨rfl, _⟩ | ⟨g, cap, cur, rfl, _, hg, _⟩
    · simp [foot, hblk] at hf
    · simp only [foot, hblk, Option.some.injEq] at hf
      subst hf
      exact (Array.getElem?_eq_some_iff.1 hg).1

theorem Sim.own_lt {F : Fr} {st : ASt} {hs : Nat → Value} {a : Act} {w : World} (h : Sim F st hs a w) {b : Nat} (hb : own st.objs hs b) : b < w.heap.size := by
  obtain ⟨o, ob, ho, hf⟩ := hb
  exact (h.good.rel o ob ho).foot_lt hf

/-! ### Operands -/
theorem RC_acOf (w : World) (O : Nat → Prop) (hs : Nat → Value) (v : Value) : RC w O hs (acOf v) v := by
  unfold acOf
  split <;> try rfl
  rename_i a n c
  cases a with
  | some a => rfl
  | none =>
    dsimp only
    cases h : (n == 0 && c == 0) with
    | true => simp at h; obtain ⟨rfl, rfl⟩ := h; simp [RC]
    | false => simp [RC]

theorem RV_avOf (w : World) (O : Nat → Prop) (hs : Nat → Value) (v : Value) : RV w O hs (avOf v) v := by
  unfold avOf
  split
  · rename_i cs
    refine ⟨cs, rfl, by simp, fun i x v hx hv => ?_⟩
    rw [List.getElem?_map] at hx
    rw [hv] at hx
    simp only [Option.map_some, Option.some.injEq] at hx
    subst hx
    exact RC_acOf w O hs v
  · exact RC_acOf w O hs v

theorem Sim.eval {F : Fr} {st : ASt} {hs : Nat → Value} {a : Act} {w : World} (h : Sim F st hs a w) (x : Operand) :
    RV w (avoid F st.objs hs) hs (st.eval x) (a.eval x) := by
  cases x with
  | tmp t =>
    simp only [ASt.eval, Act.eval]
    by_cases ht : t < st.slots.length
    · have ht' : t < a.tmps.size := by rw [h.len]; exact ht
      have h1 : st.slots[t]? = some st.slots[t] := List.getElem?_eq_getElem ht
      have h2 : a.tmps[t]? = some a.tmps[t] := Array.getElem?_eq_getElem ht'
      have := h.slots t _ _ h1 h2
      simpa [List.getD, h1, Array.getD, ht'] using this
    · have h1 : st.slots[t]? = none := List.getElem?_eq_none (Nat.le_of_not_lt ht)
      simp [List.getD, h1, RV, RC]
  | const v => exact RV_avOf _ _ _ v
  | global g => rfl
  | func f => exact ⟨#[], rfl, by simp, fun i p hp => by simp at hp⟩

theorem RV.ac {w : World} {O : Nat → Prop} {hs : Nat → Value} {x : AV} {v : Value} {g : Bool} (h : RV w O hs x v) (hg : g = true) (hn : x.need g) : RC w O hs x.ac v := by
  cases x with
  | c x => exact h
  | agg cs => exact trivial
  | tup vs => exact trivial
  | on k x => exact h.1 (hn hg)

/-- a put of a value -/
theorem Sim.put {F : Fr} {st : ASt} {hs : Nat → Value} {a : Act} {w : World} (h : Sim F st hs a w) (d : Option Tmp) {av : AV} {v : Value}
    (hv : RV w (avoid F st.objs hs) hs av v) : Sim F (st.put d av) hs (a.put d v) w := by
  cases d with
  | none => exact h
  | some d =>
    refine ⟨by simp [ASt.put, Act.put, h.len], fun i av' v' h1 h2 => ?_, h.good, h.defers, h.keep, h.ownb, h.fix, h.fx, h.dead, h.n0le⟩
    simp only [ASt.put, Act.put] at h1 h2 ⊢
    rw [List.getElem?_set] at h1
    rw [Array.getElem?_setIfInBounds] at h2
    by_cases hd : d = i
    · subst hd
      rw [if_pos rfl] at h1 h2
      split at h1
      · split at h2
        · cases h1; cases h2; exact hv
        · cases h2
      · cases h1
    · rw [if_neg hd] at h1 h2
      exact h.slots i av' v' h1 h2

/-- the world goes on, what is not owned stays, the own objects are told anew -/
theorem Sim.step {F : Fr} {st : ASt} {hs : Nat → Value} {a : Act} {w w' : World} (h : Sim F st hs a w) (hk : Keep (own st.objs hs) w w')
    (hg : ∀ (o : Nat) (ob : AObj), st.objs[o]? = some ob → RO w' (avoid F st.objs hs) hs ob (hs o)) : Sim F st hs a w' := by
  have hm : ∀ b, b < w.heap.size → ¬ avoid F st.objs hs b → w'.heap[b]? = w.heap[b]? ∧ ¬ avoid F st.objs hs b := fun b hb hO => ⟨hk.block b hb fun ho => hO (.inl ho), hO⟩
  refine ⟨h.len, fun i av v h1 h2 => RV.mono hk.size hm (h.slots i av v h1 h2), ⟨hg, h.good.disj⟩, h.defers, ?_, h.ownb, h.fix, h.fx, h.dead, h.n0le⟩
  exact h.keep.trans hk fun b hb hL ho => (h.ownb b ho).elim hL fun hle => by omega

/-- an object whose blocks stay as they are -/
theorem RO.mono {w w' : World} {O O' : Nat → Prop} {hs : Nat → Value} (hsz : w.heap.size ≤ w'.heap.size)
    (hk : ∀ b, b < w.heap.size → ¬ O b → w'.heap[b]? = w.heap[b]? ∧ ¬ O' b) {ob : AObj} {h : Value} (hr : RO w O hs ob h)
    (hf : ∀ b, foot ob h b → w'.heap[b]? = w.heap[b]?) : RO w' O' hs ob h := by
  cases ob with
  | ext x => exact XObj.imp_id (fun hr => RC.mono hsz hk hr) (fun hr => RD.mono hsz hk hr) hf hr
  | gone => exact trivial
  | cells ty cs =>
    obtain ⟨b, vals, rfl, hb, hc⟩ := hr
    exact ⟨b, vals, rfl, by rw [hf b (by simp [foot, hblk])]; exact hb, hc.mono hsz hk⟩
  | row ty size α z enc xs =>
    obtain ⟨hs', vs, ho, hd⟩ := hr
    refine ⟨hs', vs, ⟨ho.1, ?_⟩, fun i j d hi hj => ?_⟩
    · rcases ho.2 with hn | ⟨g, cap, cur, rfl, h0, hg, r⟩
      · exact .inl hn
      · exact .inr ⟨g, cap, cur, rfl, h0, by rw [hf g (by simp [foot, hblk])]; exact hg, r⟩
    · obtain ⟨cv, h1, h2⟩ := hd i j d hi hj
      exact ⟨cv, h1, RD.mono hsz hk h2⟩

theorem Sim.drew {F : Fr} {st : ASt} {hs : Nat → Value} {a : Act} {w : World} (h : Sim F st hs a w) : Sim F st hs a w.drew :=
  h.step (Keep.drew _ w) fun o ob ho => RO.mono (w := w) (w' := w.drew) (Nat.le_refl _) (fun b hb hO => ⟨rfl, hO⟩) (h.good.rel o ob ho) fun b hb => rfl
end Go.Vc
