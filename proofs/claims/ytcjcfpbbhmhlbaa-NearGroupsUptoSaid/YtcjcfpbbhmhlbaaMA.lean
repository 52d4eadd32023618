/- slices.Sort at []string, by the shelf's contract. -/
import Derived.Test.YtcjcfpbbhmhlbaaVT
import Derived.Ground.NamesProg
import Derived.Shelf.Slices.In.SortAlone
import Derived.Shelf.Slices.In.SortNone
import Derived.Sort.OwnSorted
import Derived.Sort.EveryDepth
import Derived.Lib.OwnBridge
set_option linter.unusedVariables false
set_option linter.unusedSimpArgs false
namespace Go.Proofs
open Go.RowKit Go.Shelf Go.Sort
def Try.laysSort_ren : Ren where
  f := fun x => match x with
    | 190 => 50
    | 125 => 63
    | 258 => 62
    | 128 => 77
    | 129 => 40
    | 302 => 68
    | 303 => 69
    | 304 => 70
    | 305 => 71
    | 306 => 72
    | 307 => 73
    | 308 => 74
    | 309 => 75
    | 310 => 76
    | 333 => 79
    | 329 => 80
    | 330 => 81
    | 334 => 82
    | 335 => 83
    | 336 => 64
    | 344 => 84
    | n => n
  t := fun x => match x with
    | 31 => 74
    | 9 => 9
    | 3 => 3
    | 46 => 94
    | 0 => 0
    | 51 => 103
    | 53 => 80
    | 4 => 4
    | 183 => 108
    | 182 => 107
    | 131 => 113
    | 5 => 5
    | 218 => 116
    | 222 => 120
    | 228 => 122
    | 229 => 51
    | n => n
  g := fun x => x
theorem Try.laysSort : Lays.n190 Try.prog Try.laysSort_ren where
  mixed := by kernel_rfl
  f125 := Eq.trans Try.func63 (congrArg some (by kernel_rfl))
  f128 := Eq.trans Try.func77 (congrArg some (by kernel_rfl))
  f129 := Eq.trans Try.func40 (congrArg some (by kernel_rfl))
  f190 := Eq.trans Try.func50 (congrArg some (by kernel_rfl))
  f258 := Eq.trans Try.func62 (congrArg some (by kernel_rfl))
  f302 := Eq.trans Try.func68 (congrArg some (by kernel_rfl))
  f303 := Eq.trans Try.func69 (congrArg some (by kernel_rfl))
  f304 := Eq.trans Try.func70 (congrArg some (by kernel_rfl))
  f305 := Eq.trans Try.func71 (congrArg some (by kernel_rfl))
  f306 := Eq.trans Try.func72 (congrArg some (by kernel_rfl))
  f307 := Eq.trans Try.func73 (congrArg some (by kernel_rfl))
  f308 := Eq.trans Try.func74 (congrArg some (by kernel_rfl))
  f309 := Eq.trans Try.func75 (congrArg some (by kernel_rfl))
  f310 := Eq.trans Try.func76 (congrArg some (by kernel_rfl))
  f329 := Eq.trans Try.func80 (congrArg some (by kernel_rfl))
  f330 := Eq.trans Try.func81 (congrArg some (by kernel_rfl))
  f333 := Eq.trans Try.func79 (congrArg some (by kernel_rfl))
  f334 := Eq.trans Try.func82 (congrArg some (by kernel_rfl))
  f335 := Eq.trans Try.func83 (congrArg some (by kernel_rfl))
  f336 := Eq.trans Try.func64 (congrArg some (by kernel_rfl))
  f344 := Eq.trans Try.func84 (congrArg some (by kernel_rfl))
  t0 := Try.underlying0
  a0 := Try.isAgg0
  z0 := Try.sizeOf0
  v0 := Try.zeroValue0
  t3 := Try.underlying3
  a3 := Try.isAgg3
  z3 := Try.sizeOf3
  v3 := Try.zeroValue3
  t4 := Try.underlying4
  a4 := Try.isAgg4
  z4 := Try.sizeOf4
  v4 := Try.zeroValue4
  t5 := Try.underlying5
  a5 := Try.isAgg5
  z5 := Try.sizeOf5
  v5 := Try.zeroValue5
  t9 := Try.underlying9
  a9 := Try.isAgg9
  z9 := Try.sizeOf9
  v9 := Try.zeroValue9
  t31 := Try.underlying74
  a31 := Try.isAgg74
  z31 := Try.sizeOf74
  v31 := Try.zeroValue74
  t46 := Try.underlying94
  a46 := Try.isAgg94
  z46 := Try.sizeOf94
  v46 := Try.zeroValue94
  t51 := Try.underlying103
  a51 := Try.isAgg103
  z51 := Try.sizeOf103
  v51 := Try.zeroValue103
  t53 := Try.underlying80
  a53 := Try.isAgg80
  z53 := Try.sizeOf80
  v53 := Try.zeroValue80
  t131 := Try.underlying113
  a131 := Try.isAgg113
  z131 := Try.sizeOf113
  v131 := Try.zeroValue113
  t182 := Try.underlying107
  a182 := Try.isAgg107
  z182 := Try.sizeOf107
  v182 := Try.zeroValue107
  t183 := Try.underlying108
  a183 := Try.isAgg108
  z183 := Try.sizeOf108
  v183 := Try.zeroValue108
  t218 := Try.underlying116
  a218 := Try.isAgg116
  z218 := Try.sizeOf116
  v218 := Try.zeroValue116
  t222 := Try.underlying120
  a222 := Try.isAgg120
  z222 := Try.sizeOf120
  v222 := Try.zeroValue120
  t228 := Try.underlying122
  a228 := Try.isAgg122
  z228 := Try.sizeOf122
  v228 := Try.zeroValue122
  t229 := Try.underlying51
  a229 := Try.isAgg51
  z229 := Try.sizeOf51
  v229 := Try.zeroValue51
theorem Try.sortNo : Try.laysSort_ren.f 190 = 50 := rfl
theorem Try.sort_c (blk off cap : Nat) (zs : List (List UInt8)) (w : World) (hH : Holds encStr w blk off zs.toArray) (hblk : blk < w.heap.size) (hsz : zs.length < 4611686018427387904) :
    Calls Try.prog 50 #[.slice (some ⟨blk, off, none⟩) zs.length cap] w fun e w' =>
      e = .returned (.tuple #[]) ∧ ∃ n os, w' = grow (putRow encStr (Sort.ahead w n) blk off (zs.mergeSort fun x y => decide (x ≤ y)).toArray) os :=
  calls_of_every_depth fun D => AnyS.slices_Sort_string_alone Try.laysSort D blk off cap zs w hH hblk hsz
theorem Try.sort_none (p : Option Addr) (cap : Nat) (w : World) : Calls Try.prog 50 #[.slice p 0 cap] w fun e w' => e = .returned (.tuple #[]) ∧ w' = w :=
  calls_of_every_depth fun D => AnyS.slices_Sort_string_none_alone Try.laysSort D p cap w
end Go.Proofs
namespace Go.Vc
open Go.Proofs
def sortS (xs : List ByteArray) : List ByteArray := ((xs.map fun s => s.data.toList).mergeSort fun x y => decide (x ≤ y)).map fun l => ⟨l.toArray⟩
abbrev rowS (xs : List ByteArray) : AObj := .row 9 1 ByteArray ⟨#[]⟩ (fun s => [.str s]) xs
theorem sortS_len {xs : List ByteArray} : (sortS xs).length = xs.length := by simp [sortS]
theorem sort_spec (xs : List ByteArray) (hx : xs.length < 4611686018427387904) : ACall Try.prog 50 [.c (.sl 0)] [rowS xs] (fun r os => r = .tup [] ∧ os = [rowS (sortS xs)]) := by
  intro X hs w vals hX hG hdead hsz hargs
  obtain ⟨henc, vs, hown, hcell⟩ := hG.rel 0 _ rfl
  have hv : vals = #[hs 0] := by
    have h1 : vals.size = 1 := hsz
    have h2 := hargs 0 (.c (.sl 0)) vals[0] rfl (Array.getElem?_eq_getElem (by omega))
    have h3 : vals[0] = hs 0 := h2.1
    apply Array.ext
    · simpa using h1
    · intro i hi1 hi2
      have : i = 0 := by omega
      subst this
      simpa using h3
  subst hv
  have hvl : vs.length = xs.length := by have := hown.1; omega
  have evs : vs = (xs.map fun s => s.data.toList).map encStr := by
    apply List.ext_getElem
    · simp [hvl]
    · intro i h1 h2
      obtain ⟨cv, e1, e2⟩ := hcell i 0 (.str (xs.getD i ⟨#[]⟩)) (by omega) rfl
      simp only [Nat.mul_one, Nat.add_zero] at e1
      rw [List.getElem?_eq_getElem h1] at e1
      have h3 : i < xs.length := by omega
      have h4 : cv = .string (xs.getD i ⟨#[]⟩) := by cases e2; rfl
      rw [h4] at e1
      simp only [Option.some.injEq] at e1
      rw [e1]
      simp [List.getD, h3]
  rw [evs] at hown
  refine .inl ⟨fun args w => MuLone.run_callFunc_enter Try.func50 rfl rfl args w, ?_⟩
  have hrow : ∀ (w' : World) (v : Value), w'.ownsRow 0 9 1 v xs.length (((xs.map fun s => s.data.toList).mergeSort fun x y => decide (x ≤ y)).map encStr) → ∀ O, RO w' O hs (rowS (sortS xs)) v := fun w' v h O => by
    refine ⟨henc, _, by rw [sortS_len]; exact h, fun i j d hi hj => ?_⟩
    rw [sortS_len] at hi
    have hj0 : j = 0 := by
      cases j with
      | zero => rfl
      | succ j => cases hj
    subst hj0
    cases hj
    refine ⟨.string ((sortS xs).getD i ⟨#[]⟩), ?_, .str _⟩
    simp only [Nat.mul_one, Nat.add_zero]
    have h3 : i < ((xs.map fun s => s.data.toList).mergeSort fun x y => decide (x ≤ y)).length := by simpa using hi
    simp [sortS, List.getD, List.getElem?_eq_getElem h3, encStr]
  by_cases hn : hs 0 = .slice none 0 0
  · have hx0 : xs = [] := by
      rcases hown.2 with ⟨_, h⟩ | ⟨g, cap, cur, h, _⟩
      · exact List.eq_nil_of_length_eq_zero h
      · rw [hn] at h; cases h
    subst hx0
    rw [hn]
    refine (Try.sort_none none 0 w).mono fun e w' ⟨he, hw⟩ => ?_
    subst he hw
    refine ⟨.tup [], [rowS []], hs, ⟨rfl, by simp [sortS]⟩, ⟨#[], rfl, rfl, fun i p u hp => by simp at hp⟩, hG, Keep.refl _ _, fun b hb => .inl hb, fun _ _ => rfl, hdead, Nat.le_refl _⟩
  · obtain ⟨g, cap, hg, _, hlt, hle, hcm, hlen, hH⟩ := Lib.holds_of_ownsRow (enc := encStr) hown hn
    have hlen' : (xs.map fun s => s.data.toList).length = xs.length := by simp
    have hc := Try.sort_c g 0 cap (xs.map fun s => s.data.toList) w hH hlt (by omega)
    rw [hlen', ← hg] at hc
    refine hc.mono fun e w' ⟨he, n, os, hw⟩ => ?_
    subst he
    have hfoot : ∀ b, own [rowS (sortS xs)] hs b ↔ own [rowS xs] hs b := fun b => by
      constructor
      · rintro ⟨o, ob, h1, h2⟩
        match o, h1 with
        | 0, h1 => cases h1; exact ⟨0, _, rfl, h2⟩
      · rintro ⟨o, ob, h1, h2⟩
        match o, h1 with
        | 0, h1 => cases h1; exact ⟨0, _, rfl, h2⟩
    have hgb : w.grownBy w' (some g) := by rw [hw]; exact grownBy_sorted _
    obtain ⟨k1, k2, k3, k4, k5⟩ := hgb
    have hgown : own [rowS xs] hs g := ⟨0, _, rfl, by show hblk (hs 0) = some g; rw [hg]; rfl⟩
    refine ⟨.tup [], [rowS (sortS xs)], hs, ⟨rfl, rfl⟩, ⟨#[], rfl, rfl, fun i p u hp => by simp at hp⟩, ⟨fun o ob ho => ?_, fun o o' ob ob' b h1 h2 h3 h4 => ?_⟩, ⟨k1, k2, k3, k4, fun b hb hX' => k5 b hb ?_⟩, fun b hb => .inl ((hfoot b).1 hb), fun _ _ => rfl, hdead, Nat.le_refl _⟩
    · match o, ho with
      | 0, ho =>
        cases ho
        refine hrow w' (hs 0) ?_ _
        rw [hw, hg]
        rcases hown.2 with ⟨h, _⟩ | ⟨g', cap', cur, h, hb0, hb, h1, h2, h3, h4⟩
        · exact absurd h hn
        · rw [hg] at h
          cases h
          have := ownsRow_sorted (w := w) (base := 0) (g := g) (cap := cap) (n := n) (os := os) (ss := xs.map fun s => s.data.toList) (ts := (xs.map fun s => s.data.toList).mergeSort fun x y => decide (x ≤ y)) (by simp) (Nat.zero_le _) hb (by omega) hcm h3
          rw [hlen'] at this
          exact this
    · match o, o', h1, h2 with
      | 0, 0, _, _ => rfl
    · intro e
      cases e
      exact hX' hgown
/-- an argument that is a whole own row, told as a part of it -/
theorem CallAt.partArg {P : Program} {f : FuncId} {args : List AV} {st : ASt} {K : AV → ASt → Prop} (k o : Nat) {ty : TypeId} {size : Nat} {α : Type} {z : α} {enc : α → List DV} {xs : List α} (hk : args[k]? = some (.c (.sl o))) (ho : st.obj o = .row ty size α z enc xs)
    (h : CallAt P f (args.set k (.c (.sub o size 0 xs.length))) st K) : CallAt P f args st K := by
  intro F hs a w vals hS hl hargs
  refine h F hs a w vals hS (by simpa using hl) fun i x v hx hv => ?_
  rw [List.getElem?_set] at hx
  by_cases hik : k = i
  · subst hik
    rw [if_pos rfl] at hx
    split at hx
    · cases hx
      have hv0 : v = hs o ∧ isSl (hs o) = true := hargs k _ v hk hv
      have hob := obj_some ho (by simp)
      obtain ⟨henc, vs, hrow, _⟩ := hS.good.rel o _ hob
      rcases hrow.2 with ⟨e1, e2⟩ | ⟨g, cap, cur, e, h0, hg, r⟩
      · refine .inl ⟨e2, none, 0, by rw [hv0.1, e1], by simp [maxLen], fun _ => rfl, hv0.2, fun b m cp hb => ?_⟩
        rw [e1] at hb
        cases hb
      · obtain ⟨r1, r2, _⟩ := r
        by_cases hpos : 0 < xs.length
        · refine .inr ⟨by omega, g, xs.length, cap, cap, e, by rw [hv0.1, e]; simp, ?_, ?_, hpos, by omega, ?_⟩
          all_goals omega
        · have hz : xs.length = 0 := by omega
          refine .inl ⟨hz, some ⟨g, 0, none⟩, cap, by rw [hv0.1, e, hz], r2, (fun h => by cases h), hv0.2, fun b m cp hb => ?_⟩
          rw [e] at hb
          cases hb
          omega
    · cases hx
  · rw [if_neg hik] at hx
    exact hargs i x v hx hv
end Go.Vc
