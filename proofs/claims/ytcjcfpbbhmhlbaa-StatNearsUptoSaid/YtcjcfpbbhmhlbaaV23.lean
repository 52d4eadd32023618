/- Arguments of a row's function, read as data. -/
import Derived.Test.YtcjcfpbbhmhlbaaV22
import Derived.SizedLaws
import Derived.ChangeSlices
set_option linter.unusedVariables false
set_option linter.unusedSimpArgs false
namespace Go.Vc
open Go.ChangeShapes Go.WideShapes
theorem open_row {H : Type} {enc : TypeId × Value → H} {P : Program} {W : World} {held : Bool} {t e : TypeId} {k : IntKind} {a : Option Addr} {len cap : Nat} {d : DataW H} {ps : List MemPlace} {ts : List TypeId} {ds : List (DataW H)} {j : Nat}
    (hsz : (DataW.weightsEach P ts ds).all (· ≤ reachBytes) = true) (ht : ts[j]? = some t) (hd : ds[j]? = some d) (hu : P.underlying t = some (.slice e)) (he : P.underlying e = some (.int k)) (hc : P.cellsOf e = 1) {B : Nat} (hB : P.bytesOf e = B)
    (h : DataW.Trod enc P W 0 (fun _ => true) held t (.slice a len cap) d ps) :
    ∃ xs : List Int, RD W (fun _ => False) (.list 1 Int 0 (fun n => [.int k n]) xs) (.slice a len cap) ∧ xs.length * B ≤ 140737488351232 ∧ ∀ x ∈ xs, (Lit.int k x).wf = true := by
  obtain ⟨fuel, hf⟩ := h
  rcases open_ints hu he hc hf with ⟨hcs, _⟩ | ⟨x, l, c, zs, hcs, _, hl, hm, hz, hx, hcell, hwf⟩
  · simp [Value.cells] at hcs
    obtain ⟨rfl, rfl, rfl⟩ := hcs
    exact ⟨[], .empty _ _ _ _ _ _ (Nat.zero_le _) (fun _ => rfl), by simp, fun x hx => by cases hx⟩
  · simp [Value.cells] at hcs
    obtain ⟨rfl, rfl, rfl⟩ := hcs
    obtain ⟨hx, _⟩ := Prod.mk.inj hx
    subst hx
    have z := sized_slice hsz ht hd hu
    rw [hB] at z
    rw [if_pos rfl] at hz
    have h1 : (lits (H := H) k (zs.take len)).length + (lits (H := H) k (zs.drop len)).length = zs.length := by
      simp [lits]
      omega
    rw [h1] at z
    have hlen : (zs.take len).length = len := by simp; omega
    refine ⟨zs.take len, ?_, by rw [hlen]; exact Nat.le_trans (Nat.mul_le_mul_right _ (by omega)) z, fun y hy => hwf y (List.mem_of_mem_take hy)⟩
    by_cases h0 : len = 0
    · subst h0
      rw [List.take_zero]
      exact .empty _ _ _ _ _ _ hm (fun e => by cases e)
    · have hc0 := hcell 0 (by omega)
      have ha : x.add 0 = x := by simp [Addr.add]
      rw [ha] at hc0
      have hsp : x.spot = none := by
        cases hs : x.spot with
        | none => rfl
        | some b =>
          simp only [World.cell?, hs] at hc0
          split at hc0
          · simp at hc0
          · cases hc0
      obtain ⟨b, off, sp⟩ := x
      simp only at hsp
      subst hsp
      have hb : b < W.heap.size := World.block_lt_of_cell? W ⟨b, off, none⟩ hc0
      have key := RD.list (w := W) (O := fun _ => False) 1 Int 0 (fun n => [DV.int k n]) (zs.take len) b off cap (fun i _ => .int k (zs.getD i 0)) (by omega) (fun e => e) hb (by omega) hm (fun _ => rfl) (fun i j hi hj => by
        have hj0 : j = 0 := by omega
        subst hj0
        have := hcell i (by omega)
        rw [Addr.add_lit] at this
        simpa using this) (fun i j d hi hj => by
        cases j with
        | zero =>
          simp only [List.getElem?_cons_zero, Option.some.injEq] at hj
          subst hj
          rw [List.getD_eq_getElem?_getD, List.getElem?_take, if_pos (by omega), ← List.getD_eq_getElem?_getD]
          exact .int _ _
        | succ j => simp at hj)
      rw [hlen] at key
      exact key
end Go.Vc
