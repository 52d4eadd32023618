/- Functions without a body; bytes counted. -/
import Derived.Test.YtcjcfpbbhmhlbaaV21
import Derived.Lib.BytesEntry
import Derived.Lib.Bytealg
import Derived.Laws.Externs
set_option linter.unusedVariables false
set_option linter.unusedSimpArgs false
namespace Go.Vc
section
variable {P : Program}
theorem ACall.extern {f : FuncId} {fn : Func} {e : Array Value → Sem Value} {args : List AV} {K : AV → List AObj → Prop} (hf : P.funcs[f]? = some fn) (hname : (fn.name == "runtime.NumGoroutine") = false)
    (hb : fn.body.isNone = true) (hn : Extern.findNext fn = none) (he : Extern.find fn = some e)
    (h : ∀ (w : World) (O : Nat → Prop) (hs : Nat → Value) (vals : Array Value), vals.size = args.length → (∀ (i : Nat) (x : AV) (v : Value), args[i]? = some x → vals[i]? = some v → RV w O hs x v) →
      ∃ v r, (e vals).run P w = .ok v w ∧ K r [] ∧ RV w O hs r v) : ACall P f args [] K := by
  intro X hs w vals h1 h2 h3 h4 h5
  obtain ⟨v, r, h6, h7, h8⟩ := h w _ hs vals h4 h5
  refine .inr ⟨v, w, by rw [run_callFunc_extern hf hname hb hn he, h6]; rfl, r, [], hs, h7, h8, h2, Keep.refl _ _, fun b hb => .inl hb, fun _ _ => rfl, h3, Nat.le_refl _⟩

theorem RD.int_eq {w : World} {O : Nat → Prop} {k : IntKind} {n : Int} {v : Value} (h : RD w O (.int k n) v) : v = .int k n := by
  cases h
  rfl
theorem RD.bytes {w : World} {O : Nat → Prop} {xs : List Int} {v : Value} (h : RD w O (.list 1 Int 0 encU8 xs) v) : (Extern.Bytes.bytesOf v).run P w = .ok (strOf xs) w := by
  generalize hd : DV.list 1 Int 0 encU8 xs = d at h
  cases h <;> try (cases hd; done)
  case empty A cap hc hn =>
    simp only [DV.list.injEq] at hd
    obtain ⟨e1, e2, e3, e4, e5⟩ := hd
    subst e1 e2
    simp only [heq_eq_eq] at e5
    subst e5
    cases A with
    | none => rfl
    | some a => simp [Extern.Bytes.bytesOf, loadBytes, strOf]; rfl
  case list b off cap val h0 hO hb hcap hc hs hcell hrd =>
    simp only [DV.list.injEq] at hd
    obtain ⟨e1, e2, e3, e4, e5⟩ := hd
    subst e1 e2
    simp only [heq_eq_eq] at e3 e4 e5
    subst e3 e4 e5
    have hl := Lib.run_loadBytesX (P := P) w xs ⟨b, off, none⟩ .empty (fun j x hj => by
      have hjl : j < xs.length := (List.getElem?_eq_some_iff.1 hj).1
      have e : (⟨b, off, none⟩ : Addr).add j = ⟨b, off + j, none⟩ := by unfold Addr.add; split <;> simp_all
      have h1 := hcell j 0 hjl (by decide)
      have h2 := hrd j 0 (.int .u8 (xs.getD j 0)) hjl rfl
      simp only [Nat.mul_one, Nat.add_zero] at h1
      rw [e, h1]
      have h3 : val j 0 = .int .u8 (xs.getD j 0) := RD.int_eq h2
      rw [h3, List.getD_eq_getElem?_getD, hj]
      rfl)
    simp only [Extern.Bytes.bytesOf]
    rw [hl]
    congr 1
    apply ByteArray.ext
    show (#[] : Array UInt8) ++ (Lib.bytesOf xs).toArray = _
    simp [strOf, Lib.bytesOf]

theorem LoopAt.adopt {body : Code} {Q : Exit → ASt → Prop} {st : ASt} (i : Nat) (ty : TypeId) (size : Nat) (α : Type) (z : α) (enc : α → List DV) (hi : st.slots[i]? = some (.c .nil)) (henc : ∀ x, (enc x).length = size)
    (h : LoopAt P body Q (Vc.adopt st i ty size α z enc)) : LoopAt P body Q st := AWP.adopt i ty size α z enc hi henc h
/-- a call that is shown own rows -/
theorem CallAt.view {f : FuncId} {args : List AV} {st : ASt} {K : AV → ASt → Prop} (vs : List Nat) {args' : List AV} {K' : AV → List AObj → Prop} (h : ACall P f args' [] K')
    (ha : args' = args.map (AV.map (callArg st.objs [] vs))) (hfl : ∀ r os, K' r os → r.flat ∧ ∀ ob ∈ os, ob.flat) (hK : ∀ r os, K' r os → K (r.map (AC.ren (backIx [] st.objs.length))) (afterCall st [] os)) : CallAt P f args st K :=
  CallAt.call [] vs h .nil (fun _ h => by cases h) (fun _ _ h => by cases h) ha rfl (.inr hfl) hK
end
end Go.Vc
