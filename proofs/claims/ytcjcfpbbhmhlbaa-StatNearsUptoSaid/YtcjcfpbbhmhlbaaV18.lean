/- A function's contract, said of the machine: for the rows of statements. -/
import Derived.Test.YtcjcfpbbhmhlbaaV17
set_option linter.unusedVariables false
set_option linter.unusedSimpArgs false
namespace Go.Vc
section
variable {P : Program}
/-- what is below a bound stays -/
theorem Keep.below {X : Nat → Prop} {w w' : World} (h : Keep X w w') (hX : ∀ b, b < w.heap.size → ¬ X b) : RowKit.Below w.heap.size w w' :=
  ⟨h.os, h.tape, h.output, h.size, fun k hk => h.block k hk (hX k hk)⟩

theorem ACall.top {f : FuncId} {args : List AV} {K : AV → List AObj → Prop} (h : ACall P f args [] K) {fn : Func} {c : Code} (hf : P.funcs[f]? = some fn)
    (hname : (fn.name == "runtime.NumGoroutine") = false) (hb : fn.body = some c) {w : World} {vals : Array Value} (hl : vals.size = args.length)
    (hargs : ∀ (i : Nat) (x : AV) (v : Value), args[i]? = some x → vals[i]? = some v → RV w (fun _ => False) (fun _ => .nilFunc) x v) :
    Calls P f vals w fun e w' => ∃ v, e = .returned v ∧ RowKit.Below w.heap.size w w' ∧ ∃ r os hs, K r os ∧ RV w' (own os hs) hs r v ∧ Good w' (own os hs) os hs := by
  have hno : ∀ b, ¬ own [] (fun _ => Value.nilFunc) b := fun b ⟨o, ob, ho, _⟩ => by simp at ho
  have he : (fun b => own [] (fun _ => Value.nilFunc) b ∨ (fun _ : Nat => False) b) = fun _ => False := by
    funext b
    simp [hno]
  have hr : ∀ os hs, (fun b => own os hs b ∨ (fun _ : Nat => False) b) = own os hs := fun os hs => by funext b; simp
  have hc := h (fun _ => False) (fun _ => .nilFunc) w vals (fun b hb => hb.elim) ⟨fun o ob ho => by simp at ho, fun o o' ob ob' b ho => by simp at ho⟩ (fun _ _ => rfl) hl (by rw [he]; exact hargs)
  rcases hc with ⟨_, hc⟩ | ⟨v, w', h1, _⟩
  · refine hc.mono fun e w' hR => ?_
    cases e with
    | outgrown => exact hR.elim
    | panicked c => exact hR.elim
    | returned v =>
      obtain ⟨r, os, hs', hK, hv, hG, hk, _⟩ := hR
      rw [hr] at hv hG
      exact ⟨v, rfl, hk.below fun b _ => hno b, r, os, hs', hK, hv, hG⟩
  · rw [MuLone.run_callFunc_enter hf hname hb] at h1
    cases h1
end
end Go.Vc
