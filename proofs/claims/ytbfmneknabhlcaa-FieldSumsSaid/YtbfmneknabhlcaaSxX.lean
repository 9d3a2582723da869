/- Calls that are gone into. -/
import Derived.Test.YtbfmneknabhlcaaSxS
set_option linter.unusedVariables false
namespace Go.Sx
open Go.RowKit (Below)

/-- Calls that are gone into: the callee's code, in the caller's names. -/
def inlOf (F : Nat → Option (Env × Func)) : Nat → List AV → Tr AObj → Nat → Option (R (AV × Tr AObj × Nat)) := fun f vs m nx =>
  match F f with
  | some (E, fn) => some ((evalBody { E with np := nx } fn vs m nx).bind fun x => .ret (x.1, x.2.mem, x.2.nx))
  | none => none

structure InOK (P : Program) (f : Nat) (E : Env) (fn : Func) : Prop where
  p : E.P = P
  env : EnvOK' E
  get : P.funcs[f]? = some fn
  name : (fn.name == "runtime.NumGoroutine") = false
  n : E.n = fn.ntmps
  loops : E.loops = fun _ _ => none

theorem inlOf_ok {P : Program} {F : Nat → Option (Env × Func)} (h : ∀ f E fn, F f = some (E, fn) → InOK P f E fn) : InlOK P (inlOf F) := by
  intro B U ρ m w f vs nx r K hr hm hU hv hK
  unfold inlOf at hr
  split at hr
  · rename_i E fn hF
    cases hr
    obtain ⟨h1, h2, h3, h4, h5, h6⟩ := h f E fn hF
    subst h1
    rw [R.holds_bind] at hK
    let B' : Base := { w0 := B.w0, prot := B.prot, pin := fun i => open Classical in if U i then some (ρ i) else none }
    have hm' : MemOK B' U ρ m.get w := ⟨hm.use, hm.obj, hm.sep, hm.own, hm.os, hm.tape, hm.output, hm.size, hm.kept, hm.plt, fun i l e => by
      simp only [B'] at e
      split at e
      · rename_i hi; cases e; exact ⟨hi, rfl⟩
      · exact nomatch e⟩
    have hE' : EnvOK' { E with np := nx } := ⟨⟨h2.1.calls, h2.1.inl⟩, h2.2⟩
    refine (body_ok (E := { E with np := nx }) (B := B') hE' h3 h4 h5 (fun c hc => ?_) hK (fun i l e => ?_) hm' hU hv).mono fun v w' ⟨x, s, ρ', U', hK', hx, hm'', hx', hn, hu⟩ => ?_
    · intro c hc k s r hk hr
      have hr' : E.loops k s = some r := hr
      rw [h6] at hr'
      exact nomatch hr'
    · simp only [B'] at e
      split at e
      · rename_i hi; exact hU i hi
      · exact nomatch e
    · have hp : ∀ i, U i → U' i ∧ ρ' i = ρ i := fun i hi => hm''.pin i (ρ i) (by simp only [B']; exact if_pos hi)
      refine ⟨x, s.mem, s.nx, ρ', U', hK', hx, fun i hi => (hp i hi).2, ⟨hm''.use, hm''.obj, hm''.sep, hm''.own, hm''.os, hm''.tape, hm''.output, hm''.size, hm''.kept, hm''.plt, fun i l e => ?_⟩, hx', hn, fun i hi => (hp i hi).1, hu⟩
      obtain ⟨a1, a2⟩ := hm.pin i l e
      exact ⟨(hp i a1).1, by rw [(hp i a1).2]; exact a2⟩
  · exact nomatch hr
end Go.Sx
