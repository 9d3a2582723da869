/- A law's outcome: what must be so that it answers true. -/
import Derived.Test.YtbfmneknabhlcaaSxX
set_option linter.unusedVariables false
namespace Go.Sx

def sureF : R AV → Bool
  | .ret (.v (.bool b)) => !b
  | _ => false
/-- What must be so that the answer is true. -/
def must : R AV → Prop
  | .ret (.v (.bool b)) => b = true
  | .br b t e => match sureF t with
    | true => b = false ∧ must e
    | false => match sureF e with
      | true => b = true ∧ must t
      | false => (b = true → must t) ∧ (b = false → must e)
  | .req p k => p ∧ must k
  | .any lo k => ∀ n, lo ≤ n → must (k n)
  | _ => False

theorem must_holds : ∀ {r : R AV}, must r → r.holds (· = .b true)
  | .ret v, h => by
    unfold must at h
    split at h
    · rename_i b _ e; cases e; subst h; rfl
    · rename_i e; exact nomatch e
    · rename_i e; exact nomatch e
    · rename_i e; exact nomatch e
    · exact h.elim
  | .br b t e, h => by
    unfold must at h
    split at h
    · exact ⟨fun hb => absurd (h.1.symm.trans hb) (by decide), fun _ => must_holds h.2⟩
    · split at h
      · exact ⟨fun _ => must_holds h.2, fun hb => absurd (h.1.symm.trans hb) (by decide)⟩
      · exact ⟨fun hb => must_holds (h.1 hb), fun hb => must_holds (h.2 hb)⟩
  | .req p k, h => ⟨h.1, must_holds h.2⟩
  | .any lo k, h => fun n hn => must_holds (h n hn)
  | .look _ _, h => h.elim
  | .bad _, h => h.elim

/-- A law that answers true. -/
theorem pure_of_must {P : Program} (hP : P.follows .mixedOrders = true) {t : Tab} (ht : ∀ x ∈ t, EntryOK P x) {f : Nat} {fn : Func} (hf : P.funcs[f]? = some fn)
    (hname : (fn.name == "runtime.NumGoroutine") = false) {n : Nat} (hn : n = fn.ntmps) (sym : List Nat) (rowT : List Nat) (T : List LoopC)
    (hT : ∀ c, fn.body = some c → LoopsTold (envL P t n sym 0 rowT T) T (loopsOf c)) {vs : List AV} (hvs : allL NoIds vs)
    (hh : must (evalVal (envL P t n sym 0 rowT T) fn vs)) : PureOK P f vs (.b true) :=
  pure_of_envL hP ht hf hname hn sym rowT T hT hvs trivial (must_holds hh)

/-- A table's entries, all so. -/
theorem all_nil {P : Program} : ∀ x ∈ ([] : Tab), EntryOK P x := fun x h => nomatch h
theorem all_cons {P : Program} {x : Nat × Entry} {t : Tab} (h : EntryOK P x) (ht : ∀ y ∈ t, EntryOK P y) : ∀ y ∈ x :: t, EntryOK P y := by
  intro y hy
  rcases List.mem_cons.1 hy with rfl | hy
  · exact h
  · exact ht y hy
end Go.Sx
namespace Go.Sx
theorem PureOK.args_congr0 {P : Program} {f : Nat} {vs vs' : List AV} {v : AV} (h : PureOK P f vs v) (e : ∀ ρ, concL ρ vs' = concL ρ vs) : PureOK P f vs' v :=
  ⟨fun ρ w => by rw [e ρ]; exact h.run ρ w, h.ids⟩
end Go.Sx
