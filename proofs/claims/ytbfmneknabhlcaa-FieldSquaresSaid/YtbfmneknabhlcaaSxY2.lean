/- A law's outcome, way by way. -/
import Derived.Test.YtbfmneknabhlcaaSxY
set_option linter.unusedVariables false
namespace Go.Sx
/-- What must be so, way by way. -/
def must2 : R AV → Prop
  | .ret (.v (.bool b)) => b = true
  | .br b t e => (b = true → must2 t) ∧ (b = false → must2 e)
  | .req p k => p ∧ must2 k
  | .any lo k => ∀ n, lo ≤ n → must2 (k n)
  | _ => False
theorem must2_holds : ∀ {r : R AV}, must2 r → r.holds (· = .b true)
  | .ret v, h => by
    unfold must2 at h
    split at h
    · rename_i b _ e; cases e; subst h; rfl
    · rename_i e; exact nomatch e
    · rename_i e; exact nomatch e
    · rename_i e; exact nomatch e
    · exact h.elim
  | .br b t e, h => ⟨fun hb => must2_holds (h.1 hb), fun hb => must2_holds (h.2 hb)⟩
  | .req p k, h => ⟨h.1, must2_holds h.2⟩
  | .any lo k, h => fun n hn => must2_holds (h n hn)
  | .look _ _, h => h.elim
  | .bad _, h => h.elim
theorem pure_of_must2 {P : Program} (hP : P.follows .mixedOrders = true) {t : Tab} (ht : ∀ x ∈ t, EntryOK P x) {f : Nat} {fn : Func} (hf : P.funcs[f]? = some fn)
    (hname : (fn.name == "runtime.NumGoroutine") = false) {n : Nat} (hn : n = fn.ntmps) (sym : List Nat) (rowT : List Nat) (T : List LoopC)
    (hT : ∀ c, fn.body = some c → LoopsTold (envL P t n sym 0 rowT T) T (loopsOf c)) {vs : List AV} (hvs : allL NoIds vs)
    (hh : must2 (evalVal (envL P t n sym 0 rowT T) fn vs)) : PureOK P f vs (.b true) :=
  pure_of_envL hP ht hf hname hn sym rowT T hT hvs trivial (must2_holds hh)
end Go.Sx
