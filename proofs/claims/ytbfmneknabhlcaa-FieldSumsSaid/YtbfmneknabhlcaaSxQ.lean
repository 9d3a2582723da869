/- Contracts of functions that only compute, and tables of them. -/
import Derived.Test.YtbfmneknabhlcaaSxP
set_option linter.unusedSimpArgs false
set_option linter.unusedVariables false
namespace Go.Sx
open Go.RowKit (Below)

/-- No name of the abstract memory. -/
abbrev NoIds : Nat → Prop := fun _ => False

/-- A call that only computes: in any world it hands back v; what was there stays as it was. -/
structure PureOK (P : Program) (f : Nat) (vs : List AV) (v : AV) : Prop where
  run : ∀ ρ w, CallRun P f (concL ρ vs).toArray w fun x w' => x = conc ρ v ∧ Below w.heap.size w w'
  ids : v.all NoIds

def evalVal (E : Env) (fn : Func) (vs : List AV) : R AV := (evalBody E fn vs .e 0).bind fun x => .ret x.1

theorem tr_e_no {α : Type} {k : Nat} {o : α} (h : (Tr.e : Tr α).get k = some o) : False := by rw [tr_e_get] at h; cases h

theorem memOK_start (w : World) (ρ : Nat → Loc) : MemOK { w0 := w, prot := fun b => b < w.heap.size } NoIds ρ (Tr.e : Tr AObj).get w where
  use := fun id o e => (tr_e_no e).elim
  obj := fun id o e => (tr_e_no e).elim
  sep := fun id id' o o' e => (tr_e_no e).elim
  own := fun id o e => (tr_e_no e).elim
  os := rfl
  tape := rfl
  output := rfl
  size := Nat.le_refl _
  kept := fun _ _ => rfl
  plt := fun _ h => h
  pin := fun i l e => (by cases e)

theorem pure_of_eval {E : Env} (hE : EnvOK' E) {f : Nat} {fn : Func} (hf : E.P.funcs[f]? = some fn) (hname : (fn.name == "runtime.NumGoroutine") = false) (hn : E.n = fn.ntmps)
    (hL : ∀ c, fn.body = some c → LoopsOK E (loopsOf c)) {vs : List AV} {v : AV} (hvs : allL NoIds vs) (hv : v.all NoIds) (hh : (evalVal E fn vs).holds (· = v)) : PureOK E.P f vs v := by
  refine ⟨fun ρ w => ?_, hv⟩
  unfold evalVal at hh
  rw [R.holds_bind] at hh
  have hm := memOK_start w ρ
  refine (body_ok hE hf hname hn hL hh (fun i l h => by cases h) hm (fun i hi => hi.elim) hvs).mono fun x w' ⟨y, s, ρ', U', hK, hx, hm', hy, _, _⟩ => ?_
  have hyv : y = v := hK
  subst hyv
  refine ⟨by rw [hx, conc_congr (fun i hi => hi.elim) hv], hm'.os, hm'.tape, hm'.output, hm'.size, fun k hk => hm'.kept k hk⟩

/-- A function without a body, by the model's own entry. -/
theorem pure_of_extern {P : Program} {f : Nat} {vs : List AV} {v : AV} (hv : v.all NoIds) (h : ∀ ρ w, (callFunc f (concL ρ vs).toArray).run P w = .ok (.value (conc ρ v)) w) : PureOK P f vs v :=
  ⟨fun ρ w => by unfold CallRun; rw [h ρ w]; exact ⟨rfl, Below.refl _ _⟩, hv⟩

/-! ### tables -/
abbrev Entry := List AV → Option (R AV)
abbrev Tab := List (Nat × Entry)
def look : Tab → Nat → Option Entry
  | [], _ => none
  | (g, e) :: l, f => cond (Nat.beq g f) (some e) (look l f)
def tabCalls (t : Tab) : Nat → List AV → Nat → Option (R Out) := fun f vs _ =>
  match look t f with
  | some e => match e vs with
    | some r => some (r.bind fun v => .ret ⟨v, []⟩)
    | none => none
  | none => none

/-- What an entry tells is so. -/
def EntryOK (P : Program) (x : Nat × Entry) : Prop := ∀ vs r, x.2 vs = some r → (∃ v, r = .ret v ∧ PureOK P x.1 vs v) ∨ ∃ p v, r = .req p (.ret v) ∧ (p → PureOK P x.1 vs v)

theorem look_mem : ∀ {t : Tab} {f : Nat} {e : Entry}, look t f = some e → (f, e) ∈ t
  | [], _, _, h => nomatch h
  | (g, e') :: l, f, e, h => by
    simp only [look] at h
    cases hb : Nat.beq g f with
    | true =>
      rw [hb] at h
      have : g = f := by simpa [nbeq] using hb
      simp at h
      subst this; subst h; simp
    | false => rw [hb] at h; exact List.mem_cons_of_mem _ (look_mem h)

theorem tabCalls_ok {P : Program} {t : Tab} (h : ∀ x ∈ t, EntryOK P x) : CallsOK P (tabCalls t) := by
  intro B U ρ g w f vs nid r K hr hm hn hv hK
  unfold tabCalls at hr
  split at hr
  · rename_i e he
    split at hr
    · rename_i r' hr'
      cases hr
      have key : ∀ v, K ⟨v, []⟩ → PureOK P f vs v → CallRun P f (concL ρ vs).toArray w fun v w' => ∃ out ρ', K out ∧ v = conc ρ' out.val ∧ (∀ i, U i → ρ' i = ρ i) ∧ MemOK B (orU U (newIds nid)) ρ' (wrF g out.wr) w' ∧
          out.val.all (orU U (newIds nid)) := fun v hKv hp =>
        (hp.run ρ w).mono fun x w' ⟨hx, hb⟩ => ⟨⟨v, []⟩, ρ, hKv, hx, fun _ _ => rfl, (hm.below hb).mono fun _ h => .inl h, all_mono (fun _ h => h.elim) hp.ids⟩
      rcases h _ (look_mem he) vs r' hr' with ⟨v, rfl, hp⟩ | ⟨p, v, rfl, hp⟩
      · exact key v hK hp
      · exact key v hK.2 (hp hK.1)
    · exact nomatch hr
  · exact nomatch hr

theorem noInl_ok (P : Program) : InlOK P (fun _ _ _ _ => none) := fun B U ρ m w f vs nx r K h => nomatch h
theorem noLoops_ok {P : Program} {n : Nat} {sym : List Nat} {calls : Nat → List AV → Nat → Option (R Out)} {inl : Nat → List AV → Tr AObj → Nat → Option (R (AV × Tr AObj × Nat))} {fuel : Nat} (root : List Code) :
    LoopsOK { P := P, n := n, sym := sym, calls := calls, inl := inl, loops := fun _ _ => none, fuel := fuel } root := fun c hc k s r hk h => nomatch h

/-- The everyday surroundings: a table of contracts, no calls gone into, loops gone round. -/
abbrev env (P : Program) (t : Tab) (n : Nat) (sym : List Nat) : Env :=
  { P := P, n := n, sym := sym, calls := tabCalls t, inl := fun _ _ _ _ => none, loops := fun _ _ => none, fuel := 1000 }

theorem env_ok {P : Program} (hP : P.follows .mixedOrders = true) {t : Tab} (ht : ∀ x ∈ t, EntryOK P x) (n : Nat) (sym : List Nat) : EnvOK' (env P t n sym) :=
  ⟨⟨tabCalls_ok ht, noInl_ok P⟩, hP⟩

theorem pure_of_env {P : Program} (hP : P.follows .mixedOrders = true) {t : Tab} (ht : ∀ x ∈ t, EntryOK P x) {f : Nat} {fn : Func} (hf : P.funcs[f]? = some fn)
    (hname : (fn.name == "runtime.NumGoroutine") = false) {n : Nat} (hn : n = fn.ntmps) (sym : List Nat) {vs : List AV} {v : AV} (hvs : allL NoIds vs) (hv : v.all NoIds)
    (hh : (evalVal (env P t n sym) fn vs).holds (· = v)) : PureOK P f vs v :=
  pure_of_eval (E := env P t n sym) (env_ok hP ht n sym) hf hname hn (fun c _ => noLoops_ok _) hvs hv hh
end Go.Sx
