/- Regions whose order is the text's. -/
import Derived.Test.YtbfmneknabhlcaaSxH
set_option linter.unusedSimpArgs false
set_option linter.unusedVariables false
namespace Go.Sx
open Go.RowKit (Below)

/-- A frame and a world are as an abstract state tells. -/
structure Sim (B : Base) (n : Nat) (U : Nat → Prop) (ρ : Nat → Loc) (t : Nat → Option AV) (g : Nat → Option AObj) (a : Act) (w : World) : Prop where
  size : a.tmps.size = n
  df : a.defers = B.df
  tm : ∀ k v, t k = some v → a.tmps.getD k undef = conc ρ v ∧ v.all U
  mem : MemOK B U ρ g w

abbrev SimS (B : Base) (n : Nat) (U : Nat → Prop) (ρ : Nat → Loc) (s : St) (a : Act) (w : World) : Prop := Sim B n U ρ s.tm.get s.mem.get a w

section
variable {P : Program} {B : Base} {w w' : World} {ρ ρ' : Nat → Loc} {U U' : Nat → Prop} {g g' : Nat → Option AObj} {t t' : Nat → Option AV} {n : Nat} {a : Act}

theorem Sim.ev (h : Sim B n U ρ t g a w) : ∀ x v, (match x with | .tmp k => t k | .const v => some (ofValue v) | .func f => some (.f f []) | .global _ => none : Option AV) = some v →
    a.eval x = conc ρ v ∧ v.all U := by
  intro x v hv
  cases x with
  | tmp k => exact h.tm k v hv
  | const c => cases hv; exact ⟨(conc_ofValue ρ c).symm, ofValue_all U c⟩
  | func f => cases hv; exact ⟨by simp [Act.eval, conc, concL], trivial⟩
  | global _ => exact nomatch hv

theorem Sim.evS {s : St} (h : SimS B n U ρ s a w) : ∀ x v, opnd s.tm x = some v → a.eval x = conc ρ v ∧ v.all U := by
  intro x v hv
  refine Sim.ev h x v ?_
  cases x <;> exact hv

theorem Sim.sub (h : Sim B n U ρ t g a w) (ht : ∀ k v, t' k = some v → t k = some v) (hg : ∀ k o, g' k = some o → g k = some o) : Sim B n U ρ t' g' a w :=
  ⟨h.size, h.df, fun k v e => h.tm k v (ht _ _ e), h.mem.sub hg⟩

theorem getD_put {a : Act} {d : Nat} {v : Value} {k : Nat} (hd : d < a.tmps.size) :
    (a.put (some d) v).tmps.getD k undef = if k = d then v else a.tmps.getD k undef := by
  simp only [Act.put, Array.getD_eq_getD_getElem?, Array.getElem?_setIfInBounds]
  by_cases h : d = k
  · subst h; simp [hd]
  · rw [if_neg h, if_neg (fun e => h e.symm)]

/-- Behind an operation: its slot, and the memory. -/
theorem Sim.step (h : Sim B n U ρ t g a w) (hρ : ∀ i, U i → ρ' i = ρ i) (hU : ∀ i, U i → U' i) (hm : MemOK B U' ρ' g' w') {v : AV} (hv : v.all U') (dst : Option Tmp)
    (hd : ∀ d, dst = some d → d < n) (ht : ∀ k u, t' k = some u → (dst = some k ∧ u = v) ∨ (dst ≠ some k ∧ t k = some u)) :
    Sim B n U' ρ' t' g' (a.put dst (conc ρ' v)) w' := by
  cases dst with
  | none =>
    refine ⟨h.size, h.df, fun k u e => ?_, hm⟩
    rcases ht k u e with ⟨h1, _⟩ | ⟨_, h2⟩
    · exact nomatch h1
    · obtain ⟨e1, e2⟩ := h.tm k u h2
      exact ⟨by rw [conc_congr hρ e2]; exact e1, all_mono hU e2⟩
  | some d =>
    have hlt : d < a.tmps.size := by rw [h.size]; exact hd d rfl
    refine ⟨by simp [Act.put, h.size], h.df, fun k u e => ?_, hm⟩
    rw [getD_put hlt]
    rcases ht k u e with ⟨h1, rfl⟩ | ⟨h1, h2⟩
    · cases h1
      rw [if_pos rfl]
      exact ⟨rfl, hv⟩
    · rw [if_neg (fun e => h1 (by rw [e]))]
      obtain ⟨e1, e2⟩ := h.tm k u h2
      exact ⟨by rw [conc_congr hρ e2]; exact e1, all_mono hU e2⟩

theorem putT_spec {n : Nat} {tm tm' : Tr AV} {dst : Option Tmp} {v : AV} (h : putT n tm dst v = some tm') :
    (∀ d, dst = some d → d < n) ∧ ∀ k u, tm'.get k = some u → (dst = some k ∧ u = v) ∨ (dst ≠ some k ∧ tm.get k = some u) := by
  unfold putT at h
  split at h
  · cases h; exact ⟨fun _ h => (nomatch h), fun k u hu => Or.inr ⟨fun h => (nomatch h), hu⟩⟩
  · rename_i d
    split at h
    · rename_i hd
      cases h
      refine ⟨fun d' e => by cases e; simpa using hd, fun k u hu => ?_⟩
      rcases Tr.get_set hu with ⟨rfl, rfl⟩ | ⟨h1, h2⟩
      · exact .inl ⟨rfl, rfl⟩
      · exact .inr ⟨fun e => h1 (by cases e; rfl), h2⟩
    · exact nomatch h

theorem wrF_sub : ∀ {l : List (Nat × AObj)} {g g' : Nat → Option AObj}, (∀ k o, g k = some o → g' k = some o) → ∀ k o, wrF g l k = some o → wrF g' l k = some o
  | [], _, _, h, k, o, e => h k o e
  | (i, x) :: l, g, g', h, k, o, e => by
    refine wrF_sub (l := l) (g := updF g i x) (g' := updF g' i x) (fun k o e => ?_) k o e
    simp only [updF] at e ⊢
    split
    · rename_i hk; rw [if_pos hk] at e; exact e
    · rename_i hk; rw [if_neg hk] at e; exact h k o e

theorem setMem_spec : ∀ {l : List (Nat × AObj)} {m : Tr AObj} {k : Nat} {o : AObj}, (setMem m l).get k = some o → wrF m.get l k = some o
  | [], _, _, _, h => h
  | (i, x) :: l, m, k, o, h => by
    have := setMem_spec (l := l) h
    refine wrF_sub (l := l) (g := (m.set i x).get) (g' := updF m.get i x) (fun k o e => ?_) k o this
    rcases Tr.get_set e with ⟨rfl, rfl⟩ | ⟨h1, h2⟩
    · simp [updF]
    · simp [updF, h1, h2]

/-- What a table of calls that are gone into tells is so. -/
def InlOK (P : Program) (inl : Nat → List AV → Tr AObj → Nat → Option (R (AV × Tr AObj × Nat))) : Prop :=
  ∀ (B : Base) (U : Nat → Prop) (ρ : Nat → Loc) (m : Tr AObj) (w : World) (f : Nat) (vs : List AV) (nx : Nat) (r : R (AV × Tr AObj × Nat)) (K : AV × Tr AObj × Nat → Prop),
    inl f vs m nx = some r → MemOK B U ρ m.get w → (∀ i, U i → i < nx) → allL U vs → r.holds K →
    CallRun P f (concL ρ vs).toArray w fun v w' => ∃ x m' nx' ρ' U', K (x, m', nx') ∧ v = conc ρ' x ∧ (∀ i, U i → ρ' i = ρ i) ∧ MemOK B U' ρ' m'.get w' ∧ x.all U' ∧ nx ≤ nx' ∧
      (∀ i, U i → U' i) ∧ ∀ i, U' i → i < nx'

theorem wp_of_call {o : Oper} {a : Act} {f : Nat} {args : Array Value} {post : Value → World → Prop} {next : Act → World → Prop} {Q : Exit → Act → World → Prop}
    (he : (execOp a.eval o).run P w = (callFunc f args).run P w) (hc : CallRun P f args w post) (hn : ∀ v w', post v w' → next (a.put o.dst v) w') : o.wp P a w next Q := by
  unfold Oper.wp
  rw [he]
  unfold CallRun at hc
  split at hc
  · rename_i f' xs w' hrun
    rw [hrun, Oper.upon_enter]
    refine hc.mono fun e w'' hh => ?_
    cases e with
    | returned v => exact hn _ _ hh
    | panicked _ => exact hh.elim
    | outgrown => exact hh.elim
  · rename_i v w' hrun
    rw [hrun, Oper.upon_value]
    exact hn _ _ hc
  · exact hc.elim

structure EnvOK (E : Env) : Prop where
  calls : CallsOK E.P E.calls
  inl : InlOK E.P E.inl

theorem plain_ok {E : Env} (hE : EnvOK E) {s : St} {sy : Bool} {o : Oper} {nid idx nx' : Nat} {dec : List Nat} (h : SimS B E.n U ρ s a w) (hn : ∀ i, newIds nid i → ¬ U i)
    {V : Nat → Prop} (hV : allocs o.op = true → ∀ i, newIds nid i → V i) {quiet : Bool} {K : St × Tn → Prop}
    (hh : ((R.run quiet s.mem (aop E (opnd s.tm) sy nid o) []).bind fun (out, acc) => match putT E.n s.tm o.dst out.val with
      | some tm => .ret (⟨tm, setMem s.mem out.wr, nx', dec⟩, ⟨idx, acc, out.wr.map (·.1)⟩)
      | none => .bad "slot's number" : R (St × Tn)).holds K)
    {next : Act → World → Prop} {Q : Exit → Act → World → Prop}
    (hnext : ∀ s' x ρ' a' w', K (s', x) → s'.nx = nx' → SimS B E.n (orU U V) ρ' s' a' w' → next a' w') : o.wp E.P a w next Q := by
  rw [R.holds_bind] at hh
  have hr := R.run_res hh
  refine aop_ok hE.calls h.mem hn hV h.evS hr fun out ρ' w' hK hρ hm hv => ?_
  obtain ⟨acc, hK⟩ := hK
  dsimp only at hK
  split at hK
  · rename_i tm htm
    obtain ⟨p1, p2⟩ := putT_spec htm
    exact hnext _ _ ρ' _ w' hK rfl (Sim.step h hρ (fun _ h => .inl h) (hm.sub fun k o e => setMem_spec e) hv o.dst p1 p2)
  · exact hK.elim

/-- An operation in the text's order. -/
theorem doOp_ok {E : Env} (hE : EnvOK E) {s : St} {o : Oper} {base idx : Nat} (h : SimS B E.n U ρ s a w) (hU : ∀ i, U i → i < s.nx)
    {K : St × Tn → Prop} (hh : (doOp E false base idx o s).holds K) {next : Act → World → Prop} {Q : Exit → Act → World → Prop}
    (hnext : ∀ s' x U' ρ' a' w', K (s', x) → s.nx ≤ s'.nx → (∀ i, U' i → i < s'.nx) → SimS B E.n U' ρ' s' a' w' → next a' w') : o.wp E.P a w next Q := by
  have hn : ∀ i, newIds s.nx i → ¬ U i := fun i hi hu => by
    have := hU i hu
    simp only [newIds] at hi
    omega
  have hplain : ∀ {sy : Bool} (r : R Out), r = aop E (opnd s.tm) sy s.nx o →
      ((R.run false s.mem r []).bind fun (out, acc) => match putT E.n s.tm o.dst out.val with
        | some tm => .ret (⟨tm, setMem s.mem out.wr, (match allocs o.op with | true => s.nx + 4 | false => s.nx), newDec o s⟩, ⟨idx, acc, out.wr.map (·.1)⟩)
        | none => .bad "slot's number" : R (St × Tn)).holds K → o.wp E.P a w next Q := by
    intro sy r hr hh
    subst hr
    refine plain_ok hE h hn (V := fun i => allocs o.op = true ∧ newIds s.nx i) (fun ha i hi => ⟨ha, hi⟩) hh fun s' x ρ' a' w' hK e hs => hnext s' x _ ρ' a' w' hK ?_ (fun i hi => ?_) hs
    · rw [e]; split <;> omega
    · rw [e]
      rcases hi with hi | ⟨ha, hi⟩
      · have := hU i hi; split <;> omega
      · simp only [ha]; simp only [newIds] at hi; omega
  unfold doOp at hh
  simp only at hh
  split at hh
  · rename_i gx args ats _ hop
    split at hh
    · rename_i fn cap vs hg hvs
      split at hh
      · rename_i r hr
        refine hplain (sy := false) r ?_ hh
        unfold aop
        rw [hop]
        simp only [hvs, hg, hr]
      · split at hh
        · rename_i r hr
          rw [R.holds_bind] at hh
          obtain ⟨e1, e2⟩ := evs_conc h.evS hvs
          have hgc := h.evS _ _ hg
          have hall : allL U (vs ++ cap) := allL_iff.2 fun x hx => by
            rcases List.mem_append.1 hx with hx | hx
            · exact allL_iff.1 e2 x hx
            · exact allL_iff.1 hgc.2 x hx
          have hc := hE.inl B U ρ s.mem w fn (vs ++ cap) s.nx r _ hr h.mem hU hall hh
          have ea : args.map a.eval = (concL ρ vs).toArray := by rw [← e1, ← Array.toList_inj]; simp
          refine wp_of_call (f := fn) (args := (concL ρ (vs ++ cap)).toArray) ?_ hc ?_
          · simp only [execOp, hop, resolve, hgc.1, conc, Deferred.ofValue, Sem.run_bind, Sem.run_pure, Result.andThen_ok, invoke, ea]
            simp [concL_eq]
          · rintro v w' ⟨x, m', nx', ρ', U', hK, rfl, hρ, hm, hx, hnx', hUU, hU'⟩
            dsimp only at hK
            split at hK
            · rename_i tm htm
              obtain ⟨p1, p2⟩ := putT_spec htm
              exact hnext _ _ U' ρ' _ w' hK hnx' hU' (Sim.step h hρ hUU hm hx o.dst p1 p2)
            · exact hK.elim
        · exact hh.elim
    · exact hh.elim
  · exact hplain _ rfl hh
end
end Go.Sx
