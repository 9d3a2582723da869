/- Regions whose order is open: every order comes to what the text's order comes to. -/
import Derived.Test.YtbfmneknabhlcaaSxK
set_option linter.unusedSimpArgs false
set_option linter.unusedVariables false
namespace Go.Sx
open Go.RowKit (Below)

/-- What a tree of outcomes comes to. -/
def R.gets {α : Type} : R α → α → Prop
  | .ret a, b => a = b
  | .br c t e, b => (c = true ∧ gets t b) ∨ (c = false ∧ gets e b)
  | .req p k, b => p ∧ gets k b
  | _, _ => False

theorem R.run_gets {α : Type} {m : Tr AObj} {K : α × List Nat → Prop} : ∀ {r : R α} {ids : List Nat}, (R.run true m r ids).holds K → ∃ x, (R.run true m r ids).gets x ∧ K x
  | .ret a, ids, h => ⟨_, rfl, h⟩
  | .br b t e, ids, h => by
    cases b with
    | true =>
      obtain ⟨x, h1, h2⟩ := run_gets (r := t) (ids := ids) (h.1 rfl)
      exact ⟨x, .inl ⟨rfl, h1⟩, h2⟩
    | false =>
      obtain ⟨x, h1, h2⟩ := run_gets (r := e) (ids := ids) (h.2 rfl)
      exact ⟨x, .inr ⟨rfl, h1⟩, h2⟩
  | .req p k, ids, h => by
    obtain ⟨x, h1, h2⟩ := run_gets (r := k) (ids := ids) h.2
    exact ⟨x, ⟨h.1, h1⟩, h2⟩
  | .any _ _, _, h => by simp only [R.run] at h; exact h.elim
  | .look id k, ids, h => by
    simp only [R.run] at h ⊢
    split at h
    · rename_i o ho
      exact run_gets (r := k (some o)) h
    · exact h.elim
  | .bad _, _, h => h.elim

theorem R.gets_ids {α : Type} {m : Tr AObj} {out : α} {acc : List Nat} : ∀ {r : R α} {ids : List Nat}, (R.run true m r ids).gets (out, acc) → ∀ x ∈ ids, x ∈ acc
  | .ret a, ids, h, x, hx => by cases h; exact hx
  | .br b t e, ids, h, x, hx => by
    rcases h with ⟨_, h⟩ | ⟨_, h⟩
    · exact gets_ids (r := t) h x hx
    · exact gets_ids (r := e) h x hx
  | .req p k, ids, h, x, hx => gets_ids (r := k) h.2 x hx
  | .any _ _, _, h, x, hx => by simp only [R.run] at h; exact h.elim
  | .look id k, ids, h, x, hx => by
    simp only [R.run] at h
    split at h
    · rename_i o ho
      exact gets_ids (r := k (some o)) h x (List.mem_cons_of_mem _ hx)
    · exact h.elim
  | .bad _, _, h, x, hx => h.elim

theorem R.gets_res {α : Type} {m : Tr AObj} {g : Nat → Option AObj} {out : α} {acc : List Nat} (hg : ∀ id o, id ∈ acc → m.get id = some o → g id = some o) :
    ∀ {r : R α} {ids : List Nat}, (R.run true m r ids).gets (out, acc) → (R.res g r).holds (· = out)
  | .ret a, ids, h => by cases h; rfl
  | .br b t e, ids, h => by
    rcases h with ⟨hb, h⟩ | ⟨hb, h⟩
    · exact ⟨fun _ => gets_res hg (r := t) h, fun e => by rw [hb] at e; exact Bool.noConfusion e⟩
    · exact ⟨fun e' => by rw [hb] at e'; exact Bool.noConfusion e', fun _ => gets_res hg (r := e) h⟩
  | .req p k, ids, h => ⟨h.1, gets_res hg (r := k) h.2⟩
  | .any _ _, _, h => by simp only [R.run] at h; exact h.elim
  | .look id k, ids, h => by
    simp only [R.run] at h
    simp only [R.res]
    split at h
    · rename_i o ho
      rw [hg id o (gets_ids h id (by simp)) ho]
      exact gets_res hg (r := k (some o)) h
    · exact h.elim
  | .bad _, _, h => h.elim

/-! ### an operation asks its operands alone -/
theorem evs_local {ev ev' : Operand → Option AV} : ∀ {l : List Operand}, (∀ x ∈ l, ev x = ev' x) → evs ev l = evs ev' l
  | [], _ => rfl
  | x :: l, h => by simp only [evs, h x (by simp), evs_local (fun y hy => h y (List.mem_cons_of_mem _ hy))]
theorem evParts_local {ev ev' : Operand → Option AV} : ∀ {l : List (Nat × Operand)}, (∀ x ∈ l.map (·.2), ev x = ev' x) → evParts ev l = evParts ev' l
  | [], _ => rfl
  | (i, x) :: l, h => by simp only [evParts, h x (by simp), evParts_local (l := l) (fun y hy => h y (by simp only [List.map_cons]; exact List.mem_cons_of_mem _ hy))]
theorem evOpt_local {ev ev' : Operand → Option AV} {x : Option Operand} (h : ∀ y ∈ x.toList, ev y = ev' y) : evOpt ev x = evOpt ev' x := by
  cases x with
  | none => rfl
  | some y => simp only [evOpt, h y (by simp)]

theorem aop_local {E : Env} {ev ev' : Operand → Option AV} {sy : Bool} {nid : Nat} {o : Oper} (h : ∀ x ∈ o.op.operands.toList, ev x = ev' x) : aop E ev sy nid o = aop E ev' sy nid o := by
  unfold aop
  cases hop : o.op <;> rw [hop] at h <;> simp only [Op.operands, Call.operands] at h
  case unOp op t x => have hx := h x (by simp); cases op <;> simp only [hx]
  case makeFunc fn first cap => have hc := evs_local (ev := ev) (ev' := ev') (l := cap.toList) (fun x hx => h x (by simp [hx])); cases fn <;> simp only [hc]
  case call c =>
    obtain ⟨callee, args, ats⟩ := c
    have ha := evs_local (ev := ev) (ev' := ev') (l := args.toList) (fun x hx => h x (by simp at hx ⊢; exact .inr hx))
    simp only [ha]
    cases callee with
    | value g => have hg := h g (by simp); simp only [hg]
    | invoke _ _ => rfl
    | builtin _ => rfl
  case slice t x lo hi mx =>
    have hx := h x (by simp)
    have h1 := evOpt_local (ev := ev) (ev' := ev') (x := lo) (fun y hy => h y (by simp at hy ⊢; exact .inr (.inl hy)))
    have h2 := evOpt_local (ev := ev) (ev' := ev') (x := hi) (fun y hy => h y (by simp at hy ⊢; exact .inr (.inr (.inl hy))))
    have h3 := evOpt_local (ev := ev) (ev' := ev') (x := mx) (fun y hy => h y (by simp at hy ⊢; exact .inr (.inr (.inr hy))))
    simp only [hx, h1, h2, h3]
  case build t ps => have hp := evParts_local (ev := ev) (ev' := ev') (l := ps.toList) (fun y hy => h y (by simpa using hy)); simp only [hp]
  case buildSlice t len ps => have hp := evParts_local (ev := ev) (ev' := ev') (l := ps.toList) (fun y hy => h y (by simpa using hy)); simp only [hp]
  case makeMap t r => cases r <;> rfl
  case move x => simp only [h x (by simp)]
  case assign x => simp only [h x (by simp)]
  case pick c x y => simp only [h c (by simp), h x (by simp), h y (by simp)]
  case box e x => simp only [h x (by simp)]
  case load t x => simp only [h x (by simp)]
  case store t x y => simp only [h x (by simp), h y (by simp)]
  case nilCheck x => simp only [h x (by simp)]
  case binOp op t x y yt => simp only [h x (by simp), h y (by simp)]
  case convert src dst x => simp only [h x (by simp)]
  case sliceToArrayPointer t x => simp only [h x (by simp)]
  case mapUpdate t m k v => simp only [h m (by simp), h k (by simp), h v (by simp)]
  case insert t m k v => simp only [h m (by simp), h k (by simp), h v (by simp)]
  case lookup t m k ok => simp only [h m (by simp), h k (by simp)]
  case makeSlice t l c => simp only [h l (by simp), h c (by simp)]
  case fieldAddr t x f => simp only [h x (by simp)]
  case field t x f => simp only [h x (by simp)]
  case indexAddr t x ix => simp only [h x (by simp), h ix (by simp)]
  case index t x ix => simp only [h x (by simp), h ix (by simp)]
  case extract x ix => simp only [h x (by simp)]
  all_goals rfl
end Go.Sx
