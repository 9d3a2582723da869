/- The abstract machine's operators are the model's. -/
import Derived.Test.YtbfmneknabhlcaaSxD
set_option linter.unusedSimpArgs false
set_option linter.unusedVariables false
namespace Go.Sx
open Go.RowKit (Below)

theorem needR_holds {α : Type} {sy : Bool} {p : Prop} [Decidable p] {k : R α} {K : α → Prop} (h : (needR sy p k).holds K) : p ∧ k.holds K := by
  unfold needR at h
  split at h
  · exact h
  · split at h
    · rename_i hd; exact ⟨of_decide_eq_true hd, h⟩
    · exact h.elim

/-- What is looked up, in a memory that is a function. -/
def R.res {α : Type} (g : Nat → Option AObj) : R α → R α
  | .ret a => .ret a
  | .br b t e => .br b (res g t) (res g e)
  | .req p k => .req p (res g k)
  | .any lo k => .any lo fun n => res g (k n)
  | .look id k => res g (k (g id))
  | .bad w => .bad w

theorem R.run_res {α : Type} {q : Bool} {m : Tr AObj} {K : α × List Nat → Prop} : ∀ {r : R α} {ids : List Nat}, (R.run q m r ids).holds K → (R.res m.get r).holds fun a => ∃ acc, K (a, acc)
  | .ret _, ids, h => ⟨ids, h⟩
  | .br _ _ _, _, h => ⟨fun e => run_res (h.1 e), fun e => run_res (h.2 e)⟩
  | .req _ _, _, h => ⟨h.1, run_res h.2⟩
  | .any _ _, _, h => fun n hn => by
    unfold R.run at h
    split at h
    · exact h.elim
    · exact run_res (h n hn)
  | .look id k, ids, h => by
    simp only [R.run] at h
    simp only [R.res]
    split at h
    · rename_i o ho
      rw [ho]
      exact run_res h
    · exact h.elim
  | .bad _, _, h => h.elim

theorem R.res_bind {α β : Type} {g : Nat → Option AObj} {f : α → R β} : ∀ {r : R α}, R.res g (r.bind f) = (R.res g r).bind fun a => R.res g (f a)
  | .ret _ => rfl
  | .br _ t e => by simp only [R.bind, R.res, res_bind (r := t), res_bind (r := e)]
  | .req _ k => by simp only [R.bind, R.res, res_bind (r := k)]
  | .any _ k => by simp only [R.bind, R.res, R.any.injEq, true_and]; exact funext fun n => res_bind (r := k n)
  | .look id k => by simp only [R.bind, R.res, res_bind (r := k (g id))]
  | .bad _ => rfl

theorem res_needR {α : Type} {g : Nat → Option AObj} {sy : Bool} {p : Prop} [Decidable p] {k : R α} : R.res g (needR sy p k) = needR sy p (R.res g k) := by
  unfold needR
  split
  · rfl
  · split <;> rfl

theorem ikEq_iff {a b : IntKind} (h : ikEq a b = true) : a = b := by
  cases a <;> cases b <;> first | rfl | (simp [ikEq, IntKind.ctorIdx] at h)

section
variable {P : Program} {w : World} {ρ : Nat → Loc} {U : Nat → Prop} {g : Nat → Option AObj}

theorem aequal_sound : ∀ (d D : Nat) (t : TypeId) (x y : AV) (b : Bool), d ≤ D → aequal P d t x y = some b → (Op.equalIn D t (conc ρ x) (conc ρ y)).run P w = .ok b w
  | 0, _, _, _, _, _, _, h => by simp [aequal] at h
  | d + 1, 0, _, _, _, _, hd, _ => by omega
  | d + 1, D + 1, t, x, y, b, hd, h => by
    have ih : ∀ t x y b, aequal P d t x y = some b → (Op.equalIn D t (conc ρ x) (conc ρ y)).run P w = .ok b w := fun t x y b =>
      aequal_sound d D t x y b (by omega)
    unfold aequal at h
    split at h
    · rename_i hu
      cases h
      simp only [conc]; exact run_equalIn_bool' w D t _ _ hu
    · rename_i hu
      split at h
      · rename_i hk
        have := ikEq_iff hk; subst this
        cases h
        simp only [conc]; exact run_equalIn_int w D t _ _ _ _ hu
      · exact nomatch h
    · rename_i hu
      cases h
      simp only [conc]
      rw [run_equalIn_string w D t _ _ hu, ByteArray.toList_eq, ByteArray.toList_eq]
    · rename_i fs xs ys hu
      split at h
      · exact nomatch h
      · rename_i hs
        simp only [conc]
        have hf : P.fieldsOf t = fs := by simp [Program.fieldsOf, hu]
        rw [run_equalIn_struct w D t _ _ (by rw [hf]; exact hu) hs, hf]
        generalize fs.toList = l at h
        clear hu hf hs
        induction l generalizing b with
        | nil => simp only [eqFields, Option.some.injEq] at h; subst h; simp [Op.eqFields]
        | cons f l ihl =>
          simp only [eqFields] at h
          split at h
          · exact nomatch h
          · rename_i hname
            split at h
            · rename_i u v h1 h2
              split at h
              · rename_i b1 c1 h3 h4
                cases h
                have hne : f.name ≠ "_" := by simpa using hname
                have hr := ihl c1 h4
                simp only [Op.eqFields, hne, ne_eq, not_false_eq_true, if_true, Sem.run_bind, run_part h1, run_part h2, Result.andThen_ok, ih _ _ _ _ h3, Sem.run_ite]
                cases b1
                · simp
                · simpa using hr
              · exact nomatch h
            · exact nomatch h
    · rename_i len e xs ys hu
      split at h
      · exact nomatch h
      · rename_i n hn
        simp only [conc]
        have hn' : ∃ i, P.info? e = some i ∧ i.size = n := by simpa [asz] using hn
        obtain ⟨i, hi, hin⟩ := hn'
        simp only [Op.equalIn, Sem.run_bind, run_underlying t hu, Result.andThen_ok, run_sizeOf e hi, hin]
        simp only [Std.Legacy.Range.forIn_eq_forIn_range', Std.Legacy.Range.size, Nat.sub_zero, Nat.add_sub_cancel, Nat.div_one]
        clear hu hn
        generalize 0 = i0 at h ⊢
        induction len generalizing i0 b with
        | zero => simp only [eqElems, Option.some.injEq] at h; subst h; simp
        | succ k ihk =>
          simp only [eqElems] at h
          split at h
          · rename_i u v h1 h2
            split at h
            · rename_i b1 c1 h3 h4
              cases h
              have hr := ihk c1 (i0 + 1) h4
              rw [List.range'_succ]
              simp only [List.forIn_cons, Sem.run_bind, run_part h1, run_part h2, Result.andThen_ok, ih _ _ _ _ h3, Sem.run_ite]
              cases b1
              · simp
              · simp only [Bool.not_true, Bool.false_eq_true, if_false, Sem.run_pure, Result.andThen_ok, Bool.true_and]
                exact hr
            · exact nomatch h
          · exact nomatch h
    · exact nomatch h
end
end Go.Sx
