/- Regions whose order is the text's: all their operations. -/
import Derived.Test.YtbfmneknabhlcaaSxI
set_option linter.unusedSimpArgs false
set_option linter.unusedVariables false
namespace Go.Sx
open Go.RowKit (Below)

section
variable {P : Program} {B : Base} {w w' : World} {ρ ρ' : Nat → Loc} {U U' : Nat → Prop} {g g' : Nat → Option AObj} {t t' : Nat → Option AV} {n : Nat} {a : Act}

theorem getD_bool {xs : Array Value} {d : Nat} {b : Bool} (h : xs.getD d undef = .bool b) : xs[d]? = some (.bool b) := by
  rw [Array.getD_eq_getD_getElem?] at h
  cases e : xs[d]? with
  | none => rw [e] at h; simp [undef] at h
  | some v => rw [e] at h; simp at h; rw [h]

theorem yielded_bool {all : List Oper} {a : Act} {j d : Nat} {b : Bool} (hj : (lnth all j).bind (·.dst) = some d) (h : a.tmps.getD d undef = .bool b) : yielded all.toArray a.tmps j = some b := by
  unfold yielded
  rw [lnth_eq] at hj
  simp only [List.getElem?_toArray, hj, Option.bind_some, getD_bool h]

theorem yielded_tuple {all : List Oper} {a : Act} {j d : Nat} {vs : Array Value} (hj : (lnth all j).bind (·.dst) = some d) (h : a.tmps.getD d undef = .tuple vs) : yielded all.toArray a.tmps j = none := by
  unfold yielded
  rw [lnth_eq] at hj
  simp only [List.getElem?_toArray, hj, Option.bind_some]
  rw [Array.getD_eq_getD_getElem?] at h
  cases e : a.tmps[d]? with
  | none => rfl
  | some v => rw [e] at h; simp at h; subst h; rfl

theorem wanted_none {o : Oper} (h : o.guard = none) (y : Nat → Option Bool) : Region.wanted o y = true := by unfold Region.wanted; rw [h]
theorem wanted_some {o : Oper} {j : Nat} {want : Bool} (h : o.guard = some (j, want)) (y : Nat → Option Bool) : Region.wanted o y = (y j == some want) := by unfold Region.wanted; rw [h]

theorem Sim.skip (h : Sim B n U ρ t g a w) (dst : Option Tmp) (hd : ∀ d, dst = some d → d < n) (ht : ∀ k u, t' k = some u → (dst = some k ∧ u = .v undef) ∨ (dst ≠ some k ∧ t k = some u)) :
    Sim B n U ρ t' g (a.put dst undef) w :=
  Sim.step (v := .v undef) h (fun _ _ => rfl) (fun _ h => h) h.mem trivial dst hd ht

theorem Sim.refine {s : St} (h : SimS B n U ρ s a w) {d : Nat} {b : Bool} (hd : s.tm.get d = some (.v (.bool b))) (dec : List Nat) : SimS B n U ρ ⟨s.tm.set d (.v (.bool b)), s.mem, s.nx, dec⟩ a w :=
  Sim.sub h (fun k v e => by
    rcases Tr.get_set e with ⟨rfl, rfl⟩ | ⟨_, h2⟩
    · exact hd
    · exact h2) (fun _ _ h => h)

theorem evalOps_ok {E : Env} (hE : EnvOK E) {all : List Oper} {base N : Nat} {Q : Exit → Act → World → Prop} {K : St × List Tn → Prop} :
    ∀ (l : List Oper) (idx : Nat) (s : St) (tr : List Tn) (a : Act) (w : World) (U : Nat → Prop) (ρ : Nat → Loc), SimS B E.n U ρ s a w → (∀ i, U i → i < s.nx) → idx + l.length = N →
      (∀ k, l[k]? = all[idx + k]?) → (evalOps E false all base l idx s tr).holds K →
      (∀ s' tr' U' ρ' a' w', K (s', tr') → SimS B E.n U' ρ' s' a' w' → s.nx ≤ s'.nx → (∀ i, U' i → i < s'.nx) → Q .normal a' w') →
      wpOps E.P all.toArray Q (List.range' idx l.length) a w
  | [], idx, s, tr, a, w, U, ρ, h, hU, hN, hl, hh, hQ => by
    simp only [List.length_nil, List.range'_zero, wpOps]
    exact hQ s tr U ρ a w hh h (Nat.le_refl _) hU
  | o :: l, idx, s, tr, a, w, U, ρ, h, hU, hN, hl, hh, hQ => by
    have ho : all[idx]? = some o := by have := hl 0; simpa using this.symm
    have hl' : ∀ k, l[k]? = all[idx + 1 + k]? := fun k => by have := hl (k + 1); simp at this; rw [this]; congr 1; omega
    have hlen : idx + 1 + l.length = N := by simp at hN; omega
    simp only [List.length_cons, List.range'_succ, wpOps, List.getElem?_toArray, ho]
    -- carried out
    have hgo : ∀ s : St, SimS B E.n U ρ s a w → (∀ i, U i → i < s.nx) →
        ((doOp E false base idx o s).bind fun (s', x) => evalOps E false all base l (idx + 1) s' (x :: tr)).holds K →
        (∀ s' tr' U' ρ' a' w', K (s', tr') → SimS B E.n U' ρ' s' a' w' → s.nx ≤ s'.nx → (∀ i, U' i → i < s'.nx) → Q .normal a' w') →
        o.wp E.P a w (wpOps E.P all.toArray Q (List.range' (idx + 1) l.length)) Q := by
      intro s h hU hh hQ
      rw [R.holds_bind] at hh
      refine doOp_ok hE h hU hh fun s' x U' ρ' a' w' hK hn hU' hs => ?_
      exact evalOps_ok hE l (idx + 1) s' (x :: tr) a' w' U' ρ' hs hU' hlen hl' hK fun s'' tr' U'' ρ'' a'' w'' k1 k2 k3 k4 => hQ s'' tr' U'' ρ'' a'' w'' k1 k2 (by omega) k4
    -- passed over
    have hskip : ∀ s : St, SimS B E.n U ρ s a w → (∀ i, U i → i < s.nx) →
        (match putT E.n s.tm o.dst (.v undef) with
          | some tm => evalOps E false all base l (idx + 1) ⟨tm, s.mem, s.nx, delDst o s.dec⟩ tr
          | none => .bad "slot's number" : R (St × List Tn)).holds K →
        (∀ s' tr' U' ρ' a' w', K (s', tr') → SimS B E.n U' ρ' s' a' w' → s.nx ≤ s'.nx → (∀ i, U' i → i < s'.nx) → Q .normal a' w') →
        wpOps E.P all.toArray Q (List.range' (idx + 1) l.length) (a.put o.dst undef) w := by
      intro s h hU hh hQ
      split at hh
      · rename_i tm htm
        obtain ⟨p1, p2⟩ := putT_spec htm
        exact evalOps_ok hE l (idx + 1) ⟨tm, s.mem, s.nx, delDst o s.dec⟩ tr _ w U ρ (Sim.skip h o.dst p1 p2) hU hlen hl' hh hQ
      · exact hh.elim
    unfold evalOps at hh
    simp only at hh
    split at hh
    · rename_i hg
      rw [if_pos (wanted_none hg _)]
      exact .inl (hgo s h hU hh hQ)
    · rename_i j want hg
      rw [wanted_some hg]
      split at hh
      · exact hh.elim
      · rename_i d hd
        split at hh
        · rename_i b hb
          have hy := yielded_bool hd (h.tm d _ hb).1
          rw [hy]
          split at hh
          · obtain ⟨h1, h2⟩ := hh
            cases b with
            | true =>
              have hs := Sim.refine h hb (d :: s.dec)
              have := h1 rfl
              cases want with
              | true => rw [if_pos (by decide)]; exact .inl (hgo _ hs hU this hQ)
              | false => rw [if_neg (by decide)]; exact hskip _ hs hU this hQ
            | false =>
              have hs := Sim.refine h hb (d :: s.dec)
              have := h2 rfl
              cases want with
              | true => rw [if_neg (by decide)]; exact hskip _ hs hU this hQ
              | false => rw [if_pos (by decide)]; exact .inl (hgo _ hs hU this hQ)
          · cases b <;> cases want <;> simp only at hh
            · rw [if_pos (by decide)]; exact .inl (hgo _ h hU hh hQ)
            · rw [if_neg (by decide)]; exact hskip _ h hU hh hQ
            · rw [if_neg (by decide)]; exact hskip _ h hU hh hQ
            · rw [if_pos (by decide)]; exact .inl (hgo _ h hU hh hQ)
        · rename_i vs hb
          have hy := yielded_tuple hd (h.tm d _ hb).1
          rw [hy, if_neg (by simp)]
          exact hskip s h hU hh hQ
        · exact hh.elim
end
end Go.Sx
