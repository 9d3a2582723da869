/- Laws of the abstract machine's tries, values and memory. -/
import Derived.Test.YtbfmneknabhlcaaSxB
import Derived.Below
set_option linter.unusedSimpArgs false
set_option linter.unusedVariables false
namespace Go.Sx
open Go.RowKit (Below)

theorem nbeq (a b : Nat) : Nat.beq a b = decide (a = b) := by
  by_cases h : a = b
  · subst h; simp
  · rw [decide_eq_false h]
    cases e : Nat.beq a b
    · rfl
    · exact absurd (Nat.eq_of_beq_eq_true e) h

namespace Tr
variable {α : Type}
theorem getF_setF_ne : ∀ (f : Nat) (t : Tr α) (k k' : Nat) (v : Option α), k ≠ k' → getF f (setF f t k v) k' = getF f t k'
  | 0, _, _, _, _, _ => rfl
  | f + 1, t, k, k', v, h => by
    have ih := getF_setF_ne f
    have key : ∀ t : Tr α, getF (f + 1) t k' = cond (Nat.beq k' 0) t.root (cond (Nat.beq (Nat.mod k' 2) 1) (getF f t.left (Nat.div k' 2)) (getF f t.right (Nat.sub (Nat.div k' 2) 1))) := by
      intro t
      cases t with
      | e =>
        cases f with
        | zero => simp [getF, root]
        | succ f => simp [getF, root, left, right]
      | n l x r => simp [getF, root, left, right]
    rw [key, key]
    have hk : Nat.mod k 2 = k % 2 := rfl
    have hk' : Nat.mod k' 2 = k' % 2 := rfl
    have hd : Nat.div k 2 = k / 2 := rfl
    have hd' : Nat.div k' 2 = k' / 2 := rfl
    have hs : ∀ a b : Nat, Nat.sub a b = a - b := fun _ _ => rfl
    simp only [setF, hk, hk', hd, hd', hs]
    by_cases h0 : k = 0
    · subst h0
      have : Nat.beq k' 0 = false := by rw [nbeq]; exact decide_eq_false fun e => h e.symm
      simp [this, root, left, right]
    · have h0b : Nat.beq k 0 = false := by rw [nbeq]; exact decide_eq_false h0
      simp only [h0b, cond_false]
      by_cases h1 : k % 2 = 1
      · have h1b : Nat.beq (k % 2) 1 = true := by rw [nbeq]; exact decide_eq_true h1
        simp only [h1b, cond_true]
        by_cases e0 : k' = 0
        · subst e0; simp [root]
        · have e0b : Nat.beq k' 0 = false := by rw [nbeq]; exact decide_eq_false e0
          simp only [e0b, cond_false]
          by_cases e1 : k' % 2 = 1
          · have e1b : Nat.beq (k' % 2) 1 = true := by rw [nbeq]; exact decide_eq_true e1
            simp only [e1b, cond_true, left]
            exact ih _ _ _ _ (by omega)
          · have e1b : Nat.beq (k' % 2) 1 = false := by rw [nbeq]; exact decide_eq_false e1
            simp [e1b, right]
      · have h1b : Nat.beq (k % 2) 1 = false := by rw [nbeq]; exact decide_eq_false h1
        simp only [h1b, cond_false]
        by_cases e0 : k' = 0
        · subst e0; simp [root]
        · have e0b : Nat.beq k' 0 = false := by rw [nbeq]; exact decide_eq_false e0
          simp only [e0b, cond_false]
          by_cases e1 : k' % 2 = 1
          · have e1b : Nat.beq (k' % 2) 1 = true := by rw [nbeq]; exact decide_eq_true e1
            simp [e1b, left]
          · have e1b : Nat.beq (k' % 2) 1 = false := by rw [nbeq]; exact decide_eq_false e1
            simp only [e1b, cond_false, right]
            exact ih _ _ _ _ (by omega)

theorem getF_setF_eq : ∀ (f : Nat) (t : Tr α) (k : Nat) (v : Option α) (u : α), getF f (setF f t k v) k = some u → v = some u
  | 0, _, _, _, _, h => by simp [getF] at h
  | f + 1, t, k, v, u, h => by
    have ih := getF_setF_eq f
    simp only [setF] at h
    by_cases h0 : Nat.beq k 0 = true
    · simp [h0, getF] at h; exact h
    · simp only [h0, cond_false] at h
      by_cases h1 : Nat.beq (Nat.mod k 2) 1 = true
      · simp only [h1, cond_true, getF, h0, cond_false] at h; exact ih _ _ _ _ h
      · simp only [h1, cond_false, getF, h0] at h; exact ih _ _ _ _ h

theorem getF_setF_self : ∀ (f : Nat) (t : Tr α) (k : Nat) (u v : α), getF f t k = some u → getF f (setF f t k (some v)) k = some v
  | 0, _, _, _, _, h => by simp [getF] at h
  | f + 1, t, k, u, v, h => by
    have ih := getF_setF_self f
    simp only [setF]
    cases t with
    | e => simp [getF] at h
    | n l x r =>
      simp only [getF] at h
      by_cases h0 : Nat.beq k 0 = true
      · simp [h0, getF]
      · simp only [h0, cond_false] at h ⊢
        by_cases h1 : Nat.beq (Nat.mod k 2) 1 = true
        · simp only [h1, cond_true, getF, h0, cond_false, left] at h ⊢; exact ih _ _ _ _ h
        · simp only [h1, cond_false, getF, h0, right] at h ⊢; exact ih _ _ _ _ h
theorem get_set_self {t : Tr α} {k : Nat} {u v : α} (h : t.get k = some u) : (t.set k v).get k = some v := getF_setF_self _ _ _ _ _ h
theorem get_set_ne {t : Tr α} {k k' : Nat} {v : α} (h : k ≠ k') : (t.set k v).get k' = t.get k' := getF_setF_ne _ _ _ _ _ h
theorem get_set {t : Tr α} {k k' : Nat} {v u : α} (h : (t.set k v).get k' = some u) : (k' = k ∧ u = v) ∨ (k' ≠ k ∧ t.get k' = some u) := by
  by_cases e : k = k'
  · subst e
    have := getF_setF_eq _ _ _ _ _ h
    exact .inl ⟨rfl, by simpa using this.symm⟩
  · exact .inr ⟨fun h => e h.symm, by rwa [get_set_ne e] at h⟩
end Tr

/-! ### outcomes -/
namespace R
variable {α β : Type}
theorem holds_mono {Q Q' : α → Prop} (hq : ∀ a, Q a → Q' a) : ∀ {r : R α}, r.holds Q → r.holds Q'
  | ret _, h => hq _ h
  | br _ _ _, ⟨h1, h2⟩ => ⟨fun e => holds_mono hq (h1 e), fun e => holds_mono hq (h2 e)⟩
  | req _ _, ⟨h1, h2⟩ => ⟨h1, holds_mono hq h2⟩
  | any _ _, h => fun n hn => holds_mono hq (h n hn)
  | look _ _, h => h.elim
  | bad _, h => h.elim

theorem holds_bind {f : α → R β} {Q : β → Prop} : ∀ {r : R α}, (r.bind f).holds Q ↔ r.holds fun a => (f a).holds Q
  | ret _ => Iff.rfl
  | br _ t e => by
    simp only [bind, holds]
    exact ⟨fun h => ⟨fun b => (holds_bind (r := t)).1 (h.1 b), fun b => (holds_bind (r := e)).1 (h.2 b)⟩,
      fun h => ⟨fun b => (holds_bind (r := t)).2 (h.1 b), fun b => (holds_bind (r := e)).2 (h.2 b)⟩⟩
  | req _ k => by
    simp only [bind, holds]
    exact ⟨fun h => ⟨h.1, (holds_bind (r := k)).1 h.2⟩, fun h => ⟨h.1, (holds_bind (r := k)).2 h.2⟩⟩
  | any _ k => by
    simp only [bind, holds]
    exact ⟨fun h n hn => (holds_bind (r := k n)).1 (h n hn), fun h n hn => (holds_bind (r := k n)).2 (h n hn)⟩
  | look _ _ => by simp only [bind, holds]
  | bad _ => by simp only [bind, holds]
end R

/-! ### which blocks a value names -/
mutual
def AV.all (U : Nat → Prop) : AV → Prop
  | .v _ => True
  | .str _ => True
  | .p id _ _ => U id
  | .s id _ _ _ => U id
  | .f _ cap => allL U cap
  | .a cs => allL U cs
  | .t cs => allL U cs
  | .m id => U id
  | .rows _ _ => True
  | .sl id => U id
def allL (U : Nat → Prop) : List AV → Prop
  | [] => True
  | x :: l => AV.all U x ∧ allL U l
end

theorem allL_iff {U : Nat → Prop} : ∀ {l : List AV}, allL U l ↔ ∀ x ∈ l, x.all U
  | [] => by simp [allL]
  | x :: l => by simp [allL, allL_iff (l := l)]

mutual
theorem all_mono {U U' : Nat → Prop} (h : ∀ i, U i → U' i) : ∀ {v : AV}, v.all U → v.all U'
  | .v _, _ => trivial
  | .str _, _ => trivial
  | .p _ _ _, x => h _ x
  | .s _ _ _ _, x => h _ x
  | .f _ _, x => allL_mono h x
  | .a _, x => allL_mono h x
  | .t _, x => allL_mono h x
  | .m _, x => h _ x
  | .rows _ _, _ => trivial
  | .sl _, x => h _ x
theorem allL_mono {U U' : Nat → Prop} (h : ∀ i, U i → U' i) : ∀ {l : List AV}, allL U l → allL U' l
  | [], _ => trivial
  | _ :: _, x => ⟨all_mono h x.1, allL_mono h x.2⟩
end

mutual
theorem conc_congr {U : Nat → Prop} {ρ ρ' : Nat → Loc} (h : ∀ i, U i → ρ' i = ρ i) : ∀ {v : AV}, v.all U → conc ρ' v = conc ρ v
  | .v _, _ => rfl
  | .str _, _ => rfl
  | .p _ _ _, x => by simp only [conc, h _ x]
  | .s _ _ _ _, x => by simp only [conc, h _ x]
  | .f _ _, x => by simp only [conc, concL_congr h x]
  | .a _, x => by simp only [conc, concL_congr h x]
  | .t _, x => by simp only [conc, concL_congr h x]
  | .m _, x => by simp only [conc, h _ x]
  | .rows _ _, _ => rfl
  | .sl _, x => by simp only [conc, h _ x]
theorem concL_congr {U : Nat → Prop} {ρ ρ' : Nat → Loc} (h : ∀ i, U i → ρ' i = ρ i) : ∀ {l : List AV}, allL U l → concL ρ' l = concL ρ l
  | [], _ => rfl
  | _ :: _, x => by simp only [concL, conc_congr h x.1, concL_congr h x.2]
end

theorem concL_eq (ρ : Nat → Loc) : ∀ l, concL ρ l = l.map (conc ρ)
  | [] => rfl
  | x :: l => by simp [concL, concL_eq ρ l]

theorem ofScalar_all (U : Nat → Prop) (x : Value) : (ofScalar x).all U := by cases x <;> simp [ofScalar, AV.all]
theorem ofValue_all (U : Nat → Prop) (x : Value) : (ofValue x).all U := by
  cases x <;> simp [ofValue, AV.all, ofScalar]
  rename_i cs
  rw [allL_iff]
  intro y hy
  simp only [List.mem_map] at hy
  obtain ⟨z, _, rfl⟩ := hy
  exact ofScalar_all U z
theorem conc_ofScalar (ρ : Nat → Loc) (x : Value) : conc ρ (ofScalar x) = x := by
  cases x <;> simp [ofScalar, conc]
theorem conc_ofValue (ρ : Nat → Loc) (x : Value) : conc ρ (ofValue x) = x := by
  cases x <;> simp [ofValue, ofScalar, conc]
  rename_i cs
  rw [concL_eq, List.map_map]
  have : (conc ρ ∘ ofScalar) = id := funext fun x => conc_ofScalar ρ x
  simp [this]

theorem cells_conc (ρ : Nat → Loc) (v : AV) : (conc ρ v).cells = (concL ρ v.cells).toArray := by
  cases v with
  | v x =>
    cases x <;> simp [conc, AV.cells, Value.cells, concL]
    rename_i cs
    rw [concL_eq, List.map_map]
    have : (conc ρ ∘ AV.v) = id := funext fun x => by simp [conc]
    simp [this]
  | rows cs n =>
    simp only [conc, AV.cells, Value.cells, concL_eq, List.map_map]
    have : (conc ρ ∘ AV.v) = id := funext fun x => by simp [conc]
    simp [this]
  | sl id =>
    simp only [conc, AV.cells, Loc.slice, concL]
    split <;> simp [Value.cells]
  | _ => simp [conc, AV.cells, Value.cells, concL]

theorem cells_all {U : Nat → Prop} {v : AV} (h : v.all U) : allL U v.cells := by
  cases v with
  | v x =>
    cases x <;> simp [AV.cells, allL, AV.all]
    rename_i cs
    rw [allL_iff]
    intro y hy
    simp only [List.mem_map] at hy
    obtain ⟨z, _, rfl⟩ := hy
    trivial
  | a cs => exact h
  | rows cs n =>
    simp only [AV.cells]
    rw [allL_iff]
    intro y hy
    simp only [List.mem_map] at hy
    obtain ⟨z, _, rfl⟩ := hy
    trivial
  | _ => simp only [AV.cells, allL]; exact ⟨h, trivial⟩

theorem one_conc {ρ : Nat → Loc} {v : AV} (h : v.one = true) : (conc ρ v).oneCell' = true := by
  cases v with
  | v x => cases x <;> simp [AV.one, conc, Value.oneCell'] at *
  | a _ => simp [AV.one] at h
  | t _ => simp [AV.one] at h
  | rows _ _ => simp [AV.one] at h
  | sl id =>
    simp only [conc, Loc.slice]
    split <;> simp [Value.oneCell']
  | _ => simp [conc, Value.oneCell']

theorem allOne_iff : ∀ {l : List AV}, allOne l = true ↔ ∀ x ∈ l, x.one = true
  | [] => by simp [allOne]
  | x :: l => by
    cases h : x.one <;> simp [allOne, h, allOne_iff (l := l)]

/-! ### list operations -/
theorem lnth_eq {α : Type} : ∀ (l : List α) (n : Nat), lnth l n = l[n]?
  | [], _ => by simp [lnth]
  | _ :: _, 0 => by simp [lnth]
  | _ :: l, n + 1 => by simp [lnth, lnth_eq l n]
theorem ldrop_eq {α : Type} : ∀ (n : Nat) (l : List α), ldrop n l = l.drop n
  | 0, l => by simp [ldrop]
  | n + 1, l => by simp [ldrop, ldrop_eq n]
theorem ltake_eq {α : Type} : ∀ (n : Nat) (l r : List α), ltake n l = some r → r = l.take n ∧ r.length = n
  | 0, l, r, h => by simp [ltake] at h; subst h; simp
  | n + 1, [], r, h => by simp [ltake] at h
  | n + 1, x :: l, r, h => by
    simp only [ltake, Option.map_eq_some_iff] at h
    obtain ⟨r', h1, rfl⟩ := h
    have := ltake_eq n l r' h1
    simp [this.1.symm, this.2]
theorem lput_eq {α : Type} : ∀ (l : List α) (n : Nat) (new r : List α), lput l n new = some r →
    r.length = l.length ∧ n + new.length ≤ l.length ∨ new = [] ∧ r = l
  | l, 0, [], r, h => by simp [lput] at h; exact .inr ⟨rfl, h.symm⟩
  | [], 0, y :: new, r, h => by simp [lput] at h
  | x :: l, 0, y :: new, r, h => by
    simp only [lput, Option.map_eq_some_iff] at h
    obtain ⟨r', h1, rfl⟩ := h
    rcases lput_eq l 0 new r' h1 with ⟨h2, h3⟩ | ⟨h2, h3⟩
    · left; simp at *; omega
    · left; subst h2; subst h3; simp
  | [], n + 1, new, r, h => by simp [lput] at h
  | x :: l, n + 1, new, r, h => by
    simp only [lput, Option.map_eq_some_iff] at h
    obtain ⟨r', h1, rfl⟩ := h
    rcases lput_eq l n new r' h1 with ⟨h2, h3⟩ | ⟨h2, h3⟩
    · left; simp at *; omega
    · right; subst h3; exact ⟨h2, rfl⟩
theorem lput_get {α : Type} : ∀ (l : List α) (n : Nat) (new r : List α), lput l n new = some r →
    ∀ j, r[j]? = if n ≤ j ∧ j < n + new.length then new[j - n]? else l[j]?
  | l, 0, [], r, h, j => by simp [lput] at h; subst h; simp
  | [], 0, y :: new, r, h, j => by simp [lput] at h
  | x :: l, 0, y :: new, r, h, j => by
    simp only [lput, Option.map_eq_some_iff] at h
    obtain ⟨r', h1, rfl⟩ := h
    cases j with
    | zero => simp
    | succ j => simp [lput_get l 0 new r' h1 j]
  | [], n + 1, new, r, h, j => by simp [lput] at h
  | x :: l, n + 1, new, r, h, j => by
    simp only [lput, Option.map_eq_some_iff] at h
    obtain ⟨r', h1, rfl⟩ := h
    cases j with
    | zero => simp
    | succ j =>
      rw [List.getElem?_cons_succ, lput_get l n new r' h1 j]
      by_cases c : n ≤ j ∧ j < n + new.length
      · rw [if_pos c, if_pos (by omega)]; congr 1; omega
      · rw [if_neg c, if_neg (by omega)]; simp
theorem lput_len {α : Type} {l : List α} {n : Nat} {new r : List α} (h : lput l n new = some r) : r.length = l.length := by
  rcases lput_eq l n new r h with h | h
  · exact h.1
  · rw [h.2]

theorem memN_iff {x : Nat} : ∀ {l : List Nat}, memN x l = true ↔ x ∈ l
  | [] => by simp [memN]
  | y :: l => by
    simp only [memN, List.mem_cons]
    by_cases h : Nat.beq x y = true
    · have : x = y := by simpa [nbeq] using h
      simp [h, this]
    · have : x ≠ y := by simpa [nbeq] using h
      simp [h, this, memN_iff (l := l)]
end Go.Sx
