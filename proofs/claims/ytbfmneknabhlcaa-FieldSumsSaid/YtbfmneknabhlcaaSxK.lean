/- Regions whose order is open. -/
import Derived.Test.YtbfmneknabhlcaaSxJ
set_option linter.unusedSimpArgs false
set_option linter.unusedVariables false
namespace Go.Sx
open Go.RowKit (Below)

/-! ### what a choice of updates, in the order of the text, comes to -/
section
variable {α : Type}
def wrG (g : Nat → Option α) : List (Nat × α) → Nat → Option α
  | [] => g
  | (k, o) :: l => wrG (fun i => if i = k then some o else g i) l
theorem wrF_eq : ∀ (l : List (Nat × AObj)) (g : Nat → Option AObj), wrF g l = wrG g l
  | [], _ => rfl
  | (k, o) :: l, g => wrF_eq l _
def keys (u : List (Nat × α)) : List Nat := u.map (·.1)
theorem wrG_no : ∀ {u : List (Nat × α)} {g : Nat → Option α} {id : Nat}, id ∉ keys u → wrG g u id = g id
  | [], _, _, _ => rfl
  | (k, o) :: l, g, id, h => by
    simp only [keys, List.map_cons, List.mem_cons, not_or] at h
    simp only [wrG]
    rw [wrG_no h.2, if_neg h.1]
theorem wrG_key : ∀ {u : List (Nat × α)} {g g' : Nat → Option α} {id : Nat}, id ∈ keys u → wrG g u id = wrG g' u id
  | [], _, _, _, h => by simp [keys] at h
  | (k, o) :: l, g, g', id, h => by
    simp only [wrG]
    by_cases hl : id ∈ keys l
    · exact wrG_key hl
    · rw [wrG_no hl, wrG_no hl]
      simp only [keys, List.map_cons, List.mem_cons] at h
      rcases h with h | h
      · rw [if_pos h, if_pos h]
      · exact absurd h hl

def GX (X : Nat → Bool) : List (List (Nat × α)) → Nat → (Nat → Option α) → Nat → Option α
  | [], _, g => g
  | u :: us, k, g => GX X us (k + 1) (if X k then wrG g u else g)

theorem GX_agree {X Y : Nat → Bool} : ∀ {us : List (List (Nat × α))} {k : Nat} {g g' : Nat → Option α} {id : Nat}, g id = g' id →
    (∀ m u, us[m]? = some u → id ∈ keys u → X (k + m) = Y (k + m)) → GX X us k g id = GX Y us k g' id
  | [], _, _, _, _, h, _ => h
  | u :: us, k, g, g', id, h, hm => by
    simp only [GX]
    refine GX_agree ?_ (fun m v hv hid => by have := hm (m + 1) v (by simpa using hv) hid; rw [Nat.add_assoc, Nat.add_comm 1 m]; exact this)
    by_cases hu : id ∈ keys u
    · have := hm 0 u rfl hu
      simp only [Nat.add_zero] at this
      rw [this]
      split
      · exact wrG_key hu
      · exact h
    · split <;> split <;> simp only [wrG_no hu, h]

theorem GX_no {X : Nat → Bool} : ∀ {us : List (List (Nat × α))} {k : Nat} {g : Nat → Option α} {id : Nat},
    (∀ m u, us[m]? = some u → X (k + m) = true → id ∉ keys u) → GX X us k g id = g id
  | [], _, _, _, _ => rfl
  | u :: us, k, g, id, hm => by
    simp only [GX]
    rw [GX_no (fun m v hv hx => hm (m + 1) v (by simpa using hv) (by rw [← Nat.add_assoc, Nat.add_right_comm]; exact hx))]
    split
    · rename_i hx
      exact wrG_no (hm 0 u rfl (by simpa using hx))
    · rfl

theorem GX_insert_key {X X' : Nat → Bool} {j : Nat} (hX' : ∀ i, X' i = (i == j || X i)) : ∀ {us : List (List (Nat × α))} {k : Nat} {g : Nat → Option α} {id : Nat} {p : Nat} {u : List (Nat × α)},
    j = k + p → us[p]? = some u → id ∈ keys u → (∀ m v, us[m]? = some v → p < m → X (k + m) = true → id ∉ keys v) → ∀ g' : Nat → Option α, GX X' us k g id = wrG g' u id
  | [], _, _, _, _, _, _, h, _, _, _ => by simp at h
  | v :: us, k, g, id, 0, u, hj, hu, hid, hm, g' => by
    simp only [List.getElem?_cons_zero, Option.some.injEq] at hu
    subst hu
    simp only [GX]
    have hk : X' k = true := by rw [hX']; simp [hj]
    rw [hk, if_pos rfl, GX_no]
    · exact wrG_key hid
    · intro m w hw hx
      refine hm (m + 1) w (by simpa using hw) (by omega) ?_
      rw [hX'] at hx
      have : ((k + 1 + m) == j) = false := by simp; omega
      rw [this, Bool.false_or] at hx
      rw [← Nat.add_assoc, Nat.add_right_comm]; exact hx
  | v :: us, k, g, id, p + 1, u, hj, hu, hid, hm, g' => by
    simp only [GX]
    refine GX_insert_key hX' (p := p) (by omega) (by simpa using hu) hid (fun m w hw hp hx => hm (m + 1) w (by simpa using hw) (by omega) (by rw [← Nat.add_assoc, Nat.add_right_comm]; exact hx)) g'

theorem GX_insert {X X' : Nat → Bool} {j : Nat} (hX' : ∀ i, X' i = (i == j || X i)) (hXj : X j = false) {us : List (List (Nat × α))} {g : Nat → Option α} {id : Nat} {u : List (Nat × α)}
    (hu : us[j]? = some u) (hm : id ∈ keys u → ∀ m v, us[m]? = some v → j < m → X m = true → id ∉ keys v) : GX X' us 0 g id = wrG (GX X us 0 g) u id := by
  by_cases hid : id ∈ keys u
  · exact GX_insert_key hX' (p := j) (by omega) hu hid (fun m v hv hp hx => hm hid m v hv hp (by simpa using hx)) _
  · rw [wrG_no hid]
    refine GX_agree rfl fun m v hv hv' => ?_
    rw [hX']
    have : m ≠ j := fun e => hid (by subst e; rw [hu] at hv; cases hv; exact hv')
    simp [this]
end

/-! ### what stands ahead -/
theorem masks_length : ∀ (l : List Oper) (acc : List Nat), (masks acc l).length = acc.length + l.length
  | [], acc => by simp [masks]
  | o :: l, acc => by simp only [masks]; rw [masks_length l]; simp; omega
theorem masks_old : ∀ (l : List Oper) (acc : List Nat) (i : Nat), i < acc.length → (masks acc l)[i]? = acc[i]?
  | [], acc, i, h => rfl
  | o :: l, acc, i, h => by
    simp only [masks]
    rw [masks_old l _ i (by simp; omega), List.getElem?_append_left h]
theorem masks_at : ∀ (l : List Oper) (acc : List Nat) (k : Nat) (o : Oper), l[k]? = some o → ∃ acc', (masks acc l)[acc.length + k]? = some (maskOf acc' o.after.toList) ∧
    ∀ i, i < acc.length + k → acc'[i]? = (masks acc l)[i]?
  | [], acc, k, o, h => by simp at h
  | o' :: l, acc, 0, o, h => by
    simp only [List.getElem?_cons_zero, Option.some.injEq] at h
    subst h
    refine ⟨acc, ?_, fun i hi => ?_⟩
    · simp only [masks]
      rw [masks_old l _ _ (by simp)]; simp
    · exact (masks_old (o' :: l) acc i (by omega)).symm
  | o' :: l, acc, k + 1, o, h => by
    obtain ⟨acc', h1, h2⟩ := masks_at l (acc ++ [maskOf acc o'.after.toList]) k o (by simpa using h)
    simp only [List.length_append, List.length_cons, List.length_nil] at h1 h2
    refine ⟨acc', ?_, fun i hi => ?_⟩
    · simp only [masks]; rw [← h1]; congr 1; omega
    · simp only [masks]; exact h2 i (by omega)

theorem backEdges_at : ∀ {l : List Oper} {i : Nat}, backEdges l i = true → ∀ k o, l[k]? = some o → ∀ e ∈ o.after.toList, Region.binds .any e = true → e.on < i + k
  | [], _, _, k, o, h => by simp at h
  | o' :: l, i, hb, k, o, h => by
    simp only [backEdges] at hb
    cases hc : o'.after.toList.all (fun e => !Region.binds .any e || Nat.blt e.on i) with
    | false => rw [hc] at hb; simp at hb
    | true =>
      rw [hc] at hb
      simp only [cond_true] at hb
      intro e he hbind
      cases k with
      | zero =>
        simp only [List.getElem?_cons_zero, Option.some.injEq] at h
        subst h
        have := List.all_eq_true.1 hc e he
        simp [hbind] at this
        omega
      | succ k =>
        have := backEdges_at hb k o (by simpa using h) e he hbind
        omega

theorem maskOf_bit {acc : List Nat} : ∀ {l : List Edge} {i : Nat}, Nat.testBit (maskOf acc l) i = true → ∃ e ∈ l, Region.binds .any e = true ∧ (i = e.on ∨ ∃ m, acc[e.on]? = some m ∧ Nat.testBit m i = true)
  | [], i, h => by simp [maskOf] at h
  | e :: l, i, h => by
    simp only [maskOf] at h
    split at h
    · rename_i hb
      have h' : Nat.testBit ((2 ^ e.on ||| (match lnth acc e.on with | some m => m | none => 0)) ||| maskOf acc l) i = true := h
      rw [Nat.testBit_or, Nat.testBit_or, Bool.or_eq_true, Bool.or_eq_true] at h'
      rcases h' with (h1 | h1) | h1
      · rw [Nat.testBit_two_pow] at h1
        exact ⟨e, by simp, hb, .inl (by simpa using (of_decide_eq_true h1).symm)⟩
      · rw [lnth_eq] at h1
        split at h1
        · rename_i m hm
          exact ⟨e, by simp, hb, .inr ⟨m, hm, h1⟩⟩
        · simp at h1
      · obtain ⟨e', h2, h3⟩ := maskOf_bit h1
        exact ⟨e', List.mem_cons_of_mem _ h2, h3⟩
    · obtain ⟨e', h2, h3⟩ := maskOf_bit h
      exact ⟨e', List.mem_cons_of_mem _ h2, h3⟩

/-- i must stand ahead of j. -/
def Ahead (all : List Oper) (i j : Nat) : Prop := ∃ m, (masks [] all)[j]? = some m ∧ Nat.testBit m i = true

/-- A set of operations that holds what must stand ahead of each. -/
def ClosedX (all : List Oper) (X : Nat → Bool) : Prop := ∀ k o, all[k]? = some o → X k = true → ∀ e ∈ o.after.toList, Region.binds .any e = true → X e.on = true

theorem ahead_in {all : List Oper} (hb : backEdges all 0 = true) {X : Nat → Bool} (hX : ClosedX all X) : ∀ (j : Nat) (o : Oper), all[j]? = some o →
    (∀ e ∈ o.after.toList, Region.binds .any e = true → X e.on = true) → ∀ i, Ahead all i j → X i = true := by
  intro j
  induction j using Nat.strongRecOn with
  | _ j ih =>
    intro o ho he i ⟨m, hm, hbit⟩
    obtain ⟨acc', h1, h2⟩ := masks_at all [] j o ho
    simp only [List.length_nil, Nat.zero_add] at h1 h2
    rw [h1] at hm
    cases hm
    obtain ⟨e, hel, hbind, hcase⟩ := maskOf_bit hbit
    have hX' := he e hel hbind
    rcases hcase with rfl | ⟨m, hm, hb'⟩
    · exact hX'
    · have hlt : e.on < j := by have := backEdges_at hb j o ho e hel hbind; omega
      have ho' : ∃ o', all[e.on]? = some o' := by
        have : j < all.length := (List.getElem?_eq_some_iff.1 ho).1
        exact ⟨all[e.on], by rw [List.getElem?_eq_getElem]⟩
      obtain ⟨o', ho'⟩ := ho'
      exact ih e.on hlt o' ho' (hX e.on o' ho' hX') i ⟨m, by rw [← h2 e.on hlt]; exact hm, hb'⟩

theorem ordered_lt {all : List Oper} {i j : Nat} (hij : i < j) (h : ordered (masks [] all) j i = true ∨ ordered (masks [] all) i j = true) : Ahead all i j := by
  have hji : Nat.blt j i = false := by
    cases e : Nat.blt j i
    · rfl
    · simp at e; omega
  have hij' : Nat.blt i j = true := by simp [hij]
  unfold ordered at h
  rw [hji, hij'] at h
  simp only [lnth_eq] at h
  rcases h with h | h
  · split at h
    · rename_i m hm; exact ⟨m, hm, h⟩
    · exact nomatch h
  · split at h
    · rename_i m hm; exact ⟨m, hm, h⟩
    · exact nomatch h

theorem meets_false : ∀ {a b : List Nat}, meets a b = false → ∀ x, x ∈ a → x ∉ b
  | [], _, _, _, h => by simp at h
  | y :: a, b, h, x, hx => by
    simp only [meets] at h
    cases hc : memN y b with
    | true => rw [hc] at h; simp at h
    | false =>
      rw [hc] at h
      rcases List.mem_cons.1 hx with rfl | hx
      · intro hm; rw [memN_iff.2 hm] at hc; exact nomatch hc
      · exact meets_false h x hx

theorem cond_split {c : Bool} {x y : Bool} (h : cond c x y = true) : (c = true ∧ x = true) ∨ (c = false ∧ y = true) := by cases c <;> simp_all
theorem cond_false_split {c y : Bool} (h : cond c false y = true) : c = false ∧ y = true := by cases c <;> simp_all

theorem tcalmOne_spec {all : List Oper} {i : Nat} {di ni : List Nat} : ∀ {l : List Oper} {j : Nat}, tcalmOne (masks [] all) i di ni all j l = true → i < j → ∀ k o, l[k]? = some o →
    Ahead all i (j + k) ∨ ((∀ x ∈ di, x ∉ namesOf all o) ∧ ∀ x ∈ dstOf o, x ∉ ni)
  | [], _, _, _, k, o, h => by simp at h
  | o' :: l, j, h, hij, k, o, hk => by
    simp only [tcalmOne] at h
    have hrest : tcalmOne (masks [] all) i di ni all (j + 1) l = true := by
      rcases cond_split h with ⟨_, h⟩ | ⟨_, h⟩
      · exact h
      · exact (cond_false_split (cond_false_split h).2).2
    cases k with
    | zero =>
      simp only [List.getElem?_cons_zero, Option.some.injEq] at hk
      subst hk
      rcases cond_split h with ⟨h1, _⟩ | ⟨_, h⟩
      · exact .inl (ordered_lt (by omega) (.inr h1))
      · obtain ⟨m1, h⟩ := cond_false_split h
        obtain ⟨m2, h⟩ := cond_false_split h
        exact .inr ⟨meets_false m1, meets_false m2⟩
    | succ k =>
      have := tcalmOne_spec hrest (by omega) k o (by simpa using hk)
      rw [Nat.add_assoc, Nat.add_comm 1 k] at this
      exact this

theorem tcalm_spec {all : List Oper} : ∀ {l : List Oper} {i : Nat}, tcalm (masks [] all) all i l = true → ∀ p q o o', p < q → l[p]? = some o → l[q]? = some o' →
    Ahead all (i + p) (i + q) ∨ ((∀ x ∈ dstOf o, x ∉ namesOf all o') ∧ ∀ x ∈ dstOf o', x ∉ namesOf all o)
  | [], _, _, p, q, o, o', _, h, _ => by simp at h
  | o1 :: l, i, h, p, q, o, o', hpq, hp, hq => by
    simp only [tcalm] at h
    rcases cond_split h with ⟨h1, h2⟩ | ⟨_, h⟩
    · cases p with
      | zero =>
        simp only [List.getElem?_cons_zero, Option.some.injEq] at hp
        subst hp
        obtain ⟨q, rfl⟩ : ∃ q', q = q' + 1 := ⟨q - 1, by omega⟩
        have := tcalmOne_spec h1 (by omega) q o' (by simpa using hq)
        rw [show i + 1 + q = i + (q + 1) by omega] at this
        simpa using this
      | succ p =>
        obtain ⟨q, rfl⟩ : ∃ q', q = q' + 1 := ⟨q - 1, by omega⟩
        have := tcalm_spec h2 p q o o' (by omega) (by simpa using hp) (by simpa using hq)
        rw [show i + 1 + p = i + (p + 1) by omega, show i + 1 + q = i + (q + 1) by omega] at this
        exact this
    · exact nomatch h

theorem calmOne_spec {all : List Oper} {x : Tn} : ∀ {l : List Tn}, calmOne (masks [] all) x l = true → ∀ y ∈ l,
    ordered (masks [] all) x.idx y.idx = true ∨ ((∀ i ∈ x.wr, i ∉ y.acc) ∧ (∀ i ∈ x.wr, i ∉ y.wr) ∧ ∀ i ∈ y.wr, i ∉ x.acc)
  | [], _, y, h => by simp at h
  | z :: l, h, y, hy => by
    simp only [calmOne] at h
    have hrest : calmOne (masks [] all) x l = true := by
      rcases cond_split h with ⟨_, h⟩ | ⟨_, h⟩
      · exact h
      · exact (cond_false_split (cond_false_split (cond_false_split h).2).2).2
    rcases List.mem_cons.1 hy with rfl | hy
    · rcases cond_split h with ⟨h1, _⟩ | ⟨_, h⟩
      · exact .inl h1
      · obtain ⟨m1, h⟩ := cond_false_split h
        obtain ⟨m2, h⟩ := cond_false_split h
        obtain ⟨m3, h⟩ := cond_false_split h
        exact .inr ⟨meets_false m1, meets_false m2, meets_false m3⟩
    · exact calmOne_spec hrest y hy
end Go.Sx
