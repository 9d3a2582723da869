/- States cut down to what is named, their blocks renamed; loops by rounds. -/
import Derived.Test.YtbfmneknabhlcaaSxQ
set_option linter.unusedSimpArgs false
set_option linter.unusedVariables false
namespace Go.Sx
open Go.RowKit (Below)

abbrev Ren := List (Nat × Nat)
def asc : Ren → Nat → Option Nat
  | [], _ => none
  | (i, k) :: l, x => cond (Nat.beq i x) (some k) (asc l x)
def inv : Ren → Nat → Nat
  | [], _ => 0
  | (i, k) :: l, x => cond (Nat.beq k x) i (inv l x)

mutual
def renAV (σ : Ren) : AV → Option AV
  | .v x => some (.v x)
  | .str b => some (.str b)
  | .p id i j => match asc σ id with
    | some k => some (.p k i j)
    | none => none
  | .s id j len cap => match asc σ id with
    | some k => some (.s k j len cap)
    | none => none
  | .f fn cap => match renL σ cap with
    | some l => some (.f fn l)
    | none => none
  | .a cs => match renL σ cs with
    | some l => some (.a l)
    | none => none
  | .t cs => match renL σ cs with
    | some l => some (.t l)
    | none => none
  | .m id => match asc σ id with
    | some k => some (.m k)
    | none => none
  | .rows cs n => some (.rows cs n)
  | .sl id => match asc σ id with
    | some k => some (.sl k)
    | none => none
def renL (σ : Ren) : List AV → Option (List AV)
  | [] => some []
  | x :: l => match renAV σ x, renL σ l with
    | some y, some l' => some (y :: l')
    | _, _ => none
end
def renE (σ : Ren) : List (AV × AV) → Option (List (AV × AV))
  | [] => some []
  | (x, y) :: l => match renAV σ x, renAV σ y, renE σ l with
    | some x, some y, some l' => some ((x, y) :: l')
    | _, _, _ => none
/-- A block's content under new names; what is dead stays so. -/
def renO (σ : Ren) : Option AObj → Option AObj
  | some (.cells cs) => match renL σ cs with
    | some l => some (.cells l)
    | none => none
  | some (.ro cs) => match renL σ cs with
    | some l => some (.ro l)
    | none => none
  | some (.map es) => match renE σ es with
    | some l => some (.map l)
    | none => none
  | some (.rows cs n ro) => some (.rows cs n ro)
  | some (.view oid off len) => match asc σ oid with
    | some k => some (.view k off len)
    | none => none
  | some .dead => some .dead
  | none => some .dead

/-- What of a state is kept: slots; blocks that are come to from slots (a slot, then cells' numbers), and their new names. -/
structure Cut where
  slots : List Nat
  paths : List (List Nat × Nat)
  nx : Nat

def pathId : AV → Option (Nat × Nat)
  | .p id 0 j => some (id, j)
  | .s id j _ _ => some (id, j)
  | .m id => some (id, 0)
  | .sl id => some (id, 0)
  | _ => none
def goPath (m : Tr AObj) : List Nat → AV → Option Nat
  | [], v => (pathId v).map (·.1)
  | i :: l, v => match pathId v with
    | some (id, j) => match acells (m.get id) with
      | some cs => match lnth cs (j + i) with
        | some u => goPath m l u
        | none => none
      | none => none
    | none => none
def atPath (s : St) : List Nat → Option Nat
  | [] => none
  | k :: l => match s.tm.get k with
    | some v => goPath s.mem l v
    | none => none
def idRen : Nat → Ren
  | 0 => []
  | n + 1 => (n, n) :: idRen n
/-- New names; what the caller knows keeps its name. -/
def mkRen (np : Nat) (s : St) : List (List Nat × Nat) → Option Ren
  | [] => some (idRen np)
  | (p, k) :: l => match atPath s p, mkRen np s l with
    | some id, some σ => match asc σ id with
      | some _ => some σ
      | none => match memN k (σ.map (·.2)) with
        | true => none
        | false => some ((id, k) :: σ)
    | _, _ => none
def getS (σ : Ren) (tm : Tr AV) : List Nat → Option (List AV)
  | [] => some []
  | k :: l => match tm.get k with
    | some v => match renAV σ v, getS σ tm l with
      | some v, some vs => some (v :: vs)
      | _, _ => none
    | none => none
def getO (σ : Ren) (m : Tr AObj) : Ren → Option (List (Nat × AObj))
  | [] => some []
  | (i, k) :: l => match renO σ (m.get i), getO σ m l with
    | some o, some os => some ((k, o) :: os)
    | _, _ => none
def ltAll (n : Nat) : Ren → Bool
  | [] => true
  | (_, k) :: l => cond (Nat.blt k n) (ltAll n l) false

/-- What of a state lies within a cut: the slots' values, the blocks' contents. -/
abbrev View := List AV × List (Nat × AObj)
def cut (np : Nat) (C : Cut) (s : St) : Option View :=
  match mkRen np s C.paths with
  | some σ => match ltAll C.nx σ with
    | true => match getS σ s.tm C.slots, getO σ s.mem σ with
      | some vs, some os => some (vs, os)
      | _, _ => none
    | false => none
  | none => none

def layS : List Nat → List AV → Tr AV → Tr AV
  | k :: l, v :: vs, tm => layS l vs (tm.set k v)
  | _, _, tm => tm
def layO : List (Nat × AObj) → Tr AObj → Tr AObj
  | [], m => m
  | (_, .dead) :: l, m => layO l m
  | (k, o) :: l, m => layO l (m.set k o)
def lay (C : Cut) (nx : Nat) (x : View) : St := ⟨layS C.slots x.1 .e, layO x.2 .e, nx, []⟩

/-! ### that is so -/
theorem asc_nodup : ∀ {σ : Ren} {i k : Nat}, (σ.map (·.2)).Nodup → asc σ i = some k → inv σ k = i
  | [], _, _, _, h => nomatch h
  | (i', k') :: l, i, k, hn, h => by
    simp only [asc, nbeq] at h
    simp only [inv, nbeq]
    by_cases e : i' = i
    · simp [e] at h; subst h; simp [e]
    · simp [e] at h
      have hk : k' ≠ k := fun e' => by
        simp only [List.map_cons, List.nodup_cons] at hn
        refine hn.1 ?_
        subst e'
        clear hn
        induction l with
        | nil => exact nomatch h
        | cons x l ih =>
          obtain ⟨a, b⟩ := x
          simp only [asc, nbeq] at h
          by_cases e2 : a = i
          · simp [e2] at h; simp [h]
          · simp [e2] at h; simp [ih h]
      simp [hk]
      exact asc_nodup (List.nodup_cons.1 hn).2 h

theorem asc_mem : ∀ {σ : Ren} {i k : Nat}, asc σ i = some k → (i, k) ∈ σ
  | [], _, _, h => nomatch h
  | (i', k') :: l, i, k, h => by
    simp only [asc, nbeq] at h
    by_cases e : i' = i
    · simp [e] at h; simp [e, h]
    · simp [e] at h; exact List.mem_cons_of_mem _ (asc_mem h)

section
variable {σ : Ren} {ρ : Nat → Loc} {U : Nat → Prop}

def renU (σ : Ren) (U : Nat → Prop) : Nat → Prop := fun k => ∃ i, asc σ i = some k ∧ U i
def renρ (σ : Ren) (ρ : Nat → Loc) : Nat → Loc := fun k => ρ (inv σ k)

mutual
theorem renAV_ok (hn : (σ.map (·.2)).Nodup) : ∀ {v v' : AV}, renAV σ v = some v' → v.all U → conc (renρ σ ρ) v' = conc ρ v ∧ v'.all (renU σ U)
  | .v x, v', h, _ => by simp only [renAV, Option.some.injEq] at h; subst h; exact ⟨rfl, trivial⟩
  | .str b, v', h, _ => by simp only [renAV, Option.some.injEq] at h; subst h; exact ⟨rfl, trivial⟩
  | .p id i j, v', h, hu => by
    simp only [renAV] at h
    split at h
    · rename_i k hk; cases h; refine ⟨?_, id, hk, hu⟩; simp only [conc, renρ, asc_nodup hn hk]
    · exact nomatch h
  | .s id j len cap, v', h, hu => by
    simp only [renAV] at h
    split at h
    · rename_i k hk; cases h; refine ⟨?_, id, hk, hu⟩; simp only [conc, renρ, asc_nodup hn hk]
    · exact nomatch h
  | .m id, v', h, hu => by
    simp only [renAV] at h
    split at h
    · rename_i k hk; cases h; refine ⟨?_, id, hk, hu⟩; simp only [conc, renρ, asc_nodup hn hk]
    · exact nomatch h
  | .sl id, v', h, hu => by
    simp only [renAV] at h
    split at h
    · rename_i k hk; cases h; refine ⟨?_, id, hk, hu⟩; simp only [conc, renρ, asc_nodup hn hk]
    · exact nomatch h
  | .rows cs n, v', h, _ => by simp only [renAV, Option.some.injEq] at h; subst h; exact ⟨rfl, trivial⟩
  | .f fn cap, v', h, hu => by
    simp only [renAV] at h
    split at h
    · rename_i l hl; cases h; obtain ⟨h1, h2⟩ := renL_ok hn hl hu; exact ⟨by simp only [conc, h1], h2⟩
    · exact nomatch h
  | .a cs, v', h, hu => by
    simp only [renAV] at h
    split at h
    · rename_i l hl; cases h; obtain ⟨h1, h2⟩ := renL_ok hn hl hu; exact ⟨by simp only [conc, h1], h2⟩
    · exact nomatch h
  | .t cs, v', h, hu => by
    simp only [renAV] at h
    split at h
    · rename_i l hl; cases h; obtain ⟨h1, h2⟩ := renL_ok hn hl hu; exact ⟨by simp only [conc, h1], h2⟩
    · exact nomatch h
theorem renL_ok (hn : (σ.map (·.2)).Nodup) : ∀ {l l' : List AV}, renL σ l = some l' → allL U l → concL (renρ σ ρ) l' = concL ρ l ∧ allL (renU σ U) l'
  | [], l', h, _ => by simp only [renL, Option.some.injEq] at h; subst h; exact ⟨rfl, trivial⟩
  | x :: l, l', h, hu => by
    simp only [renL] at h
    split at h
    · rename_i y l'' hy hl
      cases h
      obtain ⟨h1, h2⟩ := renAV_ok hn hy hu.1
      obtain ⟨h3, h4⟩ := renL_ok hn hl hu.2
      exact ⟨by simp only [concL, h1, h3], h2, h4⟩
    · exact nomatch h
end

theorem renE_ok (hn : (σ.map (·.2)).Nodup) : ∀ {l l' : List (AV × AV)}, renE σ l = some l' → (∀ e ∈ l, e.1.all U ∧ e.2.all U) →
    (l'.map fun e => (conc (renρ σ ρ) e.1, conc (renρ σ ρ) e.2)) = (l.map fun e => (conc ρ e.1, conc ρ e.2)) ∧ ∀ e ∈ l', e.1.all (renU σ U) ∧ e.2.all (renU σ U)
  | [], l', h, _ => by simp only [renE, Option.some.injEq] at h; subst h; exact ⟨rfl, fun _ h => nomatch h⟩
  | (x, y) :: l, l', h, hu => by
    simp only [renE] at h
    split at h
    · rename_i x' y' l'' hx hy hl
      cases h
      obtain ⟨h1, h2⟩ := renAV_ok (ρ := ρ) (U := U) hn hx (hu (x, y) (by simp)).1
      obtain ⟨h3, h4⟩ := renAV_ok (ρ := ρ) (U := U) hn hy (hu (x, y) (by simp)).2
      obtain ⟨h5, h6⟩ := renE_ok hn hl (fun e he => hu e (List.mem_cons_of_mem _ he))
      refine ⟨by simp only [List.map_cons, h1, h3, h5], fun e he => ?_⟩
      rcases List.mem_cons.1 he with rfl | he
      · exact ⟨h2, h4⟩
      · exact h6 e he
    · exact nomatch h

theorem renO_ok (hn : (σ.map (·.2)).Nodup) {i k : Nat} (hik : asc σ i = some k) {o o' : AObj} {w : World} (h : renO σ (some o) = some o') (hu : o.all U) (ho : ObjOK ρ i o w) :
    ObjOK (renρ σ ρ) k o' w ∧ o'.all (renU σ U) ∧ o'.rw = o.rw ∧ o'.live (renρ σ ρ k) = o.live (ρ i) := by
  have hk : renρ σ ρ k = ρ i := by simp only [renρ, asc_nodup hn hik]
  cases o with
  | cells cs =>
    simp only [renO] at h
    split at h
    · rename_i l hl
      cases h
      obtain ⟨h1, h2⟩ := renL_ok (σ := σ) (ρ := ρ) (U := U) hn hl hu
      have hlen : l.length = cs.length := by have := congrArg List.length h1; simpa [concL_eq] using this
      refine ⟨?_, h2, rfl, rfl⟩
      simp only [ObjOK, hk] at *
      refine ⟨ho.1, fun j c hc => ?_, fun j hj => ho.2.2 j (by omega)⟩
      have hj : j < cs.length := by rw [← hlen]; exact (List.getElem?_eq_some_iff.1 hc).1
      rw [ho.2.1 j _ (List.getElem?_eq_getElem hj)]
      have := congrArg (·[j]?) h1
      simp only [concL_eq, List.getElem?_map, hc, List.getElem?_eq_getElem hj, Option.map_some, Option.some.injEq] at this
      rw [this]
    · exact nomatch h
  | ro cs =>
    simp only [renO] at h
    split at h
    · rename_i l hl
      cases h
      obtain ⟨h1, h2⟩ := renL_ok (σ := σ) (ρ := ρ) (U := U) hn hl hu
      have hlen : l.length = cs.length := by have := congrArg List.length h1; simpa [concL_eq] using this
      refine ⟨?_, h2, rfl, rfl⟩
      simp only [ObjOK, hk] at *
      refine ⟨ho.1, fun j c hc => ?_⟩
      have hj : j < cs.length := by rw [← hlen]; exact (List.getElem?_eq_some_iff.1 hc).1
      rw [ho.2 j _ (List.getElem?_eq_getElem hj)]
      have := congrArg (·[j]?) h1
      simp only [concL_eq, List.getElem?_map, hc, List.getElem?_eq_getElem hj, Option.map_some, Option.some.injEq] at this
      rw [this]
    · exact nomatch h
  | map es =>
    simp only [renO] at h
    split at h
    · rename_i l hl
      cases h
      obtain ⟨h1, h2⟩ := renE_ok (ρ := ρ) (U := U) hn hl hu
      refine ⟨?_, h2, rfl, rfl⟩
      simp only [ObjOK, hk] at *
      obtain ⟨arr, clock, e1, e2⟩ := ho
      exact ⟨arr, clock, e1, by rw [e2, h1]⟩
    · exact nomatch h
  | rows cs n ro =>
    simp only [renO, Option.some.injEq] at h
    subst h
    refine ⟨?_, trivial, rfl, by rw [hk]⟩
    simp only [ObjOK, hk] at *; exact ho
  | view oid off len =>
    simp only [renO] at h
    split at h
    · rename_i k' hk'
      cases h
      have hk2 : renρ σ ρ k' = ρ oid := by simp only [renρ, asc_nodup hn hk']
      refine ⟨?_, ⟨oid, hk', hu⟩, rfl, rfl⟩
      simp only [ObjOK, hk, hk2] at *; exact ho
    · exact nomatch h
  | dead =>
    simp only [renO, Option.some.injEq] at h
    subst h
    exact ⟨trivial, trivial, rfl, rfl⟩

theorem getS_ok {tm : Tr AV} : ∀ {l : List Nat} {vs : List AV} {tm0 : Tr AV} {k : Nat} {v : AV}, getS σ tm l = some vs → (layS l vs tm0).get k = some v →
    (∃ u, tm.get k = some u ∧ renAV σ u = some v) ∨ tm0.get k = some v
  | [], vs, tm0, k, v, h, hv => by simp only [getS, Option.some.injEq] at h; subst h; exact .inr hv
  | k' :: l, vs, tm0, k, v, h, hv => by
    simp only [getS] at h
    split at h
    · rename_i u hu
      split at h
      · rename_i u' vs' h1 h2
        cases h
        simp only [layS] at hv
        rcases getS_ok h2 hv with h | h
        · exact .inl h
        · rcases Tr.get_set h with ⟨rfl, rfl⟩ | ⟨_, h4⟩
          · exact .inl ⟨u, hu, h1⟩
          · exact .inr h4
      · exact nomatch h
    · exact nomatch h

theorem getO_ok {m : Tr AObj} : ∀ {l : Ren} {os : List (Nat × AObj)} {m0 : Tr AObj} {k : Nat} {o : AObj}, getO σ m l = some os → (layO os m0).get k = some o →
    (∃ i, (i, k) ∈ l ∧ renO σ (m.get i) = some o ∧ o ≠ .dead) ∨ m0.get k = some o
  | [], os, m0, k, o, h, ho => by simp only [getO, Option.some.injEq] at h; subst h; exact .inr ho
  | (i, k') :: l, os, m0, k, o, h, ho => by
    simp only [getO] at h
    split at h
    · rename_i o' os' h1 h2
      cases h
      by_cases hd : o' = .dead
      · subst hd
        simp only [layO] at ho
        rcases getO_ok h2 ho with ⟨i', h3, h4⟩ | h
        · exact .inl ⟨i', List.mem_cons_of_mem _ h3, h4⟩
        · exact .inr h
      · have e : layO ((k', o') :: os') m0 = layO os' (m0.set k' o') := by
          cases o' <;> first | rfl | exact absurd rfl hd
        rw [e] at ho
        rcases getO_ok h2 ho with ⟨i', h3, h4⟩ | h
        · exact .inl ⟨i', List.mem_cons_of_mem _ h3, h4⟩
        · rcases Tr.get_set h with ⟨rfl, rfl⟩ | ⟨_, h4⟩
          · exact .inl ⟨i, by simp, h1, hd⟩
          · exact .inr h4
    · exact nomatch h
end

theorem idRen_asc : ∀ {n i : Nat}, i < n → asc (idRen n) i = some i
  | n + 1, i, h => by
    simp only [idRen, asc, nbeq]
    by_cases e : n = i
    · simp [e]
    · simp [e]; exact idRen_asc (by omega)
theorem idRen_lt : ∀ {n : Nat} {x : Nat × Nat}, x ∈ idRen n → x.1 < n ∧ x.2 = x.1
  | n + 1, x, h => by
    simp only [idRen, List.mem_cons] at h
    rcases h with rfl | h
    · exact ⟨Nat.lt_succ_self _, rfl⟩
    · have := idRen_lt h; exact ⟨by omega, this.2⟩
theorem idRen_nodup : ∀ (n : Nat), ((idRen n).map (·.2)).Nodup ∧ ((idRen n).map (·.1)).Nodup
  | 0 => ⟨List.nodup_nil, List.nodup_nil⟩
  | n + 1 => by
    simp only [idRen, List.map_cons, List.nodup_cons]
    refine ⟨⟨fun h => ?_, (idRen_nodup n).1⟩, ⟨fun h => ?_, (idRen_nodup n).2⟩⟩ <;>
    · obtain ⟨x, hx, e⟩ := List.mem_map.1 h
      have := idRen_lt hx
      omega

theorem asc_none : ∀ {σ : Ren} {i : Nat}, asc σ i = none → i ∉ σ.map (·.1)
  | [], _, _ => by simp
  | (i', k) :: l, i, h => by
    simp only [asc, nbeq] at h
    by_cases e : i' = i
    · simp [e] at h
    · simp [e] at h; have := asc_none h; rw [List.map_cons, List.mem_cons]; rintro (h | h); exact e h.symm; exact this h

theorem mkRen_ok {np : Nat} {s : St} : ∀ {l : List (List Nat × Nat)} {σ : Ren}, mkRen np s l = some σ → (σ.map (·.2)).Nodup ∧ (σ.map (·.1)).Nodup ∧ ∀ i, i < np → asc σ i = some i
  | [], σ, h => by simp only [mkRen, Option.some.injEq] at h; subst h; exact ⟨(idRen_nodup np).1, (idRen_nodup np).2, fun i hi => idRen_asc hi⟩
  | (p, k) :: l, σ, h => by
    simp only [mkRen] at h
    split at h
    · rename_i id σ' h1 h2
      obtain ⟨i1, i2, i3⟩ := mkRen_ok h2
      split at h
      · cases h; exact ⟨i1, i2, i3⟩
      · rename_i ha
        split at h
        · exact nomatch h
        · rename_i hk
          cases h
          refine ⟨?_, ?_, fun i hi => ?_⟩
          · rw [List.map_cons, List.nodup_cons]; refine ⟨fun hm => ?_, i1⟩; rw [memN_iff.2 hm] at hk; exact nomatch hk
          · rw [List.map_cons, List.nodup_cons]; exact And.intro (asc_none ha) i2
          · simp only [asc, nbeq]
            by_cases e : id = i
            · subst e; rw [i3 _ hi] at ha; exact nomatch ha
            · simp [e, i3 i hi]
    · exact nomatch h

theorem nodup_asc : ∀ {σ : Ren} {i k : Nat}, (σ.map (·.1)).Nodup → (i, k) ∈ σ → asc σ i = some k
  | (i', k') :: l, i, k, hn, h => by
    simp only [asc, nbeq]
    rw [List.map_cons, List.nodup_cons] at hn
    rcases List.mem_cons.1 h with h | h
    · cases h; simp
    · have : i' ≠ i := fun e => hn.1 (e ▸ List.mem_map.2 ⟨_, h, rfl⟩)
      simp [this]; exact nodup_asc hn.2 h

theorem ltAll_ok {n : Nat} : ∀ {σ : Ren}, ltAll n σ = true → ∀ x ∈ σ, x.2 < n
  | [], _, _, h => nomatch h
  | (i, k) :: l, h, x, hx => by
    simp only [ltAll] at h
    cases hb : Nat.blt k n with
    | false => rw [hb] at h; exact nomatch h
    | true =>
      rw [hb] at h
      rcases List.mem_cons.1 hx with rfl | hx
      · simpa using hb
      · exact ltAll_ok h x hx

theorem cut_ok {B : Base} {n np nx : Nat} (hp : ∀ i l, B.pin i = some l → i < np) {C : Cut} {s : St} {x : View} (hx : cut np C s = some x) {U : Nat → Prop} {ρ : Nat → Loc} {a : Act} {w : World}
    (h : SimS B n U ρ s a w) : ∃ U' ρ', SimS B n U' ρ' (lay C nx x) a w ∧ ∀ i, U' i → i < C.nx := by
  unfold cut at hx
  split at hx
  · rename_i σ hσ
    obtain ⟨n2, n1, hid⟩ := mkRen_ok hσ
    split at hx
    · rename_i hlt
      split at hx
      · rename_i vs os hvs hos
        cases hx
        have hobj : ∀ k o', (layO os .e).get k = some o' → ∃ i o, asc σ i = some k ∧ s.mem.get i = some o ∧ renO σ (some o) = some o' := by
          intro k o' hk
          rcases getO_ok hos hk with ⟨i, h1, h2, h3⟩ | h
          · cases ho : s.mem.get i with
            | some o => rw [ho] at h2; exact ⟨i, o, nodup_asc n1 h1, ho, h2⟩
            | none => rw [ho] at h2; simp only [renO, Option.some.injEq] at h2; exact absurd h2.symm h3
          · exact (tr_e_no h).elim
        have hr : ∀ {i k}, asc σ i = some k → renρ σ ρ k = ρ i := fun {i k} e => by simp only [renρ, asc_nodup n2 e]
        have hm := h.mem
        refine ⟨renU σ U, renρ σ ρ, ⟨h.size, h.df, fun k v hk => ?_, ?_⟩, fun k ⟨i, hi, _⟩ => ltAll_ok hlt _ (asc_mem hi)⟩
        · rcases getS_ok hvs hk with ⟨u, h1, h2⟩ | h1
          · obtain ⟨e1, e2⟩ := h.tm k u h1
            obtain ⟨e3, e4⟩ := renAV_ok (ρ := ρ) (U := U) n2 h2 e2
            exact ⟨by rw [e3]; exact e1, e4⟩
          · exact (tr_e_no h1).elim
        · exact {
            use := fun k o' hk => by
              obtain ⟨i, o, h1, h2, h3⟩ := hobj k o' hk
              have hu := hm.use i o h2
              exact ⟨⟨i, h1, hu.1⟩, (renO_ok (ρ := ρ) n2 h1 h3 hu.2 (hm.obj i o h2)).2.1⟩
            obj := fun k o' hk => by
              obtain ⟨i, o, h1, h2, h3⟩ := hobj k o' hk
              exact (renO_ok n2 h1 h3 (hm.use i o h2).2 (hm.obj i o h2)).1
            sep := fun k k' o o' hk hk' hne hrw hlive hlive' => by
              obtain ⟨i, o1, h1, h2, h3⟩ := hobj k o hk
              obtain ⟨i', o1', h1', h2', h3'⟩ := hobj k' o' hk'
              obtain ⟨_, _, r1, r3⟩ := renO_ok (ρ := ρ) n2 h1 h3 (hm.use i o1 h2).2 (hm.obj i o1 h2)
              obtain ⟨_, _, _, r2⟩ := renO_ok (ρ := ρ) n2 h1' h3' (hm.use i' o1' h2').2 (hm.obj i' o1' h2')
              rw [hr h1, hr h1']
              refine hm.sep i i' o1 o1' h2 h2' (fun e => hne ?_) (by rw [← r1]; exact hrw) (by rw [← r3]; exact hlive) (by rw [← r2]; exact hlive')
              subst e; rw [h1] at h1'; cases h1'; rfl
            own := fun k o' hk hrw hl => by
              obtain ⟨i, o, h1, h2, h3⟩ := hobj k o' hk
              obtain ⟨_, _, r1, r2⟩ := renO_ok (ρ := ρ) n2 h1 h3 (hm.use i o h2).2 (hm.obj i o h2)
              rw [hr h1]; exact hm.own i o h2 (by rw [← r1]; exact hrw) (by rw [← r2]; exact hl)
            os := hm.os, tape := hm.tape, output := hm.output, size := hm.size, kept := hm.kept, plt := hm.plt
            pin := fun i l hl => by
              have hi := hid i (hp i l hl)
              obtain ⟨hu, he⟩ := hm.pin i l hl
              exact ⟨⟨i, hi, hu⟩, by rw [hr hi]; exact he⟩ }
      · exact nomatch hx
    · exact nomatch hx
  · exact nomatch hx
end Go.Sx
