/- Calls that read and write blocks, where the order is open: the callee's code, carried out in names of its own. -/
import Derived.Test.YtbfmneknabhlcaaSxW
import Derived.Test.YtbfmneknabhlcaaSxX
set_option linter.unusedSimpArgs false
set_option linter.unusedVariables false
namespace Go.Sx
open Go.RowKit (Below)

mutual
def idsOf : AV → List Nat
  | .v _ => []
  | .str _ => []
  | .p id _ _ => [id]
  | .s id _ _ _ => [id]
  | .f _ cap => idsOfL cap
  | .a cs => idsOfL cs
  | .t cs => idsOfL cs
  | .m id => [id]
  | .rows _ _ => []
  | .sl id => [id]
def idsOfL : List AV → List Nat
  | [] => []
  | x :: l => idsOf x ++ idsOfL l
end
def idsOfE : List (AV × AV) → List Nat
  | [] => []
  | (x, y) :: l => idsOf x ++ (idsOf y ++ idsOfE l)
def idsOfO : AObj → List Nat
  | .cells cs => idsOfL cs
  | .ro cs => idsOfL cs
  | .map es => idsOfE es
  | .view oid _ _ => [oid]
  | _ => []

def hasId (i : Nat) : List (Nat × AObj) → Bool
  | [] => false
  | (j, _) :: l => cond (Nat.beq j i) true (hasId i l)
/-- The blocks that are come to. -/
def gather : Nat → List Nat → List (Nat × AObj) → R (List (Nat × AObj))
  | 0, _, _ => .bad "gather"
  | _ + 1, [], acc => .ret acc
  | f + 1, i :: todo, acc => match hasId i acc with
    | true => gather f todo acc
    | false => .look i fun o => match o with
      | some o => gather f (idsOfO o ++ todo) (acc ++ [(i, o)])
      | none => .bad "gather: no block"

/-- Canonical names: the first found is 0. -/
def numb : List (Nat × AObj) → Nat → Ren
  | [], _ => []
  | (i, _) :: l, k => (i, k) :: numb l (k + 1)
def roize : AObj → AObj
  | .cells cs => .ro cs
  | .rows cs n _ => .rows cs n true
  | o => o
def roAt (ws : List Nat) (k : Nat) (o : AObj) : AObj := cond (memN k ws) o (roize o)
def memOf (σ : Ren) (ws : List Nat) : List (Nat × AObj) → Nat → Option (Tr AObj)
  | [], _ => some .e
  | (_, o) :: l, k => match renO σ (some (roAt ws k o)), memOf σ ws l (k + 1) with
    | some o', some m => some (match o' with | .dead => m | o' => m.set k o')
    | _, _ => none
def swapR : Ren → Ren
  | [] => []
  | (i, k) :: l => (k, i) :: swapR l
/-- New blocks that are come to behind the call, and their names. -/
def freshR (np nid : Nat) (m : Tr AObj) : Nat → List Nat → Ren → Nat → Option Ren
  | 0, _, _, _ => none
  | _ + 1, [], τ, _ => some τ
  | f + 1, c :: todo, τ, n => match asc τ c with
    | some _ => freshR np nid m f todo τ n
    | none => match Nat.ble np c, Nat.blt n 4 with
      | true, true => freshR np nid m f ((match m.get c with | some o => idsOfO o | none => []) ++ todo) ((c, nid + n) :: τ) (n + 1)
      | _, _ => none
def okW : AObj → Bool
  | .ro _ => false
  | .rows _ _ r => !r
  | _ => true
/-- What is written, what is made. -/
def wrOf (np : Nat) (m0 m : Tr AObj) (τ : Ren) : Ren → Option (List (Nat × AObj))
  | [] => some []
  | (c, id) :: l => match (match m0.get c with | some o => o.rw | none => Nat.ble np c) with
    | false => wrOf np m0 m τ l
    | true => match m.get c with
      | none => match Nat.ble np c with
        | true => wrOf np m0 m τ l
        | false => none
      | some o => match okW o, renO τ (some o), wrOf np m0 m τ l with
        | true, some o', some r => some ((id, o') :: r)
        | _, _, _ => none
def idsW (np : Nat) (m0 m : Tr AObj) : Ren → List Nat
  | [] => []
  | (c, _) :: l => match m0.get c with
    | some o => match o.rw with
      | true => (match m.get c with | some o => idsOfO o | none => []) ++ idsW np m0 m l
      | false => idsW np m0 m l
    | none => idsW np m0 m l

/-- Without looks. -/
def R.nol {α : Type} : R α → R α
  | .ret a => .ret a
  | .br b t e => .br b (nol t) (nol e)
  | .req p k => .req p (nol k)
  | .any lo k => .any lo fun n => nol (k n)
  | .look _ _ => .bad "look"
  | .bad w => .bad w
def callL (E : Env) (fn : Func) (ws : List Nat) (vs : List AV) (nid : Nat) (L : List (Nat × AObj)) : R Out :=
  match Nat.beq L.length E.np with
    | false => .bad "callM: np"
    | true => match renL (numb L 0) vs, memOf (numb L 0) ws L 0 with
      | some vs0, some m0 => (evalBody E fn vs0 m0 E.np).nol.bind fun x =>
        match freshR E.np nid x.2.mem 64 (idsOf x.1 ++ idsW E.np m0 x.2.mem (swapR (numb L 0))) (swapR (numb L 0)) 0 with
        | none => .bad "callM: new"
        | some τ => match renAV τ x.1, wrOf E.np m0 x.2.mem τ τ with
          | some v, some wr => .ret ⟨v, wr⟩
          | _, _ => .bad "callM: back"
      | _, _ => .bad "callM: names"
/-- E: the surroundings, by how many blocks are come to. -/
def callM (E : Nat → Env) (fn : Func) (ws : List Nat) (vs : List AV) (nid : Nat) : R Out :=
  (gather 64 (idsOfL vs) []).bind fun L => callL (E L.length) fn ws vs nid L

/-! ### that is so -/
theorem roize_rw (o : AObj) : (roize o).rw = true → o.rw = true := by cases o <;> simp [roize, AObj.rw]
theorem roAt_rw (ws : List Nat) (k : Nat) (o : AObj) : (roAt ws k o).rw = true → o.rw = true := by
  unfold roAt
  cases memN k ws
  · exact roize_rw o
  · exact id
theorem roize_live (o : AObj) (l : Loc) : (roize o).live l = o.live l := by cases o <;> rfl
theorem roAt_live (ws : List Nat) (k : Nat) (o : AObj) (l : Loc) : (roAt ws k o).live l = o.live l := by
  unfold roAt
  cases memN k ws
  · exact roize_live o l
  · rfl
theorem roize_all {U : Nat → Prop} {o : AObj} (h : o.all U) : (roize o).all U := by cases o <;> exact h
theorem roAt_all {U : Nat → Prop} {ws : List Nat} {k : Nat} {o : AObj} (h : o.all U) : (roAt ws k o).all U := by
  unfold roAt
  cases memN k ws
  · exact roize_all h
  · exact h
theorem roize_ok {ρ : Nat → Loc} {id : Nat} {o : AObj} {w : World} (h : ObjOK ρ id o w) : ObjOK ρ id (roize o) w := by
  cases o with
  | cells cs => exact ⟨h.1, h.2.1⟩
  | rows cs n r =>
    refine ⟨h.1, ?_⟩
    rcases h.2 with h | h
    · exact .inl h
    · exact .inr ⟨h.1, h.2.1, h.2.2.1, fun h => nomatch h⟩
  | _ => exact h
theorem roAt_ok {ρ : Nat → Loc} {id : Nat} {ws : List Nat} {k : Nat} {o : AObj} {w : World} (h : ObjOK ρ id o w) : ObjOK ρ id (roAt ws k o) w := by
  unfold roAt
  cases memN k ws
  · exact roize_ok h
  · exact h

section
variable {B : Base} {U : Nat → Prop} {ρ : Nat → Loc} {g g1 : Nat → Option AObj} {w : World}
theorem MemOK.weak (h : MemOK B U ρ g w) (hg : ∀ i o, g1 i = some o → ∃ o' ws k, g i = some o' ∧ o = roAt ws k o') : MemOK B U ρ g1 w where
  use := fun i o e => by obtain ⟨o', ws, k, h1, rfl⟩ := hg i o e; exact ⟨(h.use i o' h1).1, roAt_all (h.use i o' h1).2⟩
  obj := fun i o e => by obtain ⟨o', ws, k, h1, rfl⟩ := hg i o e; exact roAt_ok (h.obj i o' h1)
  sep := fun i i' o o' e e' hne hrw hl hl' => by
    obtain ⟨p, ws, k, h1, rfl⟩ := hg i o e
    obtain ⟨p', ws', k', h1', rfl⟩ := hg i' o' e'
    exact h.sep i i' p p' h1 h1' hne (roAt_rw _ _ _ hrw) (by rwa [roAt_live] at hl) (by rwa [roAt_live] at hl')
  own := fun i o e hrw hl => by
    obtain ⟨p, ws, k, h1, rfl⟩ := hg i o e
    exact h.own i p h1 (roAt_rw _ _ _ hrw) (by rwa [roAt_live] at hl)
  os := h.os
  tape := h.tape
  output := h.output
  size := h.size
  kept := h.kept
  plt := h.plt
  pin := h.pin
end

theorem hasId_false {i : Nat} : ∀ {l : List (Nat × AObj)}, hasId i l = false → ∀ o, (i, o) ∉ l
  | [], _, _ => by simp
  | (j, o') :: l, h, o => by
    simp only [hasId, nbeq] at h
    by_cases e : j = i
    · simp [e] at h
    · simp [e] at h
      simp only [List.mem_cons, Prod.mk.injEq, not_or]
      exact ⟨fun h' => e h'.1.symm, hasId_false h o⟩

/-- What is gathered lies in the memory, each once. -/
def Got (g : Nat → Option AObj) (L : List (Nat × AObj)) : Prop := (∀ x ∈ L, g x.1 = some x.2) ∧ (L.map (·.1)).Nodup
theorem gather_ok {g : Nat → Option AObj} {Q : List (Nat × AObj) → Prop} : ∀ (f : Nat) (todo : List Nat) (acc : List (Nat × AObj)), Got g acc → (R.res g (gather f todo acc)).holds Q → ∃ L, Got g L ∧ Q L
  | 0, _, _, _, h => h.elim
  | _ + 1, [], acc, ha, h => ⟨acc, ha, h⟩
  | f + 1, i :: todo, acc, ha, h => by
    unfold gather at h
    split at h
    · exact gather_ok f _ _ ha h
    · rename_i hh
      simp only [R.res] at h
      split at h
      · rename_i o ho
        refine gather_ok f _ _ ⟨fun x hx => ?_, ?_⟩ h
        · rcases List.mem_append.1 hx with hx | hx
          · exact ha.1 x hx
          · have := List.mem_singleton.1 hx; subst this; exact ho
        · rw [List.map_append, List.nodup_append]
          refine ⟨ha.2, by simp, fun a h1 b h2 hab => ?_⟩
          have h2 := List.mem_singleton.1 h2
          subst hab; subst h2
          obtain ⟨x, hx, ex⟩ := List.mem_map.1 h1
          exact hasId_false hh x.2 (by rw [← ex]; exact hx)
      · exact h.elim

theorem res_bind {α β : Type} {g : Nat → Option AObj} {f : α → R β} : ∀ (r : R α), R.res g (r.bind f) = (R.res g r).bind fun a => R.res g (f a)
  | .ret _ => rfl
  | .br _ t e => by simp only [R.bind, R.res, res_bind t, res_bind e]
  | .req _ k => by simp only [R.bind, R.res, res_bind k]
  | .any _ k => by
    simp only [R.bind, R.res]
    congr 1
    funext n
    exact res_bind (k n)
  | .look id k => by simp only [R.bind, R.res]; exact res_bind _
  | .bad _ => rfl

theorem numb_mem : ∀ {L : List (Nat × AObj)} {k i c : Nat}, (i, c) ∈ numb L k ↔ k ≤ c ∧ ∃ o, L[c - k]? = some (i, o)
  | [], k, i, c => by simp [numb]
  | (j, o) :: l, k, i, c => by
    simp only [numb, List.mem_cons, Prod.mk.injEq, numb_mem (L := l)]
    constructor
    · rintro (⟨rfl, rfl⟩ | ⟨h1, o', h2⟩)
      · exact ⟨Nat.le_refl _, o, by simp⟩
      · refine ⟨by omega, o', ?_⟩
        rw [show c - k = (c - (k + 1)) + 1 by omega]
        simpa using h2
    · rintro ⟨h1, o', h2⟩
      by_cases e : c = k
      · subst e
        simp at h2
        exact .inl ⟨h2.1.symm, rfl⟩
      · refine .inr ⟨by omega, o', ?_⟩
        rw [show c - k = (c - (k + 1)) + 1 by omega] at h2
        simpa using h2
theorem numb_fst : ∀ (L : List (Nat × AObj)) (k : Nat), (numb L k).map (·.1) = L.map (·.1)
  | [], _ => rfl
  | (i, o) :: l, k => by simp [numb, numb_fst l]
theorem numb_snd : ∀ (L : List (Nat × AObj)) (k : Nat), (numb L k).map (·.2) = List.range' k L.length
  | [], _ => rfl
  | (i, o) :: l, k => by simp [numb, numb_snd l, List.range'_succ]
theorem memOf_get {σ : Ren} {ws : List Nat} : ∀ {L : List (Nat × AObj)} {k : Nat} {m : Tr AObj} {c : Nat} {o : AObj}, memOf σ ws L k = some m → m.get c = some o → k ≤ c ∧ ∃ i o', L[c - k]? = some (i, o') ∧ renO σ (some (roAt ws c o')) = some o
  | [], k, m, c, o, h, hg => by simp only [memOf, Option.some.injEq] at h; subst h; rw [tr_e_get] at hg; exact nomatch hg
  | (i, o1) :: l, k, m, c, o, h, hg => by
    simp only [memOf] at h
    split at h
    · rename_i o' m' h1 h2
      cases h
      have key : m'.get c = some o → k ≤ c ∧ ∃ i' o'', ((i, o1) :: l)[c - k]? = some (i', o'') ∧ renO σ (some (roAt ws c o'')) = some o := fun hg => by
        obtain ⟨a1, i', o'', a2, a3⟩ := memOf_get h2 hg
        refine ⟨by omega, i', o'', ?_, a3⟩
        rw [show c - k = (c - (k + 1)) + 1 by omega]
        simpa using a2
      split at hg
      · exact key hg
      · rcases Tr.get_set hg with ⟨rfl, rfl⟩ | ⟨_, hg⟩
        · exact ⟨Nat.le_refl _, i, o1, by simp, h1⟩
        · exact key hg
    · exact nomatch h
theorem memOf_no {σ : Ren} {ws : List Nat} : ∀ {L : List (Nat × AObj)} {k : Nat} {m : Tr AObj} {c : Nat}, memOf σ ws L k = some m → c < k → m.get c = none := fun {L k m c} h hc => by
  cases e : m.get c with
  | none => rfl
  | some o => have := (memOf_get h e).1; omega
theorem swap_mem : ∀ {σ : Ren} {c i : Nat}, (c, i) ∈ swapR σ ↔ (i, c) ∈ σ
  | [], _, _ => by simp [swapR]
  | (j, k) :: l, c, i => by
    simp only [swapR, List.mem_cons, Prod.mk.injEq, swap_mem (σ := l)]
    constructor
    · rintro (⟨h1, h2⟩ | h)
      · exact .inl ⟨h2, h1⟩
      · exact .inr h
    · rintro (⟨h1, h2⟩ | h)
      · exact .inl ⟨h2, h1⟩
      · exact .inr h
theorem swap_fst : ∀ (σ : Ren), (swapR σ).map (·.1) = σ.map (·.2)
  | [] => rfl
  | (i, k) :: l => by simp [swapR, swap_fst l]
theorem swap_snd : ∀ (σ : Ren), (swapR σ).map (·.2) = σ.map (·.1)
  | [] => rfl
  | (i, k) :: l => by simp [swapR, swap_snd l]

/-- Names for what is new. -/
structure FreshOK (np nid : Nat) (σ' τ : Ren) (n : Nat) : Prop where
  n1 : (τ.map (·.1)).Nodup
  n2 : (τ.map (·.2)).Nodup
  sub : ∀ x ∈ τ, x ∈ σ' ∨ (np ≤ x.1 ∧ nid ≤ x.2 ∧ x.2 < nid + n)
  all : ∀ x ∈ σ', x ∈ τ
  le : n ≤ 4
theorem freshR_ok {np nid : Nat} {m : Tr AObj} {σ' : Ren} (hd : ∀ x ∈ σ', ¬ (nid ≤ x.2 ∧ x.2 < nid + 4)) : ∀ (f : Nat) (todo : List Nat) (τ : Ren) (n : Nat) (τ' : Ren), FreshOK np nid σ' τ n → freshR np nid m f todo τ n = some τ' → ∃ n', FreshOK np nid σ' τ' n'
  | 0, _, _, _, _, _, h => nomatch h
  | _ + 1, [], τ, n, τ', h, e => by simp only [freshR, Option.some.injEq] at e; subst e; exact ⟨n, h⟩
  | f + 1, c :: todo, τ, n, τ', h, e => by
    unfold freshR at e
    split at e
    · exact freshR_ok hd f _ _ _ _ h e
    · rename_i hc
      split at e
      · rename_i h1 h2
        have h1 : np ≤ c := by simpa using h1
        have h2 : n < 4 := by simpa [Nat.blt_eq] using h2
        refine freshR_ok hd f _ _ _ _ ⟨?_, ?_, fun x hx => ?_, fun x hx => List.mem_cons_of_mem _ (h.all x hx), by omega⟩ e
        · simp only [List.map_cons, List.nodup_cons]
          exact ⟨asc_none hc, h.n1⟩
        · simp only [List.map_cons, List.nodup_cons]
          refine ⟨fun hm => ?_, h.n2⟩
          obtain ⟨x, hx, ex⟩ := List.mem_map.1 hm
          rcases h.sub x hx with hs | ⟨_, _, hs⟩
          · exact hd x hs ⟨by omega, by omega⟩
          · omega
        · rcases List.mem_cons.1 hx with rfl | hx
          · exact .inr ⟨h1, by show nid ≤ nid + n; omega, by show nid + n < nid + (n + 1); omega⟩
          · rcases h.sub x hx with hs | ⟨a1, a2, a3⟩
            · exact .inl hs
            · exact .inr ⟨a1, a2, by omega⟩
      · exact nomatch e

theorem wrF_cases {g : Nat → Option AObj} : ∀ {l : List (Nat × AObj)} {id : Nat} {o : AObj}, (l.map (·.1)).Nodup → wrF g l id = some o → (id, o) ∈ l ∨ (g id = some o ∧ id ∉ l.map (·.1))
  | [], id, o, _, h => .inr ⟨h, by simp⟩
  | (k, x) :: l, id, o, hn, h => by
    simp only [List.map_cons, List.nodup_cons] at hn
    simp only [wrF] at h
    rcases wrF_cases hn.2 h with h' | ⟨h1, h2⟩
    · exact .inl (List.mem_cons_of_mem _ h')
    · unfold updF at h1
      split at h1
      · rename_i e
        cases h1
        exact .inl (by subst e; simp)
      · rename_i e
        refine .inr ⟨h1, ?_⟩
        simp only [List.map_cons, List.mem_cons, not_or]
        exact ⟨e, h2⟩

theorem wrOf_ok {np : Nat} {m0 m : Tr AObj} {τ : Ren} : ∀ {l : Ren} {wr : List (Nat × AObj)}, wrOf np m0 m τ l = some wr →
    (∀ x ∈ wr, ∃ c o, (c, x.1) ∈ l ∧ m.get c = some o ∧ okW o = true ∧ renO τ (some o) = some x.2) ∧ (∀ c id o, (c, id) ∈ l → m0.get c = some o → o.rw = true → c < np → id ∈ wr.map (·.1)) ∧ (wr.map (·.1)).Sublist (l.map (·.2))
  | [], wr, h => by simp only [wrOf, Option.some.injEq] at h; subst h; exact ⟨fun x hx => (nomatch hx), fun _ _ _ hx => (nomatch hx), List.Sublist.refl _⟩
  | (c, id) :: l, wr, h => by
    simp only [wrOf] at h
    split at h
    · rename_i hf
      obtain ⟨a1, a2, a3⟩ := wrOf_ok h
      refine ⟨fun x hx => ?_, fun c' id' o hm h0 hrw hlt => ?_, ?_⟩
      · obtain ⟨c', o, b1, b2⟩ := a1 x hx; exact ⟨c', o, List.mem_cons_of_mem _ b1, b2⟩
      · rcases List.mem_cons.1 hm with e | hm
        · cases e
          rw [h0] at hf
          simp only at hf
          rw [hrw] at hf; exact nomatch hf
        · exact a2 c' id' o hm h0 hrw hlt
      · exact List.Sublist.cons _ a3
    · split at h
      · rename_i hm0
        split at h
        · rename_i hnp
          have hnp : np ≤ c := by simpa using hnp
          obtain ⟨a1, a2, a3⟩ := wrOf_ok h
          refine ⟨fun x hx => ?_, fun c' id' o hm h0 hrw hlt => ?_, List.Sublist.cons _ a3⟩
          · obtain ⟨c', o, b1, b2⟩ := a1 x hx; exact ⟨c', o, List.mem_cons_of_mem _ b1, b2⟩
          · rcases List.mem_cons.1 hm with e | hm
            · cases e; omega
            · exact a2 c' id' o hm h0 hrw hlt
        · exact nomatch h
      · rename_i o ho
        split at h
        · rename_i o' r h1 h2 h3
          cases h
          obtain ⟨a1, a2, a3⟩ := wrOf_ok h3
          refine ⟨fun x hx => ?_, fun c' id' o1 hm h0 hrw hlt => ?_, ?_⟩
          · rcases List.mem_cons.1 hx with rfl | hx
            · exact ⟨c, o, by simp, ho, h1, h2⟩
            · obtain ⟨c', o1, b1, b2⟩ := a1 x hx; exact ⟨c', o1, List.mem_cons_of_mem _ b1, b2⟩
          · rcases List.mem_cons.1 hm with e | hm
            · cases e; simp
            · exact List.mem_cons_of_mem _ (a2 c' id' o1 hm h0 hrw hlt)
          · simp only [List.map_cons]
            exact List.Sublist.cons_cons _ a3
        · exact nomatch h

theorem nol_res {α β : Type} {g : Nat → Option AObj} {f : α → R β} {K : β → Prop} : ∀ {r : R α}, (R.res g (r.nol.bind f)).holds K → r.holds fun a => (R.res g (f a)).holds K
  | .ret _, h => h
  | .br _ _ _, h => ⟨fun e => nol_res (h.1 e), fun e => nol_res (h.2 e)⟩
  | .req _ _, h => ⟨h.1, nol_res h.2⟩
  | .any _ _, h => fun n hn => nol_res (h n hn)
  | .look _ _, h => h.elim
  | .bad _, h => h.elim
theorem okW_live {o : AObj} (h : okW o = true) (l : Loc) : o.rw = true ∨ o.live l = false := by
  cases o <;> simp [okW, AObj.rw, AObj.live] at h ⊢
  exact .inl h

theorem callL_ok {E : Env} (hE : EnvOK' E) {f : Nat} {fn : Func} (hf : E.P.funcs[f]? = some fn) (hname : (fn.name == "runtime.NumGoroutine") = false) (hn : E.n = fn.ntmps)
    (hL : ∀ c, fn.body = some c → LoopsOK E (loopsOf c)) (ws : List Nat) {B : Base} {U : Nat → Prop} {ρ : Nat → Loc} {g : Nat → Option AObj} {w : World} {vs : List AV} {nid : Nat} {K : Out → Prop}
    (h : MemOK B U ρ g w) (hnid : ∀ i, newIds nid i → ¬ U i) (hU : allL U vs) {L : List (Nat × AObj)} (hL1 : ∀ x ∈ L, g x.1 = some x.2) (hL2 : (L.map (·.1)).Nodup) (hh : (R.res g (callL E fn ws vs nid L)).holds K) :
    CallRun E.P f (concL ρ vs).toArray w fun v w' => ∃ out ρ', K out ∧ v = conc ρ' out.val ∧ (∀ i, U i → ρ' i = ρ i) ∧ MemOK B (orU U (newIds nid)) ρ' (wrF g out.wr) w' ∧ out.val.all (orU U (newIds nid)) := by
  unfold callL at hh
  split at hh
  · exact hh.elim
  rename_i hlen
  have hlen : L.length = E.np := by simpa [nbeq] using hlen
  split at hh
  rotate_left
  · exact hh.elim
  rename_i vs0 m0 hvs hm0
  have hh := nol_res hh
  obtain ⟨σ, hσ⟩ : ∃ σ, σ = numb L 0 := ⟨_, rfl⟩
  rw [← hσ] at hvs hm0 hh
  have n1 : (σ.map (·.1)).Nodup := by rw [hσ, numb_fst]; exact hL2
  have n2 : (σ.map (·.2)).Nodup := by rw [hσ, numb_snd]; exact List.nodup_range'
  have hmemL : ∀ i c, (i, c) ∈ σ ↔ ∃ o, L[c]? = some (i, o) := fun i c => by rw [hσ, numb_mem]; simp
  have hUσ : ∀ i c, (i, c) ∈ σ → U i ∧ c < E.np := fun i c hm => by
    obtain ⟨o, ho⟩ := (hmemL i c).1 hm
    have h1 := hL1 _ (List.mem_of_getElem? ho)
    exact ⟨(h.use i o h1).1, by rw [← hlen]; exact (List.getElem?_eq_some_iff.1 ho).1⟩
  let gro : Nat → Option AObj := fun i => match asc σ i with
    | some c => (match L[c]? with | some x => some (roAt ws c x.2) | none => none)
    | none => none
  have hgro : ∀ {i c o}, L[c]? = some (i, o) → gro i = some (roAt ws c o) := fun {i c o} e => by
    have := nodup_asc n1 ((hmemL i c).2 ⟨o, e⟩)
    simp only [gro, this, e]
  have hro : MemOK B U ρ gro w := h.weak fun i o e => by
    simp only [gro] at e
    split at e
    · rename_i c hc
      split at e
      · rename_i x hx
        cases e
        obtain ⟨o', ho'⟩ := (hmemL i c).1 (asc_mem hc)
        rw [ho'] at hx
        cases hx
        exact ⟨o', ws, c, hL1 _ (List.mem_of_getElem? ho'), rfl⟩
      · exact nomatch e
    · exact nomatch e
  have hmem0 : ∀ c o, m0.get c = some o → c < E.np ∧ ∃ i o', L[c]? = some (i, o') ∧ asc σ i = some c ∧ renO σ (some (roAt ws c o')) = some o := fun c o e => by
    obtain ⟨_, i, o', a1, a2⟩ := memOf_get hm0 e
    rw [Nat.sub_zero] at a1
    have hm := (hmemL i c).2 ⟨o', a1⟩
    exact ⟨(hUσ i c hm).2, i, o', a1, nodup_asc n1 hm, a2⟩
  have hcall := mcall hE hf hname hn hL hro n1 n2 (fun c hc => by
      rw [← hlen] at hc
      have e := List.getElem?_eq_getElem hc
      exact ⟨L[c].1, (hmemL _ _).2 ⟨L[c].2, by rw [e]⟩, (hUσ _ c ((hmemL _ _).2 ⟨L[c].2, by rw [e]⟩)).1⟩) (fun i c e => (hUσ i c (asc_mem e)).2)
    (mem0 := m0) (fun c o e => by
      obtain ⟨a0, i, o', a1, a2, a3⟩ := hmem0 c o e
      exact ⟨a0, i, _, a2, hgro a1, a3⟩) hvs hU hh
  refine hcall.mono fun v w' ⟨x, s, ρ0, U0, hK, hv, hm0', hx⟩ => ?_
  dsimp only at hK
  split at hK
  · exact hK.elim
  rename_i τ hτe
  split at hK
  rotate_left
  · exact hK.elim
  rename_i v' wr hv' hwr
  have hK : K ⟨v', wr⟩ := hK
  have hd : ∀ x ∈ swapR σ, ¬ (nid ≤ x.2 ∧ x.2 < nid + 4) := fun x hx hx2 => hnid x.2 hx2 (hUσ x.2 x.1 (swap_mem.1 hx)).1
  obtain ⟨n', hF⟩ := freshR_ok hd 64 _ _ _ _ ⟨by rw [swap_fst]; exact n2, by rw [swap_snd]; exact n1, fun x hx => .inl hx, fun x hx => hx, by omega⟩ hτe
  obtain ⟨w1, w2, w3⟩ := wrOf_ok hwr
  have hwn : (wr.map (·.1)).Nodup := List.Sublist.nodup w3 hF.n2
  have hinv : ∀ i c, (i, c) ∈ σ → inv σ c = i := fun i c hm => asc_nodup n2 (nodup_asc n1 hm)
  obtain ⟨r1, r2, r3⟩ := memOK_back (θ := inv σ) (np := E.np) (mem0 := m0.get) h hnid (fun c o e => by
      obtain ⟨a0, i, o', a1, a2, a3⟩ := hmem0 c o e
      have hi : inv σ c = i := asc_nodup n2 a2
      have hg := hL1 _ (List.mem_of_getElem? a1)
      have hu := h.use i o' hg
      obtain ⟨_, _, b1, b2⟩ := renO_ok (ρ := ρ) n2 a2 a3 (roAt_all hu.2) (roAt_ok (h.obj i o' hg))
      rw [hi]
      refine ⟨o', hg, fun hrw => roAt_rw _ _ _ (by rw [← b1]; exact hrw), ?_⟩
      have : renρ σ ρ c = ρ i := by simp only [renρ, hi]
      rw [this, roAt_live] at b2
      exact b2.symm) hm0' (τ := τ) hF.n2 (fun c k e => by
      rcases hF.sub _ (asc_mem e) with hs | ⟨a1, a2, a3⟩
      · have hm := swap_mem.1 hs
        exact .inl ⟨(hUσ k c hm).2, (hinv k c hm).symm, (hUσ k c hm).1⟩
      · have := hF.le
        exact .inr ⟨a1, a2, by show k < nid + 4; have : k < nid + n' := a3; omega⟩)
    (g' := wrF g wr) (fun id o' e => by
      rcases wrF_cases hwn e with hm | ⟨a1, a2⟩
      · obtain ⟨c, o, b1, b2, b3, b4⟩ := w1 _ hm
        exact .inl ⟨c, o, nodup_asc hF.n1 b1, b2, b4, okW_live b3 _⟩
      · refine .inr ⟨a1, fun c o e' hrw hid => a2 ?_⟩
        obtain ⟨b0, i, o1, b1, b2, b3⟩ := hmem0 c o e'
        have hi : inv σ c = i := asc_nodup n2 b2
        have : i = id := hi.symm.trans hid
        subst this
        exact w2 c i o (hF.all _ (swap_mem.2 (asc_mem b2))) e' hrw b0)
  obtain ⟨r4, r5⟩ := r3 x v' hv' hx
  exact ⟨⟨v', wr⟩, _, hK, by rw [hv]; exact r4.symm, r1, r2, r5⟩
/-- What is asked of a callee that is carried out so. -/
structure MOK (P : Program) (f : Nat) (E : Nat → Env) (fn : Func) : Prop where
  p : ∀ k, (E k).P = P
  env : ∀ k, EnvOK' (E k)
  get : P.funcs[f]? = some fn
  name : (fn.name == "runtime.NumGoroutine") = false
  n : ∀ k, (E k).n = fn.ntmps
  loops : ∀ k c, fn.body = some c → LoopsOK (E k) (loopsOf c)
/-- A call that is carried out in names of its own. -/
theorem callM_ok {P : Program} {f : Nat} {E : Nat → Env} {fn : Func} (hM : MOK P f E fn) (ws : List Nat) {B : Base} {U : Nat → Prop} {ρ : Nat → Loc} {g : Nat → Option AObj} {w : World} {vs : List AV} {nid : Nat} {K : Out → Prop}
    (h : MemOK B U ρ g w) (hnid : ∀ i, newIds nid i → ¬ U i) (hU : allL U vs) (hh : (R.res g (callM E fn ws vs nid)).holds K) :
    CallRun P f (concL ρ vs).toArray w fun v w' => ∃ out ρ', K out ∧ v = conc ρ' out.val ∧ (∀ i, U i → ρ' i = ρ i) ∧ MemOK B (orU U (newIds nid)) ρ' (wrF g out.wr) w' ∧ out.val.all (orU U (newIds nid)) := by
  unfold callM at hh
  rw [res_bind, R.holds_bind] at hh
  obtain ⟨L, ⟨hL1, hL2⟩, hh⟩ := gather_ok 64 (idsOfL vs) [] ⟨fun x hx => (nomatch hx), List.nodup_nil⟩ hh
  have hp := hM.p L.length
  have := callL_ok (hM.env L.length) (by rw [hp]; exact hM.get) hM.name (hM.n _) (hM.loops _) ws h hnid hU hL1 hL2 hh
  rwa [hp] at this

/-- Tables: contracts of what only computes, and callees that are carried out. -/
def mixCalls (t : Tab) (M : Nat → Option ((Nat → Env) × Func × List Nat)) : Nat → List AV → Nat → Option (R Out) := fun f vs nid =>
  match M f with
  | some (E, fn, ws) => some (callM E fn ws vs nid)
  | none => tabCalls t f vs nid
theorem mixCalls_ok {P : Program} {t : Tab} (ht : ∀ x ∈ t, EntryOK P x) {M : Nat → Option ((Nat → Env) × Func × List Nat)} (hM : ∀ f E fn ws, M f = some (E, fn, ws) → MOK P f E fn) : CallsOK P (mixCalls t M) := by
  intro B U ρ g w f vs nid r K hr hm hn hv hK
  unfold mixCalls at hr
  split at hr
  · rename_i E fn ws hf
    cases hr
    exact callM_ok (hM f E fn ws hf) ws hm hn hv hK
  · exact tabCalls_ok ht B U ρ g w f vs nid r K hr hm hn hv hK
abbrev MTab := List (Nat × (Nat → Env) × Func × List Nat)
def lookM : MTab → Nat → Option ((Nat → Env) × Func × List Nat)
  | [], _ => none
  | (g, e) :: l, f => cond (Nat.beq g f) (some e) (lookM l f)
theorem lookM_mem : ∀ {t : MTab} {f : Nat} {e}, lookM t f = some e → (f, e) ∈ t
  | [], _, _, h => nomatch h
  | (g, e') :: l, f, e, h => by
    simp only [lookM] at h
    cases hb : Nat.beq g f with
    | true =>
      rw [hb] at h
      have : g = f := by simpa [nbeq] using hb
      simp at h
      subst this; subst h; simp
    | false => rw [hb] at h; exact List.mem_cons_of_mem _ (lookM_mem h)
/-- Surroundings with callees that are carried out. -/
abbrev envM (P : Program) (t : Tab) (M : MTab) (n : Nat) (sym : List Nat) (np : Nat) (rowT : List Nat) : Env :=
  { P := P, n := n, sym := sym, calls := mixCalls t (lookM M), inl := fun _ _ _ _ => none, loops := fun _ _ => none, fuel := 1000, np := np, rowT := rowT }
def MTabOK (P : Program) (M : MTab) : Prop := ∀ x ∈ M, MOK P x.1 x.2.1 x.2.2.1
theorem envM_ok {P : Program} (hP : P.follows .mixedOrders = true) {t : Tab} (ht : ∀ x ∈ t, EntryOK P x) {M : MTab} (hM : MTabOK P M) (n : Nat) (sym : List Nat) (np : Nat) (rowT : List Nat) : EnvOK' (envM P t M n sym np rowT) :=
  ⟨⟨mixCalls_ok ht fun f E fn ws e => hM _ (lookM_mem e), noInl_ok P⟩, hP⟩
theorem mok_env {P : Program} (hP : P.follows .mixedOrders = true) {t : Tab} (ht : ∀ x ∈ t, EntryOK P x) {M : MTab} (hM : MTabOK P M) {f : Nat} {fn : Func} (hf : P.funcs[f]? = some fn)
    (hname : (fn.name == "runtime.NumGoroutine") = false) (sym rowT : List Nat) : MOK P f (fun k => envM P t M fn.ntmps sym k rowT) fn :=
  ⟨fun _ => rfl, fun k => envM_ok hP ht hM _ _ _ _, hf, hname, fun _ => rfl, fun k c _ => fun c hc k s r hk h => nomatch h⟩
theorem mtab_nil {P : Program} : MTabOK P [] := fun x h => nomatch h
theorem mtab_cons {P : Program} {x} {M : MTab} (h : MOK P x.1 x.2.1 x.2.2.1) (hM : MTabOK P M) : MTabOK P (x :: M) := by
  intro y hy
  rcases List.mem_cons.1 hy with rfl | hy
  · exact h
  · exact hM y hy
theorem pure_of_envM {P : Program} (hP : P.follows .mixedOrders = true) {t : Tab} (ht : ∀ x ∈ t, EntryOK P x) {M : MTab} (hM : MTabOK P M) {f : Nat} {fn : Func} (hf : P.funcs[f]? = some fn)
    (hname : (fn.name == "runtime.NumGoroutine") = false) {n : Nat} (hn : n = fn.ntmps) (sym rowT : List Nat) {vs : List AV} {v : AV} (hvs : allL NoIds vs) (hv : v.all NoIds)
    (hh : (evalVal (envM P t M n sym 0 rowT) fn vs).holds (· = v)) : PureOK P f vs v :=
  pure_of_eval (E := envM P t M n sym 0 rowT) (envM_ok hP ht hM n sym 0 rowT) hf hname hn (fun c _ => fun c hc k s r hk h => nomatch h) hvs hv hh
end Go.Sx
