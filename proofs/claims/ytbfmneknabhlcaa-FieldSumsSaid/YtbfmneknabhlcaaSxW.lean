/- Contracts of functions that read and write blocks that they are handed. -/
import Derived.Test.YtbfmneknabhlcaaSxS
set_option linter.unusedSimpArgs false
set_option linter.unusedVariables false
namespace Go.Sx
open Go.RowKit (Below)

/-- A call's own view of a memory: the blocks of its names below np, which the caller knows as θ tells; all else that lay is protected. -/
def baseOf (ρ : Nat → Loc) (θ : Nat → Nat) (np : Nat) (mem0 : Nat → Option AObj) (w : World) : Base where
  w0 := w
  prot := fun b => b < w.heap.size ∧ ∀ c o, mem0 c = some o → o.rw = true → o.live (ρ (θ c)) = true → (ρ (θ c)).blk ≠ b
  pin := fun c => if c < np then some (ρ (θ c)) else none

/-- A value under other names, all names there. -/
def AV.ren (σ : Ren) (v : AV) : AV := match renAV σ v with
  | some x => x
  | none => v

theorem memOK_call {B : Base} {U : Nat → Prop} {ρ : Nat → Loc} {g : Nat → Option AObj} {w : World} (h : MemOK B U ρ g w) {σ : Ren} (n1 : (σ.map (·.1)).Nodup) (n2 : (σ.map (·.2)).Nodup) {np : Nat}
    (hσ : ∀ c, c < np → ∃ i, (i, c) ∈ σ ∧ U i) {mem0 : Nat → Option AObj} (hm : ∀ c o, mem0 c = some o → c < np ∧ ∃ i o', asc σ i = some c ∧ g i = some o' ∧ renO σ (some o') = some o) :
    MemOK (baseOf ρ (inv σ) np mem0 w) (renU σ U) (renρ σ ρ) mem0 w where
  use := fun c o e => by
    obtain ⟨_, i, o', h1, h2, h3⟩ := hm c o e
    have hu := h.use i o' h2
    exact ⟨⟨i, h1, hu.1⟩, (renO_ok (ρ := ρ) n2 h1 h3 hu.2 (h.obj i o' h2)).2.1⟩
  obj := fun c o e => by
    obtain ⟨_, i, o', h1, h2, h3⟩ := hm c o e
    exact (renO_ok n2 h1 h3 (h.use i o' h2).2 (h.obj i o' h2)).1
  sep := fun k k' o o' hk hk' hne hrw hlive hlive' => by
    obtain ⟨_, i, o1, h1, h2, h3⟩ := hm k o hk
    obtain ⟨_, i', o1', h1', h2', h3'⟩ := hm k' o' hk'
    obtain ⟨_, _, r1, r3⟩ := renO_ok (ρ := ρ) n2 h1 h3 (h.use i o1 h2).2 (h.obj i o1 h2)
    obtain ⟨_, _, _, r2⟩ := renO_ok (ρ := ρ) n2 h1' h3' (h.use i' o1' h2').2 (h.obj i' o1' h2')
    have hr : ∀ {i k}, asc σ i = some k → renρ σ ρ k = ρ i := fun {i k} e => by simp only [renρ, asc_nodup n2 e]
    rw [hr h1, hr h1']
    refine h.sep i i' o1 o1' h2 h2' (fun e => hne ?_) (by rw [← r1]; exact hrw) (by rw [← r3]; exact hlive) (by rw [← r2]; exact hlive')
    subst e; rw [h1] at h1'; cases h1'; rfl
  own := fun c o e hrw hl hp => hp.2 c o e hrw hl rfl
  os := rfl
  tape := rfl
  output := rfl
  size := Nat.le_refl _
  kept := fun _ _ => rfl
  plt := fun _ hb => hb.1
  pin := fun c l hl => by
    simp only [baseOf] at hl
    split at hl
    · rename_i hc
      cases hl
      obtain ⟨i, hi, hu⟩ := hσ c hc
      exact ⟨⟨i, nodup_asc n1 hi, hu⟩, rfl⟩
    · exact nomatch hl

/-- Where the names lie behind the call. -/
def backρ (nid : Nat) (τ : Ren) (ρ ρ0 : Nat → Loc) : Nat → Loc := fun k => if nid ≤ k ∧ k < nid + 4 then ρ0 (inv τ k) else ρ k

theorem memOK_back {B : Base} {U : Nat → Prop} {ρ : Nat → Loc} {g : Nat → Option AObj} {w w' : World} (h : MemOK B U ρ g w) {nid : Nat} (hn : ∀ i, newIds nid i → ¬ U i)
    {θ : Nat → Nat} {np : Nat} {mem0 : Nat → Option AObj} (hm : ∀ c o, mem0 c = some o → ∃ o', g (θ c) = some o' ∧ (o.rw = true → o'.rw = true) ∧ o'.live (ρ (θ c)) = o.live (ρ (θ c)))
    {U0 : Nat → Prop} {ρ0 : Nat → Loc} {g0 : Nat → Option AObj} (h0 : MemOK (baseOf ρ θ np mem0 w) U0 ρ0 g0 w')
    {τ : Ren} (n2 : (τ.map (·.2)).Nodup) (hτ : ∀ c k, asc τ c = some k → (c < np ∧ k = θ c ∧ U k) ∨ (np ≤ c ∧ newIds nid k))
    {g' : Nat → Option AObj}
    (hg : ∀ id o', g' id = some o' → (∃ c o, asc τ c = some id ∧ g0 c = some o ∧ renO τ (some o) = some o' ∧ (o.rw = true ∨ o.live (ρ0 c) = false)) ∨
      (g id = some o' ∧ ∀ c o, mem0 c = some o → o.rw = true → θ c ≠ id)) :
    (∀ i, U i → backρ nid τ ρ ρ0 i = ρ i) ∧ MemOK B (orU U (newIds nid)) (backρ nid τ ρ ρ0) g' w' ∧
      ∀ x x', renAV τ x = some x' → x.all U0 → conc (backρ nid τ ρ ρ0) x' = conc ρ0 x ∧ x'.all (orU U (newIds nid)) := by
  have hU : ∀ i, U i → backρ nid τ ρ ρ0 i = ρ i := fun i hi => by
    unfold backρ
    exact if_neg (fun e => hn i e hi)
  have hpin : ∀ c, c < np → ρ0 c = ρ (θ c) := fun c hc => (h0.pin c (ρ (θ c)) (by simp [baseOf, hc])).2
  have hτρ : ∀ c k, asc τ c = some k → backρ nid τ ρ ρ0 k = ρ0 c := fun c k e => by
    rcases hτ c k e with ⟨h1, h2, h3⟩ | ⟨h1, h2⟩
    · rw [hU k h3, hpin c h1, h2]
    · unfold backρ
      exact (if_pos h2).trans (by rw [asc_nodup n2 e])
  have hren : ∀ i, renU τ U0 i → backρ nid τ ρ ρ0 i = renρ τ ρ0 i := fun i ⟨c, hc, _⟩ => by
    rw [hτρ c i hc]; simp only [renρ, asc_nodup n2 hc]
  have hrenU : ∀ i, renU τ U0 i → orU U (newIds nid) i := fun i ⟨c, hc, _⟩ => by
    rcases hτ c i hc with ⟨_, _, h3⟩ | ⟨_, h2⟩
    · exact .inl h3
    · exact .inr h2
  have hprot : ∀ b, B.prot b → (baseOf ρ θ np mem0 w).prot b := fun b hb => by
    refine ⟨Nat.lt_of_lt_of_le (h.plt b hb) h.size, fun c o e hrw hl hb' => ?_⟩
    obtain ⟨o', e1, e2, e3⟩ := hm c o e
    exact h.own _ o' e1 (e2 hrw) (by rw [e3]; exact hl) (by rw [hb']; exact hb)
  have hprotB : ∀ id o', g id = some o' → (∀ c o, mem0 c = some o → o.rw = true → θ c ≠ id) → o'.live (ρ id) = true → (baseOf ρ θ np mem0 w).prot (ρ id).blk := fun id o' e hne hl => by
    refine ⟨objOK_lt (h.obj id o' e) hl, fun c o ec hrw hlc => ?_⟩
    obtain ⟨o'', e1, e2, e3⟩ := hm c o ec
    exact h.sep _ id o'' o' e1 e (hne c o ec hrw) (e2 hrw) (by rw [e3]; exact hlc) hl
  refine ⟨hU, ?_, fun x x' hx hu => ?_⟩
  · refine ⟨?_, ?_, ?_, ?_, h0.os.trans h.os, h0.tape.trans h.tape, h0.output.trans h.output, Nat.le_trans h.size h0.size, fun b hb => (h0.kept b (hprot b hb)).trans (h.kept b hb), h.plt, ?_⟩
    · intro id o' e
      rcases hg id o' e with ⟨c, o, e1, e2, e3, e4⟩ | ⟨e1, e2⟩
      · have hu := h0.use c o e2
        have := (renO_ok (ρ := ρ0) n2 e1 e3 hu.2 (h0.obj c o e2)).2.1
        exact ⟨hrenU id ⟨c, e1, hu.1⟩, AObj.all_mono hrenU this⟩
      · have hu := h.use id o' e1
        exact ⟨.inl hu.1, AObj.all_mono (fun _ h => .inl h) hu.2⟩
    · intro id o' e
      rcases hg id o' e with ⟨c, o, e1, e2, e3, e4⟩ | ⟨e1, e2⟩
      · have hu := h0.use c o e2
        obtain ⟨r1, r2, _⟩ := renO_ok (ρ := ρ0) n2 e1 e3 hu.2 (h0.obj c o e2)
        exact objOK_congr hren ⟨⟨c, e1, hu.1⟩, r2⟩ r1
      · have hu := h.use id o' e1
        refine objOK_congr hU hu (objOK_other h0.size (fun hl => h0.kept _ (hprotB id o' e1 e2 hl)) (h.obj id o' e1))
    · intro id id' o o' e e' hne hrw hl hl'
      rcases hg id o e with ⟨c, p, e1, e2, e3, e4⟩ | ⟨e1, e2⟩ <;> rcases hg id' o' e' with ⟨c', p', e1', e2', e3', e4'⟩ | ⟨e1', e2'⟩
      · obtain ⟨_, _, r1, r2⟩ := renO_ok (ρ := ρ0) n2 e1 e3 (h0.use c p e2).2 (h0.obj c p e2)
        obtain ⟨_, _, _, r2'⟩ := renO_ok (ρ := ρ0) n2 e1' e3' (h0.use c' p' e2').2 (h0.obj c' p' e2')
        have q : renρ τ ρ0 id = ρ0 c := by simp only [renρ, asc_nodup n2 e1]
        have q' : renρ τ ρ0 id' = ρ0 c' := by simp only [renρ, asc_nodup n2 e1']
        rw [hτρ c id e1] at hl ⊢
        rw [hτρ c' id' e1'] at hl' ⊢
        rw [q] at r2; rw [q'] at r2'
        refine h0.sep c c' p p' e2 e2' (fun hc => hne ?_) (by rw [← r1]; exact hrw) (by rw [← r2]; exact hl) (by rw [← r2']; exact hl')
        subst hc; rw [e1] at e1'; cases e1'; rfl
      · obtain ⟨_, _, r1, r2⟩ := renO_ok (ρ := ρ0) n2 e1 e3 (h0.use c p e2).2 (h0.obj c p e2)
        have q : renρ τ ρ0 id = ρ0 c := by simp only [renρ, asc_nodup n2 e1]
        have hu' := (h.use id' o' e1').1
        rw [hτρ c id e1] at hl ⊢
        rw [hU id' hu'] at hl' ⊢
        rw [q] at r2
        intro hb
        refine h0.own c p e2 (by rw [← r1]; exact hrw) (by rw [← r2]; exact hl) ?_
        rw [hb]; exact hprotB id' o' e1' e2' hl'
      · obtain ⟨_, _, r1', r2'⟩ := renO_ok (ρ := ρ0) n2 e1' e3' (h0.use c' p' e2').2 (h0.obj c' p' e2')
        have q' : renρ τ ρ0 id' = ρ0 c' := by simp only [renρ, asc_nodup n2 e1']
        have hu := (h.use id o e1).1
        rw [hU id hu] at hl ⊢
        rw [hτρ c' id' e1'] at hl' ⊢
        rw [q'] at r2'
        intro hb
        have hlp : p'.live (ρ0 c') = true := by rw [← r2']; exact hl'
        rcases e4' with e4' | e4'
        · refine h0.own c' p' e2' e4' hlp ?_
          rw [← hb]; exact hprotB id o e1 e2 hl
        · rw [hlp] at e4'; exact nomatch e4'
      · rw [hU id (h.use id o e1).1] at hl ⊢
        rw [hU id' (h.use id' o' e1').1] at hl' ⊢
        exact h.sep id id' o o' e1 e1' hne hrw hl hl'
    · intro id o e hrw hl
      rcases hg id o e with ⟨c, p, e1, e2, e3, e4⟩ | ⟨e1, e2⟩
      · obtain ⟨_, _, r1, r2⟩ := renO_ok (ρ := ρ0) n2 e1 e3 (h0.use c p e2).2 (h0.obj c p e2)
        have q : renρ τ ρ0 id = ρ0 c := by simp only [renρ, asc_nodup n2 e1]
        rw [hτρ c id e1] at hl ⊢
        rw [q] at r2
        exact fun hb => h0.own c p e2 (by rw [← r1]; exact hrw) (by rw [← r2]; exact hl) (hprot _ hb)
      · rw [hU id (h.use id o e1).1] at hl ⊢
        exact h.own id o e1 hrw hl
    · intro i l hi
      obtain ⟨a1, a2⟩ := h.pin i l hi
      exact ⟨.inl a1, by rw [hU i a1]; exact a2⟩
  · obtain ⟨a1, a2⟩ := renAV_ok (ρ := ρ0) (U := U0) n2 hx hu
    exact ⟨by rw [conc_congr hren a2]; exact a1, Sx.all_mono hrenU a2⟩

/-- A call that is handed blocks: in the call's own names. -/
theorem mcall {E : Env} (hE : EnvOK' E) {f : Nat} {fn : Func} (hf : E.P.funcs[f]? = some fn) (hname : (fn.name == "runtime.NumGoroutine") = false) (hn : E.n = fn.ntmps)
    (hL : ∀ c, fn.body = some c → LoopsOK E (loopsOf c)) {B : Base} {U : Nat → Prop} {ρ : Nat → Loc} {g : Nat → Option AObj} {w : World} (h : MemOK B U ρ g w)
    {σ : Ren} (n1 : (σ.map (·.1)).Nodup) (n2 : (σ.map (·.2)).Nodup) (hσ : ∀ c, c < E.np → ∃ i, (i, c) ∈ σ ∧ U i) (hσ' : ∀ i c, asc σ i = some c → c < E.np)
    {mem0 : Tr AObj} (hm : ∀ c o, mem0.get c = some o → c < E.np ∧ ∃ i o', asc σ i = some c ∧ g i = some o' ∧ renO σ (some o') = some o)
    {vs vs0 : List AV} (hvs : renL σ vs = some vs0) (hU : allL U vs) {K0 : AV × St → Prop} (hh : (evalBody E fn vs0 mem0 E.np).holds K0) :
    CallRun E.P f (concL ρ vs).toArray w fun v w' => ∃ x s ρ0 U0, K0 (x, s) ∧ v = conc ρ0 x ∧ MemOK (baseOf ρ (inv σ) E.np mem0.get w) U0 ρ0 s.mem.get w' ∧ x.all U0 := by
  obtain ⟨a1, a2⟩ := renL_ok (ρ := ρ) (U := U) n2 hvs hU
  rw [← a1]
  have hp : ∀ i l, (baseOf ρ (inv σ) E.np mem0.get w).pin i = some l → i < E.np := fun i l hi => by
    simp only [baseOf] at hi
    split at hi
    · assumption
    · exact nomatch hi
  refine (body_ok hE hf hname hn hL hh hp (memOK_call h n1 n2 hσ hm) (fun i ⟨k, hk, _⟩ => hσ' k i hk) a2).mono fun v w' ⟨x, s, ρ', U', hK, hv, hm', hx, _, _⟩ => ⟨x, s, ρ', U', hK, hv, hm', hx⟩
end Go.Sx
