/- Scalars, the program: one round of times, as the iterator calls it. -/
import Derived.Test.YtdcphhcgogmaoaaScT1
set_option linter.unusedVariables false
set_option linter.unusedSimpArgs false
open Go Go.Sx Go.Proofs Go.Dg
namespace Go.Sc

structure TC where
  w1 : World
  fn : FuncId
  l : Nat
  d : Nat
  la : Sx.Loc
  lr : Sx.Loc
  g : Nat → Int
  tmps : Array Value
noncomputable def TC.lrec (K : TC) : Loop := { state := .ready, pending := none, fn := K.fn, tmps := K.tmps, params := #[9], assign := A29 3, body := A29 4, defers := K.d }
structure TC.OK (K : TC) : Prop where
  hl : K.w1.heap[K.l]? = some (.loop K.lrec)
  ha : ObjOK (fun _ => K.la) 0 (rq K.g true) K.w1
  na : K.la.nil = false
  nr : K.lr.nil = false
  n1 : K.lr.blk ≠ K.l
  n2 : K.la.blk ≠ K.l
  n3 : K.lr.blk ≠ K.la.blk
  lt : K.lr.blk < K.w1.heap.size
  size : K.tmps.size = 21
  t2 : K.tmps.getD 2 undef = conc (fun _ => K.la) (.p 0 0 0)
  t5 : K.tmps.getD 5 undef = conc (fun _ => K.lr) (.p 0 0 0)
  hg : isW K.g
  ho : V4 K.g < order

/-- How the world stands between rounds. -/
structure Yd (K : TC) (X : Int) (w : World) : Prop where
  r : ∃ f, isW f ∧ V4 f = X ∧ ObjOK (fun _ => K.lr) 0 (rq f false) w
  x : X < order
  old : ∀ b, b < K.w1.heap.size → b ≠ K.lr.blk → w.heap[b]? = K.w1.heap[b]?
  os : w.os = K.w1.os
  tape : w.tape = K.w1.tape
  output : w.output = K.w1.output
  size : K.w1.heap.size ≤ w.heap.size

theorem rq_lt {l : Sx.Loc} {f : Nat → Int} {ro : Bool} {w : World} (h : ObjOK (fun _ => l) 0 (rq f ro) w) (hn : l.nil = false) : l.blk < w.heap.size := by
  rcases h.2 with h | h
  · rw [hn] at h; exact nomatch h.1
  · exact h.2.1

theorem lt_of_get {w : World} {b : Nat} {o : Obj} (h : w.heap[b]? = some o) : b < w.heap.size := (Array.getElem?_eq_some_iff.1 h).1

theorem round_ok {K : TC} (hK : K.OK) {X : Int} {w : World} (h : Yd K X w) (b : Bool) (n : Nat) :
    (Instr.yield K.l #[.bool b]).run Try.prog w = .ok (.round K.l K.fn (K.tmps.setIfInBounds 9 (.bool b)) (A29 3) (A29 4)) w ∧
    RoundIn Fence.wide n Try.prog K.l K.fn (K.tmps.setIfInBounds 9 (.bool b)) (A29 3) (A29 4) w fun e w' => e = .returned (.bool true) ∧ Yd K (bitStep X (V4 K.g) b) w' ∧
      w.heap.size ≤ w'.heap.size ∧ ∀ k, k < w.heap.size → k ≠ K.lr.blk → w'.heap[k]? = w.heap[k]? := by
  obtain ⟨f, hf, hX, hr⟩ := h.r
  have hlK := lt_of_get hK.hl
  have hl : w.heap[K.l]? = some (.loop K.lrec) := (h.old _ hlK hK.n1.symm).trans hK.hl
  have hsz := h.size
  refine ⟨?_, ?_⟩
  · have := run_yield (P := Try.prog) (args := #[.bool b]) hl rfl
    simpa [TC.lrec] using this
  have hla : ObjOK (fun _ => K.la) 0 (rq K.g true) w := by
    refine objOK_other hsz (fun _ => h.old _ ?_ hK.n3.symm) hK.ha
    exact rq_lt hK.ha hK.na
  let U : Nat → Prop := fun i => i = 0 ∨ i = 2
  let ρ : Nat → Sx.Loc := fun i => if i = 2 then K.lr else K.la
  let B : Base := { w0 := w, prot := fun k => k < w.heap.size ∧ k ≠ K.lr.blk, pin := fun i => if i = 0 then some K.la else if i = 2 then some K.lr else none }
  have hpin : ∀ i l, B.pin i = some l → i < 4 := fun i l e => by
    simp only [B] at e
    split at e
    · omega
    · split at e
      · omega
      · exact nomatch e
  have hmem : ∀ id o, (sR f K.g b).mem.get id = some o → (id = 0 ∧ o = rq K.g true) ∨ (id = 2 ∧ o = rq f false) := fun id o e => by
    simp only [sR] at e
    rcases Tr.get_set e with ⟨rfl, rfl⟩ | ⟨_, e⟩
    · exact .inr ⟨rfl, rfl⟩
    · rcases Tr.get_set e with ⟨rfl, rfl⟩ | ⟨_, e⟩
      · exact .inl ⟨rfl, rfl⟩
      · exact (tr_e_no e).elim
  have hM : MemOK B U ρ (sR f K.g b).mem.get w := by
    refine ⟨fun id o e => ?_, fun id o e => ?_, fun id id' o o' e e' hne hrw hlive hlive' => ?_, fun id o e hrw hlive => ?_, rfl, rfl, rfl, Nat.le_refl _, fun _ _ => rfl, fun k hk => hk.1, fun i l e => ?_⟩
    · rcases hmem id o e with ⟨rfl, rfl⟩ | ⟨rfl, rfl⟩
      · exact ⟨.inl rfl, trivial⟩
      · exact ⟨.inr rfl, trivial⟩
    · rcases hmem id o e with ⟨rfl, rfl⟩ | ⟨rfl, rfl⟩
      · exact hla
      · exact hr
    · rcases hmem id o e with ⟨rfl, rfl⟩ | ⟨rfl, rfl⟩ <;> rcases hmem id' o' e' with ⟨rfl, rfl⟩ | ⟨rfl, rfl⟩
      · exact absurd rfl hne
      · exact fun e => hK.n3 e.symm
      · exact fun e => hK.n3 e
      · exact absurd rfl hne
    · rcases hmem id o e with ⟨rfl, rfl⟩ | ⟨rfl, rfl⟩
      · exact nomatch hrw
      · exact fun hp => hp.2 rfl
    · simp only [B] at e
      split at e
      · rename_i hi; cases e; subst hi; exact ⟨.inl rfl, rfl⟩
      · split at e
        · rename_i hi; cases e; subst hi; exact ⟨.inr rfl, rfl⟩
        · exact nomatch e
  have hS : SimS B Try.f29.ntmps U ρ (sR f K.g b) { tmps := K.tmps.setIfInBounds 9 (.bool b), defers := [] } w := by
    refine ⟨by simp [hK.size], rfl, fun k v e => ?_, hM⟩
    simp only [sR] at e
    rcases Tr.get_set e with ⟨rfl, rfl⟩ | ⟨h9, e⟩
    · exact ⟨by simp [Array.getD_eq_getD_getElem?, Array.getElem?_setIfInBounds, hK.size, conc], trivial⟩
    · have hoff : (K.tmps.setIfInBounds 9 (.bool b)).getD k undef = K.tmps.getD k undef := by
        simp [Array.getD_eq_getD_getElem?, Array.getElem?_setIfInBounds, Ne.symm h9]
      dsimp only
      rw [hoff]
      rcases Tr.get_set e with ⟨rfl, rfl⟩ | ⟨h5, e⟩
      · exact ⟨hK.t5, .inr rfl⟩
      · rcases Tr.get_set e with ⟨rfl, rfl⟩ | ⟨h2, e⟩
        · exact ⟨hK.t2, .inl rfl⟩
        · exact (tr_e_no e).elim
  have hE := envL_ok mixed t29_ok Try.f29.ntmps [12, 16] 4 RW []
  refine roundIn_of_wpIn trivial ?_
  refine evalCode_okIn (E := E29) hE (A29 3) (sR f K.g b) (fun e s => e = .normal ∧ s = sR1 f K.g b) (by kernel_rfl) (by rw [ev29a]; exact ⟨rfl, rfl⟩) B hpin U ρ _ w _ hS (fun i hi => show i < 8 by rcases hi with rfl | rfl <;> omega) ?_
  rintro e s' U1 ρ1 a1 w1 ⟨rfl, rfl⟩ hS1 _ hU1
  have hp0 : U1 0 ∧ ρ1 0 = K.la := hS1.mem.pin 0 K.la rfl
  have hp2 : U1 2 ∧ ρ1 2 = K.lr := hS1.mem.pin 2 K.lr rfl
  have hlp : B.prot K.l := ⟨Nat.lt_of_lt_of_le hlK hsz, hK.n1.symm⟩
  have hl1 : w1.heap[K.l]? = some (.loop K.lrec) := (hS1.mem.kept _ hlp).trans hl
  refine ⟨_, run_beginRound hl1 rfl, ?_⟩
  have hmem1 : ∀ id o, (sR1 f K.g b).mem.get id = some o → id = 0 ∨ id = 2 := fun id o e => by
    rcases hmem id o e with ⟨rfl, _⟩ | ⟨rfl, _⟩
    · exact .inl rfl
    · exact .inr rfl
  obtain ⟨w2, hw2⟩ : ∃ w2, w2 = w1.putObj K.l (.loop { K.lrec with state := .busy }) := ⟨_, rfl⟩
  rw [← hw2]
  have hM2 := hS1.mem.restart (w' := w2) (fun id o e hlive => by
    rw [hw2]
    refine World.putObj_heap_other ?_
    rcases hmem1 id o e with rfl | rfl
    · rw [hp0.2]; exact hK.n2
    · rw [hp2.2]; exact hK.n1) (by rw [hw2]; simp)
  have hl2 : w2.heap[K.l]? = some (.loop { K.lrec with state := .busy }) := by rw [hw2]; exact World.putObj_heap_same (lt_of_get hl1)
  refine evalCode_okIn (E := E29) hE (A29 4) (sR1 f K.g b) (fun e s => e = .normal ∧ ∃ f', s.mem.get 2 = some (rq f' false) ∧ isW f' ∧ V4 f' = bitStep (V4 f) (V4 K.g) b) (by kernel_rfl)
    (holds29 hf hK.hg (by rw [hX]; exact h.x) hK.ho) { w0 := w2, prot := B.prot, pin := B.pin, df := B.df } hpin U1 ρ1 a1 w2 _ ⟨hS1.size, hS1.df, hS1.tm, hM2⟩ hU1 ?_
  rintro e s' U3 ρ3 a3 w3 ⟨rfl, f', hg', hf', hV'⟩ hS3 _ hU3
  have hp3 : U3 2 ∧ ρ3 2 = K.lr := hS3.mem.pin 2 K.lr rfl
  have hk3 : ∀ k, k < w.heap.size → k ≠ K.lr.blk → w3.heap[k]? = w2.heap[k]? := fun k h1 h2 => hS3.mem.kept k ⟨h1, h2⟩
  have hl3 := (hk3 _ (Nat.lt_of_lt_of_le hlK hsz) hK.n1.symm).trans hl2
  have s12 : w2.heap.size = w1.heap.size := by rw [hw2]; simp
  have s1 : w.heap.size ≤ w1.heap.size := hS1.mem.size
  have s3 : w2.heap.size ≤ w3.heap.size := hS3.mem.size
  refine ⟨_, _, run_endRound none hl3, rfl, ?_⟩
  have hrec : ({ ({ K.lrec with state := .busy } : Loop) with state := if (none : Option Code).isNone then .ready else .done, pending := none } : Loop) = K.lrec := rfl
  rw [hrec]
  have hlt3 : K.l < w3.heap.size := lt_of_get hl3
  have hall : ∀ k, k < w.heap.size → k ≠ K.lr.blk → (w3.putObj K.l (.loop K.lrec)).heap[k]? = w.heap[k]? := fun k h1 h2 => by
    by_cases hkl : k = K.l
    · subst hkl; rw [World.putObj_heap_same hlt3, hl]
    · rw [World.putObj_heap_other hkl, hk3 k h1 h2, hw2, World.putObj_heap_other hkl]
      exact hS1.mem.kept k ⟨h1, h2⟩
  refine ⟨⟨⟨f', hf', by rw [hV', hX], ?_⟩, by unfold bitStep; exact Int.emod_lt_of_pos _ (by decide), fun k h1 h2 => (hall k (Nat.lt_of_lt_of_le h1 hsz) h2).trans (h.old k h1 h2), ?_, ?_, ?_, ?_⟩, ?_, hall⟩
  · have := hS3.mem.obj 2 _ hg'
    have h2 : ObjOK (fun _ => K.lr) 0 (rq f' false) w3 := by
      have e : ρ3 2 = K.lr := hp3.2
      simp only [ObjOK, rq, e] at this ⊢
      exact this
    exact objOK_other (by simp) (fun _ => World.putObj_heap_other hK.n1) h2
  · show w3.os = _
    rw [hS3.mem.os]; show w2.os = _; rw [hw2]; show w1.os = _; rw [hS1.mem.os]; exact h.os
  · show w3.tape = _
    rw [hS3.mem.tape]; show w2.tape = _; rw [hw2]; show w1.tape = _; rw [hS1.mem.tape]; exact h.tape
  · show w3.output = _
    rw [hS3.mem.output]; show w2.output = _; rw [hw2]; show w1.output = _; rw [hS1.mem.output]; exact h.output
  · rw [World.putObj_size]; omega
  · rw [World.putObj_size]; omega
end Go.Sc
