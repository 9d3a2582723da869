/- One operation of the abstract machine is the model's: all of them. -/
import Derived.Test.YtbfmneknabhlcaaSxGm
set_option linter.unusedSimpArgs false
set_option linter.unusedVariables false
namespace Go.Sx
open Go.RowKit (Below)

/-- A call of a Go function that returns: its value and the world behind it. -/
def CallRun (P : Program) (f : FuncId) (args : Array Value) (w : World) (next : Value → World → Prop) : Prop :=
  match (callFunc f args).run P w with
  | .ok (.enter f xs) w' => Calls P f xs w' fun
    | .returned v, w'' => next v w''
    | _, _ => False
  | .ok (.value v) w' => next v w'
  | _ => False

theorem CallRun.mono {P : Program} {f : FuncId} {args : Array Value} {w : World} {next next' : Value → World → Prop} (h : CallRun P f args w next) (hn : ∀ v w, next v w → next' v w) :
    CallRun P f args w next' := by
  unfold CallRun at *
  split at h
  · refine h.mono fun e w' he => ?_
    cases e with
    | returned v => exact hn _ _ he
    | panicked _ => exact he
    | outgrown => exact he
  · exact hn _ _ h
  · exact h.elim

/-- What a table of calls tells is so. -/
def CallsOK (P : Program) (calls : Nat → List AV → Nat → Option (R Out)) : Prop :=
  ∀ (B : Base) (U : Nat → Prop) (ρ : Nat → Loc) (g : Nat → Option AObj) (w : World) (f : Nat) (vs : List AV) (nid : Nat) (r : R Out) (K : Out → Prop),
    calls f vs nid = some r → MemOK B U ρ g w → (∀ i, newIds nid i → ¬ U i) → allL U vs → (R.res g r).holds K →
    CallRun P f (concL ρ vs).toArray w fun v w' => ∃ out ρ', K out ∧ v = conc ρ' out.val ∧ (∀ i, U i → ρ' i = ρ i) ∧ MemOK B (orU U (newIds nid)) ρ' (wrF g out.wr) w' ∧ out.val.all (orU U (newIds nid))

section
variable {P : Program} {B : Base} {w : World} {ρ : Nat → Loc} {U : Nat → Prop} {g : Nat → Option AObj} {nid : Nat}

theorem ok_make (hm : MemOK B U ρ g w) (hn : ∀ i, newIds nid i → ¬ U i) {t : TypeId} {l c : AV} {K : Out → Prop} (h : (R.res g (amake P nid t l c)).holds K) :
    SemOK P B U (newIds nid) ρ g w (Instr.makeSlice t (conc ρ l) (conc ρ c)) K := by
  unfold amake at h
  split at h
  · rename_i e kl n kc m h1
    split at h
    · rename_i i z hi hz
      split at h
      · rename_i hd
        have hd' := of_decide_eq_true hd
        split at h
        · rename_i hs
          have hsz : i.size = z.cells.length := by simpa [nbeq] using hs
          unfold azero at hz
          rw [hi] at hz
          simp only [Option.map_eq_some_iff] at hz
          obtain ⟨v, hv, rfl⟩ := hz
          have hrun := run_make (P := P) w t e i v h1 hi hv kl kc n m hd'.1 hd'.2.1 (by rw [Int.mul_comm]; omega) (by omega)
          have hall : allL U (List.replicate m.toNat (ofValue v).cells).flatten := allL_iff.2 fun x hx => by
            obtain ⟨l, hl, hx⟩ := List.mem_flatten.1 hx
            rw [(List.mem_replicate.1 hl).2] at hx
            exact allL_iff.1 (cells_all (ofValue_all U v)) x hx
          have hcells : madeCells v.cells (m.toNat * i.size) = (concL ρ (List.replicate m.toNat (ofValue v).cells).flatten).toArray := by
            have e1 : v.cells = (concL ρ (ofValue v).cells).toArray := by rw [← cells_conc, conc_ofValue]
            unfold madeCells
            rw [e1, hsz]
            exact replicate_flat _ _ _ rfl
          obtain ⟨m1, m2⟩ := hm.alloc hn hall e _ rfl
          refine ⟨_, _, _, h, ?_, m1, m2, all_nid⟩
          simp only [conc_newS]
          simp only [conc]
          rw [hrun, hcells]
        · exact h.elim
      · exact h.elim
    · exact h.elim
  · exact h.elim

theorem ok_builtin (hm : MemOK B U ρ g w) {V : Nat → Prop} {b : Builtin} {ats : Array TypeId} {args : List AV} {K : Out → Prop}
    (h : (R.res g (abuiltin P b ats args)).holds K) :
    ∃ v, K ⟨v, []⟩ ∧ v.all U ∧ ∀ (ty : TypeId) (cs : Array Bool), (builtin b ats ty cs (concL ρ args).toArray).run P w = .ok (.value (conc ρ v)) w := by
  unfold abuiltin at h
  split at h
  · rename_i x
    have hg : ∀ {d : TypeDesc}, (lnth ats.toList 0).bind P.underlying = some d → ∃ t, ats[0]? = some t ∧ P.underlying t = some d := fun {d} hd => by
      rw [lnth_eq, Option.bind_eq_some_iff] at hd
      obtain ⟨t, ht, hu⟩ := hd
      exact ⟨t, by simpa using ht, hu⟩
    split at h
    · rename_i s h1
      obtain ⟨t, ht, hu⟩ := hg h1
      exact ⟨_, h, trivial, fun ty cs => by simp [BigFrame.builtin_len, Builtin.len_, ht, conc, concL, run_underlying t hu, goInt, size_mk]⟩
    · rename_i n _ h1
      obtain ⟨t, ht, hu⟩ := hg h1
      exact ⟨_, h, trivial, fun ty cs => by simp [BigFrame.builtin_len, Builtin.len_, ht, conc, concL, run_underlying t hu, goInt]⟩
    · rename_i n _ h1
      obtain ⟨t, ht, hu⟩ := hg h1
      exact ⟨_, h, trivial, fun ty cs => by simp [BigFrame.builtin_len, Builtin.len_, ht, conc, concL, run_underlying t hu, goInt]⟩
    · rename_i n _ h1
      obtain ⟨t, ht, hu⟩ := hg h1
      exact ⟨_, h, trivial, fun ty cs => by simp [BigFrame.builtin_len, Builtin.len_, ht, conc, concL, run_underlying t hu, goInt]⟩
    · exact h.elim
  · exact ⟨_, h, trivial, fun ty cs => by simp [BigFrame.builtin_min, Builtin.min_, Builtin.min2, conc, concL]⟩
  · exact ⟨_, h, trivial, fun ty cs => by simp [BigFrame.builtin_max, Builtin.max_, Builtin.max2, conc, concL]⟩
  · exact h.elim

theorem evs_conc {ev : Operand → Option AV} {a : Act} (hev : ∀ x v, ev x = some v → a.eval x = conc ρ v ∧ v.all U) :
    ∀ {l : List Operand} {vs : List AV}, evs ev l = some vs → l.map a.eval = concL ρ vs ∧ allL U vs
  | [], vs, h => by simp only [evs, Option.some.injEq] at h; subst h; exact ⟨rfl, trivial⟩
  | x :: l, vs, h => by
    simp only [evs] at h
    split at h
    · rename_i v vs' h1 h2
      cases h
      obtain ⟨e1, e2⟩ := evs_conc hev h2
      obtain ⟨f1, f2⟩ := hev _ _ h1
      exact ⟨by simp [e1, f1, concL], f2, e2⟩
    · exact nomatch h
theorem evParts_conc {ev : Operand → Option AV} {a : Act} (hev : ∀ x v, ev x = some v → a.eval x = conc ρ v ∧ v.all U) :
    ∀ {l : List (Nat × Operand)} {vs : List (Nat × AV)}, evParts ev l = some vs → l.map (fun p => (p.1, a.eval p.2)) = vs.map (fun p => (p.1, conc ρ p.2)) ∧ ∀ p ∈ vs, p.2.all U
  | [], vs, h => by simp only [evParts, Option.some.injEq] at h; subst h; exact ⟨rfl, fun _ h => nomatch h⟩
  | (i, x) :: l, vs, h => by
    simp only [evParts] at h
    split at h
    · rename_i v vs' h1 h2
      cases h
      obtain ⟨e1, e2⟩ := evParts_conc hev h2
      obtain ⟨f1, f2⟩ := hev _ _ h1
      refine ⟨by simp [e1, f1], fun p hp => ?_⟩
      rcases List.mem_cons.1 hp with rfl | hp
      · exact f2
      · exact e2 p hp
    · exact nomatch h
theorem evOpt_conc {ev : Operand → Option AV} {a : Act} (hev : ∀ x v, ev x = some v → a.eval x = conc ρ v ∧ v.all U) {x : Option Operand} {v : Option AV} (h : evOpt ev x = some v) :
    x.map a.eval = v.map (conc ρ) := by
  unfold evOpt at h
  split at h
  · cases h; rfl
  · split at h
    · rename_i v' hv
      cases h
      simp [(hev _ _ hv).1]
    · exact nomatch h

theorem wp_of_sem {V : Nat → Prop} {o : Oper} {a : Act} {x : Sem Value} {K : Out → Prop} {next : Act → World → Prop} {Q : Exit → Act → World → Prop}
    (he : execOp a.eval o = (do pure (.value (← x)))) (hs : SemOK P B U V ρ g w x K)
    (hnext : ∀ out ρ' w', K out → (∀ i, U i → ρ' i = ρ i) → MemOK B (orU U V) ρ' (wrF g out.wr) w' → out.val.all (orU U V) → next (a.put o.dst (conc ρ' out.val)) w') :
    o.wp P a w next Q := by
  obtain ⟨out, ρ', w', h1, h2, h3, h4, h5⟩ := hs
  unfold Oper.wp
  rw [he]
  simp only [Sem.run_bind, h2, Result.andThen_ok, Sem.run_pure, Oper.upon_value]
  exact hnext out ρ' w' h1 h3 h4 h5

theorem SemOK.mono {V V' : Nat → Prop} {x : Sem Value} {K : Out → Prop} (h : SemOK P B U V ρ g w x K) (hV : ∀ i, V i → V' i) : SemOK P B U V' ρ g w x K := by
  obtain ⟨out, ρ', w', h1, h2, h3, h4, h5⟩ := h
  have hm : ∀ i, orU U V i → orU U V' i := fun i hi => by
    rcases hi with h | h
    · exact .inl h
    · exact .inr (hV i h)
  exact ⟨out, ρ', w', h1, h2, h3, h4.mono hm, all_mono hm h5⟩

theorem aop_ok {E : Env} (hC : CallsOK E.P E.calls) {ev : Operand → Option AV} {sy : Bool} {o : Oper} {a : Act} (hm : MemOK B U ρ g w) (hn : ∀ i, newIds nid i → ¬ U i)
    {V : Nat → Prop} (hV : allocs o.op = true → ∀ i, newIds nid i → V i)
    (hev : ∀ x v, ev x = some v → a.eval x = conc ρ v ∧ v.all U) {K : Out → Prop} (h : (R.res g (aop E ev sy nid o)).holds K)
    {next : Act → World → Prop} {Q : Exit → Act → World → Prop}
    (hnext : ∀ out ρ' w', K out → (∀ i, U i → ρ' i = ρ i) → MemOK B (orU U V) ρ' (wrF g out.wr) w' → out.val.all (orU U V) → next (a.put o.dst (conc ρ' out.val)) w') :
    o.wp E.P a w next Q := by
  have still : ∀ {v : AV} {x : Operand}, ev x = some v → K ⟨v, []⟩ → ∀ {y : Sem Value}, y = pure (a.eval x) → SemOK E.P B U V ρ g w y K := fun {v x} hv hK {y} hy =>
    SemOK.still hm hK (by rw [hy, (hev _ _ hv).1]; rfl) (hev _ _ hv).2
  unfold aop at h
  split at h <;> rename_i hop
  · -- move
    rename_i x
    split at h
    · rename_i v hv
      refine wp_of_sem (x := pure (a.eval x)) ?_ (still hv h rfl) hnext
      simp only [execOp, hop]; rfl
    · exact h.elim
  · rename_i x
    split at h
    · rename_i v hv
      refine wp_of_sem (x := pure (a.eval x)) ?_ (still hv h rfl) hnext
      simp only [execOp, hop]; rfl
    · exact h.elim
  · -- pick
    rename_i c x y
    split at h
    · rename_i t ht
      have hc := (hev _ _ ht).1
      split at h
      · split at h
        · rename_i v hv
          refine wp_of_sem (x := pure (a.eval x)) ?_ (still hv h rfl) hnext
          simp only [execOp, hop, hc, conc, asBool]; rfl
        · exact h.elim
      · split at h
        · rename_i v hv
          refine wp_of_sem (x := pure (a.eval y)) ?_ (still hv h rfl) hnext
          simp only [execOp, hop, hc, conc, asBool]; rfl
        · exact h.elim
    · exact h.elim
  · -- alloc
    rename_i e
    split at h
    · rename_i z hz
      split at h
      · split at h
        · rename_i c hc _
          exact wp_of_sem (x := Instr.alloc e true (.tuple #[])) (by simp only [execOp, hop]) ((ok_allocR hm hn hz hc h).mono (hV (by rw [hop]; rfl))) hnext
        · exact h.elim
      · exact wp_of_sem (x := Instr.alloc e true (.tuple #[])) (by simp only [execOp, hop]) ((ok_alloc hm hn hz h).mono (hV (by rw [hop]; rfl))) hnext
    · exact h.elim
  · -- box
    rename_i e x
    split at h
    · rename_i v hv
      split at h
      · split at h
        · rename_i c hc _
          refine wp_of_sem (x := Instr.box e (conc ρ v)) ?_ ((ok_boxR hm hn hc h).mono (hV (by rw [hop]; rfl))) hnext
          simp only [execOp, hop, (hev _ _ hv).1]
        · exact h.elim
      · exact h.elim
      · refine wp_of_sem (x := Instr.box e (conc ρ v)) ?_ ((ok_box hm hn (hev _ _ hv).2 h).mono (hV (by rw [hop]; rfl))) hnext
        simp only [execOp, hop, (hev _ _ hv).1]
    · exact h.elim
  · -- build
    rename_i t ps
    split at h
    · rename_i z vs hz hvs
      obtain ⟨e1, e2⟩ := evParts_conc hev hvs
      have he : execOp a.eval o = (do pure (.value (← Instr.build t (vs.map fun p => (p.1, conc ρ p.2)).toArray))) := by
        simp only [execOp, hop]
        congr 2
        rw [← e1, ← Array.toList_inj]
        simp
      split at h
      · rename_i fs hu
        split at h
        · rename_i pl hpl
          split at h
          · rename_i cs hcs
            exact wp_of_sem he (ok_build_struct hm hz hu hpl hcs e2 h) hnext
          · exact h.elim
        · exact h.elim
      · rename_i len e hu
        split at h
        · rename_i n hsz
          split at h
          · rename_i cs hcs
            exact wp_of_sem he (ok_build_array hm hz hu hsz hcs e2 h) hnext
          · exact h.elim
        · exact h.elim
      · exact h.elim
    · exact h.elim
  · -- buildSlice
    rename_i t len ps
    split at h
    · rename_i e vs hu hvs
      obtain ⟨e1, e2⟩ := evParts_conc hev hvs
      have he : execOp a.eval o = (do pure (.value (← Instr.buildSlice t len (vs.map fun p => (p.1, conc ρ p.2)).toArray))) := by
        simp only [execOp, hop]
        congr 2
        rw [← e1, ← Array.toList_inj]
        simp
      split at h
      · rename_i n z hsz hz
        split at h
        · rename_i b1 b2 b3
          split at h
          · rename_i cs hcs
            exact wp_of_sem he ((ok_buildSlice hm hn hz hu hsz (by simpa [nbeq] using b1) (by simpa using b2) (by simpa [nbeq] using b3) hcs e2 h).mono (hV (by rw [hop]; rfl))) hnext
          · exact h.elim
        · exact h.elim
      · exact h.elim
    · exact h.elim
  · -- load
    rename_i t x
    split at h
    · rename_i v hv
      refine wp_of_sem (x := Instr.loadAt t (conc ρ v)) ?_ (ok_load hm h) hnext
      simp only [execOp, hop, (hev _ _ hv).1]
    · exact h.elim
  · -- store
    rename_i t x y
    split at h
    · rename_i v u hv hu
      obtain ⟨out, w', h1, h2, h3, h4⟩ := ok_store (P := E.P) (V := V) hm h (hev _ _ hu).2
      unfold Oper.wp
      have he : execOp a.eval o = (do Instr.storeAt t (conc ρ v) (conc ρ u); pure .skip) := by
        simp only [execOp, hop, (hev _ _ hv).1, (hev _ _ hu).1]
      rw [he]
      simp only [Sem.run_bind, h3, Result.andThen_ok, Sem.run_pure, Oper.upon_skip]
      have := hnext out ρ w' h1 (fun _ _ => rfl) h4 (by rw [h2]; trivial)
      rw [h2] at this
      exact this
    · exact h.elim
  · -- nilCheck
    rename_i x
    split at h
    · rename_i id i j hv
      refine wp_of_sem (x := pure (a.eval x)) ?_ (still hv h rfl) hnext
      simp only [execOp, hop, (hev _ _ hv).1, conc]; rfl
    · rename_i fn cap hv
      refine wp_of_sem (x := pure (a.eval x)) ?_ (still hv h rfl) hnext
      simp only [execOp, hop, (hev _ _ hv).1, conc]; rfl
    · exact h.elim
  · -- binOp
    rename_i op t x y yt
    split at h
    · rename_i v u hv hu
      rw [R.res_bind, R.holds_bind] at h
      obtain ⟨r, h1, h2, h3⟩ := abin_sound (P := E.P) (w := w) (ρ := ρ) h
      refine wp_of_sem (x := do eqGuard op t x y (conc ρ v) (conc ρ u); binOp op t (conc ρ v) (conc ρ u)) ?_ (SemOK.still hm h1 ?_ (h2 U)) hnext
      · simp only [execOp, hop, (hev _ _ hv).1, (hev _ _ hu).1]
      · simp only [Sem.run_bind, (h3 x y).1, Result.andThen_ok, (h3 x y).2]
    · exact h.elim
  · -- not
    rename_i t x
    split at h
    · rename_i b hv
      refine wp_of_sem (x := pure (.bool !b)) ?_ (SemOK.still hm h rfl trivial) hnext
      simp only [execOp, hop, (hev _ _ hv).1, conc, Op.unary]
    · exact h.elim
  · rename_i t x
    split at h
    · rename_i k n hv
      refine wp_of_sem (x := pure (.int k (k.wrap (0 - n)))) ?_ (SemOK.still hm h rfl trivial) hnext
      simp only [execOp, hop, (hev _ _ hv).1, conc, Op.unary, Op.intArith]
    · exact h.elim
  · rename_i t x
    split at h
    · rename_i k n hv
      refine wp_of_sem (x := pure (.int k (iXor k (if k.signed then -1 else k.max) n))) ?_ (SemOK.still hm h rfl trivial) hnext
      simp only [execOp, hop, (hev _ _ hv).1, conc, Op.unary, Op.intBits, iXor]
    · exact h.elim
  · -- convert
    rename_i src dst x
    split at h
    · rename_i v hv
      refine wp_of_sem (x := convert src dst (conc ρ v)) ?_ ((ok_convert hm hn h).mono (hV (by rw [hop]; rfl))) hnext
      simp only [execOp, hop, (hev _ _ hv).1]
    · exact h.elim
  · -- makeFunc
    rename_i fn first cap
    split at h
    · rename_i vs h0 hvs
      obtain ⟨e1, e2⟩ := evs_conc hev hvs
      have hf : first = #[] := by simpa [nbeq] using h0
      refine wp_of_sem (x := pure (.func (.func fn) #[] (concL ρ vs).toArray)) ?_ (SemOK.still hm h rfl e2) hnext
      simp only [execOp, hop, Instr.makeFunc, hf]
      have : cap.map a.eval = (concL ρ vs).toArray := by rw [← e1, ← Array.toList_inj]; simp
      simp [this]
    · exact h.elim
  · -- makeMap
    rename_i t
    refine wp_of_sem (x := Instr.makeMap t none) ?_ ((ok_makeMap hm hn h).mono (hV (by rw [hop]; rfl))) hnext
    simp only [execOp, hop]; rfl
  · -- mapUpdate
    rename_i t m k x
    split at h
    · rename_i mv kv xv hmv hkv hxv
      obtain ⟨out, w', h1, h2, h3, h4⟩ := ok_mapUpdate (P := E.P) (V := V) hm h (hev _ _ hkv).2 (hev _ _ hxv).2
      unfold Oper.wp
      have he : execOp a.eval o = (do Instr.mapUpdate t (conc ρ mv) (conc ρ kv) (conc ρ xv); pure .skip) := by
        simp only [execOp, hop, (hev _ _ hmv).1, (hev _ _ hkv).1, (hev _ _ hxv).1]
      rw [he]
      simp only [Sem.run_bind, h3, Result.andThen_ok, Sem.run_pure, Oper.upon_skip]
      have := hnext out ρ w' h1 (fun _ _ => rfl) h4 (by rw [h2]; trivial)
      rw [h2] at this
      exact this
    · exact h.elim
  · rename_i t m k x
    split at h
    · rename_i mv kv xv hmv hkv hxv
      obtain ⟨out, w', h1, h2, h3, h4⟩ := ok_mapUpdate (P := E.P) (V := V) hm h (hev _ _ hkv).2 (hev _ _ hxv).2
      unfold Oper.wp
      have he : execOp a.eval o = (do Instr.mapUpdate t (conc ρ mv) (conc ρ kv) (conc ρ xv); pure .skip) := by
        simp only [execOp, hop, (hev _ _ hmv).1, (hev _ _ hkv).1, (hev _ _ hxv).1]
      rw [he]
      simp only [Sem.run_bind, h3, Result.andThen_ok, Sem.run_pure, Oper.upon_skip]
      have := hnext out ρ w' h1 (fun _ _ => rfl) h4 (by rw [h2]; trivial)
      rw [h2] at this
      exact this
    · exact h.elim
  · -- lookup
    rename_i t m k ok
    split at h
    · rename_i mv kv hmv hkv
      refine wp_of_sem (x := Instr.lookup t (conc ρ mv) (conc ρ kv) ok) ?_ (ok_lookup hm h) hnext
      simp only [execOp, hop, (hev _ _ hmv).1, (hev _ _ hkv).1]
    · exact h.elim
  · -- makeSlice
    rename_i t l c
    split at h
    · rename_i v u hv hu
      refine wp_of_sem (x := Instr.makeSlice t (conc ρ v) (conc ρ u)) ?_ ((ok_make hm hn h).mono (hV (by rw [hop]; rfl))) hnext
      simp only [execOp, hop, (hev _ _ hv).1, (hev _ _ hu).1]
    · exact h.elim
  · -- slice
    rename_i t x lo hi mx
    split at h
    · rename_i v l hh m hv hl hhi hmx
      refine wp_of_sem (x := Instr.sliceAt t (conc ρ v) (l.map (conc ρ)) (hh.map (conc ρ)) (m.map (conc ρ))) ?_ (ok_slice hm (hev _ _ hv).2 h) hnext
      simp only [execOp, hop, (hev _ _ hv).1, evOpt_conc hev hl, evOpt_conc hev hhi, evOpt_conc hev hmx]
    · exact h.elim
  · -- sliceToArrayPointer
    rename_i t x
    split at h
    · rename_i id j len cap n e hv hu
      split at h
      · rename_i hb
        refine wp_of_sem (x := Instr.arrayAt t (conc ρ (.s id j len cap))) ?_ (SemOK.still hm h ?_ (hev _ _ hv).2) hnext
        · simp only [execOp, hop, (hev _ _ hv).1]
        · have hle : n ≤ len := by simpa using hb
          simp only [conc, Instr.arrayAt, Sem.run_bind, run_underlying t hu, Result.andThen_ok]
          rw [if_neg (by omega)]
          simp
      · exact h.elim
    · exact h.elim
  · -- fieldAddr
    rename_i t x f
    split at h
    · rename_i v hv
      refine wp_of_sem (x := Instr.fieldAt t (conc ρ v) f) ?_ (ok_fieldAddr hm (hev _ _ hv).2 h) hnext
      simp only [execOp, hop, (hev _ _ hv).1]
    · exact h.elim
  · rename_i t x f
    split at h
    · rename_i v hv
      refine wp_of_sem (x := Instr.field t (conc ρ v) f) ?_ (ok_field hm (hev _ _ hv).2 h) hnext
      simp only [execOp, hop, (hev _ _ hv).1]
    · exact h.elim
  · rename_i t x ix
    split at h
    · rename_i v u hv hu
      refine wp_of_sem (x := Instr.indexAt t (conc ρ v) (conc ρ u)) ?_ (ok_indexAddr hm (hev _ _ hv).2 h) hnext
      simp only [execOp, hop, (hev _ _ hv).1, (hev _ _ hu).1]
    · exact h.elim
  · rename_i t x ix
    split at h
    · rename_i v u hv hu
      refine wp_of_sem (x := Instr.index t (conc ρ v) (conc ρ u)) ?_ (ok_index hm (hev _ _ hv).2 h) hnext
      simp only [execOp, hop, (hev _ _ hv).1, (hev _ _ hu).1]
    · exact h.elim
  · -- extract
    rename_i x ix
    split at h
    · rename_i vs hvs
      split at h
      · rename_i v hv
        rw [lnth_eq] at hv
        have hx := hev _ _ hvs
        refine wp_of_sem (x := Instr.extract (conc ρ (.t vs)) ix) ?_ (SemOK.still hm h ?_ (allL_iff.1 hx.2 v (List.mem_of_getElem? hv))) hnext
        · simp only [execOp, hop, hx.1]
        · simp [conc, Instr.extract, concL_eq, hv]
      · exact h.elim
    · exact h.elim
  · -- call
    rename_i c
    split at h
    · rename_i vs hvs
      obtain ⟨e1, e2⟩ := evs_conc hev hvs
      have ea : c.args.map a.eval = (concL ρ vs).toArray := by rw [← e1, ← Array.toList_inj]; simp
      split at h
      · rename_i b hcal
        obtain ⟨v, h1, h2, h3⟩ := ok_builtin (P := E.P) (V := V) hm h
        unfold Oper.wp
        have he : execOp a.eval o = (do let d ← resolve a.eval c o.type; invoke d.target d.args) := by simp only [execOp, hop]
        rw [he]
        simp only [resolve, hcal, ea, Sem.run_bind, Sem.run_pure, Result.andThen_ok, invoke, h3, Oper.upon_value]
        exact hnext ⟨v, []⟩ ρ w h1 (fun _ _ => rfl) (hm.mono fun _ h => .inl h) (all_mono (fun _ h => .inl h) h2)
      · rename_i gx hcal
        split at h
        · rename_i fn cap hgx
          have hg := hev _ _ hgx
          split at h
          · rename_i r hr
            have hall : allL U (vs ++ cap) := allL_iff.2 fun x hx => by
              rcases List.mem_append.1 hx with hx | hx
              · exact allL_iff.1 e2 x hx
              · exact allL_iff.1 hg.2 x hx
            have hcr := hC B U ρ g w fn (vs ++ cap) nid r K hr hm hn hall h
            have hVm : ∀ i, orU U (newIds nid) i → orU U V i := fun i hi => by
              rcases hi with h | h
              · exact .inl h
              · exact .inr (hV (by rw [hop]; rfl) i h)
            unfold Oper.wp
            have he : (execOp a.eval o).run E.P w = (callFunc fn (concL ρ (vs ++ cap)).toArray).run E.P w := by
              simp only [execOp, hop, resolve, hcal, hg.1, conc, Deferred.ofValue, Sem.run_bind, Sem.run_pure, Result.andThen_ok, invoke, ea]
              simp [concL_eq]
            rw [he]
            unfold CallRun at hcr
            split at hcr
            · rename_i f' xs w' hrun
              rw [hrun, Oper.upon_enter]
              refine hcr.mono fun e w'' hh => ?_
              cases e with
              | returned v =>
                obtain ⟨out, ρ', k1, rfl, k3, k4, k5⟩ := hh
                exact hnext out ρ' w'' k1 k3 (k4.mono hVm) (all_mono hVm k5)
              | panicked _ => exact hh.elim
              | outgrown => exact hh.elim
            · rename_i v w' hrun
              rw [hrun, Oper.upon_value]
              obtain ⟨out, ρ', k1, rfl, k3, k4, k5⟩ := hcr
              exact hnext out ρ' w' k1 k3 (k4.mono hVm) (all_mono hVm k5)
            · exact hcr.elim
          · exact h.elim
        · exact h.elim
      · exact h.elim
    · exact h.elim
  · exact h.elim
end
end Go.Sx
