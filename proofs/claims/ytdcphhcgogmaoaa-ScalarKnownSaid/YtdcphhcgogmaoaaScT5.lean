/- Scalars, the program: times. -/
import Derived.Test.YtdcphhcgogmaoaaScT4
set_option linter.unusedVariables false
set_option linter.unusedSimpArgs false
set_option linter.constructorNameAsVariable false
open Go Go.Sx Go.Proofs Go.Dg Go.RowKit
namespace Go.Sc
noncomputable abbrev E29p : Env := { envL Try.prog [] Try.f29.ntmps [] 0 RW [] with inl := inlOf fun f => match f with | 37 => some (envL Try.prog [] Try.f37.ntmps [] 0 RW [], Try.f37) | _ => none }
def sP (g : Nat → Int) (s : List UInt8) : St := ⟨argsTm [.rows [.int .u64 g] 4, .str s] 0 .e, .e, 0, []⟩
def nst (r : R (Ex × St)) : St := match r with | .ret (_, s) => s | _ => ⟨.e, .e, 0, []⟩
noncomputable def s1P (g : Nat → Int) (s : List UInt8) : St := nst (evalCode E29p (A29 0) (sP g s))
noncomputable def s2P (g : Nat → Int) (s : List UInt8) : St := nst (evalCode E29p (A29 1) (s1P g s))
noncomputable def s3P (g : Nat → Int) (s : List UInt8) : St := nst (evalCode E29p (A29 2) (s2P g s))
theorem e1P (g : Nat → Int) (s : List UInt8) : evalCode E29p (A29 0) (sP g s) = .ret (.normal, s1P g s) := by kernel_rfl
theorem e2P (g : Nat → Int) (s : List UInt8) : evalCode E29p (A29 1) (s1P g s) = .ret (.normal, s2P g s) := by kernel_rfl
theorem e3P (g : Nat → Int) (s : List UInt8) : evalCode E29p (A29 2) (s2P g s) = .ret (.normal, s3P g s) := by kernel_rfl

theorem m3P (g : Nat → Int) (s : List UInt8) : (s3P g s).mem.get 0 = some (rq g false) ∧ (s3P g s).mem.get 4 = some (rq (fun _ => 0) false) ∧ (s3P g s).mem.get 8 = some (rq (fun _ => 0) false) ∧ (s3P g s).mem.get 12 = some (.cells [.str s]) := by
  refine ⟨?_, ?_, ?_, ?_⟩ <;> kernel_rfl
theorem t3P (g : Nat → Int) (s : List UInt8) : (s3P g s).tm.get 2 = some (.p 0 0 0) ∧ (s3P g s).tm.get 4 = some (.p 4 0 0) ∧ (s3P g s).tm.get 5 = some (.p 8 0 0) ∧ opnd (s3P g s).tm (.tmp 8) = some (.f 40 [.p 12 0 0]) := by
  refine ⟨?_, ?_, ?_, ?_⟩ <;> kernel_rfl
def sE (f z : Nat → Int) : St := ⟨(Tr.e.set 4 (.p 4 0 0)).set 5 (.p 8 0 0), (Tr.e.set 4 (rq z false)).set 8 (rq f false), 16, []⟩
def CE : Cut := ⟨[4], [([4], 4)], 16⟩
def viewE (f : Nat → Int) : View := ([.p 4 0 0], [(4, rq f false)])
theorem evE (f z : Nat → Int) : ((evalCode E29 (A29 5) (sE f z)).bind fun x => .ret (x.1, cut 0 CE x.2)) = .req (4 ≤ 4) (.req (0 = 0) (.ret (.ret, some (viewE f)))) := by kernel_rfl
theorem ldE (f : Nat → Int) : loadAll E29 (lay CE 16 (viewE f)).tm (lay CE 16 (viewE f)).mem Try.f29.results.toList = some [.rows [.int .u64 f] 4] := by kernel_rfl
theorem in37 : ∀ f E fn, (match f with | 37 => some (envL Try.prog [] Try.f37.ntmps [] 0 RW [], Try.f37) | _ => none : Option (Env × Func)) = some (E, fn) → InOK Try.prog f E fn := by
  intro f E fn h
  split at h
  · cases h
    exact ⟨rfl, envL_ok mixed (t := []) (fun x h => nomatch h) _ _ _ _ _, by kernel_rfl, by kernel_rfl, rfl, rfl⟩
  · exact nomatch h
theorem e29p_ok : EnvOK' E29p := ⟨⟨tabCalls_ok (t := []) (fun x h => nomatch h), inlOf_ok in37⟩, mixed⟩
theorem noLoops29 (k : Nat) : loopsOf (A29 k) = [] := by
  match k with
  | 0 => rfl
  | 1 => rfl
  | 2 => rfl
  | 3 => rfl
  | 4 => rfl
  | _ + 5 => rfl
theorem run40 (xs : Array Value) (w : World) : (callFunc 40 xs).run Try.prog w = .ok (.enter 40 xs) w := by
  have hf : Try.prog.funcs[40]? = some Try.f40 := by kernel_rfl
  have hn : (Try.f40.name == "runtime.NumGoroutine") = false := by kernel_rfl
  have h1 : Try.f40.name ≠ "runtime.NumGoroutine" := by simpa using hn
  simp [callFunc, hf, h1, body40]
theorem run29 (xs : Array Value) (w : World) : (callFunc 29 xs).run Try.prog w = .ok (.enter 29 xs) w := by
  have hf : Try.prog.funcs[29]? = some Try.f29 := by kernel_rfl
  have hn : (Try.f29.name == "runtime.NumGoroutine") = false := by kernel_rfl
  have h1 : Try.f29.name ≠ "runtime.NumGoroutine" := by simpa using hn
  simp [callFunc, hf, h1, body29]
theorem rq_ro {l : Sx.Loc} {f : Nat → Int} {w : World} {i : Nat} {ρ : Nat → Sx.Loc} (e : ρ i = l) (h : ObjOK ρ i (rq f false) w) : ObjOK (fun _ => l) 0 (rq f true) w := by
  simp only [ObjOK, e] at h ⊢
  refine ⟨h.1, ?_⟩
  rcases h.2 with h | h
  · exact .inl h
  · exact .inr ⟨h.1, h.2.1, h.2.2.1, fun h => nomatch h⟩
theorem rq_at {l : Sx.Loc} {f : Nat → Int} {w : World} {i : Nat} {ρ : Nat → Sx.Loc} {b : Bool} (e : ρ i = l) : ObjOK ρ i (rq f b) w ↔ ObjOK (fun _ => l) 0 (rq f b) w := by
  simp only [ObjOK, e]
theorem rq_nil {l : Sx.Loc} {f : Nat → Int} {w : World} {b : Bool} (h : ObjOK (fun _ => l) 0 (rq f b) w) : l.nil = false := by
  rcases h.2 with h | h
  · exact absurd h.2 (by decide)
  · exact h.1
theorem cells_ro {l : Sx.Loc} {s : List UInt8} {w : World} {i : Nat} {ρ : Nat → Sx.Loc} (e : ρ i = l) (h : ObjOK ρ i (.cells [.str s]) w) : ObjOK (fun _ => l) 0 (.ro [.str s]) w := by
  simp only [ObjOK, e] at h ⊢
  refine ⟨h.1, fun j c hc => ?_⟩
  rw [h.2.1 j c hc]
  match j with
  | 0 => cases hc; rfl
  | j + 1 => exact nomatch hc

set_option maxHeartbeats 2000000 in
theorem p29 {g : Nat → Int} (hg : isW g) (ho : V4 g < order) {s : List UInt8} (hlen : s.length < 9223372036854775808) :
    PureOK Try.prog 29 [.rows [.int .u64 g] 4, .str s] (W (outX s (V4 g) s.length 0)) := by
  refine ⟨fun ρ w => ?_, trivial⟩
  unfold CallRun
  rw [run29]
  refine callsIn_wide (n := 0).1 (callsIn_of_wp_marks (fn := Try.f29) (by kernel_rfl) body29 trivial ?_)
  have hS0 : SimS { w0 := w, prot := fun b => b < w.heap.size } Try.f29.ntmps NoIds ρ (sP g s) { tmps := (concL ρ [.rows [.int .u64 g] 4, .str s]).toArray ++ Array.replicate (Try.f29.ntmps - (concL ρ [.rows [.int .u64 g] 4, .str s]).toArray.size) undef, defers := [] } w :=
    sim_args (B := { w0 := w, prot := fun b => b < w.heap.size }) (mem := .e) (nx := 0) rfl (memOK_start w ρ) ⟨trivial, trivial, trivial⟩ (show 2 ≤ Try.f29.ntmps by decide +kernel)
  have hp0 : ∀ i l, ({ w0 := w, prot := fun b => b < w.heap.size } : Base).pin i = some l → i < 0 := fun i l h => nomatch h
  have noL : ∀ k, LoopsOK E29p (loopsOf (A29 k)) := fun k c hc => by rw [noLoops29] at hc; exact nomatch hc
  refine wpIn_seq (wpIn_wide.2 (evalCode_ok e29p_ok (A29 0) (sP g s) (fun e s' => e = .normal ∧ s' = s1P g s) (noL 0) (by rw [e1P]; exact ⟨rfl, rfl⟩) _ hp0 NoIds ρ _ w _ hS0 (fun i h => h.elim) ?_))
  rintro _ _ U1 ρ1 a1 w1 ⟨rfl, rfl⟩ hS1 _ hU1
  refine wpIn_seq (wpIn_wide.2 (evalCode_ok e29p_ok (A29 1) (s1P g s) (fun e s' => e = .normal ∧ s' = s2P g s) (noL 1) (by rw [e2P]; exact ⟨rfl, rfl⟩) _ hp0 U1 ρ1 _ w1 _ hS1 hU1 ?_))
  rintro _ _ U2 ρ2 a2 w2 ⟨rfl, rfl⟩ hS2 _ hU2
  refine wpIn_seq (wpIn_seq (wpIn_wide.2 (evalCode_ok e29p_ok (A29 2) (s2P g s) (fun e s' => e = .normal ∧ s' = s3P g s) (noL 2) (by rw [e3P]; exact ⟨rfl, rfl⟩) _ hp0 U2 ρ2 _ w2 _ hS2 hU2 ?_)))
  rintro _ _ U3 ρ3 a3 w3 ⟨rfl, rfl⟩ hS3 _ hU3
  clear hS0 hS1 hS2 hU1 hU2
  obtain ⟨q0, q4, q8, q12⟩ := m3P g s
  obtain ⟨t2, t4, t5, t8⟩ := t3P g s
  have hM := hS3.mem
  have o0 := hM.obj 0 _ q0
  have o4 := hM.obj 4 _ q4
  have o8 := hM.obj 8 _ q8
  have o12 := hM.obj 12 _ q12
  have b0 := (rq_at (l := ρ3 0) rfl).1 o0
  have b4 := (rq_at (l := ρ3 4) rfl).1 o4
  have b8 := (rq_at (l := ρ3 8) rfl).1 o8
  have n0 := rq_nil b0
  have n4 := rq_nil b4
  have n8 := rq_nil b8
  have l0 := rq_lt b0 n0
  have l4 := rq_lt b4 n4
  have l8 := rq_lt b8 n8
  have l12 : (ρ3 12).blk < w3.heap.size := o12.1
  have live0 : (rq g false).live (ρ3 0) = true := by simp [AObj.live, n0]
  have live4 : (rq (fun _ => 0) false).live (ρ3 4) = true := by simp [AObj.live, n4]
  have live8 : (rq (fun _ => 0) false).live (ρ3 8) = true := by simp [AObj.live, n8]
  have s80 := hM.sep 8 0 _ _ q8 q0 (by decide) rfl live8 live0
  have s84 := hM.sep 8 4 _ _ q8 q4 (by decide) rfl live8 live4
  have s812 := hM.sep 8 12 _ _ q8 q12 (by decide) rfl live8 rfl
  have p4 : ¬ (ρ3 4).blk < w.heap.size := hM.own 4 _ q4 rfl live4
  have p8 : ¬ (ρ3 8).blk < w.heap.size := hM.own 8 _ q8 rfl live8
  have hsz3 : w.heap.size ≤ w3.heap.size := hM.size
  have ev8 : a3.eval (.tmp 8) = .func (.func 40) #[] #[conc ρ3 (.p 12 0 0)] := (hS3.evS (.tmp 8) _ t8).1
  refine wpIn_block (wpIn_rangeFunc ?_)
  intro fn _
  obtain ⟨rec, hrec⟩ : ∃ rec : LoopState → Option Code → Loop, rec = fun st pe => { state := st, pending := pe, fn, tmps := a3.tmps, params := #[9], assign := A29 3, body := A29 4, defers := w3.heap.size } := ⟨_, rfl⟩
  obtain ⟨W1, hW1⟩ : ∃ W1, (w3.alloc (.deferred (some []))).alloc (.loop (rec .ready none)) = W1 := ⟨_, rfl⟩
  have hL1 : W1.heap[w3.heap.size + 1]? = some (.loop (rec .ready none)) := by
    rw [← hW1]; have := World.alloc_heap_new (w3.alloc (.deferred (some []))) (.loop (rec .ready none)); rwa [World.size_alloc] at this
  have hD1 : W1.heap[w3.heap.size]? = some (.deferred (some [])) := by
    rw [← hW1]; exact (Below.heap_alloc _ _ _ (by simp)).trans (World.alloc_heap_new w3 _)
  have hold1 : ∀ k, k < w3.heap.size → W1.heap[k]? = w3.heap[k]? := fun k hk => by
    rw [← hW1]; exact (Below.heap_alloc _ _ _ (by simp; omega)).trans (Below.heap_alloc _ _ _ hk)
  have hsz1 : W1.heap.size = w3.heap.size + 2 := by rw [← hW1]; simp
  let K : TC := { w1 := W1, fn, l := w3.heap.size + 1, d := w3.heap.size, la := ρ3 0, lr := ρ3 8, g, tmps := a3.tmps }
  have hKrec : K.lrec = rec .ready none := by rw [hrec]; rfl
  have hK : K.OK := {
    hl := by rw [hKrec]; exact hL1
    ha := objOK_other (show w3.heap.size ≤ W1.heap.size by omega) (fun _ => hold1 _ l0) (rq_ro rfl o0)
    na := n0
    nr := n8
    n1 := by show (ρ3 8).blk ≠ w3.heap.size + 1; omega
    n2 := by show (ρ3 0).blk ≠ w3.heap.size + 1; omega
    n3 := s80
    lt := by show (ρ3 8).blk < W1.heap.size; omega
    size := hS3.size
    t2 := (hS3.tm 2 _ t2).1
    t5 := (hS3.tm 5 _ t5).1
    hg := hg
    ho := ho }
  have hY : Yd K 0 W1 := {
    r := ⟨fun _ => 0, fun q _ => ⟨Int.le_refl _, b64⟩, by decide, objOK_other (by omega) (fun _ => hold1 _ l8) b8⟩
    x := by decide
    old := fun _ _ _ => rfl
    os := rfl
    tape := rfl
    output := rfl
    size := Nat.le_refl _ }
  have hs12 : ObjOK (fun _ => ρ3 12) 0 (.ro [.str s]) W1 := objOK_other (by omega) (fun _ => hold1 _ l12) (cells_ro rfl o12)
  refine ⟨w3.heap.size + 1, [{ target := .collected w3.heap.size, args := #[] }], W1, { target := .fn (.func 40) #[conc ρ3 (.p 12 0 0)], args := #[.func (.yield (w3.heap.size + 1)) #[] #[]] }, W1, 40,
    #[.func (.yield (w3.heap.size + 1)) #[] #[]] ++ #[conc ρ3 (.p 12 0 0)], W1, ?_, ?_, fun _ _ => trivial, ?_, fun h => by simp [Fence.wide] at h, ?_⟩
  · rw [← hW1, hrec]; exact run_enterLoop_outer _ _ _ _ _
  · simp only [resolve, ev8]
    simp [go_sem]
  · simp [invoke, go_sem, run40]
  refine callsIn_wide.2 ((down_ok hK (ls := ρ3 12) (fun e => s812 e.symm) hlen hY hs12).mono ?_)
  rintro e w4 ⟨⟨v, rfl⟩, hY4⟩
  have hl4 : w4.heap[w3.heap.size + 1]? = some (.loop (rec .ready none)) := (hY4.old (w3.heap.size + 1) (by show _ < W1.heap.size; omega) hK.n1.symm).trans hL1
  refine ⟨(rec .ready none).pending, _, run_endLoop hl4 (by rw [hrec]; simp), ?_⟩
  have hpend : (rec .ready none).pending = none := by rw [hrec]
  obtain ⟨w5, hw5⟩ : ∃ w5, w5 = w4.putObj (w3.heap.size + 1) (.loop { rec .ready none with state := .exhausted }) := ⟨_, rfl⟩
  rw [← hw5, hpend]
  dsimp only
  have hsz4 : W1.heap.size ≤ w4.heap.size := hY4.size
  have hsz5 : w5.heap.size = w4.heap.size := by rw [hw5]; simp
  have hold5 : ∀ k, k < W1.heap.size → k ≠ (ρ3 8).blk → k ≠ w3.heap.size + 1 → w5.heap[k]? = W1.heap[k]? := fun k h1 h2 h3 => by
    rw [hw5, World.putObj_heap_other h3]; exact hY4.old k h1 h2
  have hD5 : w5.heap[w3.heap.size]? = some (.deferred (some [])) := (hold5 _ (by omega) (by omega) (by omega)).trans hD1
  obtain ⟨f, hf, hV, hr4⟩ := hY4.r
  have r5 : ObjOK (fun _ => ρ3 8) 0 (rq f false) w5 := objOK_other (by omega) (fun _ => by rw [hw5]; exact World.putObj_heap_other (by omega)) hr4
  have z5 : ObjOK (fun _ => ρ3 4) 0 (rq (fun _ => 0) false) w5 :=
    objOK_other (by omega) (fun _ => (hold5 _ (by omega) (fun e => s84 e.symm) (by omega)).trans (hold1 _ l4)) b4
  let D : List Deferred := [{ target := .collected w3.heap.size, args := #[] }]
  let B5 : Base := { w0 := w5, prot := fun b => b < w.heap.size ∨ b = w3.heap.size, df := D }
  have hmem : ∀ id o, (sE f fun _ => 0).mem.get id = some o → (id = 8 ∧ o = rq f false) ∨ (id = 4 ∧ o = rq (fun _ => 0) false) := fun id o e => by
    simp only [sE] at e
    rcases Tr.get_set e with h | ⟨_, e⟩
    · exact .inl h
    · rcases Tr.get_set e with h | ⟨_, e⟩
      · exact .inr h
      · exact (tr_e_no e).elim
  have hM5 : MemOK B5 (fun i => i = 4 ∨ i = 8) ρ3 (sE f fun _ => 0).mem.get w5 := by
    refine ⟨fun id o e => ?_, fun id o e => ?_, fun id id' o o' e e' hne hrw hlive hlive' => ?_, fun id o e hrw hlive => ?_, rfl, rfl, rfl, Nat.le_refl _, fun _ _ => rfl, fun k hk => ?_, fun i l e => nomatch e⟩
    · rcases hmem id o e with ⟨rfl, rfl⟩ | ⟨rfl, rfl⟩
      · exact ⟨.inr rfl, trivial⟩
      · exact ⟨.inl rfl, trivial⟩
    · rcases hmem id o e with ⟨rfl, rfl⟩ | ⟨rfl, rfl⟩
      · exact (rq_at rfl).2 r5
      · exact (rq_at rfl).2 z5
    · rcases hmem id o e with ⟨rfl, rfl⟩ | ⟨rfl, rfl⟩ <;> rcases hmem id' o' e' with ⟨rfl, rfl⟩ | ⟨rfl, rfl⟩
      · exact absurd rfl hne
      · exact s84
      · exact fun e => s84 e.symm
      · exact absurd rfl hne
    · rcases hmem id o e with ⟨rfl, rfl⟩ | ⟨rfl, rfl⟩
      · show ¬ ((ρ3 8).blk < w.heap.size ∨ (ρ3 8).blk = w3.heap.size); omega
      · show ¬ ((ρ3 4).blk < w.heap.size ∨ (ρ3 4).blk = w3.heap.size); omega
    · show k < w5.heap.size
      rcases hk with hk | hk <;> omega
  have hS5 : SimS B5 Try.f29.ntmps (fun i => i = 4 ∨ i = 8) ρ3 (sE f fun _ => 0) { a3 with defers := D ++ a3.defers } w5 := by
    refine ⟨hS3.size, by show D ++ a3.defers = D; rw [hS3.df]; rfl, fun k v e => ?_, hM5⟩
    simp only [sE] at e
    rcases Tr.get_set e with ⟨rfl, rfl⟩ | ⟨_, e⟩
    · exact ⟨(hS3.tm 5 _ t5).1, .inr rfl⟩
    · rcases Tr.get_set e with ⟨rfl, rfl⟩ | ⟨_, e⟩
      · exact ⟨(hS3.tm 4 _ t4).1, .inl rfl⟩
      · exact (tr_e_no e).elim
  have hE29 : EnvOK' E29 := envL_ok mixed t29_ok Try.f29.ntmps [12, 16] 4 RW []
  have key : ((evalCode E29 (A29 5) (sE f fun _ => 0)).bind fun x => (.ret (x.1, cut 0 CE x.2) : R (Ex × Option View))).holds (fun x => x = (.ret, some (viewE f))) := by
    rw [evE]; exact ⟨by omega, rfl, rfl⟩
  rw [R.holds_bind] at key
  refine wpIn_wide.2 (evalCode_ok hE29 (A29 5) (sE f fun _ => 0) (fun e s' => (e, cut 0 CE s') = (.ret, some (viewE f))) (by rw [noLoops29]; exact fun c hc => nomatch hc) key B5
    (fun i l e => nomatch e) _ ρ3 _ w5 _ hS5 (fun i hi => show i < 16 by rcases hi with rfl | rfl <;> omega) ?_)
  rintro e s6 U6' ρ6' a6 w6 hQ hS6' _ _
  have hQ1 : e = .ret := congrArg Prod.fst hQ
  have hQ2 : cut 0 CE s6 = some (viewE f) := congrArg Prod.snd hQ
  subst hQ1
  obtain ⟨U6, ρ6, hS6, _⟩ := cut_ok (nx := 16) (B := B5) (np := 0) (fun i l e => nomatch e) hQ2 hS6'
  have hM6 := hS6.mem
  have hD6 : w6.heap[w3.heap.size]? = some (.deferred (some [])) := (hM6.kept w3.heap.size (.inr rfl)).trans hD5
  obtain ⟨w7, hw7⟩ : ∃ w7, w7 = w6.putObj w3.heap.size (.deferred none) := ⟨_, rfl⟩
  have hdf : a6.defers = D := hS6.df
  show LeavesInM Fence.wide 0 Try.prog Try.f29 a6.tmps _ a6.defers .returning w6
  rw [hdf]
  refine ⟨by simp, .inl ⟨w3.heap.size, w7, rfl, by rw [hw7]; exact run_takeDeferred hD6, ?_⟩⟩
  have hM7 := hM6.restart (w' := w7) (fun id o e hl => by
    rw [hw7]
    refine World.putObj_heap_other ?_
    intro hb
    have e' : ((Tr.e.set 4 (rq f false)) : Tr AObj).get id = some o := e
    rcases Tr.get_set e' with ⟨rfl, rfl⟩ | ⟨_, e'⟩
    · exact hM6.own 4 _ e rfl hl (.inr hb)
    · exact (tr_e_no e').elim) (by rw [hw7]; simp)
  have hS7 : SimS { w0 := w7, prot := B5.prot, pin := B5.pin, df := B5.df } Try.f29.ntmps U6 ρ6 (lay CE 16 (viewE f)) a6 w7 := ⟨hS6.size, hS6.df, hS6.tm, hM7⟩
  have hr := (results_ok (E := E29) (fn := Try.f29) hS7 (ldE f)).1
  have hk6 : ∀ k, k < w.heap.size → w6.heap[k]? = w5.heap[k]? := fun k hk => hM6.kept k (.inl hk)
  refine ⟨_, hr, ?_, ?_, ?_, ?_, ?_, ?_⟩
  · show conc ρ6 (.rows [.int .u64 f] 4) = _
    rw [W, ← hV]
    exact conc_rows_congr (fun q hq => (dig_sm b64 hf hq).symm) ρ6
  · show w7.os = w.os
    rw [hw7]; show w6.os = _; rw [hM6.os]; show w5.os = _; rw [hw5]; show w4.os = _; rw [hY4.os]; show W1.os = _; rw [← hW1]; exact hM.os
  · show w7.tape = w.tape
    rw [hw7]; show w6.tape = _; rw [hM6.tape]; show w5.tape = _; rw [hw5]; show w4.tape = _; rw [hY4.tape]; show W1.tape = _; rw [← hW1]; exact hM.tape
  · show w7.output = w.output
    rw [hw7]; show w6.output = _; rw [hM6.output]; show w5.output = _; rw [hw5]; show w4.output = _; rw [hY4.output]; show W1.output = _; rw [← hW1]; exact hM.output
  · have h6 : w5.heap.size ≤ w6.heap.size := hM6.size
    rw [hw7, World.putObj_size]; omega
  · intro k hk
    rw [hw7, World.putObj_heap_other (by omega), hk6 k hk, hold5 k (by omega) (by omega) (by omega), hold1 k (by omega)]
    exact hM.kept k hk
end Go.Sc
