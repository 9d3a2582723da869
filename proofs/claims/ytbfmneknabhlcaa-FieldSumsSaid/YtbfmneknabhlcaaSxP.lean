/- Code and functions: what the abstract machine tells of them is so. -/
import Derived.Test.YtbfmneknabhlcaaSxO
import Derived.Laws.Externs
set_option linter.unusedSimpArgs false
set_option linter.unusedVariables false
namespace Go.Sx
open Go.RowKit (Below)

def exOf : Ex → Exit
  | .normal => .normal
  | .exit id => .exit id
  | .ret => .ret

/-- What the abstract machine tells of a piece of code: from any frame and world that are as s tells it comes to one as Q tells. -/
def AWp (P : Program) (n np : Nat) (c : Code) (Q : Ex → St → Prop) (s : St) : Prop :=
  ∀ (B : Base) (hp : ∀ i l, B.pin i = some l → i < np) (U : Nat → Prop) (ρ : Nat → Loc) (a : Act) (w : World) (QQ : Exit → Act → World → Prop), SimS B n U ρ s a w → (∀ i, U i → i < s.nx) →
    (∀ e s' U' ρ' a' w', Q e s' → SimS B n U' ρ' s' a' w' → s.nx ≤ s'.nx → (∀ i, U' i → i < s'.nx) → QQ (exOf e) a' w') → c.wp P QQ a w

def loopsOf : Code → List Code
  | .seq a b => loopsOf a ++ loopsOf b
  | .cond _ a b => loopsOf a ++ loopsOf b
  | .block _ a => loopsOf a
  | .loop a => a :: loopsOf a
  | .scope a => loopsOf a
  | .rangeFunc _ _ a b => loopsOf a ++ loopsOf b
  | _ => []

/-- What a table of loops tells is so, of the loops of a piece of code. -/
def LoopsOK (E : Env) (root : List Code) : Prop :=
  ∀ c ∈ root, ∀ k s r, firstRegion c = some k → E.loops k s = some r → ∀ Q : Ex → St → Prop, r.holds (fun x => Q x.1 x.2) → AWp E.P E.n E.np (.loop c) Q s

structure EnvOK' (E : Env) : Prop extends EnvOK E where
  mixed : E.P.follows .mixedOrders = true

section
variable {B : Base} {w w' : World} {ρ ρ' : Nat → Loc} {U U' : Nat → Prop} {g g' : Nat → Option AObj} {t t' : Nat → Option AV} {n : Nat} {a : Act}

theorem Sim.below (h : Sim B n U ρ t g a w) (hb : Below w.heap.size w w') : Sim B n U ρ t g a w' := ⟨h.size, h.df, h.tm, h.mem.below hb⟩

theorem evalRegion_ok {E : Env} (hE : EnvOK' E) {id : Nat} {ops : Array Oper} {draw : Bool} {s : St} {K : St → Prop} (hh : (evalRegion E ops.toList draw s).holds K)
    {QQ : Exit → Act → World → Prop} (h : SimS B E.n U ρ s a w) (hU : ∀ i, U i → i < s.nx)
    (hQ : ∀ s' U' ρ' a' w', K s' → SimS B E.n U' ρ' s' a' w' → s.nx ≤ s'.nx → (∀ i, U' i → i < s'.nx) → QQ .normal a' w') : (Code.region id ops draw).wp E.P QQ a w := by
  unfold evalRegion at hh
  simp only at hh
  split at hh
  · rw [R.holds_bind] at hh
    refine wp_region ?_
    have := evalOps_ok hE.toEnvOK (Q := QQ) (N := ops.toList.length) (base := 0) ops.toList 0 s [] a w U ρ h hU
      (by simp) (fun k => by simp) hh (fun s' tr' U' ρ' a' w' hK hs hn hu => hQ s' U' ρ' a' w' hK hs hn hu)
    rw [List.range_eq_range']
    simpa using this
  · split at hh
    · rename_i hb ht
      rw [R.holds_bind] at hh
      obtain ⟨rs, sf, hr, hnx, hK⟩ := evalOps_recs hh
      dsimp only at hK
      split at hK
      · rename_i hc
        obtain ⟨H, q1, q2⟩ := orders_of hb ht hr hc
        refine wp_region_any hE.mixed ?_
        have hs0 : SimS B E.n U ρ s a { w with drawn := w.drawn + 1 } := h.below (Below.refl _ _).drew
        have hrep : ∀ i, (Array.replicate ops.size false).getD i false = false := fun i => by
          rw [Array.getD_eq_getD_getElem?]
          by_cases hi : i < ops.size <;> simp [hi]
        have hany := orders_any hE.toEnvOK H (U0 := U) hU (Q := QQ) (B := B) ?_ ops.size (Array.replicate ops.size false) a { w with drawn := w.drawn + 1 } (by simp) ?_ ?_ ?_
        · simpa using hany
        · intro a' w' ⟨ρ', hs⟩
          refine hQ sf _ ρ' a' w' hK (Sim.sub hs q1 q2) ?_ ?_
          · simp only at hnx; omega
          · intro i hi
            simp only at hnx
            rcases hi with h | ⟨k, h1, h2⟩
            · have := hU i h; omega
            · simp only [below, decide_eq_true_eq] at h1
              simp only [newIds] at h2
              omega
        · intro k o ho hx
          dsimp only at hx
          rw [hrep] at hx; exact nomatch hx
        · exact Nat.le_trans (List.length_filter_le _ _) (by simp)
        · refine ⟨ρ, Sim.mono (U := U) ?_ fun i hi => .inl hi⟩
          rw [GX_congr (Y := fun _ => false) (fun m _ => hrep m), GX_congr (Y := fun _ => false) (fun m _ => hrep m)]
          have e1 : ∀ {α : Type} (us : List (List (Nat × α))) (g : Nat → Option α), GX (fun _ => false) us 0 g = g := fun us g => funext fun i => GX_no (fun m u _ hx => nomatch hx)
          rw [e1, e1]
          exact hs0
      · exact hK.elim
    · exact hh.elim

theorem iter_ok {P : Program} {c : Code} {f : St → R (Ex × St)} {n np : Nat} (hc : ∀ (s : St) (Q : Ex → St → Prop), (f s).holds (fun x => Q x.1 x.2) → AWp P n np c Q s) {Q : Ex → St → Prop} {QQ : Exit → Act → World → Prop} :
    ∀ (fuel : Nat) (s : St) (B : Base) (hp : ∀ i l, B.pin i = some l → i < np) (U : Nat → Prop) (ρ : Nat → Loc) (a : Act) (w : World), (iter f fuel s).holds (fun x => Q x.1 x.2) → SimS B n U ρ s a w → (∀ i, U i → i < s.nx) →
      (∀ e s' U' ρ' a' w', Q e s' → SimS B n U' ρ' s' a' w' → s.nx ≤ s'.nx → (∀ i, U' i → i < s'.nx) → QQ (exOf e) a' w') → Code.rounds P c QQ fuel a w
  | 0, _, _, _, _, _, _, _, hh, _, _, _ => hh.elim
  | fuel + 1, s, B, hp, U, ρ, a, w, hh, h, hU, hQ => by
    rw [rounds_succ]
    simp only [iter] at hh
    rw [R.holds_bind] at hh
    have := hc s (fun e s' => (match e with | .normal => iter f fuel s' | e => .ret (e, s') : R (Ex × St)).holds fun x => Q x.1 x.2) hh
    refine this B hp U ρ a w _ h hU fun e s' U' ρ' a' w' hK hs hn hu => ?_
    cases e with
    | normal =>
      refine iter_ok hc fuel s' B hp U' ρ' a' w' hK hs hu fun e s'' U'' ρ'' a'' w'' h1 h2 h3 h4 => hQ e s'' U'' ρ'' a'' w'' h1 h2 (by omega) h4
    | exit id => exact hQ (.exit id) s' U' ρ' a' w' hK hs hn hu
    | ret => exact hQ .ret s' U' ρ' a' w' hK hs hn hu

theorem evalCode_ok {E : Env} (hE : EnvOK' E) : ∀ (c : Code) (s : St) (Q : Ex → St → Prop), LoopsOK E (loopsOf c) → (evalCode E c s).holds (fun x => Q x.1 x.2) → AWp E.P E.n E.np c Q s := by
  intro c
  induction c with
  | skip => intro s Q _ hh B hp U ρ a w QQ h hU hQ; exact wp_skip (hQ .normal s U ρ a w hh h (Nat.le_refl _) hU)
  | label l => intro s Q _ hh B hp U ρ a w QQ h hU hQ; exact wp_label (hQ .normal s U ρ a w hh h (Nat.le_refl _) hU)
  | exit id => intro s Q _ hh B hp U ρ a w QQ h hU hQ; exact wp_exit (hQ (.exit id) s U ρ a w hh h (Nat.le_refl _) hU)
  | ret => intro s Q _ hh B hp U ρ a w QQ h hU hQ; exact wp_ret (hQ .ret s U ρ a w hh h (Nat.le_refl _) hU)
  | region id ops draw =>
    intro s Q _ hh B hp U ρ a w QQ h hU hQ
    simp only [evalCode] at hh
    rw [R.holds_bind] at hh
    exact evalRegion_ok hE hh h hU fun s' U' ρ' a' w' hK hs hn hu => hQ .normal s' U' ρ' a' w' hK hs hn hu
  | seq x y ihx ihy =>
    intro s Q hL hh B hp U ρ a w QQ h hU hQ
    simp only [evalCode] at hh
    rw [R.holds_bind] at hh
    refine wp_seq (ihx s (fun e s' => (match e with | .normal => evalCode E y s' | e => .ret (e, s') : R (Ex × St)).holds fun x => Q x.1 x.2)
      (fun c hc => hL c (List.mem_append.2 (.inl hc))) hh B hp U ρ a w _ h hU fun e s' U' ρ' a' w' hK hs hn hu => ?_)
    cases e with
    | normal => exact ihy s' Q (fun c hc => hL c (List.mem_append.2 (.inr hc))) hK B hp U' ρ' a' w' QQ hs hu fun e s'' U'' ρ'' a'' w'' h1 h2 h3 h4 => hQ e s'' U'' ρ'' a'' w'' h1 h2 (by omega) h4
    | exit id => exact hQ (.exit id) s' U' ρ' a' w' hK hs hn hu
    | ret => exact hQ .ret s' U' ρ' a' w' hK hs hn hu
  | cond c x y ihx ihy =>
    intro s Q hL hh B hp U ρ a w QQ h hU hQ
    simp only [evalCode] at hh
    split at hh
    · rename_i b hb
      have hc : a.eval c = .bool b := (h.evS _ _ hb).1
      have hx := ihx s Q (fun c hc => hL c (List.mem_append.2 (.inl hc)))
      have hy := ihy s Q (fun c hc => hL c (List.mem_append.2 (.inr hc)))
      split at hh
      · refine wp_cond_split hc (fun ht => hx (hh.1 ht) B hp U ρ a w QQ h hU hQ) (fun hf => hy (hh.2 hf) B hp U ρ a w QQ h hU hQ)
      · split at hh
        · exact wp_cond_true hc (hx hh B hp U ρ a w QQ h hU hQ)
        · exact wp_cond_false hc (hy hh B hp U ρ a w QQ h hU hQ)
    · exact hh.elim
  | block id c ih =>
    intro s Q hL hh B hp U ρ a w QQ h hU hQ
    simp only [evalCode] at hh
    rw [R.holds_bind] at hh
    refine wp_block (ih s (fun e s' => (match e with | .exit id' => (match Nat.beq id' id with | true => .ret (.normal, s') | false => .ret (.exit id', s')) | e => .ret (e, s') : R (Ex × St)).holds fun x => Q x.1 x.2) hL hh B hp U ρ a w _ h hU fun e s' U' ρ' a' w' hK hs hn hu => ?_)
    cases e with
    | normal => exact hQ .normal s' U' ρ' a' w' hK hs hn hu
    | exit id' =>
      simp only [exOf, Exit.inBlock]
      dsimp only at hK
      split at hK
      · rename_i he
        have : id' = id := by simpa [nbeq] using he
        rw [if_pos this]
        exact hQ .normal s' U' ρ' a' w' hK hs hn hu
      · rename_i he
        have : id' ≠ id := by simpa [nbeq] using he
        rw [if_neg this]
        exact hQ (.exit id') s' U' ρ' a' w' hK hs hn hu
    | ret => exact hQ .ret s' U' ρ' a' w' hK hs hn hu
  | loop c ih =>
    intro s Q hL hh
    simp only [evalCode] at hh
    split at hh
    · rename_i r hr
      rw [Option.bind_eq_some_iff] at hr
      obtain ⟨k, hk, hr⟩ := hr
      exact hL c (by simp [loopsOf]) k s r hk hr Q hh
    · intro B hp U ρ a w QQ h hU hQ
      exact wp_loop_rounds E.fuel (iter_ok (fun s Q hs => ih s Q (fun c' hc' => hL c' (List.mem_cons_of_mem _ hc')) hs) E.fuel s B hp U ρ a w hh h hU hQ)
  | rangeFunc _ _ _ _ _ _ => intro s Q _ hh; exact hh.elim
  | goto _ => intro s Q _ hh; exact hh.elim
  | scope _ _ => intro s Q _ hh; exact hh.elim
  | refuse _ => intro s Q _ hh; exact hh.elim

/-! ### functions -/
def resSem (tmps : Array Value) : ResultVar → Sem Value
  | .tmp t => pure (tmps.getD t undef)
  | .cell x t => do loadVar t (← asAddr (tmps.getD x undef))

theorem loadRes_ok {E : Env} {s : St} (h : SimS B n U ρ s a w) {r : ResultVar} {v : AV} (hv : loadRes E s.tm s.mem r = some v) :
    (resSem a.tmps r).run E.P w = .ok (conc ρ v) w ∧ v.all U := by
  cases r with
  | tmp k =>
    simp only [loadRes] at hv
    obtain ⟨h1, h2⟩ := h.tm _ _ hv
    exact ⟨by simp only [resSem, Sem.run_pure, h1], h2⟩
  | cell x t =>
    simp only [loadRes] at hv
    split at hv
    · rename_i id j hx
      have hp := (h.tm _ _ hx).1
      simp only [conc, Nat.zero_mul, Nat.add_zero] at hp
      split at hv
      · rename_i c n ro ho
        split at hv
        · rename_i m ht hm
          split at hv
          · rename_i hmn h0
            cases hv
            have hmn : m = n := by simpa [nbeq] using hmn
            subst hmn
            refine ⟨?_, trivial⟩
            simp only [resSem, hp, asAddr, Sem.run_bind, Sem.run_pure, Result.andThen_ok]
            have := run_load_sub (P := E.P) (t := t) (i := 0) (h.mem.obj _ _ ho) ht hm (by simpa using h0) (by omega)
            simp only [Nat.zero_mul] at this
            rw [show (Loc.at (ρ id) 0 : Addr) = ⟨(ρ id).blk, (ρ id).base + 0, none⟩ from rfl] at this
            rw [this]
            congr 1
            simp only [conc]
            congr 2
            rw [rowsV_one, rowsV_one]
            exact List.map_congr_left fun q _ => by rw [shift_val, Nat.zero_add]
          · exact nomatch hv
        · exact nomatch hv
      · split at hv
        · rename_i cs hcs
          have ho : ∃ o, s.mem.get id = some o := by
            cases e : s.mem.get id with
            | none => rw [e] at hcs; exact nomatch hcs
            | some o => exact ⟨o, rfl⟩
          obtain ⟨o, ho⟩ := ho
          rw [ho] at hcs
          refine ⟨?_, apart_all hv (mem_all h.mem ho hcs)⟩
          simp only [resSem, hp, asAddr, Sem.run_bind, Sem.run_pure, Result.andThen_ok]
          exact run_loadVar h.mem ho hcs hv
        · exact nomatch hv
    · exact nomatch hv

theorem loadAll_ok {E : Env} {s : St} (h : SimS B n U ρ s a w) : ∀ {l : List ResultVar} {vs : List AV}, loadAll E s.tm s.mem l = some vs →
    (l.mapM (resSem a.tmps)).run E.P w = .ok (concL ρ vs) w ∧ allL U vs
  | [], vs, hv => by simp only [loadAll, Option.some.injEq] at hv; subst hv; exact ⟨rfl, trivial⟩
  | r :: l, vs, hv => by
    simp only [loadAll] at hv
    split at hv
    · rename_i v vs' h1 h2
      cases hv
      obtain ⟨a1, a2⟩ := loadRes_ok h h1
      obtain ⟨b1, b2⟩ := loadAll_ok h h2
      refine ⟨?_, a2, b2⟩
      simp only [List.mapM_cons, Sem.run_bind, a1, Result.andThen_ok, b1, concL, Sem.run_pure]
    · exact nomatch hv

theorem results_ok {E : Env} {s : St} {fn : Func} (h : SimS B n U ρ s a w) {vs : List AV} (hv : loadAll E s.tm s.mem fn.results.toList = some vs) :
    (results fn a.tmps).run E.P w = .ok (conc ρ (resultAV vs)) w ∧ (resultAV vs).all U := by
  obtain ⟨h1, h2⟩ := loadAll_ok h hv
  constructor
  · have e : (fun (r : ResultVar) => (match r with
        | .tmp t => pure (a.tmps.getD t undef)
        | .cell x t => do loadVar t (← asAddr (a.tmps.getD x undef)) : Sem Value)) = resSem a.tmps := by
      funext r
      cases r <;> rfl
    have e2 : results fn a.tmps = (do let vs ← fn.results.mapM (resSem a.tmps); pure (if h : vs.size = 1 then vs[0] else .tuple vs)) := by
      rw [← e]; rfl
    rw [e2, Array.mapM_eq_mapM_toList]
    simp only [Sem.run_bind, Sem.run_map, h1, Result.andThen_ok, Sem.run_pure]
    clear e e2
    congr 1
    match vs with
    | [] => simp [resultAV, conc, concL]
    | [v] => simp [resultAV, concL]
    | v :: v' :: vs => simp [resultAV, conc, concL]
  · match vs with
    | [] => simp [resultAV, AV.all, allL]
    | [v] => exact h2.1
    | v :: v' :: vs => exact h2

theorem argsTm_get : ∀ {vs : List AV} {i : Nat} {tm : Tr AV} {k : Nat} {v : AV}, (argsTm vs i tm).get k = some v → (i ≤ k ∧ vs[k - i]? = some v) ∨ (tm.get k = some v ∧ ¬ (i ≤ k ∧ k < i + vs.length))
  | [], i, tm, k, v, h => .inr ⟨h, by simp⟩
  | x :: vs, i, tm, k, v, h => by
    simp only [argsTm] at h
    rcases argsTm_get h with ⟨h1, h2⟩ | ⟨h1, h2⟩
    · left
      refine ⟨by omega, ?_⟩
      rw [show k - i = (k - (i + 1)) + 1 by omega]; simpa using h2
    · rcases Tr.get_set h1 with ⟨rfl, rfl⟩ | ⟨h3, h4⟩
      · left; exact ⟨Nat.le_refl _, by simp⟩
      · right; refine ⟨h4, ?_⟩; simp; omega

theorem tr_e_get {α : Type} (k : Nat) : (Tr.e : Tr α).get k = none := rfl

theorem sim_args {vs : List AV} {mem : Tr AObj} {nx ntmps : Nat} (hd : B.df = []) (hm : MemOK B U ρ mem.get w) (hv : allL U vs) (hn : vs.length ≤ ntmps) :
    SimS B ntmps U ρ ⟨argsTm vs 0 .e, mem, nx, []⟩ { tmps := (concL ρ vs).toArray ++ Array.replicate (ntmps - (concL ρ vs).toArray.size) undef, defers := [] } w := by
  refine ⟨by simp [length_concL]; omega, hd.symm, fun k v hk => ?_, hm⟩
  rcases argsTm_get hk with ⟨_, h⟩ | ⟨h, _⟩
  · simp only [Nat.sub_zero] at h
    have hlt : k < vs.length := (List.getElem?_eq_some_iff.1 h).1
    refine ⟨?_, allL_iff.1 hv v (List.mem_of_getElem? h)⟩
    rw [Array.getD_eq_getD_getElem?, Array.getElem?_append_left (by simp [length_concL]; exact hlt)]
    simp [concL_eq, h]
  · rw [tr_e_get] at h; exact nomatch h

theorem body_ok0 {E : Env} (hE : EnvOK' E) {f : Nat} {fn : Func} (hf : E.P.funcs[f]? = some fn) (hname : (fn.name == "runtime.NumGoroutine") = false) (hn : E.n = fn.ntmps)
    (hL : ∀ c, fn.body = some c → LoopsOK E (loopsOf c)) {vs : List AV} {mem : Tr AObj} {nx : Nat} {K : AV × St → Prop} (hh : (evalBody E fn vs mem nx).holds K) (hd : B.df = [])
    (hp : ∀ i l, B.pin i = some l → i < E.np) (hm : MemOK B U ρ mem.get w) (hU : ∀ i, U i → i < nx) (hv : allL U vs) :
    CallRun E.P f (concL ρ vs).toArray w fun v w' => ∃ x s ρ' U', K (x, s) ∧ v = conc ρ' x ∧ MemOK B U' ρ' s.mem.get w' ∧ x.all U' ∧ nx ≤ s.nx ∧ ∀ i, U' i → i < s.nx := by
  unfold evalBody at hh
  split at hh
  · rename_i c hb hlen
    rw [R.holds_bind] at hh
    have hrun : (callFunc f (concL ρ vs).toArray).run E.P w = .ok (.enter f (concL ρ vs).toArray) w := by
      have h1 : fn.name ≠ "runtime.NumGoroutine" := by simpa using hname
      simp [callFunc, hf, h1, hb]
    unfold CallRun
    rw [hrun]
    refine calls_of_wp hf hb ?_
    have hs := sim_args (B := B) (w := w) (ρ := ρ) (U := U) (nx := nx) (ntmps := fn.ntmps) hd hm hv (by rw [← hn]; simpa using hlen)
    refine evalCode_ok hE c ⟨argsTm vs 0 .e, mem, nx, []⟩ (fun e s => (match e with
      | .exit _ => .bad "exit"
      | _ => match loadAll E s.tm s.mem fn.results.toList with
        | some vs => .ret (resultAV vs, s)
        | none => .bad "results" : R (AV × St)).holds K) (hL c hb) hh B hp U ρ _ w _ (by rw [hn]; exact hs) hU fun e s' U' ρ' a' w' hK hs' hnx hu => ?_
    have key : (match loadAll E s'.tm s'.mem fn.results.toList with
        | some vs => .ret (resultAV vs, s')
        | none => .bad "results" : R (AV × St)).holds K → a'.defers = [] ∧ ∃ v, (results fn a'.tmps).run E.P w' = .ok v w' ∧ ∃ x s ρ' U', K (x, s) ∧ v = conc ρ' x ∧ MemOK B U' ρ' s.mem.get w' ∧ x.all U' ∧ nx ≤ s.nx ∧ ∀ i, U' i → i < s.nx := by
      intro hK
      split at hK
      · rename_i vs' hvs
        obtain ⟨r1, r2⟩ := results_ok hs' hvs
        exact ⟨hs'.df.trans hd, _, r1, _, s', ρ', U', hK, rfl, hs'.mem, r2, hnx, hu⟩
      · exact hK.elim
    cases e with
    | normal => exact key hK
    | ret => exact key hK
    | exit id => exact hK.elim
  · exact hh.elim
theorem MemOK.nodf {D : List Deferred} {g : Nat → Option AObj} (h : MemOK B U ρ g w) : MemOK ⟨B.w0, B.prot, B.pin, D⟩ U ρ g w := ⟨h.use, h.obj, h.sep, h.own, h.os, h.tape, h.output, h.size, h.kept, h.plt, h.pin⟩
/-- What the abstract machine tells of a function's body is so of its calls. -/
theorem body_ok {E : Env} (hE : EnvOK' E) {f : Nat} {fn : Func} (hf : E.P.funcs[f]? = some fn) (hname : (fn.name == "runtime.NumGoroutine") = false) (hn : E.n = fn.ntmps)
    (hL : ∀ c, fn.body = some c → LoopsOK E (loopsOf c)) {vs : List AV} {mem : Tr AObj} {nx : Nat} {K : AV × St → Prop} (hh : (evalBody E fn vs mem nx).holds K)
    (hp : ∀ i l, B.pin i = some l → i < E.np) (hm : MemOK B U ρ mem.get w) (hU : ∀ i, U i → i < nx) (hv : allL U vs) :
    CallRun E.P f (concL ρ vs).toArray w fun v w' => ∃ x s ρ' U', K (x, s) ∧ v = conc ρ' x ∧ MemOK B U' ρ' s.mem.get w' ∧ x.all U' ∧ nx ≤ s.nx ∧ ∀ i, U' i → i < s.nx :=
  (body_ok0 (B := ⟨B.w0, B.prot, B.pin, []⟩) hE hf hname hn hL hh rfl hp hm.nodf hU hv).mono fun v w' ⟨x, s, ρ', U', h1, h2, h3, h4⟩ => ⟨x, s, ρ', U', h1, h2, ⟨h3.use, h3.obj, h3.sep, h3.own, h3.os, h3.tape, h3.output, h3.size, h3.kept, h3.plt, h3.pin⟩, h4⟩
end
end Go.Sx
