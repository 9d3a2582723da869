/- Loops told by rounds. -/
import Derived.Test.YtbfmneknabhlcaaSxR
set_option linter.unusedSimpArgs false
set_option linter.unusedVariables false
namespace Go.Sx
open Go.RowKit (Below)

/-- One round of a loop's code. -/
def round (E : Env) (C : Cut) (c : Code) (x : View) : R (Ex × View) :=
  (evalCode E c (lay C C.nx x)).bind fun (e, s') => match cut E.np C s' with
    | none => .bad "cut"
    | some x' => .ret (e, x')
/-- What rounds come to: where one does not end at its end, there. -/
def roundsV (f : View → R (Ex × View)) : Nat → View → R (Ex × View)
  | 0, _ => .bad "rounds"
  | n + 1, x => (f x).bind fun (e, x') => match e with
    | .normal => roundsV f n x'
    | e => .ret (e, x')

abbrev Spec := View → Option (R (Ex × View))
structure LoopC where
  k : Nat
  C : Cut
  spec : Spec

def loopTab (np : Nat) : List LoopC → Nat → St → Option (R (Ex × St))
  | [], _, _ => none
  | L :: l, k, s => match Nat.beq L.k k with
    | true => match cut np L.C s with
      | some x => match L.spec x with
        | some r => some (r.bind fun (e, x') => .ret (e, lay L.C (s.nx + L.C.nx) x'))
        | none => none
      | none => none
    | false => loopTab np l k s

/-- What is told of a loop is so. -/
def LoopCOK (E : Env) (L : LoopC) (c : Code) : Prop :=
  ∀ x r (Q : Ex × View → Prop), L.spec x = some r → r.holds Q → ∃ n, (roundsV (round E L.C c) n x).holds Q

theorem lay_nx {B : Base} {n : Nat} {U : Nat → Prop} {ρ : Nat → Loc} {C : Cut} {nx nx' : Nat} {x : View} {a : Act} {w : World} (h : SimS B n U ρ (lay C nx x) a w) : SimS B n U ρ (lay C nx' x) a w := h

theorem rounds_ok {E : Env} (hE : EnvOK' E) {C : Cut} {c : Code} (hc : LoopsOK E (loopsOf c)) {B : Base} (hp : ∀ i l, B.pin i = some l → i < E.np) {Q : Ex × View → Prop} {QQ : Exit → Act → World → Prop} :
    ∀ (m : Nat) (x : View) (U : Nat → Prop) (ρ : Nat → Loc) (a : Act) (w : World), (roundsV (round E C c) m x).holds Q → SimS B E.n U ρ (lay C C.nx x) a w → (∀ i, U i → i < C.nx) →
      (∀ e x' U' ρ' a' w', Q (e, x') → SimS B E.n U' ρ' (lay C C.nx x') a' w' → (∀ i, U' i → i < C.nx) → QQ (exOf e) a' w') → Code.rounds E.P c QQ m a w
  | 0, _, _, _, _, _, hh, _, _, _ => hh.elim
  | m + 1, x, U, ρ, a, w, hh, h, hU, hQ => by
    rw [rounds_succ]
    simp only [roundsV] at hh
    rw [R.holds_bind] at hh
    unfold round at hh
    rw [R.holds_bind] at hh
    refine evalCode_ok hE c (lay C C.nx x) (fun e s' => ((match cut E.np C s' with | none => .bad "cut" | some x' => .ret (e, x') : R (Ex × View))).holds fun a => (match a with | (e, x') => (match e with | .normal => roundsV (round E C c) m x' | e => .ret (e, x') : R (Ex × View))).holds Q) hc hh B hp U ρ a w _ h hU fun e s' U' ρ' a' w' hK hs hn hu => ?_
    dsimp only at hK
    split at hK
    · exact hK.elim
    · rename_i x' hx'
      obtain ⟨U2, ρ2, hs2, hu2⟩ := cut_ok (nx := C.nx) hp hx' hs
      cases e with
      | normal => exact rounds_ok hE hc hp m x' U2 ρ2 a' w' hK hs2 hu2 hQ
      | exit id => exact hQ (.exit id) x' U2 ρ2 a' w' hK hs2 hu2
      | ret => exact hQ .ret x' U2 ρ2 a' w' hK hs2 hu2

theorem loopTab_ok {E : Env} (hE : EnvOK' E) {c : Code} (hc : LoopsOK E (loopsOf c)) {k : Nat} : ∀ {T : List LoopC}, (∀ L ∈ T, L.k = k → LoopCOK E L c) → ∀ s r, loopTab E.np T k s = some r →
      ∀ Q : Ex → St → Prop, r.holds (fun x => Q x.1 x.2) → AWp E.P E.n E.np (.loop c) Q s
  | [], _, s, r, hr => nomatch hr
  | L :: l, hT, s, r, hr => by
    intro Q hh
    simp only [loopTab] at hr
    split at hr
    · rename_i hk
      have hk : L.k = k := by simpa [nbeq] using hk
      split at hr
      · rename_i x hx
        split at hr
        · rename_i r' hr'
          cases hr
          rw [R.holds_bind] at hh
          obtain ⟨m, hm⟩ := hT L (by simp) hk x r' _ hr' hh
          intro B hp U ρ a w QQ h hU hQ
          obtain ⟨U2, ρ2, hs2, hu2⟩ := cut_ok (nx := L.C.nx) hp hx h
          refine wp_loop_rounds m (rounds_ok hE hc hp m x U2 ρ2 a w hm hs2 hu2 fun e x' U' ρ' a' w' hK hs hu => hQ e _ U' ρ' a' w' hK (lay_nx hs) ?_ fun i hi => ?_)
          · simp only [lay]; omega
          · have := hu i hi; simp only [lay]; omega
        · exact nomatch hr
      · exact nomatch hr
    · exact loopTab_ok hE hc (fun L hL => hT L (List.mem_cons_of_mem _ hL)) s r hr Q hh

/-- Surroundings with loops that are told. -/
abbrev envL (P : Program) (t : Tab) (n : Nat) (sym : List Nat) (np : Nat) (rowT : List Nat) (T : List LoopC) : Env :=
  { P := P, n := n, sym := sym, calls := tabCalls t, inl := fun _ _ _ _ => none, loops := loopTab np T, fuel := 1000, np := np, rowT := rowT }

theorem envL_ok {P : Program} (hP : P.follows .mixedOrders = true) {t : Tab} (ht : ∀ x ∈ t, EntryOK P x) (n : Nat) (sym : List Nat) (np : Nat) (rowT : List Nat) (T : List LoopC) : EnvOK' (envL P t n sym np rowT T) :=
  ⟨⟨tabCalls_ok ht, noInl_ok P⟩, hP⟩

/-- Of each loop of a code that a table names, what it tells is so. -/
def LoopsTold (E : Env) (T : List LoopC) (root : List Code) : Prop := ∀ c ∈ root, ∀ k, firstRegion c = some k → ∀ L ∈ T, L.k = k → LoopCOK E L c

theorem loopsTold_ok {E : Env} (hE : EnvOK' E) {T : List LoopC} (hl : E.loops = loopTab E.np T) : ∀ (c : Code), LoopsTold E T (loopsOf c) → LoopsOK E (loopsOf c) := by
  intro c
  induction c with
  | seq a b iha ihb =>
    intro h x hx
    simp only [loopsOf, List.mem_append] at hx
    rcases hx with hx | hx
    · exact iha (fun y hy => h y (by simp only [loopsOf, List.mem_append]; exact .inl hy)) x hx
    · exact ihb (fun y hy => h y (by simp only [loopsOf, List.mem_append]; exact .inr hy)) x hx
  | cond _ a b iha ihb =>
    intro h x hx
    simp only [loopsOf, List.mem_append] at hx
    rcases hx with hx | hx
    · exact iha (fun y hy => h y (by simp only [loopsOf, List.mem_append]; exact .inl hy)) x hx
    · exact ihb (fun y hy => h y (by simp only [loopsOf, List.mem_append]; exact .inr hy)) x hx
  | block _ a ih => intro h; exact ih h
  | scope a ih => intro h; exact ih h
  | rangeFunc _ _ a b iha ihb =>
    intro h x hx
    simp only [loopsOf, List.mem_append] at hx
    rcases hx with hx | hx
    · exact iha (fun y hy => h y (by simp only [loopsOf, List.mem_append]; exact .inl hy)) x hx
    · exact ihb (fun y hy => h y (by simp only [loopsOf, List.mem_append]; exact .inr hy)) x hx
  | loop a ih =>
    intro h x hx
    simp only [loopsOf, List.mem_cons] at hx
    have hin := ih (fun y hy => h y (List.mem_cons_of_mem _ hy))
    rcases hx with rfl | hx
    · intro k s r hk hr Q hh
      rw [hl] at hr
      exact loopTab_ok hE hin (fun L hL e => h x (by simp [loopsOf]) k hk L hL e) s r hr Q hh
    · exact hin x hx
  | _ => intro _ x hx; exact nomatch hx

theorem pure_of_envL {P : Program} (hP : P.follows .mixedOrders = true) {t : Tab} (ht : ∀ x ∈ t, EntryOK P x) {f : Nat} {fn : Func} (hf : P.funcs[f]? = some fn)
    (hname : (fn.name == "runtime.NumGoroutine") = false) {n : Nat} (hn : n = fn.ntmps) (sym : List Nat) (rowT : List Nat) (T : List LoopC)
    (hT : ∀ c, fn.body = some c → LoopsTold (envL P t n sym 0 rowT T) T (loopsOf c)) {vs : List AV} {v : AV} (hvs : allL NoIds vs) (hv : v.all NoIds)
    (hh : (evalVal (envL P t n sym 0 rowT T) fn vs).holds (· = v)) : PureOK P f vs v :=
  pure_of_eval (E := envL P t n sym 0 rowT T) (envL_ok hP ht n sym 0 rowT T) hf hname hn (fun c hc => loopsTold_ok (envL_ok hP ht n sym 0 rowT T) rfl c (hT c hc)) hvs hv hh

/-- Of a column only its rows count. -/
theorem PureOK.rows_congr {P : Program} {f : Nat} {vs : List AV} {k : IntKind} {g g' : Nat → Int} {m : Nat} (h : PureOK P f vs (.rows [.int k g] m)) (hg : ∀ q, q < m → g q = g' q) :
    PureOK P f vs (.rows [.int k g'] m) := by
  have e : ∀ ρ, conc ρ (.rows [.int k g] m) = conc ρ (.rows [.int k g'] m) := fun ρ => by
    simp only [conc]
    congr 2
    rw [rowsV_one, rowsV_one]
    exact List.map_congr_left fun q hq => by simp only [Col.val, hg q (List.mem_range.1 hq)]
  exact ⟨fun ρ w => (h.run ρ w).mono fun x w' hx => ⟨by rw [hx.1, e], hx.2⟩, trivial⟩

/-- The k-th loop of a function. -/
noncomputable def loopAt (fn : Func) (k : Nat) : Code := match fn.body with | some c => (match lnth (loopsOf c) k with | some x => x | none => .skip) | none => .skip

theorem told_none {E : Env} {fn : Func} : ∀ c, fn.body = some c → LoopsTold E [] (loopsOf c) := fun _ _ _ _ _ _ L hL => nomatch hL
theorem told_one {E : Env} {fn : Func} {L : LoopC} (h : fn.body.map loopsOf = some [loopAt fn 0]) (hL : LoopCOK E L (loopAt fn 0)) : ∀ c, fn.body = some c → LoopsTold E [L] (loopsOf c) := by
  intro c hc x hx k hk L' hL' e
  rw [hc] at h
  simp only [Option.map_some, Option.some.injEq] at h
  rw [h] at hx
  simp only [List.mem_singleton] at hx hL'
  subst hx; subst hL'
  exact hL
theorem told_two {E : Env} {fn : Func} {L0 L1 : LoopC} (h : fn.body.map loopsOf = some [loopAt fn 0, loopAt fn 1]) (h0 : firstRegion (loopAt fn 0) = some L0.k) (h1 : firstRegion (loopAt fn 1) = some L1.k) (hne : L0.k ≠ L1.k)
    (hL0 : LoopCOK E L0 (loopAt fn 0)) (hL1 : LoopCOK E L1 (loopAt fn 1)) : ∀ c, fn.body = some c → LoopsTold E [L0, L1] (loopsOf c) := by
  intro c hc x hx k hk L' hL' e
  rw [hc] at h
  simp only [Option.map_some, Option.some.injEq] at h
  rw [h] at hx
  simp only [List.mem_cons, List.not_mem_nil, or_false] at hx hL'
  rcases hx with rfl | rfl <;> rcases hL' with rfl | rfl
  · exact hL0
  · rw [h0] at hk; cases hk; exact absurd e.symm hne
  · rw [h1] at hk; cases hk; exact absurd e hne
  · exact hL1

/-- Rounds through known states. -/
theorem rounds_for {step : View → R (Ex × View)} {Q : Ex × View → Prop} (S : Nat → View) : ∀ (k i : Nat), (∀ j, i ≤ j → j < i + k → ∀ K : Ex × View → Prop, K (.normal, S (j + 1)) → (step (S j)).holds K) →
    (step (S (i + k))).holds (fun x => (match x with | (e, x') => (match e with | .normal => .bad "rounds" | e => .ret (e, x') : R (Ex × View))).holds Q) → (roundsV step (k + 1) (S i)).holds Q
  | 0, i, _, he => by
    simp only [roundsV, R.holds_bind]
    exact he
  | k + 1, i, h, he => by
    rw [roundsV, R.holds_bind]
    refine h i (Nat.le_refl _) (by omega) _ ?_
    exact rounds_for S k (i + 1) (fun j h1 h2 => h j (by omega) (by omega)) (by rw [show i + 1 + k = i + (k + 1) by omega]; exact he)

theorem conc_rows_congr {k : IntKind} {g g' : Nat → Int} {m : Nat} (hg : ∀ q, q < m → g q = g' q) (ρ : Nat → Loc) : conc ρ (.rows [.int k g] m) = conc ρ (.rows [.int k g'] m) := by
  simp only [conc]
  congr 2
  rw [rowsV_one, rowsV_one]
  exact List.map_congr_left fun q hq => by simp only [Col.val, hg q (List.mem_range.1 hq)]
theorem PureOK.conc_congr {P : Program} {f : Nat} {vs : List AV} {v v' : AV} (h : PureOK P f vs v) (hv : v'.all NoIds) (e : ∀ ρ, conc ρ v = conc ρ v') : PureOK P f vs v' :=
  ⟨fun ρ w => (h.run ρ w).mono fun x w' hx => ⟨by rw [hx.1, e], hx.2⟩, hv⟩
end Go.Sx
