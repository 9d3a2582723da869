/- Code within a round of a range over a function: what the abstract machine tells of it. -/
import Derived.Test.YtdcphhcgogmaoaaSxS
import Derived.RangeFuncRecord
import Derived.RangeFuncIn
set_option linter.unusedSimpArgs false
set_option linter.unusedVariables false
namespace Go.Sx
open Go.RowKit (Below)

abbrev FR (l : Nat) : Fence := Fence.wide.inRound l

theorem callsIn_round {P : Program} {l n : Nat} {f : FuncId} {args : Array Value} {w : World} {R : Ending → World → Prop} (h : Calls P f args w R) : CallsIn (FR l) n P f args w R :=
  (callsIn_wide (n := n)).2 h
theorem rowsIn_round {P : Program} {l n : Nat} {row : String} {args : Array Value} {w : World} {R : Value → World → Prop} (h : Rows P row args w R) : RowsIn (FR l) n P row args w R :=
  fun c cs _ => let ⟨v, w', r, s⟩ := h c cs; ⟨v, w', r, stepsIn_wide.2 s⟩

def noDefer (o : Oper) : Bool :=
  match o.op with
  | .defer _ => false
  | _ => true

theorem opIn_of_wp {P : Program} {l n : Nat} {o : Oper} {a : Act} {w : World} {next next' : Act → World → Prop} {Q : Exit → Act → World → Prop} (ho : noDefer o = true)
    (h : o.wp P a w next Q) (hn : ∀ a w, next a w → next' a w) : o.wpIn (FR l) n P a w next' Q := by
  refine ⟨fun _ _ => trivial, ?_⟩
  rw [Oper.semAt_eq _ _ _ (by intro c hc; unfold noDefer at ho; rw [hc] at ho; exact nomatch ho)]
  unfold Oper.wp Oper.upon at h
  unfold Oper.uponIn
  split at h
  · rename_i v w' e; rw [e]; exact hn _ _ h
  · rename_i w' e; rw [e]; exact hn _ _ h
  · rename_i d w' e; rw [e]; exact hn _ _ h
  · rename_i f args w' e
    rw [e]
    refine ⟨fun hd => by simp [Fence.wide] at hd, callsIn_round (h.mono fun e' w'' he => ?_)⟩
    cases e' with
    | returned v => exact hn _ _ he
    | panicked _ => exact he
    | outgrown => exact he
  · rename_i row args w' e; rw [e]; exact ⟨fun hd => by simp [Fence.wide] at hd, rowsIn_round (h.mono fun v w'' => hn _ _)⟩
  · rename_i v w' e; rw [e]; exact h
  · exact h.elim

theorem opsIn_of_wp {P : Program} {l n : Nat} {ops : Array Oper} {Q : Exit → Act → World → Prop} (hd : ∀ (i : Nat) (o : Oper), ops[i]? = some o → noDefer o = true) (hQ : ¬ LetsOut Q) :
    ∀ (is : List Nat) (a : Act) (w : World), wpOps P ops Q is a w → wpOpsIn (FR l) n P ops Q is a w
  | [], a, w, h => h
  | i :: rest, a, w, h => by
    simp only [wpOps] at h
    simp only [wpOpsIn]
    split at h
    · rename_i e; rw [e]; exact opsIn_of_wp hd hQ rest a w h
    · rename_i o e
      rw [e]
      dsimp only
      split at h
      · rename_i hw
        rw [if_pos hw]
        rcases h with h | h
        · exact opIn_of_wp (hd i o e) h fun a w => opsIn_of_wp hd hQ rest a w
        · exact absurd h.2 hQ
      · rename_i hw
        rw [if_neg hw]
        exact ⟨fun _ _ => trivial, opsIn_of_wp hd hQ rest _ w h⟩

/-- Code without loops, drawn orders and the like. -/
def plainC : Code → Bool
  | .skip => true
  | .label _ => true
  | .exit _ => true
  | .ret => true
  | .region _ ops draw => cond draw false (ops.toList.all noDefer)
  | .seq a b => cond (plainC a) (plainC b) false
  | .cond _ a b => cond (plainC a) (plainC b) false
  | .block _ a => plainC a
  | _ => false

def AWpIn (P : Program) (n np l k : Nat) (c : Code) (Q : Ex → St → Prop) (s : St) : Prop :=
  ∀ (B : Base) (hp : ∀ i l, B.pin i = some l → i < np) (U : Nat → Prop) (ρ : Nat → Loc) (a : Act) (w : World) (QQ : Exit → Act → World → Prop), SimS B n U ρ s a w → (∀ i, U i → i < s.nx) →
    (∀ e s' U' ρ' a' w', Q e s' → SimS B n U' ρ' s' a' w' → s.nx ≤ s'.nx → (∀ i, U' i → i < s'.nx) → QQ (exOf e) a' w') → c.wpIn (FR l) k P QQ a w

theorem evalCode_okIn {E : Env} (hE : EnvOK' E) {l k : Nat} : ∀ (c : Code) (s : St) (Q : Ex → St → Prop), plainC c = true → (evalCode E c s).holds (fun x => Q x.1 x.2) → AWpIn E.P E.n E.np l k c Q s := by
  intro c
  induction c with
  | skip => intro s Q _ hh B hp U ρ a w QQ h hU hQ; exact wpIn_skip (hQ .normal s U ρ a w hh h (Nat.le_refl _) hU)
  | label l => intro s Q _ hh B hp U ρ a w QQ h hU hQ; exact wpIn_label (hQ .normal s U ρ a w hh h (Nat.le_refl _) hU)
  | exit id => intro s Q _ hh B hp U ρ a w QQ h hU hQ; exact wpIn_exit (hQ (.exit id) s U ρ a w hh h (Nat.le_refl _) hU)
  | ret => intro s Q _ hh B hp U ρ a w QQ h hU hQ; exact wpIn_ret (hQ .ret s U ρ a w hh h (Nat.le_refl _) hU)
  | region id ops draw =>
    intro s Q hp' hh B hp U ρ a w QQ h hU hQ
    cases draw with
    | true => simp [plainC] at hp'
    | false =>
      simp only [plainC, cond_false, List.all_eq_true] at hp'
      simp only [evalCode] at hh
      rw [R.holds_bind] at hh
      unfold evalRegion at hh
      simp only at hh
      rw [R.holds_bind] at hh
      let Q0 : Exit → Act → World → Prop := fun e a w => match e with
        | .normal => QQ .normal a w
        | _ => False
      have hout : ¬ LetsOut Q0 := fun ⟨_, _, h⟩ => h
      have hops := evalOps_ok hE.toEnvOK (Q := Q0) (N := ops.toList.length) (base := 0) ops.toList 0 s [] a w U ρ h hU
        (by simp) (fun k => by simp) hh (fun s' tr' U' ρ' a' w' hK hs hn hu => hQ .normal s' U' ρ' a' w' hK hs hn hu)
      have hin : (Code.region id ops false).wpIn (FR l) k E.P Q0 a w := by
        refine wpIn_region (opsIn_of_wp (fun i o ho => ?_) hout _ a w ?_)
        · exact hp' o (by rw [Array.mem_toList_iff]; exact Array.mem_of_getElem? ho)
        · rw [List.range_eq_range']
          simpa using hops
      refine wpIn_mono hin fun e a' w' hq => ?_
      cases e with
      | normal => exact hq
      | _ => exact hq.elim
  | seq x y ihx ihy =>
    intro s Q hpl hh B hp U ρ a w QQ h hU hQ
    simp only [plainC] at hpl
    cases hx : plainC x with
    | false => rw [hx] at hpl; exact nomatch hpl
    | true =>
      rw [hx] at hpl
      simp only [evalCode] at hh
      rw [R.holds_bind] at hh
      refine wpIn_seq (ihx s (fun e s' => (match e with | .normal => evalCode E y s' | e => .ret (e, s') : R (Ex × St)).holds fun x => Q x.1 x.2) hx hh B hp U ρ a w _ h hU fun e s' U' ρ' a' w' hK hs hn hu => ?_)
      cases e with
      | normal => exact ihy s' Q hpl hK B hp U' ρ' a' w' QQ hs hu fun e s'' U'' ρ'' a'' w'' h1 h2 h3 h4 => hQ e s'' U'' ρ'' a'' w'' h1 h2 (by omega) h4
      | exit id => exact hQ (.exit id) s' U' ρ' a' w' hK hs hn hu
      | ret => exact hQ .ret s' U' ρ' a' w' hK hs hn hu
  | cond c x y ihx ihy =>
    intro s Q hpl hh B hp U ρ a w QQ h hU hQ
    simp only [plainC] at hpl
    cases hx : plainC x with
    | false => rw [hx] at hpl; exact nomatch hpl
    | true =>
      rw [hx] at hpl
      simp only [evalCode] at hh
      split at hh
      · rename_i b hb
        have hc : a.eval c = .bool b := (h.evS _ _ hb).1
        have hx' := ihx s Q hx
        have hy' := ihy s Q hpl
        split at hh
        · exact wpIn_cond_split hc (fun ht => hx' (hh.1 ht) B hp U ρ a w QQ h hU hQ) (fun hf => hy' (hh.2 hf) B hp U ρ a w QQ h hU hQ)
        · split at hh
          · exact wpIn_cond_true hc (hx' hh B hp U ρ a w QQ h hU hQ)
          · exact wpIn_cond_false hc (hy' hh B hp U ρ a w QQ h hU hQ)
      · exact hh.elim
  | block id c ih =>
    intro s Q hpl hh B hp U ρ a w QQ h hU hQ
    simp only [evalCode] at hh
    rw [R.holds_bind] at hh
    refine wpIn_block (ih s (fun e s' => (match e with | .exit id' => (match Nat.beq id' id with | true => .ret (.normal, s') | false => .ret (.exit id', s')) | e => .ret (e, s') : R (Ex × St)).holds fun x => Q x.1 x.2) hpl hh B hp U ρ a w _ h hU fun e s' U' ρ' a' w' hK hs hn hu => ?_)
    cases e with
    | normal => exact hQ .normal s' U' ρ' a' w' hK hs hn hu
    | exit id' =>
      simp only [exOf, Exit.inBlock]
      dsimp only at hK
      split at hK
      · rename_i he
        have : id' = id := by simpa [nbeq] using he
        rw [if_pos this]
        exact hQ .normal s' U' ρ' a' w' hK hs hn hu
      · rename_i he
        have : id' ≠ id := by simpa [nbeq] using he
        rw [if_neg this]
        exact hQ (.exit id') s' U' ρ' a' w' hK hs hn hu
    | ret => exact hQ .ret s' U' ρ' a' w' hK hs hn hu
  | loop _ _ => intro s Q h; exact nomatch h
  | rangeFunc _ _ _ _ _ _ => intro s Q h; exact nomatch h
  | goto _ => intro s Q h; exact nomatch h
  | scope _ _ => intro s Q h; exact nomatch h
  | refuse _ => intro s Q h; exact nomatch h

/-- A block that is none of the memory's is turned; from there on. -/
theorem MemOK.restart {B : Base} {U : Nat → Prop} {ρ : Nat → Loc} {g : Nat → Option AObj} {w w' : World} (h : MemOK B U ρ g w) (hw : ∀ id o, g id = some o → o.live (ρ id) = true → w'.heap[(ρ id).blk]? = w.heap[(ρ id).blk]?)
    (hsz : w.heap.size ≤ w'.heap.size) : MemOK ⟨w', B.prot, B.pin, B.df⟩ U ρ g w' :=
  ⟨h.use, fun id o e => objOK_other hsz (hw id o e) (h.obj id o e), h.sep, h.own, rfl, rfl, rfl, Nat.le_refl _, fun _ _ => rfl, fun b hb => Nat.lt_of_lt_of_le (h.plt b hb) (Nat.le_trans h.size hsz), h.pin⟩
end Go.Sx
