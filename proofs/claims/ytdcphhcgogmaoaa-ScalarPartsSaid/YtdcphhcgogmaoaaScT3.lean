/- Scalars, the program: the walk of the iterator, its rounds those of times. -/
import Derived.Test.YtdcphhcgogmaoaaScT2
set_option linter.unusedVariables false
set_option linter.unusedSimpArgs false
open Go Go.Sx Go.Proofs Go.Dg
namespace Go.Sc
noncomputable abbrev E40 : Env := { envL Try.prog [] Try.f40.ntmps [10, 15] 1 RW [] with inl := inlOf fun f => match f with | 41 => some (envL Try.prog [] Try.f41.ntmps [7, 10] 0 RW [], Try.f41) | _ => none }
abbrev yl (l : Nat) : AV := .v (.func (.yield l) #[] #[])
def CO : Cut := ⟨[0, 1, 3], [([3], 1)], 8⟩
def viewO (l : Nat) (s : List UInt8) (i : Int) : View := ([yl l, .p 0 0 0, .p 1 0 0], [(1, .cells [.i .i64 i]), (0, .ro [.str s])])
def CI : Cut := ⟨[0, 1, 3, 4, 5], [([3], 1)], 8⟩
def viewI (l : Nat) (s : List UInt8) (i n : Int) : View := ([yl l, .p 0 0 0, .p 1 0 0, .f 41 [.p 0 0 0, .p 1 0 0], .i .i64 n], [(1, .cells [.i .i64 i]), (0, .ro [.str s])])
def CY : Cut := ⟨[0, 1, 3, 4, 5, 18, 21], [([3], 1)], 8⟩
def sO (l : Nat) (s : List UInt8) (i : Int) : St := lay CO 8 (viewO l s i)
def sI (l : Nat) (s : List UInt8) (i n : Int) : St := lay CI 8 (viewI l s i n)
def s40 (l : Nat) (s : List UInt8) : St := ⟨argsTm [yl l, .p 0 0 0] 0 .e, Tr.e.set 0 (.ro [.str s]), 8, []⟩
noncomputable def op7 (k : Nat) : Oper := match lnth ops7.toList k with | some o => o | none => default
def bitB (s : List UInt8) (i n : Int) : Bool := iAnd .i32 (iShr .i32 (IntKind.i32.wrap (s.getD i.toNat 0).toNat) n) 1 == 1
def viewY (l : Nat) (s : List UInt8) (i n : Int) : View := ([yl l, .p 0 0 0, .p 1 0 0, .f 41 [.p 0 0 0, .p 1 0 0], .i .i64 n, yl l, .b (bitB s i n)], [(1, .cells [.i .i64 i]), (0, .ro [.str s])])
theorem ev40_0 (l : Nat) (s : List UInt8) : ((evalCode E40 (A40 0) (s40 l s)).bind fun x => .ret (x.1, cut 1 CO x.2)) = .ret (.normal, some (viewO l s (IntKind.i64.wrap (s.length - 1)))) := by kernel_rfl
theorem ev40_1 (l : Nat) (s : List UInt8) (i : Int) : ((evalCode E40 (A40 1) (sO l s i)).bind fun x => .ret (x.1, cut 1 CO x.2)) =
    .br (decide (i ≥ 0)) (.ret (.normal, some (viewO l s i))) (.ret (.exit 0, some (viewO l s i))) := by kernel_rfl
def CJ : Cut := ⟨[0, 1, 3, 4], [([3], 1)], 8⟩
def viewJ (l : Nat) (s : List UInt8) (i : Int) : View := ([yl l, .p 0 0 0, .p 1 0 0, .f 41 [.p 0 0 0, .p 1 0 0]], [(1, .cells [.i .i64 i]), (0, .ro [.str s])])
def sJ (l : Nat) (s : List UInt8) (i : Int) : St := lay CJ 8 (viewJ l s i)
theorem ev40_2 (l : Nat) (s : List UInt8) (i : Int) : ((evalCode E40 (A40 2) (sO l s i)).bind fun x => .ret (x.1, cut 1 CJ x.2)) = .ret (.normal, some (viewJ l s i)) := by kernel_rfl
theorem ev40_3 (l : Nat) (s : List UInt8) (i : Int) : ((evalCode E40 (A40 3) (sJ l s i)).bind fun x => .ret (x.1, cut 1 CI x.2)) = .ret (.normal, some (viewI l s i 7)) := by kernel_rfl
theorem ev40_4 (l : Nat) (s : List UInt8) (i n : Int) : ((evalCode E40 (A40 4) (sI l s i n)).bind fun x => .ret (x.1, cut 1 CI x.2)) =
    .br (decide (n ≥ 0)) (.ret (.normal, some (viewI l s i n))) (.ret (.exit 2, some (viewI l s i n))) := by kernel_rfl
theorem ev40_5 (l : Nat) (s : List UInt8) (i n : Int) : ((evalCode E40 (A40 5) (sI l s i n)).bind fun x => .ret (x.1, cut 1 CI x.2)) = .ret (.normal, some (viewI l s i (IntKind.i64.wrap (n - 1)))) := by kernel_rfl
theorem ev40_6 (l : Nat) (s : List UInt8) (i n : Int) : ((evalCode E40 (A40 6) (sI l s i n)).bind fun x => .ret (x.1, cut 1 CO x.2)) = .ret (.normal, some (viewO l s (IntKind.i64.wrap (i - 1)))) := by kernel_rfl
theorem ev40_7 (l : Nat) (s : List UInt8) (i n : Int) : ((doOp E40 false 0 0 (op7 0) (sI l s i n)).bind fun x0 => (doOp E40 false 0 1 (op7 1) x0.1).bind fun x1 => (doOp E40 false 0 2 (op7 2) x1.1).bind fun x2 =>
    (doOp E40 false 0 3 (op7 3) x2.1).bind fun x3 => .ret (cut 1 CY x3.1)) = .req (0 ≤ i ∧ i < s.length) (.req (¬ n < 0) (.ret (some (viewY l s i n)))) := by kernel_rfl
def sY (l : Nat) (s : List UInt8) (i n : Int) : St := lay CY 8 (viewY l s i n)
def sZ (l : Nat) (s : List UInt8) (i n : Int) : St := ⟨(sY l s i n).tm.set 22 (.b true), (sY l s i n).mem, 8, []⟩
theorem ev40_8 (l : Nat) (s : List UInt8) (i n : Int) : ((doOp E40 false 0 5 (op7 5) (sZ l s i n)).bind fun x => .ret (x.1.tm.get 23, cut 1 CI x.1)) = .ret (some (.b false), some (viewI l s i n)) := by kernel_rfl
theorem ops7_eq : ops7 = #[op7 0, op7 1, op7 2, op7 3, op7 4, op7 5] := by kernel_rfl
theorem guards7 : (op7 0).guard = none ∧ (op7 1).guard = none ∧ (op7 2).guard = none ∧ (op7 3).guard = none ∧ (op7 4).guard = none ∧ (op7 5).guard = none := by
  refine ⟨?_, ?_, ?_, ?_, ?_, ?_⟩ <;> kernel_rfl
theorem op7_4 : (op7 4).op = .call { callee := .value (.tmp 18), args := #[.tmp 21], argTypes := #[4] } ∧ (op7 4).dst = some 22 := by
  refine ⟨?_, ?_⟩ <;> kernel_rfl

theorem in41 : ∀ f E fn, (match f with | 41 => some (envL Try.prog [] Try.f41.ntmps [7, 10] 0 RW [], Try.f41) | _ => none : Option (Env × Func)) = some (E, fn) → InOK Try.prog f E fn := by
  intro f E fn h
  split at h
  · cases h
    exact ⟨rfl, envL_ok mixed (t := []) (fun x h => nomatch h) _ _ _ _ _, by kernel_rfl, by kernel_rfl, rfl, rfl⟩
  · exact nomatch h
theorem e40_ok : EnvOK' E40 := ⟨⟨tabCalls_ok (t := []) (fun x h => nomatch h), inlOf_ok in41⟩, mixed⟩

theorem opIn_wide {P : Program} {n : Nat} {o : Oper} {a : Act} {w : World} {next next' : Act → World → Prop} {Q : Exit → Act → World → Prop}
    (h : ∀ Q, o.wp P a w next Q) (hn : ∀ a w, next a w → next' a w) : o.wpIn Fence.wide n P a w next' Q := by
  refine ⟨fun _ _ => trivial, ?_⟩
  have hs : Oper.semAt Fence.wide.round a.eval o = execOp a.eval o := rfl
  rw [hs]
  have h := h fun _ _ _ => False
  unfold Oper.wp Oper.upon at h
  unfold Oper.uponIn
  split at h
  · rename_i v w' e; rw [e]; exact hn _ _ h
  · rename_i w' e; rw [e]; exact hn _ _ h
  · rename_i d w' e; rw [e]; exact hn _ _ h
  · rename_i f args w' e
    rw [e]
    refine ⟨fun hd => by simp [Fence.wide] at hd, callsIn_wide.2 (h.mono fun e' w'' he => ?_)⟩
    cases e' with
    | returned v => exact hn _ _ he
    | panicked _ => exact he.elim
    | outgrown => obtain ⟨_, _, he⟩ := he; exact he.elim
  · rename_i row args w' e
    rw [e]
    refine ⟨fun hd => by simp [Fence.wide] at hd, fun c cs _ => ?_⟩
    obtain ⟨v, w', r, s⟩ := h c cs
    exact ⟨v, w', hn _ _ r, stepsIn_wide.2 s⟩
  · rename_i v w' e; exact h.elim
  · exact h.elim
theorem op_wide {E : Env} (hE : EnvOK' E) {P : Program} (hP : P = E.P) {B : Base} {U : Nat → Prop} {ρ : Nat → Sx.Loc} {s : St} {o : Oper} {idx n : Nat} {a : Act} {w : World} (h : SimS B E.n U ρ s a w) (hU : ∀ i, U i → i < s.nx)
    {K : St × Tn → Prop} (hh : (doOp E false 0 idx o s).holds K) {next : Act → World → Prop} {Q : Exit → Act → World → Prop}
    (hnext : ∀ s' x U' ρ' a' w', K (s', x) → s.nx ≤ s'.nx → (∀ i, U' i → i < s'.nx) → SimS B E.n U' ρ' s' a' w' → next a' w') : o.wpIn Fence.wide n P a w next Q := by
  subst hP
  exact opIn_wide (fun Q => doOp_ok (next := next) (Q := Q) hE.1 h hU hh hnext) fun _ _ h => h

/-! ### states of the walk -/
noncomputable abbrev BD (K : TC) (ls : Sx.Loc) (w : World) : Base := { w0 := w, prot := fun b => b < K.w1.heap.size, pin := fun i => if i = 0 then some ls else none }
def Dn (K : TC) (ls : Sx.Loc) (st : St) (X : Int) (a : Act) (w : World) : Prop :=
  ∃ U ρ, SimS (BD K ls w) Try.f40.ntmps U ρ st a w ∧ (∀ i, U i → i < 8) ∧ Yd K X w
theorem pinBD {K : TC} {ls : Sx.Loc} {w : World} : ∀ i l, (BD K ls w).pin i = some l → i < 1 := fun i l e => by
  simp only [BD] at e
  split at e
  · omega
  · exact nomatch e
theorem Yd.kept {K : TC} {ls : Sx.Loc} (hK : K.OK) {X : Int} {w w' : World} (h : Yd K X w) {U : Nat → Prop} {ρ : Nat → Sx.Loc} {g : Nat → Option AObj} (hm : MemOK (BD K ls w) U ρ g w') : Yd K X w' := by
  obtain ⟨f, h1, h2, h3⟩ := h.r
  exact ⟨⟨f, h1, h2, objOK_other hm.size (fun _ => hm.kept _ hK.lt) h3⟩, h.x, fun b hb hn => (hm.kept b hb).trans (h.old b hb hn), hm.os.trans h.os, hm.tape.trans h.tape, hm.output.trans h.output, Nat.le_trans h.size hm.size⟩
theorem MemOK.again {K : TC} {ls : Sx.Loc} {w w' : World} {U : Nat → Prop} {ρ : Nat → Sx.Loc} {g : Nat → Option AObj} (hm : MemOK (BD K ls w) U ρ g w') : MemOK (BD K ls w') U ρ g w' :=
  hm.restart (w' := w') (fun _ _ _ _ => rfl) (Nat.le_refl _)
theorem Dn.cut {K : TC} {ls : Sx.Loc} (hK : K.OK) {X : Int} {w w' : World} {a' : Act} {s' : St} {U' : Nat → Prop} {ρ' : Nat → Sx.Loc} {C : Cut} {v : View} (hC : C.nx ≤ 8) (hc : cut 1 C s' = some v) (hY : Yd K X w) (hs : SimS (BD K ls w) Try.f40.ntmps U' ρ' s' a' w') :
    Dn K ls (lay C 8 v) X a' w' := by
  obtain ⟨U2, ρ2, h2, hu⟩ := cut_ok (nx := 8) pinBD hc hs
  refine ⟨U2, ρ2, ⟨h2.size, h2.df, h2.tm, MemOK.again h2.mem⟩, fun i hi => Nat.lt_of_lt_of_le (hu i hi) hC, hY.kept hK hs.mem⟩
theorem piece {K : TC} {ls : Sx.Loc} (hK : K.OK) {c : Code} {C : Cut} {st : St} {Q : Ex → View → Prop} {X : Int} {a : Act} {w : World} (hl : loopsOf c = []) (hC : C.nx ≤ 8) (hn : st.nx = 8)
    (hev : ((evalCode E40 c st).bind fun x => .ret (x.1, Sx.cut 1 C x.2) : R (Ex × Option View)).holds (fun x => ∃ v, x.2 = some v ∧ Q x.1 v)) (hD : Dn K ls st X a w) {QQ : Exit → Act → World → Prop}
    (hq : ∀ e v a' w', Q e v → Dn K ls (lay C 8 v) X a' w' → QQ (exOf e) a' w') : c.wp Try.prog QQ a w := by
  obtain ⟨U, ρ, hs, hu, hY⟩ := hD
  rw [R.holds_bind] at hev
  refine evalCode_ok e40_ok c st (fun e s' => ∃ v, Sx.cut 1 C s' = some v ∧ Q e v) (by rw [hl]; exact fun c hc => nomatch hc) hev (BD K ls w) pinBD U ρ a w QQ hs (fun i hi => by rw [hn]; exact hu i hi) ?_
  rintro e s' U' ρ' a' w' ⟨v, hv, hQ⟩ hs' _ _
  exact hq e v a' w' hQ (Dn.cut hK hC hv hY hs')

theorem yield_sem {a : Act} {w : World} {l : Nat} {b : Bool} (h18 : a.eval (.tmp 18) = .func (.yield l) #[] #[]) (h21 : a.eval (.tmp 21) = .bool b) :
    ((op7 4).semAt Fence.wide.round a.eval).run Try.prog w = (Instr.yield l #[.bool b]).run Try.prog w := by
  show (execOp a.eval (op7 4)).run Try.prog w = _
  obtain ⟨ev, hev⟩ : ∃ ev, ev = a.eval := ⟨_, rfl⟩
  rw [← hev] at h18 h21 ⊢
  unfold execOp
  rw [op7_4.1]
  simp [h18, h21, resolve, invoke, Deferred.ofValue, Result.andThen]
end Go.Sc
