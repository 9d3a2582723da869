/- Scalars, the program: the iterator's contract. -/
import Derived.Test.YtdcphhcgogmaoaaScT3
set_option linter.unusedVariables false
set_option linter.unusedSimpArgs false
set_option linter.constructorNameAsVariable false
open Go Go.Sx Go.Proofs Go.Dg
namespace Go.Sc

theorem wpOpsIn_cons {F : Fence} {n : Nat} {P : Program} {ops : Array Oper} {Q : Exit → Act → World → Prop} {i : Nat} {rest : List Nat} {o : Oper} {a : Act} {w : World} (ho : ops[i]? = some o) (hg : o.guard = none)
    (h : o.wpIn F n P a w (wpOpsIn F n P ops Q rest) Q) : wpOpsIn F n P ops Q (i :: rest) a w := by
  unfold wpOpsIn
  rw [ho]
  dsimp only
  rw [if_pos (by unfold Region.wanted; rw [hg])]
  exact h

theorem sY18 (l : Nat) (s : List UInt8) (i n : Int) : opnd (sY l s i n).tm (.tmp 18) = some (yl l) := by kernel_rfl
theorem sY21 (l : Nat) (s : List UInt8) (i n : Int) : opnd (sY l s i n).tm (.tmp 21) = some (.b (bitB s i n)) := by kernel_rfl
theorem sYmem (l : Nat) (s : List UInt8) (i n : Int) : (sY l s i n).mem = (Tr.e.set 1 (.cells [.i .i64 i])).set 0 (.ro [.str s]) := by kernel_rfl
theorem sZtm (l : Nat) (s : List UInt8) (i n : Int) : (sZ l s i n).tm = (sY l s i n).tm.set 22 (.b true) := rfl
theorem sZmem (l : Nat) (s : List UInt8) (i n : Int) : (sZ l s i n).mem = (sY l s i n).mem := rfl
theorem range7 : List.range ops7.size = [0, 1, 2, 3, 4, 5] := by rw [ops7_eq]; rfl
theorem get7 : ops7[0]? = some (op7 0) ∧ ops7[1]? = some (op7 1) ∧ ops7[2]? = some (op7 2) ∧ ops7[3]? = some (op7 3) ∧ ops7[4]? = some (op7 4) ∧ ops7[5]? = some (op7 5) := by
  rw [ops7_eq]; exact ⟨rfl, rfl, rfl, rfl, rfl, rfl⟩
theorem n40 : 22 < Try.f40.ntmps := by decide +kernel
set_option maxHeartbeats 1000000 in
theorem reg7 {K : TC} (hK : K.OK) {ls : Sx.Loc} (hls : ls.blk ≠ K.lr.blk) {s : List UInt8} {i n X : Int} {a : Act} {w : World} (hi : 0 ≤ i ∧ i < s.length) (hn : 0 ≤ n) (hD : Dn K ls (sI K.l s i n) X a w) {QQ : Exit → Act → World → Prop}
    (hq : ∀ a' w', Dn K ls (sI K.l s i n) (bitStep X (V4 K.g) (bitB s i n)) a' w' → a'.eval (.tmp 23) = .bool false → QQ .normal a' w') : (Code.region 7 ops7 false).wp Try.prog QQ a w := by
  refine wpIn_wide (n := 0).1 (wpIn_region ?_)
  rw [range7]
  obtain ⟨q0, q1, q2, q3, q4, q5⟩ := get7
  obtain ⟨g0, g1, g2, g3, g4, g5⟩ := guards7
  have hh : ((doOp E40 false 0 0 (op7 0) (sI K.l s i n)).bind fun x0 => (doOp E40 false 0 1 (op7 1) x0.1).bind fun x1 => (doOp E40 false 0 2 (op7 2) x1.1).bind fun x2 =>
    (doOp E40 false 0 3 (op7 3) x2.1).bind fun x3 => (.ret (cut 1 CY x3.1) : R (Option View))).holds (fun v => v = some (viewY K.l s i n)) := by
    rw [ev40_7]; exact ⟨hi, by omega, rfl⟩
  rw [R.holds_bind] at hh
  obtain ⟨U, ρ, hs, hU, hY⟩ := hD
  refine wpOpsIn_cons q0 g0 (op_wide e40_ok rfl hs hU hh ?_)
  intro s0 x0 U0 ρ0 a0 w0 hh _ hU0 hs0
  rw [R.holds_bind] at hh
  refine wpOpsIn_cons q1 g1 (op_wide e40_ok rfl hs0 hU0 hh ?_)
  intro s1 x1 U1 ρ1 a1 w1 hh _ hU1 hs1
  rw [R.holds_bind] at hh
  refine wpOpsIn_cons q2 g2 (op_wide e40_ok rfl hs1 hU1 hh ?_)
  intro s2 x2 U2 ρ2 a2 w2 hh _ hU2 hs2
  rw [R.holds_bind] at hh
  refine wpOpsIn_cons q3 g3 (op_wide e40_ok rfl hs2 hU2 hh ?_)
  intro s3 x3 U3 ρ3 a3 w3 hh _ hU3 hs3
  have hc : cut 1 CY s3 = some (viewY K.l s i n) := hh
  obtain ⟨U4, ρ4, hs4, hU4, hY4⟩ : Dn K ls (sY K.l s i n) X a3 w3 := Dn.cut hK (C := CY) (by decide) hc hY hs3
  clear hs3 hU3 hs2 hU2 hs1 hU1 hs0 hU0 hs hU hh
  have h18 : a3.eval (.tmp 18) = .func (.yield K.l) #[] #[] := (hs4.evS (.tmp 18) (yl K.l) (sY18 _ _ _ _)).1
  have h21 : a3.eval (.tmp 21) = .bool (bitB s i n) := (hs4.evS (.tmp 21) (.b (bitB s i n)) (sY21 _ _ _ _)).1
  obtain ⟨hy, hrd⟩ := round_ok hK hY4 (bitB s i n) (0 - 1)
  refine wpOpsIn_cons q4 g4 ⟨fun _ _ => trivial, ?_⟩
  rw [yield_sem h18 h21, hy, Oper.uponIn_round]
  refine ⟨fun hd => by simp [Fence.wide] at hd, hrd.mono ?_⟩
  rintro e w5 ⟨rfl, hY5, hsz, hkeep⟩
  rw [op7_4.2]
  have hmem : ∀ id o, (sY K.l s i n).mem.get id = some o → (id = 0 ∧ o = .ro [.str s]) ∨ (id = 1 ∧ o = .cells [.i .i64 i]) := fun id o e => by
    have e' := e
    rw [sYmem] at e'
    rcases Tr.get_set e' with ⟨rfl, rfl⟩ | ⟨_, e'⟩
    · exact .inl ⟨rfl, rfl⟩
    · rcases Tr.get_set e' with ⟨rfl, rfl⟩ | ⟨_, e'⟩
      · exact .inr ⟨rfl, rfl⟩
      · exact (tr_e_no e').elim
  have hM5 := hs4.mem.restart (w' := w5) (fun id o e hl => by
    refine hkeep _ (objOK_lt (hs4.mem.obj id o e) hl) ?_
    rcases hmem id o e with ⟨rfl, rfl⟩ | ⟨rfl, rfl⟩
    · rw [(hs4.mem.pin 0 ls rfl).2]; exact hls
    · intro hb
      refine hs4.mem.own 1 _ e rfl rfl ?_
      show (ρ4 1).blk < K.w1.heap.size
      rw [hb]; exact hK.lt) hsz
  have hs4' : SimS (BD K ls w5) Try.f40.ntmps U4 ρ4 (sY K.l s i n) a3 w5 := ⟨hs4.size, hs4.df, hs4.tm, hM5⟩
  have hs5 : SimS (BD K ls w5) Try.f40.ntmps U4 ρ4 (sZ K.l s i n) (a3.put (some 22) (.bool true)) w5 :=
    Sim.step (v := .b true) (t' := (sZ K.l s i n).tm.get) (g' := (sZ K.l s i n).mem.get) hs4' (fun _ _ => rfl) (fun _ h => h) hM5 trivial (some 22) (fun d hd => by cases hd; exact n40) (fun k u hk => by
      rw [sZtm] at hk
      rcases Tr.get_set hk with ⟨rfl, rfl⟩ | ⟨h1, h2⟩
      · exact .inl ⟨rfl, rfl⟩
      · exact .inr ⟨fun e => h1 (by cases e; rfl), h2⟩)
  have hh : ((doOp E40 false 0 5 (op7 5) (sZ K.l s i n)).bind fun x => (.ret (x.1.tm.get 23, cut 1 CI x.1) : R (Option AV × Option View))).holds (fun v => v = (some (.b false), some (viewI K.l s i n))) := by
    rw [ev40_8]; rfl
  rw [R.holds_bind] at hh
  refine wpOpsIn_cons q5 g5 (op_wide e40_ok rfl hs5 hU4 hh ?_)
  intro s6 x6 U6 ρ6 a6 w6 hh _ hU6 hs6
  have hh : (s6.tm.get 23, cut 1 CI s6) = (some (.b false), some (viewI K.l s i n)) := hh
  have h1 : s6.tm.get 23 = some (.b false) := congrArg Prod.fst hh
  have h2 : cut 1 CI s6 = some (viewI K.l s i n) := congrArg Prod.snd hh
  exact hq _ _ (Dn.cut hK (C := CI) (by decide) h2 hY5 hs6) (hs6.evS (.tmp 23) (.b false) h1).1

noncomputable abbrev in40 : Code := .seq (A40 4) (.seq (.block 3 (.seq (.region 7 ops7 false) (.cond (.tmp 23) .ret .skip))) (A40 5))
noncomputable abbrev out40 : Code := .seq (A40 1) (.seq (.block 1 (.seq (A40 2) (.seq (A40 3) (.block 2 (.loop in40))))) (A40 6))
def inX (s : List UInt8) (i Y : Int) : Nat → Int → Int
  | 0, X => X
  | m + 1, X => inX s i Y m (bitStep X Y (bitB s i m))
def outX (s : List UInt8) (Y : Int) : Nat → Int → Int
  | 0, X => X
  | k + 1, X => outX s Y k (inX s k Y 8 X)

theorem wrapS {n : Int} (h1 : -9223372036854775808 ≤ n) (h2 : n < 9223372036854775808) : IntKind.i64.wrap n = n := wrap64 h1 h2

theorem inner {K : TC} (hK : K.OK) {ls : Sx.Loc} (hls : ls.blk ≠ K.lr.blk) {s : List UInt8} {i : Int} (hi : 0 ≤ i ∧ i < s.length) {QQ : Exit → Act → World → Prop} :
    ∀ (m : Nat) (X : Int) (a : Act) (w : World), m ≤ 8 → Dn K ls (sI K.l s i ((m : Int) - 1)) X a w → (∀ a' w', Dn K ls (sI K.l s i (-1)) (inX s i (V4 K.g) m X) a' w' → QQ (.exit 2) a' w') → Code.rounds Try.prog in40 QQ (m + 1) a w
  | 0, X, a, w, _, hD, hq => by
    rw [rounds_succ]
    refine wp_seq (piece hK (C := CI) (Q := fun e v => e = .exit 2 ∧ v = viewI K.l s i (-1)) rfl (by decide) rfl ?_ hD ?_)
    · rw [ev40_4]
      exact ⟨fun h => by simp at h, fun _ => ⟨_, rfl, rfl, rfl⟩⟩
    · rintro e v a' w' ⟨rfl, rfl⟩ hD'
      exact hq a' w' hD'
  | m + 1, X, a, w, hm, hD, hq => by
    have e : ((m + 1 : Nat) : Int) - 1 = m := by omega
    rw [e] at hD
    rw [rounds_succ]
    refine wp_seq (piece hK (C := CI) (Q := fun e v => e = .normal ∧ v = viewI K.l s i m) rfl (by decide) rfl ?_ hD ?_)
    · rw [ev40_4]
      exact ⟨fun _ => ⟨_, rfl, rfl, rfl⟩, fun h => by simp at h⟩
    · rintro e v a' w' ⟨rfl, rfl⟩ hD'
      refine wp_seq (wp_block (wp_seq (reg7 hK hls hi (by omega) hD' ?_)))
      intro a2 w2 hD2 h23
      refine wp_cond_false h23 (wp_skip ?_)
      refine piece hK (C := CI) (Q := fun e v => e = .normal ∧ v = viewI K.l s i ((m : Int) - 1)) (st := sI K.l s i m) rfl (by decide) rfl ?_ hD2 ?_
      · rw [ev40_5, wrapS (by omega) (by omega)]; exact ⟨_, rfl, rfl, rfl⟩
      · rintro e v a' w' ⟨rfl, rfl⟩ hD'
        exact inner hK hls hi m _ a' w' (by omega) hD' hq

theorem outer {K : TC} (hK : K.OK) {ls : Sx.Loc} (hls : ls.blk ≠ K.lr.blk) {s : List UInt8} (hlen : s.length < 9223372036854775808) {QQ : Exit → Act → World → Prop} :
    ∀ (k : Nat) (X : Int) (a : Act) (w : World), k ≤ s.length → Dn K ls (sO K.l s ((k : Int) - 1)) X a w → (∀ a' w', Dn K ls (sO K.l s (-1)) (outX s (V4 K.g) k X) a' w' → QQ (.exit 0) a' w') → Code.rounds Try.prog out40 QQ (k + 1) a w
  | 0, X, a, w, _, hD, hq => by
    rw [rounds_succ]
    refine wp_seq (piece hK (C := CO) (Q := fun e v => e = .exit 0 ∧ v = viewO K.l s (-1)) rfl (by decide) rfl ?_ hD ?_)
    · rw [ev40_1]
      exact ⟨fun h => by simp at h, fun _ => ⟨_, rfl, rfl, rfl⟩⟩
    · rintro e v a' w' ⟨rfl, rfl⟩ hD'
      exact hq a' w' hD'
  | k + 1, X, a, w, hk, hD, hq => by
    have e : ((k + 1 : Nat) : Int) - 1 = k := by omega
    rw [e] at hD
    rw [rounds_succ]
    refine wp_seq (piece hK (C := CO) (Q := fun e v => e = .normal ∧ v = viewO K.l s k) rfl (by decide) rfl ?_ hD ?_)
    · rw [ev40_1]
      exact ⟨fun _ => ⟨_, rfl, rfl, rfl⟩, fun h => by simp at h⟩
    · rintro e v a1 w1 ⟨rfl, rfl⟩ hD1
      refine wp_seq (wp_block (wp_seq (piece hK (C := CJ) (Q := fun e v => e = .normal ∧ v = viewJ K.l s k) (st := sO K.l s k) rfl (by decide) rfl ?_ hD1 ?_)))
      · rw [ev40_2]; exact ⟨_, rfl, rfl, rfl⟩
      rintro e v a2 w2 ⟨rfl, rfl⟩ hD2
      refine wp_seq (piece hK (C := CI) (Q := fun e v => e = .normal ∧ v = viewI K.l s k 7) (st := sJ K.l s k) rfl (by decide) rfl ?_ hD2 ?_)
      · rw [ev40_3]; exact ⟨_, rfl, rfl, rfl⟩
      rintro e v a3 w3 ⟨rfl, rfl⟩ hD3
      refine wp_block (wp_loop_rounds 9 (inner hK hls (by omega) 8 X a3 w3 (by omega) hD3 ?_))
      intro a4 w4 hD4
      refine piece hK (C := CO) (Q := fun e v => e = .normal ∧ v = viewO K.l s ((k : Int) - 1)) (st := sI K.l s k (-1)) rfl (by decide) rfl ?_ hD4 ?_
      · rw [ev40_6, wrapS (by omega) (by omega)]; exact ⟨_, rfl, rfl, rfl⟩
      rintro e v a5 w5 ⟨rfl, rfl⟩ hD5
      exact outer hK hls hlen k _ a5 w5 (by omega) hD5 hq

theorem down_ok {K : TC} (hK : K.OK) {ls : Sx.Loc} (hls : ls.blk ≠ K.lr.blk) {s : List UInt8} (hlen : s.length < 9223372036854775808) {X : Int} (hY : Yd K X K.w1) (hs : ObjOK (fun _ => ls) 0 (.ro [.str s]) K.w1) :
    Calls Try.prog 40 #[.func (.yield K.l) #[] #[], conc (fun _ => ls) (.p 0 0 0)] K.w1 fun e w' => (∃ v, e = .returned v) ∧ Yd K (outX s (V4 K.g) s.length X) w' := by
  refine calls_of_wp (fn := Try.f40) (by kernel_rfl) body40 ?_
  have hD : Dn K ls (s40 K.l s) X { tmps := #[.func (.yield K.l) #[] #[], conc (fun _ => ls) (.p 0 0 0)] ++ Array.replicate (Try.f40.ntmps - 2) undef, defers := [] } K.w1 := by
    refine ⟨fun i => i = 0, fun _ => ls, sim_args (B := BD K ls K.w1) (vs := [yl K.l, .p 0 0 0]) (mem := Tr.e.set 0 (.ro [.str s])) (nx := 8) rfl ?_ ⟨trivial, rfl, trivial⟩ (show 2 ≤ Try.f40.ntmps by decide +kernel), fun i hi => by omega, hY⟩
    have hmem : ∀ id o, (Tr.e.set 0 (.ro [.str s]) : Tr AObj).get id = some o → id = 0 ∧ o = .ro [.str s] := fun id o e => by
      rcases Tr.get_set e with h | ⟨_, e⟩
      · exact h
      · exact (tr_e_no e).elim
    refine ⟨fun id o e => ?_, fun id o e => ?_, fun id id' o o' e e' hne => ?_, fun id o e hrw => ?_, rfl, rfl, rfl, Nat.le_refl _, fun _ _ => rfl, fun b hb => hb, fun i l e => ?_⟩
    · obtain ⟨rfl, rfl⟩ := hmem id o e; exact ⟨rfl, trivial, trivial⟩
    · obtain ⟨rfl, rfl⟩ := hmem id o e; exact hs
    · obtain ⟨rfl, rfl⟩ := hmem id o e; obtain ⟨rfl, rfl⟩ := hmem id' o' e'; exact absurd rfl hne
    · obtain ⟨rfl, rfl⟩ := hmem id o e; exact nomatch hrw
    · have := pinBD i l e
      have : i = 0 := by omega
      subst this; cases e; exact ⟨rfl, rfl⟩
  refine wp_seq (piece hK (C := CO) (Q := fun e v => e = .normal ∧ v = viewO K.l s ((s.length : Int) - 1)) rfl (by decide) rfl ?_ hD ?_)
  · rw [ev40_0, wrapS (by omega) (by omega)]; exact ⟨_, rfl, rfl, rfl⟩
  rintro e v a1 w1 ⟨rfl, rfl⟩ hD1
  refine wp_block (wp_loop_rounds (s.length + 1) (outer hK hls hlen s.length X a1 w1 (Nat.le_refl _) hD1 ?_))
  rintro a2 w2 ⟨U, ρ, hs2, hU2, hY2⟩
  have hr := (results_ok (E := E40) (fn := Try.f40) (vs := []) hs2 (by kernel_rfl)).1
  exact ⟨hs2.df, _, hr, ⟨_, rfl⟩, hY2⟩
end Go.Sc
