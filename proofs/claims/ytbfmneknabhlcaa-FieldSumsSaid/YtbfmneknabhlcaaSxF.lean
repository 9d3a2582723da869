/- One operation of the abstract machine is the model's. -/
import Derived.Test.YtbfmneknabhlcaaSxE
set_option linter.unusedSimpArgs false
set_option linter.unusedVariables false
namespace Go.Sx
open Go.RowKit (Below)

def wrF (g : Nat → Option AObj) : List (Nat × AObj) → Nat → Option AObj
  | [] => g
  | (k, o) :: l => wrF (updF g k o) l

section
variable {P : Program} {w : World} {ρ : Nat → Loc} {U : Nat → Prop} {g : Nat → Option AObj}

theorem run_eqGuard_int (op : BinOp) (t : TypeId) (x y : Operand) (k k' : IntKind) (a b : Int) : (eqGuard op t x y (.int k a) (.int k' b)).run P w = .ok () w := by
  cases op <;> simp [eqGuard]
theorem run_eqGuard_string (op : BinOp) (t : TypeId) (x y : Operand) (a b : ByteArray) : (eqGuard op t x y (.string a) (.string b)).run P w = .ok () w := by
  cases op <;> simp [eqGuard]
theorem run_eqGuard_bool (op : BinOp) (t : TypeId) (x y : Operand) (a b : Bool) : (eqGuard op t x y (.bool a) (.bool b)).run P w = .ok () w := by
  cases op <;> simp [eqGuard]

theorem abin_int {sy : Bool} {op : BinOp} {t : TypeId} {k : IntKind} {x y : Int} {K : AV → Prop} (h : (R.res g (aint sy op k x y)).holds K) :
    ∃ r, K r ∧ (∀ U, r.all U) ∧ (binOp op t (.int k x) (.int k y)).run P w = .ok (conc ρ r) w := by
  cases op <;> simp only [aint, R.res, res_needR, R.holds] at h
  case quo => obtain ⟨h0, h⟩ := needR_holds h; exact ⟨_, h, fun _ => trivial, by simp [binOp, Op.intDiv, h0, conc]⟩
  case rem => obtain ⟨h0, h⟩ := needR_holds h; exact ⟨_, h, fun _ => trivial, by simp [binOp, Op.intDiv, h0, conc]⟩
  all_goals exact ⟨_, h, fun _ => trivial, by simp [binOp, Op.intArith, Op.intBits, Op.intCmp, conc, iAnd, iOr, iXor, iAndNot]⟩

theorem size_mk (b : List UInt8) : (⟨b.toArray⟩ : ByteArray).size = b.length := by simp [ByteArray.size]
theorem toList_mk (b : List UInt8) : (⟨b.toArray⟩ : ByteArray).toList = b := by rw [ByteArray.toList_eq]
theorem append_mk (a b : List UInt8) : (⟨a.toArray⟩ : ByteArray) ++ (⟨b.toArray⟩ : ByteArray) = ⟨(a ++ b).toArray⟩ := by
  apply ByteArray.ext
  simp

theorem abin_str {sy : Bool} {op : BinOp} {t : TypeId} {x y : List UInt8} {K : AV → Prop} (h : (R.res g (astr sy op x y)).holds K) :
    ∃ r, K r ∧ (∀ U, r.all U) ∧ (binOp op t (.string ⟨x.toArray⟩) (.string ⟨y.toArray⟩)).run P w = .ok (conc ρ r) w := by
  cases op <;> simp only [astr, R.res, res_needR, R.holds] at h
  case add =>
    obtain ⟨h0, h⟩ := needR_holds h
    refine ⟨_, h, fun _ => trivial, ?_⟩
    simp only [binOp, Op.stringOp, size_mk, conc, append_mk]
    rw [if_neg (by simp [IntKind.max, IntKind.signed, IntKind.bits]; omega)]
    rfl
  case eql => exact ⟨_, h, fun _ => trivial, by simp [binOp, Op.stringOp, conc]⟩
  case neq => exact ⟨_, h, fun _ => trivial, by simp [binOp, Op.stringOp, conc]⟩
  all_goals exact h.elim

theorem abin0_sound {sy : Bool} {op : BinOp} {t : TypeId} {x y : AV} {K : AV → Prop} (h : (R.res g (abin0 P sy op t x y)).holds K) :
    ∃ r, K r ∧ (∀ U, r.all U) ∧ ∀ xo yo : Operand, (eqGuard op t xo yo (conc ρ x) (conc ρ y)).run P w = .ok () w ∧ (binOp op t (conc ρ x) (conc ρ y)).run P w = .ok (conc ρ r) w := by
  unfold abin0 at h
  split at h
  · rename_i k a k' b
    simp only [conc]
    split at h
    · rw [res_needR] at h
      obtain ⟨h0, h⟩ := needR_holds h
      exact ⟨_, h, fun _ => trivial, fun xo yo => ⟨run_eqGuard_int _ _ _ _ _ _ _ _, by simp [binOp, Op.shift, h0, conc, iShl]⟩⟩
    · rw [res_needR] at h
      obtain ⟨h0, h⟩ := needR_holds h
      exact ⟨_, h, fun _ => trivial, fun xo yo => ⟨run_eqGuard_int _ _ _ _ _ _ _ _, by simp [binOp, Op.shift, h0, conc, iShr]⟩⟩
    · split at h
      · rename_i hk
        have := ikEq_iff hk; subst this
        obtain ⟨r, h1, h2, h3⟩ := abin_int (P := P) (w := w) (ρ := ρ) (t := t) h
        exact ⟨r, h1, h2, fun xo yo => ⟨run_eqGuard_int _ _ _ _ _ _ _ _, h3⟩⟩
      · exact h.elim
  · obtain ⟨r, h1, h2, h3⟩ := abin_str (P := P) (w := w) (ρ := ρ) (t := t) h
    simp only [conc]
    exact ⟨r, h1, h2, fun xo yo => ⟨run_eqGuard_string _ _ _ _ _ _, h3⟩⟩
  · rename_i a b
    split at h
    · split at h
      · rename_i c hc
        have := aequal_sound (P := P) (w := w) (ρ := ρ) 1 10000 t _ _ c (by omega) hc
        refine ⟨_, h, fun _ => trivial, fun xo yo => ⟨run_eqGuard_bool _ _ _ _ _ _, ?_⟩⟩
        simp only [conc] at this ⊢
        simp [binOp, Op.equal, Op.maxDepth, this]
      · exact h.elim
    · split at h
      · rename_i c hc
        have := aequal_sound (P := P) (w := w) (ρ := ρ) 1 10000 t _ _ c (by omega) hc
        refine ⟨_, h, fun _ => trivial, fun xo yo => ⟨run_eqGuard_bool _ _ _ _ _ _, ?_⟩⟩
        simp only [conc] at this ⊢
        simp [binOp, Op.equal, Op.maxDepth, this]
      · exact h.elim
    · exact h.elim
  · rename_i xs ys
    split at h
    · exact h.elim
    · rename_i hg
      split at h
      · split at h
        · rename_i c hc
          have := aequal_sound (P := P) (w := w) (ρ := ρ) 10 10000 t _ _ c (by omega) hc
          refine ⟨_, h, fun _ => trivial, fun xo yo => ⟨by simp only [conc]; exact run_eqGuard_agg w _ _ _ _ _ _ hg, ?_⟩⟩
          simp only [conc] at this ⊢
          rw [run_eql_struct, this]; rfl
        · exact h.elim
      · split at h
        · rename_i c hc
          have := aequal_sound (P := P) (w := w) (ρ := ρ) 10 10000 t _ _ c (by omega) hc
          refine ⟨_, h, fun _ => trivial, fun xo yo => ⟨by simp only [conc]; exact run_eqGuard_agg w _ _ _ _ _ _ hg, ?_⟩⟩
          simp only [conc] at this ⊢
          rw [run_neq_struct, this]; rfl
        · exact h.elim
      · exact h.elim
  · exact h.elim

theorem conc_av0 (c : Col) (i : Nat) : conc ρ (c.av i) = c.val i := by cases c <;> simp [Col.av, Col.val, conc]
theorem conc_unr (x : AV) : conc ρ (unr x) = conc ρ x := by
  unfold unr
  split
  · rename_i c n
    simp only [conc, concL_eq, List.map_map, rowsV]
    congr 2
    induction List.range n with
    | nil => rfl
    | cons a l ih => simp only [List.map_cons, List.flatMap_cons, ih, Function.comp, conc_av0, rowV, List.map_nil, List.singleton_append]
  · rfl
theorem abin_sound {sy : Bool} {op : BinOp} {t : TypeId} {x y : AV} {K : AV → Prop} (h : (R.res g (abin P sy op t x y)).holds K) :
    ∃ r, K r ∧ (∀ U, r.all U) ∧ ∀ xo yo : Operand, (eqGuard op t xo yo (conc ρ x) (conc ρ y)).run P w = .ok () w ∧ (binOp op t (conc ρ x) (conc ρ y)).run P w = .ok (conc ρ r) w := by
  obtain ⟨r, h1, h2, h3⟩ := abin0_sound (w := w) (ρ := ρ) h
  rw [conc_unr, conc_unr] at h3
  exact ⟨r, h1, h2, h3⟩

/-! ### a literal's parts -/
theorem length_concL (l : List AV) : (concL ρ l).length = l.length := by rw [concL_eq, List.length_map]

theorem fold_put : ∀ (xs : List Value) (cs : Array Value) (off k : Nat), off + k + xs.length ≤ cs.size →
    ∀ j, ((xs.zipIdx k).foldl (fun cs (c, j) => cs.setIfInBounds (off + j) c) cs)[j]? = if off + k ≤ j ∧ j < off + k + xs.length then xs[j - (off + k)]? else cs[j]?
  | [], cs, off, k, _, j => by simp; intro h1 h2; omega
  | x :: xs, cs, off, k, h, j => by
    simp only [List.zipIdx_cons, List.foldl_cons]
    rw [fold_put xs _ off (k + 1) (by simp at *; omega) j]
    by_cases c : off + k = j
    · subst c
      rw [if_neg (by omega), if_pos (by simp)]
      simp at h
      simp [show off + k < cs.size by omega]
    · by_cases d : off + (k + 1) ≤ j ∧ j < off + (k + 1) + xs.length
      · rw [if_pos d, if_pos (by simp; omega)]
        rw [show j - (off + k) = (j - (off + (k + 1))) + 1 by omega]
        simp
      · rw [if_neg d, if_neg (by simp at *; omega), Array.getElem?_setIfInBounds, if_neg c]

theorem afill_sound {place : Nat → Option (Nat × Nat)} : ∀ {vs : List (Nat × AV)} {cells cs : List AV}, afill place cells vs = some cs →
    Instr.fill place (concL ρ cells).toArray (vs.map fun p => (p.1, conc ρ p.2)) = some (concL ρ cs).toArray
  | [], cells, cs, h => by simp only [afill, Option.some.injEq] at h; subst h; rfl
  | (i, x) :: rest, cells, cs, h => by
    simp only [afill] at h
    split at h
    · exact nomatch h
    · rename_i off size hp
      split at h
      · exact nomatch h
      · rename_i hs
        split at h
        · exact nomatch h
        · rename_i cs' hput
          simp only [Bool.and_eq_true, nbeq, decide_eq_true_eq, Nat.ble_eq] at hs
          obtain ⟨hlen, hb⟩ := hs
          have ih := afill_sound h
          simp only [List.map_cons, Instr.fill, hp, cells_conc]
          have e1 : ((concL ρ x.cells).toArray).size = size := by simp [length_concL, hlen]
          have e2 : ((concL ρ cells).toArray).size = cells.length := by simp [length_concL]
          rw [e1, e2]
          rw [if_neg (by simp; omega)]
          have : (concL ρ x.cells).toArray.zipIdx.foldl (fun cs (c, j) => cs.setIfInBounds (off + j) c) (concL ρ cells).toArray = (concL ρ cs').toArray := by
            apply Array.ext_getElem?
            intro j
            have hf := fold_put (concL ρ x.cells) (concL ρ cells).toArray off 0 (by simp [length_concL]; omega) j
            rw [← Array.foldl_toList]
            simp only [Array.toList_zipIdx, Nat.add_zero] at hf ⊢
            rw [hf]
            have hg := lput_get _ _ _ _ hput j
            simp only [List.getElem?_toArray, concL_eq, List.getElem?_map, hg, List.length_map]
            split <;> simp
          rw [this]; exact ih
end
end Go.Sx
