/- Numbers modulo p, the program: the even root. -/
import Derived.Test.YtbfmneknabhlcaaFldR
set_option linter.unusedVariables false
set_option linter.unusedSimpArgs false
open Go Go.Sx Go.Fld Go.Proofs Go.Dg
namespace Go.Fc
abbrev TR : Tab := (42, fun vs => match vs with | [] => some (.ret (FE im)) | _ => none) :: TS
theorem tr_ok : ∀ x ∈ TR, EntryOK Try.prog x := all_cons (fun vs r h => by
  dsimp only at h
  split at h
  · cases h; exact .inl ⟨_, rfl, p42⟩
  · exact nomatch h) ts_ok
def zeroE : AV := L5.av ⟨0, 0, 0, 0, 0⟩
def tailE (r a : AV) : R AV := (mulE r r).bind fun rr => (sameE rr a).bind fun b => .br (!b) (.ret (.t [zeroE, .b false]))
  ((oddE r).bind fun o => .br o ((negE r).bind fun r' => .ret (.t [r', .b true])) (.ret (.t [r, .b true])))
def rootE (a : AV) : R AV := (powE 12 251 [(1, a)]).bind fun z => (sqE 1 z.1).bind fun r => (mulE r r).bind fun rr => (sameE rr a).bind fun b =>
  .br (!b) ((mulE r (FE im)).bind fun r' => tailE r' a) (tailE r a)
set_option maxRecDepth 100000 in
theorem t22 (x : L5) : evalVal (envM Try.prog TR MI Try.f22.ntmps [14, 23, 26] 0 []) Try.f22 [x.av] = rootE x.av := by kernel_rfl
def eR : Nat := (pN + 3) / 8
/-- The root that is tried, and the root. -/
def try1 (a : Int) : Int := if pw a eR * pw a eR % p = a % p then pw a eR else pw a eR * im
def rootV (a : Int) : Int := if try1 a * try1 a % p = a % p then (if try1 a % p % 2 = 1 then - try1 a else try1 a) else 0
def hasR (a : Int) : Bool := decide (try1 a * try1 a % p = a % p)
theorem sameE_FE (m n : Int) : (sameE (FE m) (FE n)).holds (· = decide (m % p = n % p)) := by
  unfold sameE
  rw [l5_FE, l5_FE]
  refine ⟨⟨E_lt m, E_lt n⟩, ?_⟩
  show decide _ = decide _
  rw [E_val, E_val]
theorem oddE_FE (m : Int) : (oddE (FE m)).holds (· = decide (m % p % 2 = 1)) := by
  unfold oddE
  rw [l5_FE]
  refine ⟨E_lt m, ?_⟩
  show decide _ = decide _
  rw [E_val]
theorem negE_FE (m : Int) : (negE (FE m)).holds (· = FE (-m)) := by
  unfold negE
  rw [l5_FE]
  refine ⟨E_lt m, ?_⟩
  refine FE_congr ?_
  rw [E_val]
  have h := Int.emod_add_mul_ediv m p
  have e : -(m % p) = -m + p * (m / p) := by omega
  rw [e, Int.add_mul_emod_self_left]
theorem tailE_FE (r a : Int) : (tailE (FE r) (FE a)).holds (· = .t [FE (if r * r % p = a % p then (if r % p % 2 = 1 then -r else r) else 0), .b (decide (r * r % p = a % p))]) := by
  unfold tailE
  rw [R.holds_bind]
  refine R.holds_mono (fun rr hrr => ?_) (mulE_FE r r)
  subst hrr
  rw [R.holds_bind]
  refine R.holds_mono (fun b hb => ?_) (sameE_FE _ a)
  subst hb
  refine ⟨fun h => ?_, fun h => ?_⟩
  · have h : ¬ r * r % p = a % p := by simpa using h
    rw [if_neg h, decide_eq_false h]; rfl
  · have h : r * r % p = a % p := by simpa using h
    rw [if_pos h, decide_eq_true h]
    rw [R.holds_bind]
    refine R.holds_mono (fun o ho => ?_) (oddE_FE r)
    subst ho
    refine ⟨fun h => ?_, fun h => ?_⟩
    · have h : r % p % 2 = 1 := by simpa using h
      rw [if_pos h, R.holds_bind]
      refine R.holds_mono (fun v hv => ?_) (negE_FE r)
      subst hv; rfl
    · have h : ¬ r % p % 2 = 1 := by simpa using h
      rw [if_neg h]; rfl
theorem root_ex : (2 ^ 251 - 1) * 2 ^ 1 = eR := by decide
theorem rootE_FE (a : Int) : (rootE (FE a)).holds (· = .t [FE (rootV a), .b (hasR a)]) := by
  unfold rootE
  rw [R.holds_bind]
  refine R.holds_mono (fun z hz => ?_) (powE_FE a 11 251 _ (kn_one a) (by omega) (by omega))
  rw [R.holds_bind, hz.1]
  refine R.holds_mono (fun r hr => ?_) (sqE_FE 1 _)
  have hr' : r = FE (pw a eR) := by
    rw [hr, FE_congr (pw_mod a (show eR < 2 ^ 256 by decide)), ← root_ex]
    generalize (2 : Nat) ^ 251 - 1 = m
    generalize (2 : Nat) ^ 1 = s
    rw [Int.pow_mul]
  subst hr'
  rw [R.holds_bind]
  refine R.holds_mono (fun rr hrr => ?_) (mulE_FE _ _)
  subst hrr
  rw [R.holds_bind]
  refine R.holds_mono (fun b hb => ?_) (sameE_FE _ a)
  subst hb
  refine ⟨fun h => ?_, fun h => ?_⟩
  · have h : ¬ pw a eR * pw a eR % p = a % p := by simpa using h
    rw [R.holds_bind]
    refine R.holds_mono (fun v hv => ?_) (mulE_FE _ _)
    subst hv
    have ht : try1 a = pw a eR * im := by unfold try1; rw [if_neg h]
    have := tailE_FE (pw a eR * im) a
    rw [← ht] at this ⊢
    exact this
  · have h : pw a eR * pw a eR % p = a % p := by simpa using h
    have ht : try1 a = pw a eR := by unfold try1; rw [if_pos h]
    have := tailE_FE (pw a eR) a
    rw [← ht] at this ⊢
    exact this
theorem p22 (a : Int) : PureOK Try.prog 22 [FE a] (.t [FE (rootV a), .b (hasR a)]) := by
  refine pure_of_envM mixed tr_ok mi_ok (fn := Try.f22) (by kernel_rfl) (by kernel_rfl) rfl [14, 23, 26] [] ⟨all5 _, trivial⟩ ⟨all5 _, trivial, trivial⟩ ?_
  rw [t22 (E a)]
  exact rootE_FE a
def eRoot : Entry := fun vs => match vs with
  | [x] => (match l5 x with
    | some x => some (.req (x = E x.val) (.ret (.t [FE (rootV x.val), .b (hasR x.val)])))
    | _ => none)
  | _ => none
theorem eRoot_ok : EntryOK Try.prog (22, eRoot) := fun vs r hr => by
  dsimp only [eRoot] at hr
  split at hr
  · split at hr
    · rename_i x h1
      cases hr
      rw [l5_av h1]
      refine .inr ⟨_, _, rfl, fun k => ?_⟩
      have := p22 x.val
      rw [show FE x.val = x.av by unfold FE; rw [← k]] at this
      exact this
    · exact nomatch hr
  · exact nomatch hr
def eInv : Entry := fun vs => match vs with
  | [x] => (match l5 x with
    | some x => some (.req (x = E x.val) (.ret (FE (pw x.val (pN - 2)))))
    | _ => none)
  | _ => none
theorem eInv_ok : EntryOK Try.prog (24, eInv) := fun vs r hr => by
  dsimp only [eInv] at hr
  split at hr
  · split at hr
    · rename_i x h1
      cases hr
      rw [l5_av h1]
      refine .inr ⟨_, _, rfl, fun k => ?_⟩
      have := p24' x.val
      rw [show FE x.val = x.av by unfold FE; rw [← k]] at this
      exact this
    · exact nomatch hr
  · exact nomatch hr
def eOf : Entry := fun vs => match vs with
  | [.str s] => some (.ret (ofV s))
  | _ => none
theorem eOf_ok : EntryOK Try.prog (11, eOf) := fun vs r hr => by
  dsimp only [eOf] at hr
  split at hr
  · cases hr; exact .inl ⟨_, rfl, p11 _⟩
  · exact nomatch hr
abbrev TW : Tab := (22, eRoot) :: (24, eInv) :: (11, eOf) :: TS
theorem tw_ok : ∀ x ∈ TW, EntryOK Try.prog x := all_cons eRoot_ok (all_cons eInv_ok (all_cons eOf_ok ts_ok))
end Go.Fc
