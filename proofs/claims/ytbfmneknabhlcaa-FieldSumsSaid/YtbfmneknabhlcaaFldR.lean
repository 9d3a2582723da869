/- Numbers modulo p, the program: roots. -/
import Derived.Test.YtbfmneknabhlcaaFldO3
set_option linter.unusedVariables false
set_option linter.unusedSimpArgs false
open Go Go.Sx Go.Fld Go.Proofs Go.Dg
namespace Go.Fc
/-! ### powers modulo p, as the kernel can reckon them -/
def sqm (h : Nat) : Nat := h * h % pN
def powmF : Nat → Nat → Nat → Nat
  | 0, _, _ => 1
  | f + 1, a, e => match e with
    | 0 => 1
    | e + 1 => cond (Nat.beq ((e + 1) % 2) 1) (sqm (powmF f a ((e + 1) / 2)) * a % pN) (sqm (powmF f a ((e + 1) / 2)))
def pw (a : Int) (e : Nat) : Int := (powmF 256 (a % p).toNat e : Nat)
theorem p_pN : p = (pN : Int) := rfl
theorem sq_pow (a e : Nat) : a ^ e * a ^ e = a ^ (2 * e) := by rw [← Nat.pow_add]; congr 1; omega
theorem powmF_eq (a : Nat) : ∀ (f e : Nat), e < 2 ^ f → powmF f a e % pN = a ^ e % pN
  | 0, e, h => by
    have : e = 0 := by simp at h; exact h
    subst this; rfl
  | f + 1, 0, h => rfl
  | f + 1, e + 1, h => by
    rw [Nat.pow_succ] at h
    have ih := powmF_eq a f ((e + 1) / 2) (by omega)
    have hs : sqm (powmF f a ((e + 1) / 2)) % pN = a ^ (2 * ((e + 1) / 2)) % pN := by
      unfold sqm
      rw [Nat.mod_mod, Nat.mul_mod, ih, ← Nat.mul_mod, sq_pow]
    simp only [powmF, nbeq]
    by_cases hb : (e + 1) % 2 = 1
    · rw [decide_eq_true hb]
      simp only [cond_true, Nat.mod_mod]
      rw [Nat.mul_mod, hs, ← Nat.mul_mod, ← Nat.pow_succ]
      congr 2; omega
    · rw [decide_eq_false hb]
      simp only [cond_false]
      rw [hs]
      congr 2; omega
theorem pN_pos : 0 < pN := by decide
theorem pw_mod (a : Int) {e : Nat} (h : e < 2 ^ 256) : pw a e % p = a ^ e % p := by
  unfold pw
  have h0 : 0 ≤ a % p := Int.emod_nonneg _ (by decide)
  obtain ⟨n, hn⟩ := Int.eq_ofNat_of_zero_le h0
  rw [hn, Int.toNat_natCast, p_pN, ← Int.natCast_emod, powmF_eq n 256 e h, Int.natCast_emod, Int.natCast_pow, ← hn, p_pN]
  generalize (pN : Int) = q
  induction e with
  | zero => simp
  | succ e ih => rw [Int.pow_succ, Int.pow_succ, Int.mul_emod, ih (by omega), Int.emod_emod, ← Int.mul_emod]
theorem pN_lt : pN < 2 ^ 256 := by decide
theorem p24' (a : Int) : PureOK Try.prog 24 [FE a] (FE (pw a (pN - 2))) := by
  rw [FE_congr (pw_mod a (show pN - 2 < 2 ^ 256 by have := pN_lt; omega))]
  exact p24 a

/-! ### the root of -1 -/
def im : Int := 19681161376707505956807079304988542015446066515923890162744021073123829784752
def addE (v w : AV) : R AV := match l5 v, l5 w with
  | some x, some y => .req (x.lt L51 ∧ y.lt L51) (.ret (FE (x.val + y.val)))
  | _, _ => .bad "add"
def negE (v : AV) : R AV := match l5 v with
  | some x => .req (x.lt L51) (.ret (FE (-x.val)))
  | _ => .bad "neg"
def sameE (v w : AV) : R Bool := match l5 v, l5 w with
  | some x, some y => .req (x.lt L51 ∧ y.lt L51) (.ret (decide (x.val = y.val)))
  | _, _ => .bad "same"
def oddE (v : AV) : R Bool := match l5 v with
  | some x => .req (x.lt L51) (.ret (decide (x.val % 2 = 1)))
  | _ => .bad "odd"
def eSmall : Entry := fun vs => match vs with
  | [.v (.int .u32 n)] => some (.req (0 ≤ n ∧ n < 4294967296) (.ret (FE n)))
  | _ => none
theorem eSmall_ok : EntryOK Try.prog (17, eSmall) := fun vs r h => by
  dsimp only [eSmall] at h
  split at h
  · cases h; exact .inr ⟨_, _, rfl, fun h => p17 h.1 h.2⟩
  · exact nomatch h
def eSame : Entry := fun vs => match vs with
  | [x, y] => (match l5 x, l5 y with
    | some x, some y => some (.req (x.lt L51 ∧ y.lt L51) (.ret (.b (decide (x.val = y.val)))))
    | _, _ => none)
  | _ => none
theorem eSame_ok : EntryOK Try.prog (26, eSame) := fun vs r hr => by
  dsimp only [eSame] at hr
  split at hr
  · split at hr
    · rename_i h1 h2
      cases hr
      rw [l5_av h1, l5_av h2]
      exact .inr ⟨_, _, rfl, fun k => p26 k.1 k.2⟩
    · exact nomatch hr
  · exact nomatch hr
abbrev TS : Tab := (17, eSmall) :: (26, eSame) :: (15, eL fun n => .b (decide (n % 2 = 1))) :: (13, eL fun n => .str (txt n)) :: TF
theorem ts_ok : ∀ x ∈ TS, EntryOK Try.prog x := all_cons eSmall_ok (all_cons eSame_ok (all_cons (eL_ok p15) (all_cons (eL_ok p13) tf_ok)))
def rmE : R AV := .req (0 ≤ (2 : Int) ∧ (2 : Int) < 4294967296) ((powE 12 250 [(1, FE 2)]).bind fun x => (sqE 3 x.1).bind fun y => (mulE (FE 2) (FE 2)).bind fun z => (mulE z (FE 2)).bind fun u => mulE y u)
set_option maxRecDepth 100000 in
theorem t42 : evalVal (envM Try.prog TS MI Try.f42.ntmps [] 0 []) Try.f42 [] = rmE := by kernel_rfl
theorem rm_ex : (2 ^ 250 - 1) * 2 ^ 3 + 3 = (pN - 1) / 4 := by decide
theorem im_pw : pw 2 ((pN - 1) / 4) = im := by decide +kernel
theorem p42 : PureOK Try.prog 42 [] (FE im) := by
  refine pure_of_envM mixed ts_ok mi_ok (fn := Try.f42) (by kernel_rfl) (by kernel_rfl) rfl [] [] trivial (all5 _) ?_
  rw [t42]
  refine ⟨by decide, ?_⟩
  rw [R.holds_bind]
  refine R.holds_mono (fun x hx => ?_) (powE_FE 2 11 250 _ (kn_one 2) (by omega) (by omega))
  rw [R.holds_bind, hx.1]
  refine R.holds_mono (fun y hy => ?_) (sqE_FE 3 _)
  rw [R.holds_bind, hy]
  refine R.holds_mono (fun z hz => ?_) (mulE_FE _ _)
  rw [R.holds_bind, hz]
  refine R.holds_mono (fun u hu => ?_) (mulE_FE _ _)
  rw [hu]
  refine R.holds_mono (fun r hr => ?_) (mulE_FE _ _)
  rw [hr]
  have h2 := pw_mod 2 (show (pN - 1) / 4 < 2 ^ 256 by have := pN_lt; omega)
  rw [im_pw] at h2
  refine FE_congr ?_
  rw [h2, ← rm_ex]
  generalize (2 : Nat) ^ 250 - 1 = m
  generalize (2 : Nat) ^ 3 = s
  congr 1
  rw [Int.pow_add, Int.pow_mul]
  rfl
end Go.Fc
