/- Numbers modulo p, the program: what powers come to. -/
import Derived.Test.YtbfmneknabhlcaaFldI
set_option linter.unusedVariables false
open Go Go.Sx Go.Fld Go.Proofs
namespace Go.Fc
theorem l5_FE (n : Int) : l5 (FE n) = some (E n) := rfl
theorem FE_congr {m n : Int} (h : m % p = n % p) : FE m = FE n := by unfold FE; rw [E_congr h]
theorem mulE_FE (m n : Int) : (mulE (FE m) (FE n)).holds (· = FE (m * n)) := by
  unfold mulE
  rw [l5_FE, l5_FE]
  refine ⟨⟨E_lt m, E_lt n⟩, FE_congr ?_⟩
  rw [E_val, E_val, ← Int.mul_emod]
theorem sqE_FE : ∀ (k : Nat) (m : Int), (sqE k (FE m)).holds (· = FE (m ^ (2 ^ k)))
  | 0, m => by
    show FE m = FE (m ^ (2 ^ 0))
    rw [Nat.pow_zero, Int.pow_succ, Int.pow_zero, Int.one_mul]
  | k + 1, m => by
    unfold sqE
    rw [R.holds_bind]
    refine R.holds_mono (fun v hv => ?_) (mulE_FE m m)
    subst hv
    refine R.holds_mono (fun v hv => ?_) (sqE_FE k (m * m))
    rw [hv, Nat.pow_succ, Nat.mul_comm, Int.pow_mul]
    congr 2
    rw [Int.pow_succ, Int.pow_one]
def Kn (a : Int) (known : List (Nat × AV)) : Prop := (∀ x ∈ known, x.2 = FE (a ^ (2 ^ x.1 - 1))) ∧ ∃ v, (1, v) ∈ known
theorem findN_some {n : Nat} : ∀ {l : List (Nat × AV)} {v : AV}, findN n l = some v → (n, v) ∈ l
  | [], _, h => nomatch h
  | (m, u) :: l, v, h => by
    simp only [findN, nbeq] at h
    by_cases e : m = n
    · simp [e] at h; subst h; simp [e]
    · simp [e] at h; exact List.mem_cons_of_mem _ (findN_some h)
theorem findN_none {n : Nat} : ∀ {l : List (Nat × AV)}, findN n l = none → ∀ v, (n, v) ∉ l
  | [], _, v => by simp
  | (m, u) :: l, h, v => by
    simp only [findN, nbeq] at h
    by_cases e : m = n
    · simp [e] at h
    · simp [e] at h
      simp only [List.mem_cons, Prod.mk.injEq, not_or]
      exact ⟨fun h' => e h'.1.symm, findN_none h v⟩
theorem pow_join (a : Int) {n : Nat} (hn : 2 ≤ n) : (a ^ (2 ^ (n - n / 2) - 1)) ^ (2 ^ (n / 2)) * a ^ (2 ^ (n / 2) - 1) = a ^ (2 ^ n - 1) := by
  rw [← Int.pow_mul, ← Int.pow_add]
  congr 1
  have e : 2 ^ n = 2 ^ (n - n / 2) * 2 ^ (n / 2) := by rw [← Nat.pow_add]; congr 1; omega
  rw [e, Nat.sub_mul, Nat.one_mul]
  have h1 : 1 ≤ 2 ^ (n / 2) := Nat.one_le_two_pow
  have h2 : 2 ^ (n / 2) ≤ 2 ^ (n - n / 2) * 2 ^ (n / 2) := Nat.le_mul_of_pos_left _ (Nat.one_le_two_pow)
  omega
theorem powE_FE (a : Int) : ∀ (f n : Nat) (known : List (Nat × AV)), Kn a known → 1 ≤ n → n ≤ 2 ^ f → (powE (f + 1) n known).holds fun r => r.1 = FE (a ^ (2 ^ n - 1)) ∧ Kn a r.2 := by
  intro f
  induction f with
  | zero =>
    intro n known hk h1 hn
    have : n = 1 := by simp at hn; omega
    subst this
    unfold powE
    split
    · rename_i v hv
      exact ⟨hk.1 _ (findN_some hv), hk⟩
    · rename_i hv
      obtain ⟨v, hm⟩ := hk.2
      exact absurd hm (findN_none hv v)
  | succ f ih =>
    intro n known hk h1 hn
    unfold powE
    split
    · rename_i v hv
      exact ⟨hk.1 _ (findN_some hv), hk⟩
    · rename_i hv
      have h2 : 2 ≤ n := by
        rcases Nat.lt_or_ge n 2 with h | h
        · have : n = 1 := by omega
          subst this
          obtain ⟨v, hm⟩ := hk.2
          exact absurd hm (findN_none hv v)
        · exact h
      rw [Nat.pow_succ] at hn
      rw [R.holds_bind]
      refine R.holds_mono (fun x hx => ?_) (ih (n - n / 2) known hk (by omega) (by omega))
      obtain ⟨x1, x2⟩ := hx
      rw [R.holds_bind, x1]
      refine R.holds_mono (fun y hy => ?_) (sqE_FE (n / 2) _)
      rw [R.holds_bind]
      refine R.holds_mono (fun z hz => ?_) (ih (n / 2) x.2 x2 (by omega) (by omega))
      obtain ⟨z1, z2⟩ := hz
      rw [R.holds_bind, hy, z1]
      refine R.holds_mono (fun r hr => ?_) (mulE_FE _ _)
      rw [pow_join a h2] at hr
      refine ⟨hr, fun x hx => ?_, ?_⟩
      · rcases List.mem_append.1 hx with hx | hx
        · exact z2.1 x hx
        · have := List.mem_singleton.1 hx; subst this; exact hr
      · obtain ⟨v, hv⟩ := z2.2
        exact ⟨v, List.mem_append_left _ hv⟩
theorem kn_one (a : Int) : Kn a [(1, FE a)] := by
  refine ⟨fun x hx => ?_, FE a, by simp⟩
  have := List.mem_singleton.1 hx
  subst this
  show FE a = FE (a ^ (2 ^ 1 - 1))
  rw [show (2 : Nat) ^ 1 - 1 = 1 from rfl, Int.pow_one]
def pN : Nat := 57896044618658097711785492504343953926634992332820282019728792003956564819949
theorem inv_ex : ((2 ^ 250 - 1) * 2 ^ 2 + 1) * 2 ^ 3 + (2 ^ 2 - 1) = pN - 2 := by decide
theorem invE_FE (a : Int) : (invE (FE a)).holds (· = FE (a ^ (pN - 2))) := by
  unfold invE
  rw [R.holds_bind]
  refine R.holds_mono (fun x hx => ?_) (powE_FE a 11 250 _ (kn_one a) (by omega) (by omega))
  rw [R.holds_bind, hx.1]
  refine R.holds_mono (fun y hy => ?_) (sqE_FE 2 _)
  rw [R.holds_bind, hy]
  refine R.holds_mono (fun z hz => ?_) (mulE_FE _ _)
  rw [R.holds_bind, hz]
  refine R.holds_mono (fun u hu => ?_) (sqE_FE 3 _)
  rw [R.holds_bind]
  refine R.holds_mono (fun t ht => ?_) (powE_FE a 11 2 _ hx.2 (by omega) (by omega))
  rw [hu, ht.1]
  refine R.holds_mono (fun r hr => ?_) (mulE_FE _ _)
  rw [hr, ← inv_ex]
  generalize hm : (2 : Nat) ^ 250 - 1 = m
  generalize (2 : Nat) ^ 2 = q
  generalize (2 : Nat) ^ 3 = s
  congr 1
  rw [Int.pow_add, Int.pow_mul, Int.pow_add, Int.pow_mul, Int.pow_one]
theorem p24 (a : Int) : PureOK Try.prog 24 [FE a] (FE (a ^ (pN - 2))) := by
  refine pure_of_envM mixed tf_ok mi_ok (fn := Try.f24) (by kernel_rfl) (by kernel_rfl) rfl [] [] ⟨all5 _, trivial⟩ (all5 _) ?_
  rw [t24 (E a)]
  exact invE_FE a
end Go.Fc
