/- Numbers modulo p, the document's answer: the product. -/
import Derived.Test.YtbfmneknabhlcaaRfD
set_option linter.unusedVariables false
open Go Go.Sx Go.Fld Go.Fc Go.Proofs Go.Dg
namespace Go.Rf
abbrev rX (f : Nat → Int) : AObj := .rows [.int .u64 f] 32 false
abbrev iy {α : Type} (i : Int) (k : R α) : R α := .req (0 ≤ i ∧ i < 32) (.req (i.toNat < 32) k)
def bd (o : Nat → Int) : Prop := ∀ q, q < 32 → 0 ≤ o q ∧ o q < 1099511627776
/-- A row of the product laid on. -/
def addRow (f g : Nat → Int) (i m : Nat) (o : Nat → Int) : Nat → Int := fun q => if i ≤ q ∧ q < i + m then o q + f i * g (q - i) else o q
def acc (f g : Nat → Int) : Nat → Nat → Int
  | 0 => fun _ => 0
  | i + 1 => addRow f g i 16 (acc f g i)
def fin (o : Nat → Int) (m : Nat) (t : Nat → Int) : Nat → Int := fun q => if q < m then o q + 38 * o (q + 16) else t q
def C33 : Cut := ⟨[2, 3, 4, 5, 6, 7], [([2], 0), ([3], 1), ([4], 2), ([5], 3)], 8⟩
def view33 (i j : Int) (f g r o : Nat → Int) : View := ([.p 0 0 0, .p 1 0 0, .p 2 0 0, .p 3 0 0, .i .i64 i, .i .i64 j], [(0, rw f), (1, rw g), (2, rw r), (3, rX o)])
def spec33 : Sx.Spec := fun x => match x with
  | ([.p 0 0 0, .p 1 0 0, .p 2 0 0, .p 3 0 0, .v (.int .i64 i), .v (.int .i64 j)], [(0, .rows [.int .u32 f] 16 false), (1, .rows [.int .u32 g] 16 false), (2, .rows [.int .u32 r] 16 false), (3, .rows [.int .u64 o] 32 false)]) =>
    some (.req (j = 0 ∧ (0 ≤ i ∧ i < 16) ∧ isD f ∧ isD g ∧ bd o) (.ret (.exit 2, view33 i 16 f g r (addRow f g i.toNat 16 o))))
  | _ => none
def L33 : LoopC := ⟨6, C33, spec33⟩
def C33a : Cut := ⟨[2, 3, 4, 5, 6], [([2], 0), ([3], 1), ([4], 2), ([5], 3)], 8⟩
def view33a (i : Int) (f g r o : Nat → Int) : View := ([.p 0 0 0, .p 1 0 0, .p 2 0 0, .p 3 0 0, .i .i64 i], [(0, rw f), (1, rw g), (2, rw r), (3, rX o)])
def spec33a : Sx.Spec := fun x => match x with
  | ([.p 0 0 0, .p 1 0 0, .p 2 0 0, .p 3 0 0, .v (.int .i64 i)], [(0, .rows [.int .u32 f] 16 false), (1, .rows [.int .u32 g] 16 false), (2, .rows [.int .u32 r] 16 false), (3, .rows [.int .u64 o] 32 false)]) =>
    some (.req (i = 0 ∧ o = (fun _ => 0) ∧ isD f ∧ isD g) (.ret (.exit 0, view33a 16 f g r (acc f g 16))))
  | _ => none
def L33a : LoopC := ⟨3, C33a, spec33a⟩
def C33c : Cut := ⟨[4, 5, 8, 9], [([4], 0), ([5], 1), ([8], 2)], 8⟩
def view33c (j : Int) (r o t : Nat → Int) : View := ([.p 0 0 0, .p 1 0 0, .p 2 0 0, .i .i64 j], [(0, rw r), (1, rX o), (2, rx t)])
def spec33c : Sx.Spec := fun x => match x with
  | ([.p 0 0 0, .p 1 0 0, .p 2 0 0, .v (.int .i64 j)], [(0, .rows [.int .u32 r] 16 false), (1, .rows [.int .u64 o] 32 false), (2, .rows [.int .u64 t] 16 false)]) =>
    some (.req (j = 0 ∧ bd o) (.ret (.exit 4, view33c 16 r o (fin o 16 t))))
  | _ => none
def L33c : LoopC := ⟨11, C33c, spec33c⟩
noncomputable abbrev E33 : Env := envL Try.prog T21 Try.f33.ntmps [11, 15, 24, 27, 31, 36, 38, 43, 47, 51] 0 RG2 [L33a, L33, L33c]
theorem round33 (i j : Int) (f g r o : Nat → Int) : round E33 C33 (loopAt Try.f33 1) (view33 i j f g r o) =
    .br (decide (j < 16)) (iy (w64 (i + j)) (ix i (ix j (iy (w64 (i + j)) (.ret (.normal, view33 i (w64 (j + 1)) f g r
      (fun q => if q = (w64 (i + j)).toNat then wu (o (w64 (i + j)).toNat + wu (wu (f i.toNat) * wu (g j.toNat))) else o q)))))))
      (.ret (.exit 2, view33 i j f g r o)) := by kernel_rfl
theorem round33a (i : Int) (f g r o : Nat → Int) : round E33 C33a (loopAt Try.f33 0) (view33a i f g r o) =
    .br (decide (i < 16)) (.req (0 = (0 : Int) ∧ (0 ≤ i ∧ i < 16) ∧ isD f ∧ isD g ∧ bd o) (.ret (.normal, view33a (w64 (i + 1)) f g r (addRow f g i.toNat 16 o))))
      (.ret (.exit 0, view33a i f g r o)) := by kernel_rfl
theorem round33c (j : Int) (r o t : Nat → Int) : round E33 C33c (loopAt Try.f33 2) (view33c j r o t) =
    .br (decide (j < 16)) (iy j (iy (w64 (j + 16)) (ix j (.ret (.normal, view33c (w64 (j + 1)) r o
      (fun q => if q = j.toNat then wu (o j.toNat + wu (38 * o (w64 (j + 16)).toNat)) else t q))))))
      (.ret (.exit 4, view33c j r o t)) := by kernel_rfl
theorem val33 (f g : Nat → Int) : evalVal E33 Try.f33 [.rows [.int .u32 f] 16, .rows [.int .u32 g] 16] =
    .req (0 = (0 : Int) ∧ (fun _ : Nat => (0 : Int)) = (fun _ => 0) ∧ isD f ∧ isD g) (.req (0 = (0 : Int) ∧ bd (acc f g 16)) (.req (0 + 16 ≤ 16) (.req (isU (fin (acc f g 16) 16 fun _ => 0))
      (.req (0 = 0) (.ret (.rows [.int .u32 (dig 65536 (V (fin (acc f g 16) 16 fun _ => 0) % p))] 16)))))) := by kernel_rfl
theorem mul_le {x y : Int} (h0 : 0 ≤ x) (h1 : x < 65536) (h2 : 0 ≤ y) (h3 : y < 65536) : 0 ≤ x * y ∧ x * y ≤ 4294836225 := by
  refine ⟨Int.mul_nonneg h0 h2, ?_⟩
  have a := Int.mul_le_mul_of_nonneg_right (show x ≤ 65535 by omega) h2
  omega
theorem loop33 : LoopCOK E33 L33 (loopAt Try.f33 1) := by
  intro x r Q hx hr
  simp only [L33, spec33] at hx
  split at hx
  · rename_i i j f g r o
    cases hx
    obtain ⟨⟨rfl, ⟨hi0, hi1⟩, hf, hg, ho⟩, hQ⟩ := hr
    refine ⟨17, ?_⟩
    obtain ⟨I, rfl⟩ := Int.eq_ofNat_of_zero_le hi0
    have key := rounds_for (step := round E33 C33 (loopAt Try.f33 1)) (Q := Q) (fun j => view33 I j f g r (addRow f g I j o)) 16 0 (fun j _ hj K hK => ?_) ?_
    · have e0 : addRow f g I 0 o = o := by
        funext q; unfold addRow; rw [if_neg (by omega)]
      rw [e0] at key
      exact key
    · rw [round33]
      refine ⟨fun _ => ?_, fun h => by simp at h; omega⟩
      have w1 : w64 ((I : Int) + (j : Int)) = ((I + j : Nat) : Int) := by
        have : w64 ((I : Int) + (j : Int)) = (I : Int) + (j : Int) := wrap64 (by omega) (by omega)
        rw [this]; omega
      have w3 : w64 ((j : Int) + 1) = (j : Int) + 1 := wrap64 (by omega) (by omega)
      rw [w1, w3]
      have t1 : (((I + j : Nat) : Int)).toNat = I + j := by omega
      have t2 : ((I : Int)).toNat = I := by omega
      have t3 : ((j : Int)).toNat = j := by omega
      refine ⟨⟨by omega, by omega⟩, by omega, ⟨by omega, by omega⟩, by omega, ⟨by omega, by omega⟩, by omega, ⟨by omega, by omega⟩, by omega, ?_⟩
      rw [t1, t2, t3]
      obtain ⟨d1, d2⟩ := hf I (by omega)
      obtain ⟨d3, d4⟩ := hg j (by omega)
      obtain ⟨d5, d6⟩ := ho (I + j) (by omega)
      obtain ⟨m1, m2⟩ := mul_le d1 d2 d3 d4
      have u1 : wu (f I) = f I := wrapu d1 (by omega)
      have u2 : wu (g j) = g j := wrapu d3 (by omega)
      have u3 : wu (f I * g j) = f I * g j := wrapu m1 (by omega)
      have ea : addRow f g I j o (I + j) = o (I + j) := by unfold addRow; rw [if_neg (by omega)]
      have u4 : wu (o (I + j) + f I * g j) = o (I + j) + f I * g j := wrapu (by omega) (by omega)
      rw [u1, u2, u3, ea, u4]
      have : (fun q => if q = I + j then o (I + j) + f I * g j else addRow f g I j o q) = addRow f g I (j + 1) o := by
        funext q
        unfold addRow
        by_cases h1 : q = I + j
        · subst h1
          rw [if_pos rfl, if_pos (by omega), show I + j - I = j by omega]
        · by_cases h2 : I ≤ q ∧ q < I + j
          · rw [if_neg h1, if_pos h2, if_pos (by omega)]
          · rw [if_neg h1, if_neg h2, if_neg (by omega)]
      rw [this]
      exact hK
    · rw [round33]
      refine ⟨fun h => by simp at h, fun _ => ?_⟩
      have t2 : ((I : Int)).toNat = I := by omega
      have := hQ
      rw [t2] at this
      exact this
  · exact nomatch hx
theorem acc_bd {f g : Nat → Int} (hf : isD f) (hg : isD g) : ∀ i, i ≤ 16 → ∀ q, 0 ≤ acc f g i q ∧ acc f g i q ≤ i * 4294836225
  | 0, _, q => by simp [acc]
  | i + 1, hi, q => by
    obtain ⟨h1, h2⟩ := acc_bd hf hg i (by omega) q
    show 0 ≤ addRow f g i 16 (acc f g i) q ∧ addRow f g i 16 (acc f g i) q ≤ _
    unfold addRow
    by_cases h : i ≤ q ∧ q < i + 16
    · rw [if_pos h]
      obtain ⟨d1, d2⟩ := hf i (by omega)
      obtain ⟨d3, d4⟩ := hg (q - i) (by omega)
      obtain ⟨m1, m2⟩ := mul_le d1 d2 d3 d4
      omega
    · rw [if_neg h]; omega
theorem bd_acc {f g : Nat → Int} (hf : isD f) (hg : isD g) {i : Nat} (hi : i ≤ 16) : bd (acc f g i) := fun q _ => by
  obtain ⟨h1, h2⟩ := acc_bd hf hg i hi q
  omega
theorem loop33a : LoopCOK E33 L33a (loopAt Try.f33 0) := by
  intro x r Q hx hr
  simp only [L33a, spec33a] at hx
  split at hx
  · rename_i i f g r o
    cases hx
    obtain ⟨⟨rfl, rfl, hf, hg⟩, hQ⟩ := hr
    refine ⟨17, ?_⟩
    have key := rounds_for (step := round E33 C33a (loopAt Try.f33 0)) (Q := Q) (fun i => view33a i f g r (acc f g i)) 16 0 (fun i _ hi K hK => ?_) ?_
    · exact key
    · rw [round33a]
      refine ⟨fun _ => ?_, fun h => by simp at h; omega⟩
      have w3 : w64 ((i : Int) + 1) = (i : Int) + 1 := wrap64 (by omega) (by omega)
      have t2 : ((i : Int)).toNat = i := by omega
      refine ⟨⟨rfl, ⟨by omega, by omega⟩, hf, hg, bd_acc hf hg (by omega)⟩, ?_⟩
      rw [w3, t2]
      exact hK
    · rw [round33a]
      exact ⟨fun h => by simp at h, fun _ => hQ⟩
  · exact nomatch hx
theorem loop33c : LoopCOK E33 L33c (loopAt Try.f33 2) := by
  intro x r Q hx hr
  simp only [L33c, spec33c] at hx
  split at hx
  · rename_i j r o t
    cases hx
    obtain ⟨⟨rfl, ho⟩, hQ⟩ := hr
    refine ⟨17, ?_⟩
    have key := rounds_for (step := round E33 C33c (loopAt Try.f33 2)) (Q := Q) (fun j => view33c j r o (fin o j t)) 16 0 (fun j _ hj K hK => ?_) ?_
    · have e0 : fin o 0 t = t := by funext q; simp [fin]
      rw [e0] at key
      exact key
    · rw [round33c]
      refine ⟨fun _ => ?_, fun h => by simp at h; omega⟩
      have w1 : w64 ((j : Int) + 16) = ((j + 16 : Nat) : Int) := by
        have : w64 ((j : Int) + 16) = (j : Int) + 16 := wrap64 (by omega) (by omega)
        rw [this]; omega
      have w3 : w64 ((j : Int) + 1) = (j : Int) + 1 := wrap64 (by omega) (by omega)
      have t1 : (((j + 16 : Nat) : Int)).toNat = j + 16 := by omega
      have t3 : ((j : Int)).toNat = j := by omega
      rw [w1, w3]
      refine ⟨⟨by omega, by omega⟩, by omega, ⟨by omega, by omega⟩, by omega, ⟨by omega, by omega⟩, by omega, ?_⟩
      rw [t1, t3]
      obtain ⟨d1, d2⟩ := ho j (by omega)
      obtain ⟨d3, d4⟩ := ho (j + 16) (by omega)
      have u1 : wu (38 * o (j + 16)) = 38 * o (j + 16) := wrapu (by omega) (by omega)
      have u2 : wu (o j + 38 * o (j + 16)) = o j + 38 * o (j + 16) := wrapu (by omega) (by omega)
      rw [u1, u2]
      have : (fun q => if q = j then o j + 38 * o (j + 16) else fin o j t q) = fin o (j + 1) t := by
        funext q
        unfold fin
        by_cases h1 : q = j
        · subst h1; simp
        · by_cases h2 : q < j
          · rw [if_neg h1, if_pos h2, if_pos (by omega)]
          · rw [if_neg h1, if_neg h2, if_neg (by omega)]
      rw [this]
      exact hK
    · rw [round33c]
      exact ⟨fun h => by simp at h, fun _ => hQ⟩
  · exact nomatch hx
/-! ### the sums -/
theorem sm_upd (o : Nat → Int) (u : Int) (k : Nat) : ∀ n, sm 65536 (fun q => if q = k then o q + u else o q) n = sm 65536 o n + (if k < n then u * 65536 ^ k else 0)
  | 0 => by simp [sm]
  | n + 1 => by
    simp only [sm]
    rw [sm_upd o u k n]
    by_cases h : n = k
    · subst h
      rw [if_pos rfl, if_neg (by omega), if_pos (by omega)]; grind
    · rw [if_neg h]
      by_cases h2 : k < n
      · rw [if_pos h2, if_pos (by omega)]; grind
      · rw [if_neg h2, if_neg (by omega)]; grind
theorem addRow_succ (f g : Nat → Int) (i m : Nat) (o : Nat → Int) : addRow f g i (m + 1) o = fun q => if q = i + m then addRow f g i m o q + f i * g m else addRow f g i m o q := by
  funext q
  unfold addRow
  by_cases h1 : q = i + m
  · subst h1
    rw [if_pos (by omega), if_pos rfl, if_neg (by omega), show i + m - i = m by omega]
  · by_cases h2 : i ≤ q ∧ q < i + m
    · rw [if_pos (by omega), if_neg h1, if_pos h2]
    · rw [if_neg (by omega), if_neg h1, if_neg h2]
theorem sm_addRow (f g : Nat → Int) (i : Nat) (o : Nat → Int) : ∀ m, i + m ≤ 32 → sm 65536 (addRow f g i m o) 32 = sm 65536 o 32 + f i * 65536 ^ i * sm 65536 g m
  | 0, _ => by
    have : addRow f g i 0 o = o := by funext q; unfold addRow; rw [if_neg (by omega)]
    rw [this]; simp [sm]
  | m + 1, h => by
    rw [addRow_succ, sm_upd, sm_addRow f g i o m (by omega), if_pos (by omega)]
    show _ = sm 65536 o 32 + f i * 65536 ^ i * (sm 65536 g m + g m * 65536 ^ m)
    rw [Int.pow_add]; grind
theorem sm_acc (f g : Nat → Int) : ∀ i, i ≤ 16 → sm 65536 (acc f g i) 32 = sm 65536 f i * V g
  | 0, _ => by
    have : ∀ n, sm 65536 (fun _ => (0 : Int)) n = 0 := fun n => by induction n with | zero => rfl | succ n ih => simp only [sm, ih]; simp
    show sm 65536 (fun _ => 0) 32 = 0 * V g
    rw [this]; simp
  | i + 1, h => by
    show sm 65536 (addRow f g i 16 (acc f g i)) 32 = (sm 65536 f i + f i * 65536 ^ i) * V g
    rw [sm_addRow f g i _ 16 (by omega), sm_acc f g i (by omega), Int.add_mul]; rfl
theorem sm_split (o : Nat → Int) (n : Nat) : ∀ m, sm 65536 o (n + m) = sm 65536 o n + 65536 ^ n * sm 65536 (fun q => o (q + n)) m
  | 0 => by simp [sm]
  | m + 1 => by
    show sm 65536 o (n + m) + o (n + m) * 65536 ^ (n + m) = sm 65536 o n + 65536 ^ n * (sm 65536 (fun q => o (q + n)) m + o (m + n) * 65536 ^ m)
    rw [sm_split o n m, Int.pow_add, Nat.add_comm m n]; grind
theorem V_fin (o t : Nat → Int) : V (fin o 16 t) % p = sm 65536 o 32 % p := by
  have e1 : V (fin o 16 t) = sm 65536 (fun q => o q + 38 * o (q + 16)) 16 := sm_congr fun q hq => by simp only [fin, if_pos hq]
  rw [e1, sm_add, sm_mul, sm_split o 16 16, W_pow]
  unfold W p
  omega
theorem p33 {f g : Nat → Int} (hf : isD f) (hg : isD g) : PureOK Try.prog 33 [.rows [.int .u32 f] 16, .rows [.int .u32 g] 16] (D (V f * V g % p)) := by
  have hV : V (fin (acc f g 16) 16 fun _ => 0) % p = V f * V g % p := by rw [V_fin, sm_acc f g 16 (by omega)]; rfl
  have hU : isU (fin (acc f g 16) 16 fun _ => 0) := fun q hq => by
    have h1 := acc_bd hf hg 16 (by omega) q
    have h2 := acc_bd hf hg 16 (by omega) (q + 16)
    simp only [fin, if_pos hq]
    omega
  refine pure_of_envL mixed (t := T21) t21_ok (fn := Try.f33) (by kernel_rfl) (by kernel_rfl) rfl [11, 15, 24, 27, 31, 36, 38, 43, 47, 51] RG2 [L33a, L33, L33c] ?_ ⟨trivial, trivial, trivial⟩ trivial ?_
  · refine told_zip [(L33a, loopAt Try.f33 0), (L33, loopAt Try.f33 1), (L33c, loopAt Try.f33 2)] (by kernel_rfl) ?_ (by decide) ?_
    · intro x hx
      simp only [List.mem_cons, List.not_mem_nil, or_false] at hx
      rcases hx with rfl | rfl | rfl <;> kernel_rfl
    · intro x hx
      simp only [List.mem_cons, List.not_mem_nil, or_false] at hx
      rcases hx with rfl | rfl | rfl
      · exact loop33a
      · exact loop33
      · exact loop33c
  · rw [val33, hV]
    exact ⟨⟨rfl, rfl, hf, hg⟩, ⟨rfl, bd_acc hf hg (by omega)⟩, by omega, hU, rfl, rfl⟩
end Go.Rf
