/- Scalars, the program: what times comes to; a text's number, sums, products, checks. -/
import Derived.Test.YtdcphhcgogmaoaaScT5
import Derived.Test.YtdcphhcgogmaoaaScW
set_option linter.unusedVariables false
open Go Go.Sx Go.Proofs Go.Dg
namespace Go.Sc

def bitN (b m : Nat) : Bool := iAnd .i32 (iShr .i32 (IntKind.i32.wrap b) m) 1 == 1
theorem bitN_all : ∀ b, b < 256 → ∀ m, m < 8 → bitN b m = decide (b / 2 ^ m % 2 = 1) := by decide +kernel
theorem bitB_eq (s : List UInt8) (k m : Nat) (hm : m < 8) : bitB s k m = decide ((s.getD k 0).toNat / 2 ^ m % 2 = 1) := by
  have h := bitN_all (s.getD k 0).toNat (by have := (s.getD k 0).toNat_lt; omega) m hm
  unfold bitN at h
  unfold bitB
  have : ((k : Int)).toNat = k := by omega
  rw [this]; exact h
theorem mod_next (b m : Nat) : b % 2 ^ (m + 1) = (if b / 2 ^ m % 2 = 1 then 2 ^ m else 0) + b % 2 ^ m := by
  rw [Nat.pow_succ, Nat.mod_mul]
  split
  · rename_i h; rw [h]; omega
  · rename_i h
    have : b / 2 ^ m % 2 = 0 := by omega
    rw [this]; omega

theorem inX_eq (s : List UInt8) (k : Nat) (Y : Int) : ∀ (m : Nat) (X : Int), m ≤ 8 → 0 ≤ X → X < order → inX s k Y m X = (2 ^ m * X + (((s.getD k 0).toNat % 2 ^ m : Nat) : Int) * Y) % order
  | 0, X, _, h1, h2 => by
    simp only [inX, Int.pow_zero, Nat.pow_zero, Nat.mod_one]
    rw [show (1 : Int) * X + ((0 : Nat) : Int) * Y = X by simp, Int.emod_eq_of_lt h1 h2]
  | m + 1, X, hm, h1, h2 => by
    have hp := order_pos
    rw [inX, inX_eq s k Y m (bitStep X Y (bitB s k m)) (by omega) (by unfold bitStep; exact Int.emod_nonneg _ (by omega)) (by unfold bitStep; exact Int.emod_lt_of_pos _ hp), bitB_eq s k m (by omega), mod_next]
    unfold bitStep
    generalize hb : (s.getD k 0).toNat = b
    rw [Int.add_emod, Int.mul_emod, Int.emod_emod, ← Int.mul_emod, ← Int.add_emod]
    congr 1
    by_cases h : b / 2 ^ m % 2 = 1
    · simp only [h, decide_true, if_true]
      push_cast
      rw [Int.pow_succ]
      grind
    · simp only [h, decide_false, if_false, Bool.false_eq_true]
      push_cast
      rw [Int.pow_succ]
      grind
theorem le_take_succ : ∀ (s : List UInt8) (k : Nat), k < s.length → le (s.take (k + 1)) = le (s.take k) + 256 ^ k * (s.getD k 0).toNat
  | [], k, h => by simp at h
  | c :: s, 0, h => by simp [le]
  | c :: s, k + 1, h => by
    have ih := le_take_succ s k (by simpa using h)
    simp only [List.take_succ_cons, le, List.getD_cons_succ]
    rw [ih, Int.pow_succ]
    grind
theorem outX_eq (s : List UInt8) (Y : Int) : ∀ (k : Nat) (X : Int), k ≤ s.length → 0 ≤ X → X < order → outX s Y k X = (256 ^ k * X + le (s.take k) * Y) % order
  | 0, X, _, h1, h2 => by
    simp only [outX, List.take_zero, le, Int.pow_zero]
    rw [show (1 : Int) * X + 0 * Y = X by simp, Int.emod_eq_of_lt h1 h2]
  | k + 1, X, hk, h1, h2 => by
    have hp := order_pos
    rw [outX, inX_eq s k Y 8 X (by omega) h1 h2, outX_eq s Y k ((2 ^ 8 * X + (((s.getD k 0).toNat % 2 ^ 8 : Nat) : Int) * Y) % order) (by omega) (Int.emod_nonneg _ (by omega)) (Int.emod_lt_of_pos _ hp), le_take_succ s k (by omega)]
    have hb : (s.getD k 0).toNat % 2 ^ 8 = (s.getD k 0).toNat := Nat.mod_eq_of_lt (s.getD k 0).toNat_lt
    rw [hb, Int.add_emod, Int.mul_emod, Int.emod_emod, ← Int.mul_emod, ← Int.add_emod]
    congr 1
    rw [Int.pow_succ]
    grind
theorem outX_all (s : List UInt8) (Y : Int) : outX s Y s.length 0 = le s * Y % order := by
  rw [outX_eq s Y s.length 0 (Nat.le_refl _) (Int.le_refl _) order_pos, List.take_length, Int.mul_zero, Int.zero_add]

theorem p29' {g : Nat → Int} (hg : isW g) (ho : V4 g < order) {s : List UInt8} (hlen : s.length < 9223372036854775808) :
    PureOK Try.prog 29 [.rows [.int .u64 g] 4, .str s] (W (le s * V4 g % order)) := by
  rw [← outX_all]; exact p29 hg ho hlen
theorem toCol_conc {m : Nat} {cs : List AV} {c : Col} (h : toCol m (.a cs) = some c) (ρ : Nat → Sx.Loc) : conc ρ (.a cs) = conc ρ (.rows [c] m) := by
  obtain ⟨h1, h2, _⟩ := toCol_spec (ρ := ρ) h
  have e : (conc ρ (.a cs)).cells.toList = concL ρ cs := by simp [conc, Value.cells]
  rw [e] at h1 h2
  simp only [conc]
  congr 2
  rw [rowsV_one]
  apply List.ext_getElem?
  intro q
  by_cases hq : q < m
  · rw [h2 q hq]; simp [hq]
  · rw [List.getElem?_eq_none (by omega), List.getElem?_eq_none (by simp; omega)]
theorem _root_.Go.Sx.PureOK.args_congr {P : Program} {f : Nat} {vs vs' : List AV} {v : AV} (h : PureOK P f vs v) (e : ∀ ρ, concL ρ vs' = concL ρ vs) : PureOK P f vs' v :=
  ⟨fun ρ w => by rw [e ρ]; exact h.run ρ w, h.ids⟩
def e29 : Entry := fun vs => match vs with
  | [.rows [.int .u64 g] 4, .str s] => some (.req (isW g ∧ V4 g < order ∧ s.length < 9223372036854775808) (.ret (W (le s * V4 g % order))))
  | [.a cs, .str s] => (match toCol 4 (.a cs) with
    | some (.int .u64 g) => some (.req (isW g ∧ V4 g < order ∧ s.length < 9223372036854775808) (.ret (W (le s * V4 g % order))))
    | _ => none)
  | _ => none
theorem e29_ok : EntryOK Try.prog (29, e29) := fun vs r h => by
  dsimp only [e29] at h
  split at h
  · cases h; exact .inr ⟨_, _, rfl, fun h => p29' h.1 h.2.1 h.2.2⟩
  · rename_i cs s
    split at h
    · rename_i g hg
      cases h
      refine .inr ⟨_, _, rfl, fun h => (p29' h.1 h.2.1 h.2.2).args_congr fun ρ => ?_⟩
      simp only [concL, toCol_conc hg ρ]
    · exact nomatch h
  · exact nomatch h
abbrev T23 : Tab := [(29, e29)]
theorem t23_ok : ∀ x ∈ T23, EntryOK Try.prog x := by
  intro x hx
  simp only [List.mem_cons, List.not_mem_nil, or_false] at hx
  rcases hx with rfl
  exact e29_ok
def oneL : List AV := [.i .u64 1, .i .u64 0, .i .u64 0, .i .u64 0]
theorem isW_one : isW (nthI oneL) := by
  intro q hq
  have : q = 0 ∨ q = 1 ∨ q = 2 ∨ q = 3 := by omega
  rcases this with rfl | rfl | rfl | rfl <;> exact ⟨by decide, by decide⟩
theorem V4_one : V4 (nthI oneL) = 1 := by decide
theorem val23 (s : List UInt8) : evalVal (envL Try.prog T23 Try.f23.ntmps [8] 0 RW []) Try.f23 [.str s] =
    .req (0 ≤ cutN s ∧ cutN s ≤ s.length) (.req (isW (nthI oneL) ∧ V4 (nthI oneL) < order ∧ ((s.take (cutN s).toNat).drop 0).length < 9223372036854775808) (.req (0 = 0)
      (.ret (W (le ((s.take (cutN s).toNat).drop 0) * V4 (nthI oneL) % order))))) := by kernel_rfl
theorem p23 (s : List UInt8) : PureOK Try.prog 23 [.str s] (W (num s)) := by
  refine pure_of_envL mixed (t := T23) t23_ok (fn := Try.f23) (by kernel_rfl) (by kernel_rfl) rfl [8] RW [] told_none ⟨trivial, trivial⟩ trivial ?_
  rw [val23, List.drop_zero, cutN_take, V4_one, Int.mul_one]
  refine ⟨?_, ⟨isW_one, by decide, ?_⟩, rfl, rfl⟩
  · unfold cutN; split <;> omega
  · unfold first; rw [List.length_take]; omega

def e23 : Entry := fun vs => match vs with
  | [.str s] => some (.ret (W (num s)))
  | _ => none
theorem e23_ok : EntryOK Try.prog (23, e23) := fun vs r h => by
  dsimp only [e23] at h
  split at h
  · cases h; exact .inl ⟨_, rfl, p23 _⟩
  · exact nomatch h
def e25 : Entry := fun vs => match vs with
  | [.rows [.int .u64 f] 4] => some (.req (isW f) (.ret (.str (txt (V4 f)))))
  | _ => none
theorem e25_ok : EntryOK Try.prog (25, e25) := fun vs r h => by
  dsimp only [e25] at h
  split at h
  · cases h; exact .inr ⟨_, _, rfl, p25⟩
  · exact nomatch h
theorem num_V4 (s : List UInt8) : V4 (dig B64 (num s)) = num s := V4_dmod _
abbrev T15 : Tab := [(23, e23), (25, e25)]
theorem t15_ok : ∀ x ∈ T15, EntryOK Try.prog x := by
  intro x hx
  simp only [List.mem_cons, List.not_mem_nil, or_false] at hx
  rcases hx with rfl | rfl
  · exact e23_ok
  · exact e25_ok
theorem val15 (s : List UInt8) : evalVal (envL Try.prog T15 Try.f15.ntmps [] 0 RW []) Try.f15 [.str s] = .req (isW (dig B64 (num s))) (.ret (.str (txt (V4 (dig B64 (num s)))))) := by kernel_rfl
theorem p15 (s : List UInt8) : PureOK Try.prog 15 [.str s] (.str (txt (num s))) := by
  refine pure_of_envL mixed (t := T15) t15_ok (fn := Try.f15) (by kernel_rfl) (by kernel_rfl) rfl [] RW [] told_none ⟨trivial, trivial⟩ trivial ?_
  rw [val15, num_V4]
  exact ⟨isW_dig _, rfl⟩
def e15 : Entry := fun vs => match vs with
  | [.str s] => some (.ret (.str (txt (num s))))
  | _ => none
theorem e15_ok : EntryOK Try.prog (15, e15) := fun vs r h => by
  dsimp only [e15] at h
  split at h
  · cases h; exact .inl ⟨_, rfl, p15 _⟩
  · exact nomatch h
abbrev T10 : Tab := [(23, e23), (24, e24), (25, e25)]
theorem t10_ok : ∀ x ∈ T10, EntryOK Try.prog x := by
  intro x hx
  simp only [List.mem_cons, List.not_mem_nil, or_false] at hx
  rcases hx with rfl | rfl | rfl
  · exact e23_ok
  · exact e24_ok
  · exact e25_ok
theorem val10 (a b : List UInt8) : evalVal (envL Try.prog T10 Try.f10.ntmps [] 0 RW []) Try.f10 [.str a, .str b] =
    .req (isW (dig B64 (num a)) ∧ isW (dig B64 (num b)) ∧ V4 (dig B64 (num a)) < order ∧ V4 (dig B64 (num b)) < order) (.req (isW (dig B64 ((V4 (dig B64 (num a)) + V4 (dig B64 (num b))) % order)))
      (.ret (.str (txt (V4 (dig B64 ((V4 (dig B64 (num a)) + V4 (dig B64 (num b))) % order))))))) := by kernel_rfl
theorem p10 (a b : List UInt8) : PureOK Try.prog 10 [.str a, .str b] (.str (txt ((num a + num b) % order))) := by
  refine pure_of_envL mixed (t := T10) t10_ok (fn := Try.f10) (by kernel_rfl) (by kernel_rfl) rfl [] RW [] told_none ⟨trivial, trivial, trivial⟩ trivial ?_
  rw [val10, num_V4, num_V4, V4_dmod]
  exact ⟨⟨isW_dig _, isW_dig _, (num_range a).2, (num_range b).2⟩, isW_dig _, rfl⟩
abbrev T13 : Tab := [(23, e23), (15, e15), (29, e29), (25, e25)]
theorem t13_ok : ∀ x ∈ T13, EntryOK Try.prog x := by
  intro x hx
  simp only [List.mem_cons, List.not_mem_nil, or_false] at hx
  rcases hx with rfl | rfl | rfl | rfl
  · exact e23_ok
  · exact e15_ok
  · exact e29_ok
  · exact e25_ok
theorem val13 (a b : List UInt8) : evalVal (envL Try.prog T13 Try.f13.ntmps [] 0 RW []) Try.f13 [.str a, .str b] =
    .req (isW (dig B64 (num a)) ∧ V4 (dig B64 (num a)) < order ∧ (txt (num b)).length < 9223372036854775808) (.req (isW (dig B64 (le (txt (num b)) * V4 (dig B64 (num a)) % order)))
      (.ret (.str (txt (V4 (dig B64 (le (txt (num b)) * V4 (dig B64 (num a)) % order))))))) := by kernel_rfl
theorem p13 (a b : List UInt8) : PureOK Try.prog 13 [.str a, .str b] (.str (txt (num a * num b % order))) := by
  refine pure_of_envL mixed (t := T13) t13_ok (fn := Try.f13) (by kernel_rfl) (by kernel_rfl) rfl [] RW [] told_none ⟨trivial, trivial, trivial⟩ trivial ?_
  rw [val13, num_V4, V4_dmod, le_txt_num, Int.mul_comm]
  exact ⟨⟨isW_dig _, (num_range a).2, by unfold txt; rw [bytesL_length]; omega⟩, isW_dig _, rfl⟩
abbrev T17 : Tab := [(15, e15)]
theorem t17_ok : ∀ x ∈ T17, EntryOK Try.prog x := by
  intro x hx
  simp only [List.mem_cons, List.not_mem_nil, or_false] at hx
  subst hx
  exact e15_ok
theorem val17 (s : List UInt8) : evalVal (envL Try.prog T17 Try.f17.ntmps [6] 0 RW []) Try.f17 [.str s] = .br ((s.length : Int) == 32) (.ret (.b (txt (num s) == s))) (.ret (.b false)) := by kernel_rfl
theorem p17 (s : List UInt8) : PureOK Try.prog 17 [.str s] (.b (check s)) := by
  refine pure_of_envL mixed (t := T17) t17_ok (fn := Try.f17) (by kernel_rfl) (by kernel_rfl) rfl [6] RW [] told_none ⟨trivial, trivial⟩ trivial ?_
  rw [val17]
  refine ⟨fun h => ?_, fun h => ?_⟩
  · have : s.length = 32 := by simp only [beq_iff_eq] at h; omega
    simp [R.holds, check, this]
  · have : ¬ s.length = 32 := by intro e; simp [e] at h
    simp [R.holds, check, this]
end Go.Sc
