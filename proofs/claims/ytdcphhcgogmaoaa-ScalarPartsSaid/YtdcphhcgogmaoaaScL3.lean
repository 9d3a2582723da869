/- Scalars: the law of parts. -/
import Derived.Test.YtdcphhcgogmaoaaScL2
set_option linter.unusedVariables false
open Go Go.Sx Go.Proofs Go.Dg
namespace Go.Sc
def C6 : Cut := ⟨[0, 1, 5, 6, 7], [], 8⟩
def view6 (s : List UInt8) (c k : Int) (u : List UInt8) (i : Int) : View := ([.str s, .i .u8 c, .i .i64 k, .str u, .i .i64 i], [])
def upT : Nat → List UInt8
  | 0 => [1]
  | k + 1 => mulT (upT k) [0, 1]
def spec6 : Sx.Spec := fun x => match x with
  | ([.str s, .v (.int .u8 c), .v (.int .i64 k), .str u, .v (.int .i64 i)], []) =>
    some (.req (i = 0 ∧ 0 ≤ k ∧ k ≤ 64 ∧ u = [1]) (.ret (.exit 0, view6 s c k (upT k.toNat) k)))
  | _ => none
def L6 : LoopC := ⟨7, C6, spec6⟩
noncomputable abbrev E6 : Env := envL Try.prog TL Try.f6.ntmps [11, 12, 15, 20, 21, 24, 31, 35, 41] 0 RT [L6]
theorem round6 (s : List UInt8) (c k i : Int) (u : List UInt8) : round E6 C6 (loopAt Try.f6 0) (view6 s c k u i) =
    .br (decide (i < k)) (.ret (.normal, view6 s c k (mulT u [0, 1]) (IntKind.i64.wrap (i + 1)))) (.ret (.exit 0, view6 s c k u i)) := by kernel_rfl
theorem loop6 : LoopCOK E6 L6 (loopAt Try.f6 0) := by
  intro x r Q hx hr
  simp only [L6, spec6] at hx
  split at hx
  · rename_i s c k u i
    cases hx
    obtain ⟨⟨rfl, h0, h64, rfl⟩, hQ⟩ := hr
    obtain ⟨m, rfl⟩ : ∃ m : Nat, k = m := ⟨k.toNat, by omega⟩
    refine ⟨m + 1, ?_⟩
    have key := rounds_for (step := round E6 C6 (loopAt Try.f6 0)) (Q := Q) (fun i => view6 s c m (upT i) i) m 0 (fun i _ hi K hK => ?_) ?_
    · exact key
    · rw [round6]
      refine ⟨fun _ => ?_, fun h => by simp at h; omega⟩
      have : IntKind.i64.wrap ((i : Int) + 1) = ((i + 1 : Nat) : Int) := by rw [wrap64 (by omega) (by omega)]; omega
      rw [this]
      exact hK
    · rw [round6]
      refine ⟨fun h => by simp at h, fun _ => ?_⟩
      have : (m : Int).toNat = m := by omega
      rw [this] at hQ
      rw [Nat.zero_add]
      exact hQ
  · exact nomatch hx
def tail6 (F : List UInt8) (k : Int) : R AV :=
  .req (0 = (0 : Int) ∧ 0 ≤ k ∧ k ≤ 64 ∧ ([1] : List UInt8) = [1]) (.req (0 ≤ k ∧ k ≤ F.length) (.req (0 ≤ k ∧ k ≤ F.length)
    (.br (addT ((F.take k.toNat).drop 0) (mulT (upT k.toNat) ((F.take F.length).drop k.toNat)) == redT F) (.ret (.b true)) (.ret (.b false)))))
theorem val6 (s : List UInt8) (c : Int) : evalVal E6 Try.f6 [.str s, .i .u8 c] =
    .req (0 ≤ cutN s ∧ cutN s ≤ s.length) (.br (decide ((((s.take (cutN s).toNat).drop 0).length : Int) > 0))
      (.req (¬ IntKind.i64.wrap ((((s.take (cutN s).toNat).drop 0).length : Int) + 1) = 0)
        (tail6 ((s.take (cutN s).toNat).drop 0) ((IntKind.i64.wrap c).tmod (IntKind.i64.wrap ((((s.take (cutN s).toNat).drop 0).length : Int) + 1)))))
      (tail6 ((s.take (cutN s).toNat).drop 0) 0)) := by kernel_rfl
theorem num_upT : ∀ k, num (upT k) = 256 ^ k % order
  | 0 => by decide +kernel
  | k + 1 => by
    have : num [0, 1] = 256 := by decide +kernel
    rw [upT, num_mulT, num_upT k, this, emodL, Int.pow_succ]
theorem le_split : ∀ (k : Nat) (s : List UInt8), k ≤ s.length → le s = le (s.take k) + 256 ^ k * le (s.drop k)
  | 0, s, _ => by simp [le]
  | k + 1, [], h => by simp at h
  | k + 1, c :: s, h => by
    have ih := le_split k s (by simpa using h)
    simp only [List.take_succ_cons, List.drop_succ_cons, le]
    rw [ih, Int.pow_succ]
    grind
theorem parts {F : List UInt8} (hF : F.length ≤ 64) {k : Nat} (hk : k ≤ F.length) : addT (F.take k) (mulT (upT k) (F.drop k)) = redT F := by
  have n1 : num (F.take k) = le (F.take k) % order := by unfold num first; rw [List.take_of_length_le (by rw [List.length_take]; omega)]
  have n2 : num (F.drop k) = le (F.drop k) % order := by unfold num first; rw [List.take_of_length_le (by rw [List.length_drop]; omega)]
  have n3 : num F = le F % order := by unfold num first; rw [List.take_of_length_le (by omega)]
  rw [addT, num_mulT, num_upT, n1, n2, emodL, emodR, ← Int.add_emod, ← le_split k F hk, ← n3]
  rfl
theorem tail6_holds {F : List UInt8} (hF : F.length ≤ 64) {k : Int} (h0 : 0 ≤ k) (hk : k ≤ F.length) : (tail6 F k).holds (· = .b true) := by
  refine ⟨⟨rfl, h0, by omega, rfl⟩, ⟨h0, hk⟩, ⟨h0, hk⟩, fun _ => rfl, fun h => ?_⟩
  rw [List.drop_zero, List.take_length, parts hF (by omega)] at h
  simp at h
theorem p6 (s : List UInt8) {c : Int} (hc : 0 ≤ c ∧ c < 256) : PureOK Try.prog 6 [.str s, .i .u8 c] (.b true) := by
  refine pure_of_envL mixed tl_ok (fn := Try.f6) (by kernel_rfl) (by kernel_rfl) rfl [11, 12, 15, 20, 21, 24, 31, 35, 41] RT [L6] (told_one (by kernel_rfl) loop6) ⟨trivial, trivial, trivial⟩ trivial ?_
  rw [val6, List.drop_zero, cutN_take]
  have h1 : 0 ≤ cutN s ∧ cutN s ≤ s.length := by unfold cutN; split <;> omega
  have h2 : (first s).length ≤ 64 := by unfold first; rw [List.length_take]; omega
  generalize first s = F at h2
  refine ⟨h1, fun _ => ?_, fun _ => tail6_holds h2 (Int.le_refl _) (by omega)⟩
  rw [wrap64 (n := c) (by omega) (by omega), wrap64 (n := (F.length : Int) + 1) (by omega) (by omega), Int.tmod_eq_emod_of_nonneg hc.1]
  refine ⟨by omega, tail6_holds h2 (Int.emod_nonneg _ (by omega)) ?_⟩
  have := Int.emod_lt_of_pos c (show (0 : Int) < (F.length : Int) + 1 by omega)
  omega
end Go.Sc
