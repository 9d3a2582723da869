/- Scalars, the document's answer: numbers of 36 digits. -/
import Derived.Test.YtdcphhcgogmaoaaScP
import Derived.Test.YtdcphhcgogmaoaaProg
set_option linter.unusedVariables false
open Go Go.Sx Go.Proofs Go.Dg
namespace Go.Sc
abbrev RT : List Nat := [37, 47]
abbrev rw (f : Nat → Int) : AObj := .rows [.int .i64 f] 36 false
def isD (f : Nat → Int) : Prop := ∀ q, q < 36 → 0 ≤ f q ∧ f q < 256
def V (f : Nat → Int) : Int := sm 256 f 36
def D (n : Int) : AV := .rows [.int .i64 (dig 256 n)] 36

theorem mixed : Try.prog.follows .mixedOrders = true := by kernel_rfl
theorem wrap64 {n : Int} (h1 : -9223372036854775808 ≤ n) (h2 : n < 9223372036854775808) : IntKind.i64.wrap n = n := by
  simp [IntKind.wrap, IntKind.signed, IntKind.bits]
  split <;> omega
def ext (n : Int) (m : Nat) (f : Nat → Int) : Nat → Int := fun q => if q < m then dig 256 n q else f q
theorem ext_zero (n : Int) (f : Nat → Int) : ext n 0 f = f := by funext q; simp [ext]
theorem ext_self (n : Int) (i : Nat) (f : Nat → Int) : ext n i f i = f i := by simp [ext]
theorem ext_succ (n : Int) (i : Nat) (f : Nat → Int) : (fun q => if q = i then dig 256 n i else ext n i f q) = ext n (i + 1) f := by
  funext q
  simp only [ext]
  by_cases h1 : q = i
  · subst h1; simp
  · by_cases h2 : q < i
    · rw [if_neg h1, if_pos h2, if_pos (by omega)]
    · rw [if_neg h1, if_neg h2, if_neg (by omega)]
theorem isD_dig (n : Int) : isD (dig 256 n) := fun q _ => dig_range (by omega) n q
theorem V_dig (n : Int) : V (dig 256 n) = n % 256 ^ 36 := sm_dig (by omega) n 36
theorem V_range {f : Nat → Int} (h : isD f) : 0 ≤ V f ∧ V f < 256 ^ 36 := sm_lt (by omega) h

/-! ### double -/
def C34 : Cut := ⟨[1, 2, 3, 4], [([1], 0), ([2], 1)], 8⟩
def view34 (c i : Int) (f : Nat → Int) (r : Nat → Int) : View := ([.p 0 0 0, .p 1 0 0, .i .i64 c, .i .i64 i], [(0, rw f), (1, rw r)])
def spec34 : Sx.Spec := fun x => match x with
  | ([.p 0 0 0, .p 1 0 0, .v (.int .i64 c), .v (.int .i64 i)], [(0, .rows [.int .i64 f] 36 false), (1, .rows [.int .i64 r] 36 false)]) =>
    some (.req (c = 0 ∧ i = 0 ∧ isD f) (.ret (.exit 0, view34 (2 * V f / 256 ^ 36) 36 (ext (2 * V f) 36 f) r)))
  | _ => none
def L34 : LoopC := ⟨3, C34, spec34⟩
noncomputable abbrev E34 : Env := envL Try.prog [] Try.f34.ntmps [7, 11, 19] 0 RT [L34]
theorem round34 (c i : Int) (f r : Nat → Int) : round E34 C34 (loopAt Try.f34 0) (view34 c i f r) =
    .br (decide (i < 36)) (.req (0 ≤ i ∧ i < 36) (.req (i.toNat < 36) (.req (0 ≤ i ∧ i < 36) (.req (i.toNat < 36) (.ret (.normal,
      view34 (IntKind.i64.wrap ((IntKind.i64.wrap (IntKind.i64.wrap (2 * f i.toNat) + c)).tdiv 256)) (IntKind.i64.wrap (i + 1))
        (fun q => if q = i.toNat then (IntKind.i64.wrap (IntKind.i64.wrap (2 * f i.toNat) + c)).tmod 256 else f q) r))))))
      (.ret (.exit 0, view34 c i f r)) := by kernel_rfl
theorem sm_dbl (f : Nat → Int) (m : Nat) : sm 256 (fun q => 2 * f q) m = 2 * sm 256 f m := sm_mul 2 f m

theorem loop34 : LoopCOK E34 L34 (loopAt Try.f34 0) := by
  intro x r Q hx hr
  simp only [L34, spec34] at hx
  split at hx
  · rename_i c i f r
    cases hx
    obtain ⟨⟨rfl, rfl, hD⟩, hQ⟩ := hr
    refine ⟨37, ?_⟩
    have key := rounds_for (step := round E34 C34 (loopAt Try.f34 0)) (Q := Q) (fun i => view34 (sm 256 (fun q => 2 * f q) i / 256 ^ i) i (ext (2 * V f) i f) r) 36 0 (fun i _ hi K hK => ?_) ?_
    · have e1 : sm 256 (fun q => 2 * f q) 0 / 256 ^ 0 = 0 := by simp [sm]
      rw [ext_zero, e1] at key
      exact key
    · rw [round34]
      refine ⟨fun _ => ?_, fun h => by simp at h; omega⟩
      have hti : ((i : Int)).toNat = i := by omega
      refine ⟨by omega, by omega, by omega, by omega, ?_⟩
      obtain ⟨d1, d2⟩ := hD i (by omega)
      have hc : 0 ≤ sm 256 (fun q => 2 * f q) i / 256 ^ i ∧ sm 256 (fun q => 2 * f q) i / 256 ^ i < 2 := by
        obtain ⟨a1, a2⟩ := sm_lt (b := 256) (t := f) (by omega) (m := i) (fun q hq => hD q (by omega))
        rw [sm_dbl]
        have hp := pw (b := 256) (by omega) i
        exact ⟨Int.ediv_nonneg (by omega) (by omega), Int.ediv_lt_of_lt_mul hp (by omega)⟩
      rw [hti, ext_self, wrap64 (n := 2 * f i) (by omega) (by omega), wrap64 (n := 2 * f i + _) (by omega) (by omega), wrap64 (n := (i : Int) + 1) (by omega) (by omega),
        Int.tdiv_eq_ediv_of_nonneg (by omega), Int.tmod_eq_emod_of_nonneg (by omega), wrap64 (by omega) (by omega)]
      have e1 := carry_div (b := 256) (by omega) (fun q => 2 * f q) i
      have e2 : (2 * f i + sm 256 (fun q => 2 * f q) i / 256 ^ i) % 256 = dig 256 (2 * V f) i := by
        have := digit' (b := 256) (by omega) (fun q => 2 * f q) (i := i) (n := 36) (by omega)
        rw [sm_dbl f 36] at this
        exact this
      rw [e1, e2, ext_succ]
      exact hK
    · rw [round34]
      refine ⟨fun h => by simp at h, fun _ => ?_⟩
      rw [sm_dbl]
      exact hQ
  · exact nomatch hx
theorem val34 (f : Nat → Int) : evalVal E34 Try.f34 [.rows [.int .i64 f] 36] =
    .req (0 = (0 : Int) ∧ 0 = (0 : Int) ∧ isD f) (.req (36 ≤ 36) (.req (0 = 0) (.ret (.rows [.int .i64 (ext (2 * V f) 36 f)] 36)))) := by kernel_rfl
theorem p34 {f : Nat → Int} (hD : isD f) : PureOK Try.prog 34 [.rows [.int .i64 f] 36] (D (2 * V f)) := by
  refine PureOK.rows_congr (g := ext (2 * V f) 36 f) ?_ (fun q hq => by simp [ext, hq])
  refine pure_of_envL mixed (t := []) (fun x h => nomatch h) (fn := Try.f34) (by kernel_rfl) (by kernel_rfl) rfl [7, 11, 19] RT [L34] (told_one (by kernel_rfl) loop34) ⟨trivial, trivial⟩ trivial ?_
  rw [val34]
  exact ⟨⟨rfl, rfl, hD⟩, by omega, rfl, rfl⟩

/-! ### less -/
abbrev ix {α : Type} (i : Int) (k : R α) : R α := .req (0 ≤ i ∧ i < 36) (.req (i.toNat < 36) k)
abbrev w64 (n : Int) : Int := IntKind.i64.wrap n
def C36 : Cut := ⟨[2, 3, 4, 5, 6], [([2], 0), ([3], 1), ([4], 2)], 8⟩
def view36 (c i : Int) (f g r : Nat → Int) : View := ([.p 0 0 0, .p 1 0 0, .p 2 0 0, .i .i64 c, .i .i64 i], [(0, rw f), (1, rw g), (2, rw r)])
def spec36 : Sx.Spec := fun x => match x with
  | ([.p 0 0 0, .p 1 0 0, .p 2 0 0, .v (.int .i64 c), .v (.int .i64 i)], [(0, .rows [.int .i64 f] 36 false), (1, .rows [.int .i64 g] 36 false), (2, .rows [.int .i64 r] 36 false)]) =>
    some (.req (c = 0 ∧ i = 0 ∧ isD f ∧ isD g) (.ret (.exit 0, view36 (-((V f - V g) / 256 ^ 36)) 36 (ext (V f - V g) 36 f) g r)))
  | _ => none
def L36 : LoopC := ⟨3, C36, spec36⟩
noncomputable abbrev E36 : Env := envL Try.prog [] Try.f36.ntmps [9, 13, 16, 22, 27] 0 RT [L36]
theorem round36 (c i : Int) (f g r : Nat → Int) : round E36 C36 (loopAt Try.f36 0) (view36 c i f g r) =
    .br (decide (i < 36)) (ix i (ix i (.br (decide (w64 (w64 (f i.toNat - g i.toNat) - c) < 0))
      (ix i (.ret (.normal, view36 1 (w64 (i + 1)) (fun q => if q = i.toNat then w64 (w64 (w64 (f i.toNat - g i.toNat) - c) + 256) else f q) g r)))
      (ix i (.ret (.normal, view36 0 (w64 (i + 1)) (fun q => if q = i.toNat then w64 (w64 (f i.toNat - g i.toNat) - c) else f q) g r))))))
      (.ret (.exit 0, view36 c i f g r)) := by kernel_rfl

theorem loop36 : LoopCOK E36 L36 (loopAt Try.f36 0) := by
  intro x r Q hx hr
  simp only [L36, spec36] at hx
  split at hx
  · rename_i c i f g r
    cases hx
    obtain ⟨⟨rfl, rfl, hf, hg⟩, hQ⟩ := hr
    refine ⟨37, ?_⟩
    have hs : ∀ m, sm 256 (fun q => f q - g q) m = sm 256 f m - sm 256 g m := fun m => sm_sub f g m
    have key := rounds_for (step := round E36 C36 (loopAt Try.f36 0)) (Q := Q) (fun i => view36 (-(sm 256 (fun q => f q - g q) i / 256 ^ i)) i (ext (V f - V g) i f) g r) 36 0 (fun i _ hi K hK => ?_) ?_
    · have e1 : -(sm 256 (fun q => f q - g q) 0 / 256 ^ 0) = 0 := by simp [sm]
      rw [ext_zero, e1] at key
      exact key
    · rw [round36]
      refine ⟨fun _ => ?_, fun h => by simp at h; omega⟩
      have hti : ((i : Int)).toNat = i := by omega
      obtain ⟨d1, d2⟩ := hf i (by omega)
      obtain ⟨d3, d4⟩ := hg i (by omega)
      have e1 := carry_div (b := 256) (by omega) (fun q => f q - g q) i
      have e2 : (f i - g i + sm 256 (fun q => f q - g q) i / 256 ^ i) % 256 = dig 256 (V f - V g) i := by
        have := digit' (b := 256) (by omega) (fun q => f q - g q) (i := i) (n := 36) (by omega)
        rw [hs 36] at this
        exact this
      have hc : -1 ≤ sm 256 (fun q => f q - g q) i / 256 ^ i ∧ sm 256 (fun q => f q - g q) i / 256 ^ i ≤ 0 := by
        obtain ⟨a1, a2⟩ := sm_lt (b := 256) (t := f) (by omega) (m := i) (fun q hq => hf q (by omega))
        obtain ⟨a3, a4⟩ := sm_lt (b := 256) (t := g) (by omega) (m := i) (fun q hq => hg q (by omega))
        rw [hs]
        have hp := pw (b := 256) (by omega) i
        exact ⟨Int.le_ediv_of_mul_le hp (by omega), Int.le_of_lt_add_one (Int.ediv_lt_of_lt_mul hp (by omega))⟩
      generalize hC : sm 256 (fun q => f q - g q) i / 256 ^ i = C at *
      refine ⟨by omega, by omega, by omega, by omega, ?_⟩
      have w1 : w64 (f i - g i) = f i - g i := wrap64 (by omega) (by omega)
      have w2 : w64 (f i - g i - -C) = f i - g i - -C := wrap64 (by omega) (by omega)
      have w3 : w64 ((i : Int) + 1) = (i : Int) + 1 := wrap64 (by omega) (by omega)
      have w4 : w64 (f i - g i - -C + 256) = f i - g i - -C + 256 := wrap64 (by omega) (by omega)
      simp only [hti, ext_self, w1, w2, w3, w4]
      refine ⟨fun h => ⟨by omega, by omega, ?_⟩, fun h => ⟨by omega, by omega, ?_⟩⟩
      · simp only [decide_eq_true_eq] at h
        rw [show f i - g i - -C + 256 = dig 256 (V f - V g) i by omega, ext_succ]
        have : (1 : Int) = -(sm 256 (fun q => f q - g q) (i + 1) / 256 ^ (i + 1)) := by omega
        rw [← this] at hK; exact hK
      · simp only [decide_eq_false_iff_not] at h
        rw [show f i - g i - -C = dig 256 (V f - V g) i by omega, ext_succ]
        have : (0 : Int) = -(sm 256 (fun q => f q - g q) (i + 1) / 256 ^ (i + 1)) := by omega
        rw [← this] at hK; exact hK
    · rw [round36]
      refine ⟨fun h => by simp at h, fun _ => ?_⟩
      rw [hs]
      exact hQ
  · exact nomatch hx
theorem val36 (f g : Nat → Int) : evalVal E36 Try.f36 [.rows [.int .i64 f] 36, .rows [.int .i64 g] 36] =
    .req (0 = (0 : Int) ∧ 0 = (0 : Int) ∧ isD f ∧ isD g) (.req (36 ≤ 36) (.req (0 = 0) (.ret (.rows [.int .i64 (ext (V f - V g) 36 f)] 36)))) := by kernel_rfl
theorem p36 {f g : Nat → Int} (hf : isD f) (hg : isD g) : PureOK Try.prog 36 [.rows [.int .i64 f] 36, .rows [.int .i64 g] 36] (D (V f - V g)) := by
  refine PureOK.rows_congr (g := ext (V f - V g) 36 f) ?_ (fun q hq => by simp [ext, hq])
  refine pure_of_envL mixed (t := []) (fun x h => nomatch h) (fn := Try.f36) (by kernel_rfl) (by kernel_rfl) rfl [9, 13, 16, 22, 27] RT [L36] (told_one (by kernel_rfl) loop36) ⟨trivial, trivial, trivial⟩ trivial ?_
  rw [val36]
  exact ⟨⟨rfl, rfl, hf, hg⟩, by omega, rfl, rfl⟩
end Go.Sc
