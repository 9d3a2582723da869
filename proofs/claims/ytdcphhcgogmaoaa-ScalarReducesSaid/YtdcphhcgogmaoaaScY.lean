/- Scalars, the program: differences and sums of words. -/
import Derived.Test.YtdcphhcgogmaoaaScX
set_option linter.unusedVariables false
open Go Go.Sx Go.Proofs Go.Dg
namespace Go.Sc
/-! ### less -/
def C38 : Cut := ⟨[2, 3, 4, 6, 8], [([2], 0), ([3], 1), ([4], 2)], 8⟩
def spec38 : Sx.Spec := fun x => match x with
  | ([.p 0 0 0, .p 1 0 0, .p 2 0 0, .v (.int .u64 c), .v (.int .i64 i)], [(0, .rows [.int .u64 f] 4 false), (1, .rows [.int .u64 g] 4 false), (2, .rows [.int .u64 r] 4 false)]) =>
    some (.req (c = 0 ∧ i = 0 ∧ isW f ∧ isW g) (.ret (.exit 0, view24 (-((V4 f - V4 g) / B64 ^ 4)) 4 (extW (V4 f - V4 g) 4 f) g r)))
  | _ => none
def L38 : LoopC := ⟨3, C38, spec38⟩
abbrev T38 : Tab := [(42, e42)]
theorem t38_ok : ∀ x ∈ T38, EntryOK Try.prog x := by
  intro x hx
  simp only [List.mem_cons, List.not_mem_nil, or_false] at hx
  subst hx
  exact e42_ok
noncomputable abbrev E38 : Env := envL Try.prog T38 Try.f38.ntmps [9, 14, 17, 23] 0 RW [L38]
theorem round38 (c i : Int) (f g r : Nat → Int) : round E38 C38 (loopAt Try.f38 0) (view24 c i f g r) =
    .br (decide (i < 4)) (ix4 i (ix4 i (.req ((0 ≤ f i.toNat ∧ f i.toNat < B64) ∧ (0 ≤ g i.toNat ∧ g i.toNat < B64) ∧ 0 ≤ c ∧ c ≤ 1) (ix4 i (.ret (.normal,
      view24 (-((f i.toNat - g i.toNat - c) / B64)) (w64 (i + 1)) (fun q => if q = i.toNat then (f i.toNat - g i.toNat - c) % B64 else f q) g r))))))
      (.ret (.exit 0, view24 c i f g r)) := by kernel_rfl
theorem loop38 : LoopCOK E38 L38 (loopAt Try.f38 0) := by
  intro x r Q hx hr
  simp only [L38, spec38] at hx
  split at hx
  · rename_i c i f g r
    cases hx
    obtain ⟨⟨rfl, rfl, hf, hg⟩, hQ⟩ := hr
    refine ⟨5, ?_⟩
    have hs : ∀ m, sm B64 (fun q => f q - g q) m = sm B64 f m - sm B64 g m := fun m => sm_sub f g m
    have key := rounds_for (step := round E38 C38 (loopAt Try.f38 0)) (Q := Q) (fun i => view24 (-(sm B64 (fun q => f q - g q) i / B64 ^ i)) i (extW (V4 f - V4 g) i f) g r) 4 0 (fun i _ hi K hK => ?_) ?_
    · have e1 : -(sm B64 (fun q => f q - g q) 0 / B64 ^ 0) = 0 := by simp [sm]
      rw [extW_zero, e1] at key
      exact key
    · rw [round38]
      refine ⟨fun _ => ?_, fun h => by simp at h; omega⟩
      have hti : ((i : Int)).toNat = i := by omega
      have d := hf i (by omega)
      have d' := hg i (by omega)
      have e1 := carry_div b64 (fun q => f q - g q) i
      have e2 : (f i - g i + sm B64 (fun q => f q - g q) i / B64 ^ i) % B64 = dig B64 (V4 f - V4 g) i := by
        have := digit' b64 (fun q => f q - g q) (i := i) (n := 4) (by omega)
        rw [hs 4] at this
        exact this
      have hc : -1 ≤ sm B64 (fun q => f q - g q) i / B64 ^ i ∧ sm B64 (fun q => f q - g q) i / B64 ^ i ≤ 0 := by
        obtain ⟨a1, a2⟩ := sm_lt (t := f) b64 (m := i) (fun q hq => hf q (by omega))
        obtain ⟨a3, a4⟩ := sm_lt (t := g) b64 (m := i) (fun q hq => hg q (by omega))
        rw [hs]
        have hp := pw b64 i
        exact ⟨Int.le_ediv_of_mul_le hp (by omega), Int.le_of_lt_add_one (Int.ediv_lt_of_lt_mul hp (by omega))⟩
      generalize hC : sm B64 (fun q => f q - g q) i / B64 ^ i = C at *
      have w3 : w64 ((i : Int) + 1) = (i : Int) + 1 := wrap64 (by omega) (by omega)
      simp only [hti, extW_self, w3]
      rw [show f i - g i - -C = f i - g i + C by omega, e1, e2, extW_succ]
      exact ⟨⟨by omega, by omega⟩, by omega, ⟨by omega, by omega⟩, by omega, ⟨d, d', by omega, by omega⟩, ⟨by omega, by omega⟩, by omega, hK⟩
    · rw [round38]
      refine ⟨fun h => by simp at h, fun _ => ?_⟩
      rw [hs]
      exact hQ
  · exact nomatch hx
theorem val38 (f g : Nat → Int) : evalVal E38 Try.f38 [.rows [.int .u64 f] 4, .rows [.int .u64 g] 4] =
    .req (0 = (0 : Int) ∧ 0 = (0 : Int) ∧ isW f ∧ isW g) (.req (4 ≤ 4) (.req (0 = 0) (.ret (.t [.rows [.int .u64 (extW (V4 f - V4 g) 4 f)] 4, .b (-((V4 f - V4 g) / B64 ^ 4) != 0)])))) := by kernel_rfl
theorem p38 {f g : Nat → Int} (hf : isW f) (hg : isW g) : PureOK Try.prog 38 [.rows [.int .u64 f] 4, .rows [.int .u64 g] 4] (.t [W (V4 f - V4 g), .b (decide (V4 f < V4 g))]) := by
  have hb : (-((V4 f - V4 g) / B64 ^ 4) != 0) = decide (V4 f < V4 g) := by
    obtain ⟨a1, a2⟩ := V4_range hf
    obtain ⟨a3, a4⟩ := V4_range hg
    by_cases h : V4 f < V4 g
    · have : (V4 f - V4 g) / B64 ^ 4 < 0 := Int.ediv_lt_of_lt_mul (pw b64 4) (by omega)
      simp only [h, decide_true, bne_iff_ne, ne_eq]; omega
    · have : (V4 f - V4 g) / B64 ^ 4 = 0 := Int.ediv_eq_zero_of_lt (by omega) (by omega)
      simp [h, this]
  rw [← hb]
  refine PureOK.conc_congr (v := .t [.rows [.int .u64 (extW (V4 f - V4 g) 4 f)] 4, .b (-((V4 f - V4 g) / B64 ^ 4) != 0)]) ?_ ⟨trivial, trivial, trivial⟩ (fun ρ => ?_)
  · refine pure_of_envL mixed (t := T38) t38_ok (fn := Try.f38) (by kernel_rfl) (by kernel_rfl) rfl [9, 14, 17, 23] RW [L38] (told_one (by kernel_rfl) loop38) ⟨trivial, trivial, trivial⟩ ⟨trivial, trivial, trivial⟩ ?_
    rw [val38]
    exact ⟨⟨rfl, rfl, hf, hg⟩, by omega, rfl, rfl⟩
  · have := conc_rows_congr (k := .u64) (g := extW (V4 f - V4 g) 4 f) (g' := dig B64 (V4 f - V4 g)) (m := 4) (fun q hq => by simp [extW, hq]) ρ
    simp only [W]
    rw [conc, conc, concL, concL, this]
    rfl
end Go.Sc
