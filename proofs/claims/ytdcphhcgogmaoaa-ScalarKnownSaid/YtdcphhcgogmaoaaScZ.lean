/- Scalars, the program: the order taken off, sums. -/
import Derived.Test.YtdcphhcgogmaoaaScY
set_option linter.unusedVariables false
open Go Go.Sx Go.Proofs Go.Dg
namespace Go.Sc
def orderW : List AV := ([6346243789798364141, 1503914060200516822, 0, 1152921504606846976] : List Int).map fun n => .i .u64 n
theorem val39 : evalVal (envL Try.prog [] Try.f39.ntmps [] 0 RW []) Try.f39 [] = .req (0 = 0) (.ret (.rows [.int .u64 (nthI orderW)] 4)) := by kernel_rfl
theorem orderW_dig : ∀ q, q < 4 → nthI orderW q = dig B64 order q := by decide +kernel
theorem p39 : PureOK Try.prog 39 [] (W order) := by
  refine PureOK.rows_congr (g := nthI orderW) ?_ orderW_dig
  refine pure_of_envL mixed (t := []) (fun x h => nomatch h) (fn := Try.f39) (by kernel_rfl) (by kernel_rfl) rfl [] RW [] told_none trivial trivial ?_
  rw [val39]
  exact ⟨rfl, rfl⟩
def e38 : Entry := fun vs => match vs with
  | [.rows [.int .u64 f] 4, .rows [.int .u64 g] 4] => some (.req (isW f ∧ isW g) (.ret (.t [W (V4 f - V4 g), .b (decide (V4 f < V4 g))])))
  | _ => none
theorem e38_ok : EntryOK Try.prog (38, e38) := fun vs r h => by
  dsimp only [e38] at h
  split at h
  · cases h; exact .inr ⟨_, _, rfl, fun h => p38 h.1 h.2⟩
  · exact nomatch h
def e39 : Entry := fun vs => match vs with
  | [] => some (.ret (W order))
  | _ => none
theorem e39_ok : EntryOK Try.prog (39, e39) := fun vs r h => by
  dsimp only [e39] at h
  split at h
  · cases h; exact .inl ⟨_, rfl, p39⟩
  · exact nomatch h
abbrev T32 : Tab := [(38, e38), (39, e39)]
theorem t32_ok : ∀ x ∈ T32, EntryOK Try.prog x := by
  intro x hx
  simp only [List.mem_cons, List.not_mem_nil, or_false] at hx
  rcases hx with rfl | rfl
  · exact e38_ok
  · exact e39_ok
theorem val32 (f : Nat → Int) : evalVal (envL Try.prog T32 Try.f32.ntmps [12] 0 RW []) Try.f32 [.rows [.int .u64 f] 4] =
    .req (4 ≤ 4) (.req (isW f ∧ isW (dig B64 order)) (.req (0 = 0) (.br (!decide (V4 f < V4 (dig B64 order)))
      (.req (4 ≤ 4) (.req (0 = 0) (.ret (W (V4 f - V4 (dig B64 order))))))
      (.req (4 ≤ 4) (.req (0 = 0) (.ret (.rows [.int .u64 f] 4))))))) := by kernel_rfl
theorem V4_order : V4 (dig B64 order) = order := by
  rw [V4_dig]; decide +kernel
/-- What once makes of a number. -/
def once (n : Int) : Int := if n < order then n else n - order
theorem p32 {f : Nat → Int} (hf : isW f) : PureOK Try.prog 32 [.rows [.int .u64 f] 4] (W (once (V4 f))) := by
  by_cases h : V4 f < order
  · have : once (V4 f) = V4 f := by simp [once, h]
    rw [this]
    refine PureOK.rows_congr (g := f) ?_ (fun q hq => (dig_sm b64 hf hq).symm)
    refine pure_of_envL mixed (t := T32) t32_ok (fn := Try.f32) (by kernel_rfl) (by kernel_rfl) rfl [12] RW [] told_none ⟨trivial, trivial⟩ trivial ?_
    rw [val32, V4_order]
    exact ⟨by omega, ⟨hf, isW_dig _⟩, rfl, fun h' => by simp [h] at h', fun _ => ⟨by omega, rfl, rfl⟩⟩
  · have : once (V4 f) = V4 f - order := by simp [once, h]
    rw [this]
    refine pure_of_envL mixed (t := T32) t32_ok (fn := Try.f32) (by kernel_rfl) (by kernel_rfl) rfl [12] RW [] told_none ⟨trivial, trivial⟩ trivial ?_
    rw [val32, V4_order]
    exact ⟨by omega, ⟨hf, isW_dig _⟩, rfl, fun _ => ⟨by omega, rfl, rfl⟩, fun h' => by simp [h] at h'⟩

/-! ### add -/
def e32 : Entry := fun vs => match vs with
  | [.rows [.int .u64 f] 4] => some (.req (isW f) (.ret (W (once (V4 f)))))
  | _ => none
theorem e32_ok : EntryOK Try.prog (32, e32) := fun vs r h => by
  dsimp only [e32] at h
  split at h
  · cases h; exact .inr ⟨_, _, rfl, p32⟩
  · exact nomatch h
abbrev T24 : Tab := [(31, e31), (32, e32)]
theorem t24_ok : ∀ x ∈ T24, EntryOK Try.prog x := by
  intro x hx
  simp only [List.mem_cons, List.not_mem_nil, or_false] at hx
  rcases hx with rfl | rfl
  · exact e31_ok
  · exact e32_ok
noncomputable abbrev E24 : Env := envL Try.prog T24 Try.f24.ntmps [8, 13, 16, 22] 0 RW [L24]
theorem round24 (c i : Int) (f g r : Nat → Int) : round E24 C24 (loopAt Try.f24 0) (view24 c i f g r) =
    .br (decide (i < 4)) (ix4 i (ix4 i (.req (0 ≤ f i.toNat ∧ 0 ≤ g i.toNat ∧ 0 ≤ c ∧ c ≤ 1) (ix4 i (.ret (.normal,
      view24 ((f i.toNat + g i.toNat + c) / B64) (w64 (i + 1)) (fun q => if q = i.toNat then (f i.toNat + g i.toNat + c) % B64 else f q) g r))))))
      (.ret (.exit 0, view24 c i f g r)) := by kernel_rfl
theorem loop24 : LoopCOK E24 L24 (loopAt Try.f24 0) := by
  intro x r Q hx hr
  simp only [L24, spec24] at hx
  split at hx
  · rename_i c i f g r
    cases hx
    obtain ⟨⟨rfl, rfl, hf, hg⟩, hQ⟩ := hr
    refine ⟨5, ?_⟩
    have hs : ∀ m, sm B64 (fun q => f q + g q) m = sm B64 f m + sm B64 g m := fun m => sm_add f g m
    have key := rounds_for (step := round E24 C24 (loopAt Try.f24 0)) (Q := Q) (fun i => view24 (sm B64 (fun q => f q + g q) i / B64 ^ i) i (extW (V4 f + V4 g) i f) g r) 4 0 (fun i _ hi K hK => ?_) ?_
    · have e1 : sm B64 (fun q => f q + g q) 0 / B64 ^ 0 = 0 := by simp [sm]
      rw [extW_zero, e1] at key
      exact key
    · rw [round24]
      refine ⟨fun _ => ?_, fun h => by simp at h; omega⟩
      have hti : ((i : Int)).toNat = i := by omega
      have d := hf i (by omega)
      have d' := hg i (by omega)
      have e1 := carry_div b64 (fun q => f q + g q) i
      have e2 : (f i + g i + sm B64 (fun q => f q + g q) i / B64 ^ i) % B64 = dig B64 (V4 f + V4 g) i := by
        have := digit' b64 (fun q => f q + g q) (i := i) (n := 4) (by omega)
        rw [hs 4] at this
        exact this
      have hc : 0 ≤ sm B64 (fun q => f q + g q) i / B64 ^ i ∧ sm B64 (fun q => f q + g q) i / B64 ^ i ≤ 1 := by
        obtain ⟨a1, a2⟩ := sm_lt (t := f) b64 (m := i) (fun q hq => hf q (by omega))
        obtain ⟨a3, a4⟩ := sm_lt (t := g) b64 (m := i) (fun q hq => hg q (by omega))
        rw [hs]
        have hp := pw b64 i
        exact ⟨Int.ediv_nonneg (by omega) (by omega), Int.le_of_lt_add_one (Int.ediv_lt_of_lt_mul hp (by omega))⟩
      generalize hC : sm B64 (fun q => f q + g q) i / B64 ^ i = C at *
      have w3 : w64 ((i : Int) + 1) = (i : Int) + 1 := wrap64 (by omega) (by omega)
      simp only [hti, extW_self, w3]
      rw [e1, e2, extW_succ]
      exact ⟨⟨by omega, by omega⟩, by omega, ⟨by omega, by omega⟩, by omega, ⟨d.1, d'.1, by omega, by omega⟩, ⟨by omega, by omega⟩, by omega, hK⟩
    · rw [round24]
      refine ⟨fun h => by simp at h, fun _ => ?_⟩
      rw [hs]
      exact hQ
  · exact nomatch hx
theorem val24 (f g : Nat → Int) : evalVal E24 Try.f24 [.rows [.int .u64 f] 4, .rows [.int .u64 g] 4] =
    .req (0 = (0 : Int) ∧ 0 = (0 : Int) ∧ isW f ∧ isW g) (.req (4 ≤ 4) (.req (isW (extW (V4 f + V4 g) 4 f)) (.req (0 = 0) (.ret (W (once (V4 (extW (V4 f + V4 g) 4 f)))))))) := by kernel_rfl
theorem p24 {f g : Nat → Int} (hf : isW f) (hg : isW g) (h1 : V4 f < order) (h2 : V4 g < order) : PureOK Try.prog 24 [.rows [.int .u64 f] 4, .rows [.int .u64 g] 4] (W ((V4 f + V4 g) % order)) := by
  obtain ⟨a1, a2⟩ := V4_range hf
  obtain ⟨a3, a4⟩ := V4_range hg
  have ho : 2 * order < B64 ^ 4 := by decide +kernel
  have e : V4 (extW (V4 f + V4 g) 4 f) = V4 f + V4 g := by
    have : V4 (extW (V4 f + V4 g) 4 f) = V4 (dig B64 (V4 f + V4 g)) := sm_congr fun q hq => by simp [extW, hq]
    rw [this, V4_dig]; exact Int.emod_eq_of_lt (by omega) (by omega)
  have e2 : once (V4 f + V4 g) = (V4 f + V4 g) % order := by
    unfold once
    split
    · rw [Int.emod_eq_of_lt (by omega) (by omega)]
    · rw [← Int.sub_emod_right, Int.emod_eq_of_lt (by omega) (by omega)]
  refine pure_of_envL mixed (t := T24) t24_ok (fn := Try.f24) (by kernel_rfl) (by kernel_rfl) rfl [8, 13, 16, 22] RW [L24] (told_one (by kernel_rfl) loop24) ⟨trivial, trivial, trivial⟩ trivial ?_
  rw [val24, e, e2]
  exact ⟨⟨rfl, rfl, hf, hg⟩, by omega, fun q hq => by simp only [extW, hq, if_true]; exact dig_range b64 _ _, rfl, rfl⟩
end Go.Sc
