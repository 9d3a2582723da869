/- Numbers modulo p, the document's answer: the rest by p. -/
import Derived.Test.YtbfmneknabhlcaaRfA
set_option linter.unusedVariables false
open Go Go.Sx Go.Fld Go.Proofs Go.Dg
namespace Go.Rf
abbrev rx (f : Nat → Int) : AObj := .rows [.int .u64 f] 16 false
abbrev wu (n : Int) : Int := IntKind.u64.wrap n
def isU (f : Nat → Int) : Prop := ∀ q, q < 16 → 0 ≤ f q ∧ f q ≤ 1099511627776 * (65536 - 1)
theorem ext_succ' (n : Int) (i : Nat) (f : Nat → Int) (y z : Int) (hy : z = dig 65536 n i) : (fun q => if q = i then z else if q = i then y else ext n i f q) = ext n (i + 1) f := by
  subst hy
  rw [← ext_succ]
  funext q
  by_cases h : q = i
  · rw [if_pos h, if_pos h]
  · rw [if_neg h, if_neg h, if_neg h]
def e37 : Entry := fun vs => match vs with
  | [.rows [.int .u32 f] 16, .rows [.int .u32 g] 16] => some (.req (isD f ∧ isD g) (.ret (.b (decide (V f < V g)))))
  | _ => none
theorem e37_ok : EntryOK Try.prog (37, e37) := fun vs r h => by
  dsimp only [e37] at h
  split at h
  · cases h; exact .inr ⟨_, _, rfl, fun h => p37 h.1 h.2⟩
  · exact nomatch h
def e48 : Entry := fun vs => match vs with
  | [.rows [.int .u32 f] 16, .rows [.int .u32 g] 16] => some (.req (isD f ∧ isD g) (.ret (D (V f - V g))))
  | _ => none
theorem e48_ok : EntryOK Try.prog (48, e48) := fun vs r h => by
  dsimp only [e48] at h
  split at h
  · cases h; exact .inr ⟨_, _, rfl, fun h => p48 h.1 h.2⟩
  · exact nomatch h
def e38 : Entry := fun vs => match vs with
  | [] => some (.ret (D p))
  | _ => none
theorem e38_ok : EntryOK Try.prog (38, e38) := fun vs r h => by
  dsimp only [e38] at h
  split at h
  · cases h; exact .inl ⟨_, rfl, p38⟩
  · exact nomatch h
abbrev T39 : Tab := [(37, e37), (38, e38), (48, e48)]
theorem t39_ok : ∀ x ∈ T39, EntryOK Try.prog x := by
  intro x hx
  simp only [List.mem_cons, List.not_mem_nil, or_false] at hx
  rcases hx with rfl | rfl | rfl
  · exact e37_ok
  · exact e38_ok
  · exact e48_ok
/-! ### one pass of carrying -/
def C39 : Cut := ⟨[1, 2, 3, 4], [([1], 0), ([2], 1)], 8⟩
def view39 (c i : Int) (f r : Nat → Int) : View := ([.p 0 0 0, .p 1 0 0, .i .u64 c, .i .i64 i], [(0, rx f), (1, rw r)])
def spec39 : Sx.Spec := fun x => match x with
  | ([.p 0 0 0, .p 1 0 0, .v (.int .u64 c), .v (.int .i64 i)], [(0, .rows [.int .u64 f] 16 false), (1, .rows [.int .u32 r] 16 false)]) =>
    some (.req (c = 0 ∧ i = 0 ∧ isU f) (.ret (.exit 2, view39 (V f / 65536 ^ 16) 16 (ext (V f) 16 f) r)))
  | _ => none
def L39 : LoopC := ⟨3, C39, spec39⟩
def C39a : Cut := ⟨[1, 2], [([1], 0), ([2], 1)], 8⟩
def view39a (f r : Nat → Int) : View := ([.p 0 0 0, .p 1 0 0], [(0, rx f), (1, rw r)])
def W : Int := 115792089237316195423570985008687907853269984665640564039457584007913129639936
def fold (n : Int) : Int := n % W + 38 * (n / W)
def spec39a : Sx.Spec := fun x => match x with
  | ([.p 0 0 0, .p 1 0 0], [(0, .rows [.int .u64 f] 16 false), (1, .rows [.int .u32 r] 16 false)]) =>
    some (.req (isU f) (.ret (.exit 0, view39a (ext (fold (fold (V f))) 16 f) r)))
  | _ => none
def L39a : LoopC := ⟨1, C39a, spec39a⟩
def C39c : Cut := ⟨[1, 2, 5, 6], [([1], 0), ([2], 1), ([5], 2)], 8⟩
def view39c (j : Int) (f r o : Nat → Int) : View := ([.p 0 0 0, .p 1 0 0, .p 2 0 0, .i .i64 j], [(0, rx f), (1, rw r), (2, rw o)])
def cp (f : Nat → Int) (j : Nat) (o : Nat → Int) : Nat → Int := fun q => if q < j then w32 (f q) else o q
def spec39c : Sx.Spec := fun x => match x with
  | ([.p 0 0 0, .p 1 0 0, .p 2 0 0, .v (.int .i64 i)], [(0, .rows [.int .u64 f] 16 false), (1, .rows [.int .u32 r] 16 false), (2, .rows [.int .u32 o] 16 false)]) =>
    some (.req (i = 0) (.ret (.exit 4, view39c 16 f r (cp f 16 o))))
  | _ => none
def L39c : LoopC := ⟨12, C39c, spec39c⟩
def C39d : Cut := ⟨[1, 2, 5], [([1], 0), ([2], 1), ([5], 2)], 8⟩
def view39d (f r o : Nat → Int) : View := ([.p 0 0 0, .p 1 0 0, .p 2 0 0], [(0, rx f), (1, rw r), (2, rw o)])
def left (o : Nat → Int) : Nat → Int := if V o < p then o else dig 65536 (V o % p)
def spec39d : Sx.Spec := fun x => match x with
  | ([.p 0 0 0, .p 1 0 0, .p 2 0 0], [(0, .rows [.int .u64 f] 16 false), (1, .rows [.int .u32 r] 16 false), (2, .rows [.int .u32 o] 16 false)]) =>
    some (.req (isD o) (.ret (.exit 6, view39d f r (left o))))
  | _ => none
def L39d : LoopC := ⟨15, C39d, spec39d⟩
noncomputable abbrev E39 : Env := envL Try.prog T39 Try.f39.ntmps [8, 13, 17, 19, 24, 27, 29, 37, 42, 45, 49] 0 RG [L39a, L39, L39c, L39d]
theorem round39 (c i : Int) (f r : Nat → Int) : round E39 C39 (loopAt Try.f39 1) (view39 c i f r) =
    .br (decide (i < 16)) (ix i (ix i (ix i (ix i (ix i (.ret (.normal, view39 (iShr .u64 ((fun q => if q = i.toNat then wu (f i.toNat + c) else f q) i.toNat) 16) (w64 (i + 1))
      (fun q => if q = i.toNat then iAnd .u64 ((fun q => if q = i.toNat then wu (f i.toNat + c) else f q) i.toNat) 65535 else if q = i.toNat then wu (f i.toNat + c) else f q) r)))))))
      (.ret (.exit 2, view39 c i f r)) := by kernel_rfl
theorem loop39 : LoopCOK E39 L39 (loopAt Try.f39 1) := by
  intro x r Q hx hr
  simp only [L39, spec39] at hx
  split at hx
  · rename_i c i f r
    cases hx
    obtain ⟨⟨rfl, rfl, hf⟩, hQ⟩ := hr
    refine ⟨17, ?_⟩
    have key := rounds_for (step := round E39 C39 (loopAt Try.f39 1)) (Q := Q) (fun i => view39 (sm 65536 f i / 65536 ^ i) i (ext (V f) i f) r) 16 0 (fun i _ hi K hK => ?_) ?_
    · have e1 : sm 65536 f 0 / 65536 ^ 0 = 0 := by simp [sm]
      rw [ext_zero, e1] at key
      exact key
    · rw [round39]
      refine ⟨fun _ => ?_, fun h => by simp at h; omega⟩
      have hti : ((i : Int)).toNat = i := by omega
      obtain ⟨d1, d2⟩ := hf i (by omega)
      have e1 := carry_div (b := 65536) (by omega) f i
      have e2 : (f i + sm 65536 f i / 65536 ^ i) % 65536 = dig 65536 (V f) i := digit' (b := 65536) (by omega) f (i := i) (n := 16) (by omega)
      obtain ⟨c1, c2⟩ := carry_le (b := 65536) (t := f) (by omega) (M := 1099511627776) (by omega) (m := i) (fun q hq => hf q (by omega))
      generalize hC : sm 65536 f i / 65536 ^ i = C at *
      refine ⟨⟨by omega, by omega⟩, by omega, ⟨by omega, by omega⟩, by omega, ⟨by omega, by omega⟩, by omega, ⟨by omega, by omega⟩, by omega, ⟨by omega, by omega⟩, by omega, ?_⟩
      have w1 : wu (f i + C) = f i + C := wrapu (by omega) (by omega)
      have w3 : w64 ((i : Int) + 1) = (i : Int) + 1 := wrap64 (by omega) (by omega)
      simp only [hti, ext_self, w1, w3, shr64, if_true]
      rw [and64 (by omega) (by omega), e1, e2, ext_succ' _ _ _ _ _ rfl]
      exact hK
    · rw [round39]
      exact ⟨fun h => by simp at h, fun _ => hQ⟩
  · exact nomatch hx

/-! ### passes until nothing is carried -/
theorem W_pow : (65536 : Int) ^ 16 = W := by decide +kernel
theorem isU_ext {n : Int} {f : Nat → Int} : isU (ext n 16 f) := fun q hq => by
  obtain ⟨h1, h2⟩ := isD_ext n f q hq
  exact ⟨h1, by omega⟩
def bump (c : Int) (f : Nat → Int) : Nat → Int := fun q => if q = 0 then wu (f 0 + wu (38 * c)) else f q
theorem round39a (f r : Nat → Int) : round E39 C39a (loopAt Try.f39 0) (view39a f r) =
    .req (0 = (0 : Int) ∧ 0 = (0 : Int) ∧ isU f) (.br (V f / 65536 ^ 16 == 0) (.ret (.exit 0, view39a (ext (V f) 16 f) r))
      (.req (0 < 16) (.req (0 < 16) (.ret (.normal, view39a (bump (V f / 65536 ^ 16) (ext (V f) 16 f)) r))))) := by kernel_rfl
theorem sm_bump (c : Int) (f : Nat → Int) (h : wu (f 0 + wu (38 * c)) = f 0 + 38 * c) : ∀ m, sm 65536 (bump c f) (m + 1) = sm 65536 f (m + 1) + 38 * c
  | 0 => by simp [sm, bump, h]
  | m + 1 => by
    have h2 : bump c f (m + 1) = f (m + 1) := by simp [bump]
    show sm 65536 (bump c f) (m + 1) + bump c f (m + 1) * 65536 ^ (m + 1) = (sm 65536 f (m + 1) + f (m + 1) * 65536 ^ (m + 1)) + 38 * c
    rw [sm_bump c f h m, h2]; omega
theorem isU_V {f : Nat → Int} (hf : isU f) : 0 ≤ V f ∧ V f ≤ 1099511627776 * (W - 1) := by
  have := sm_le (b := 65536) (t := f) (by omega) (M := 1099511627776) (m := 16) hf
  rw [W_pow] at this; exact this
/-- What one pass with a carry leaves. -/
theorem bump_ok {f : Nat → Int} (hf : isU f) : isU (bump (V f / 65536 ^ 16) (ext (V f) 16 f)) ∧ V (bump (V f / 65536 ^ 16) (ext (V f) 16 f)) = fold (V f) ∧
    ∀ n, ext n 16 (bump (V f / 65536 ^ 16) (ext (V f) 16 f)) = ext n 16 f := by
  obtain ⟨h1, h2⟩ := isU_V hf
  rw [W_pow]
  have hW : (0 : Int) < W := by decide
  have hc0 : 0 ≤ V f / W := Int.ediv_nonneg h1 (by omega)
  have hc1 : V f / W ≤ 1099511627776 := Int.le_of_lt_add_one (Int.ediv_lt_of_lt_mul hW (by unfold W at *; omega))
  generalize hC : V f / W = C at *
  obtain ⟨g1, g2⟩ := isD_ext (V f) f 0 (by omega)
  have e1 : wu (38 * C) = 38 * C := wrapu (by omega) (by omega)
  have e2 : wu (ext (V f) 16 f 0 + wu (38 * C)) = ext (V f) 16 f 0 + 38 * C := by rw [e1]; exact wrapu (by omega) (by omega)
  refine ⟨fun q hq => ?_, ?_, fun n => ?_⟩
  · by_cases h : q = 0
    · subst h
      simp only [bump, if_true, e2]; omega
    · simp only [bump, if_neg h]
      obtain ⟨g3, g4⟩ := isD_ext (V f) f q hq
      omega
  · show sm 65536 _ 16 = _
    rw [sm_bump _ _ e2 15]
    have hve : sm 65536 (ext (V f) 16 f) 16 = V f % W := by
      have := V_ext (V f) f
      rw [W_pow] at this; exact this
    show sm 65536 (ext (V f) 16 f) 16 + 38 * C = V f % W + 38 * (V f / W)
    rw [hve, hC]
  · funext q
    by_cases h : q < 16
    · simp only [ext, if_pos h]
    · simp only [ext, if_neg h, bump, if_neg (show ¬ q = 0 by omega)]
theorem bump_ex {f : Nat → Int} (hf : isU f) : ∃ g, bump (V f / 65536 ^ 16) (ext (V f) 16 f) = g ∧ isU g ∧ V g = fold (V f) ∧ ∀ n, ext n 16 g = ext n 16 f :=
  ⟨_, rfl, bump_ok hf⟩
theorem fold_of_lt {n : Int} (h0 : 0 ≤ n) (h1 : n < W) : fold n = n := by
  unfold fold; rw [Int.emod_eq_of_lt h0 h1, Int.ediv_eq_zero_of_lt h0 h1]; omega
theorem fold_one {n : Int} (h0 : 0 ≤ n) (h1 : n ≤ 1099511627776 * (W - 1)) : 0 ≤ fold n ∧ fold n < W + 41781441855488 := by
  unfold fold W at *; omega
theorem fold_two {n : Int} (h0 : 0 ≤ n) (h1 : n < W + 41781441855488) : 0 ≤ fold n ∧ fold n < W := by
  unfold fold W at *; omega
theorem fold_mod (n : Int) : fold n % p = n % p := by
  unfold fold W p; omega
theorem lt_of_div {n : Int} (h0 : 0 ≤ n) (h : n / W = 0) : n < W := by unfold W at *; omega
theorem step39a {Q : Ex × View → Prop} {r : Nat → Int} (m' m : Nat) (f g : Nat → Int) (hm : m' = m + 1) (hf : isU f) (hg : bump (V f / 65536 ^ 16) (ext (V f) 16 f) = g) (h1 : V f < W → Q (.exit 0, view39a (ext (V f) 16 f) r))
    (h2 : ¬ V f < W → (roundsV (round E39 C39a (loopAt Try.f39 0)) m (view39a g r)).holds Q) : (roundsV (round E39 C39a (loopAt Try.f39 0)) m' (view39a f r)).holds Q := by
  subst hm
  subst hg
  obtain ⟨v0, v1⟩ := isU_V hf
  rw [roundsV, R.holds_bind, round39a]
  refine ⟨⟨rfl, rfl, hf⟩, fun h => ?_, fun h => ⟨by omega, by omega, ?_⟩⟩
  · refine h1 (lt_of_div v0 ?_)
    simpa only [beq_iff_eq, W_pow] using h
  · refine h2 fun h3 => ?_
    simp only [beq_eq_false_iff_ne, ne_eq, W_pow] at h
    exact h (Int.ediv_eq_zero_of_lt v0 h3)
end Go.Rf
