/- Scalars, the document's answer: a step, a text, bytes. -/
import Derived.Test.YtdcphhcgogmaoaaScM
set_option linter.unusedVariables false
open Go Go.Sx Go.Proofs Go.Dg
namespace Go.Sc
def e28 : Entry := fun vs => match vs with
  | [.rows [.int .i64 f] 36] => some (.req (isD f ∧ V f < 1024 * order) (.ret (D (V f % order))))
  | _ => none
theorem e28_ok : EntryOK Try.prog (28, e28) := fun vs r h => by
  dsimp only [e28] at h
  split at h
  · cases h; exact .inr ⟨_, _, rfl, fun h => p28 h.1 h.2⟩
  · exact nomatch h
abbrev T30 : Tab := [(28, e28)]
theorem t30_ok : ∀ x ∈ T30, EntryOK Try.prog x := by
  intro x hx
  simp only [List.mem_cons, List.not_mem_nil, or_false] at hx
  subst hx
  exact e28_ok
/-- The sum's digits, not yet brought over. -/
def tS (n : Int) (f g : Nat → Int) (q : Nat) : Int := g q * n + (if 0 < q then f (q - 1) else 0)
theorem sm_tS (n : Int) (f g : Nat → Int) : ∀ m, sm 256 (tS n f g) (m + 1) = n * sm 256 g (m + 1) + 256 * sm 256 f m
  | 0 => by simp [sm, tS]; grind
  | m + 1 => by
    rw [sm, sm_tS n f g m]
    simp only [sm, tS, Nat.zero_lt_succ, if_true, Nat.add_sub_cancel, Int.pow_succ]
    grind
theorem dig_tS (n : Int) (f g : Nat → Int) {i : Nat} (hi : i < 36) : dig 256 (sm 256 (tS n f g) 36) i = dig 256 (256 * V f + n * V g) i := by
  refine dig_congr (m := 36) (by omega) ?_ hi
  have h1 := sm_tS n f g 35
  have h2 : V f = sm 256 f 35 + f 35 * 256 ^ 35 := rfl
  have : sm 256 (tS n f g) 36 + 256 ^ 36 * f 35 = 256 * V f + n * V g := by
    rw [h1, h2]; simp only [V]; grind
  rw [← this, Int.add_mul_emod_self_left]
def C30 : Cut := ⟨[2, 3, 4, 6, 7, 8, 9], [([3], 0), ([4], 1), ([6], 2), ([7], 3)], 8⟩
def view30 (n c i : Int) (f g r o : Nat → Int) : View := ([.i .i64 n, .p 0 0 0, .p 1 0 0, .p 2 0 0, .p 3 0 0, .i .i64 c, .i .i64 i], [(0, rw f), (1, rw g), (2, rw r), (3, rw o)])
def spec30 : Sx.Spec := fun x => match x with
  | ([.v (.int .i64 n), .p 0 0 0, .p 1 0 0, .p 2 0 0, .p 3 0 0, .v (.int .i64 c), .v (.int .i64 i)], [(0, .rows [.int .i64 f] 36 false), (1, .rows [.int .i64 g] 36 false), (2, .rows [.int .i64 r] 36 false), (3, .rows [.int .i64 o] 36 false)]) =>
    some (.req (c = 0 ∧ i = 0 ∧ isD f ∧ isD g ∧ 0 ≤ n ∧ n < 256) (.ret (.exit 0, view30 n (sm 256 (tS n f g) 36 / 256 ^ 36) 36 f g r (ext (256 * V f + n * V g) 36 o))))
  | _ => none
def L30 : LoopC := ⟨4, C30, spec30⟩
noncomputable abbrev E30 : Env := envL Try.prog T30 Try.f30.ntmps [12, 17, 23, 27, 33] 0 RT [L30]
theorem round30 (n c i : Int) (f g r o : Nat → Int) : round E30 C30 (loopAt Try.f30 0) (view30 n c i f g r o) =
    .br (decide (i < 36)) (ix i (.br (decide (i > 0))
      (ix (w64 (i - 1)) (ix i (.ret (.normal, view30 n (w64 ((w64 (w64 (c + w64 (g i.toNat * n)) + f (w64 (i - 1)).toNat)).tdiv 256)) (w64 (i + 1)) f g r
        (fun q => if q = i.toNat then (w64 (w64 (c + w64 (g i.toNat * n)) + f (w64 (i - 1)).toNat)).tmod 256 else o q)))))
      (ix i (.ret (.normal, view30 n (w64 ((w64 (c + w64 (g i.toNat * n))).tdiv 256)) (w64 (i + 1)) f g r
        (fun q => if q = i.toNat then (w64 (c + w64 (g i.toNat * n))).tmod 256 else o q))))))
      (.ret (.exit 0, view30 n c i f g r o)) := by kernel_rfl

theorem loop30 : LoopCOK E30 L30 (loopAt Try.f30 0) := by
  intro x r Q hx hr
  simp only [L30, spec30] at hx
  split at hx
  · rename_i n c i f g r o
    cases hx
    obtain ⟨⟨rfl, rfl, hf, hg, hn0, hn1⟩, hQ⟩ := hr
    refine ⟨37, ?_⟩
    have hgn : ∀ q, q < 36 → 0 ≤ g q * n ∧ g q * n ≤ 65025 := fun q hq => by
      obtain ⟨d1, d2⟩ := hg q hq
      refine ⟨Int.mul_nonneg d1 hn0, ?_⟩
      have h1 : g q * n ≤ 255 * n := Int.mul_le_mul_of_nonneg_right (by omega) hn0
      omega
    have ht : ∀ q, q < 36 → 0 ≤ tS n f g q ∧ tS n f g q ≤ 256 * (256 - 1) := fun q hq => by
      obtain ⟨h1, h2⟩ := hgn q hq
      unfold tS
      split
      · obtain ⟨d3, d4⟩ := hf (q - 1) (by omega); omega
      · omega
    have key := rounds_for (step := round E30 C30 (loopAt Try.f30 0)) (Q := Q) (fun i => view30 n (sm 256 (tS n f g) i / 256 ^ i) i f g r (ext (256 * V f + n * V g) i o)) 36 0 (fun i _ hi K hK => ?_) ?_
    · have e1 : sm 256 (tS n f g) 0 / 256 ^ 0 = 0 := by simp [sm]
      rw [ext_zero, e1] at key
      exact key
    · rw [round30]
      refine ⟨fun _ => ?_, fun h => by simp at h; omega⟩
      have hti : ((i : Int)).toNat = i := by omega
      have e1 := carry_div (b := 256) (by omega) (tS n f g) i
      have e2 : (tS n f g i + sm 256 (tS n f g) i / 256 ^ i) % 256 = dig 256 (256 * V f + n * V g) i := by
        rw [digit' (b := 256) (by omega) (tS n f g) (i := i) (n := 36) (by omega)]
        exact dig_tS n f g (by omega)
      obtain ⟨c1, c2⟩ := carry_le (b := 256) (by omega) (M := 256) (by omega) (m := i) (fun q hq => ht q (by omega))
      obtain ⟨t1, t2⟩ := ht i (by omega)
      obtain ⟨g1, g2⟩ := hgn i (by omega)
      generalize hC : sm 256 (tS n f g) i / 256 ^ i = C at *
      have w0 : w64 (g i * n) = g i * n := wrap64 (by omega) (by omega)
      have w1 : w64 (C + g i * n) = C + g i * n := wrap64 (by omega) (by omega)
      have w3 : w64 ((i : Int) + 1) = (i : Int) + 1 := wrap64 (by omega) (by omega)
      refine ⟨by omega, by omega, fun h => ?_, fun h => ?_⟩
      · have hi0 : 0 < i := by simp only [decide_eq_true_eq] at h; omega
        have w4 : w64 ((i : Int) - 1) = (i : Int) - 1 := wrap64 (by omega) (by omega)
        have hti2 : ((i : Int) - 1).toNat = i - 1 := by omega
        have et : tS n f g i = g i * n + f (i - 1) := by simp [tS, hi0]
        rw [et] at e1 e2 t1 t2
        have w5 : w64 (C + g i * n + f (i - 1)) = C + g i * n + f (i - 1) := wrap64 (by omega) (by omega)
        simp only [hti, w0, w1, w3, w4, hti2, w5]
        rw [Int.tdiv_eq_ediv_of_nonneg (by omega), Int.tmod_eq_emod_of_nonneg (by omega), show C + g i * n + f (i - 1) = g i * n + f (i - 1) + C by omega, e1, e2, ext_succ]
        have w6 : w64 (sm 256 (tS n f g) (i + 1) / 256 ^ (i + 1)) = sm 256 (tS n f g) (i + 1) / 256 ^ (i + 1) := by rw [← e1]; exact wrap64 (by omega) (by omega)
        rw [w6]
        exact ⟨⟨by omega, by omega⟩, by omega, ⟨by omega, by omega⟩, by omega, hK⟩
      · have hi0 : i = 0 := by simp only [decide_eq_false_iff_not] at h; omega
        have et : tS n f g i = g i * n := by simp [tS, hi0]
        rw [et] at e1 e2 t1 t2
        simp only [hti, w0, w1, w3]
        rw [Int.tdiv_eq_ediv_of_nonneg (by omega), Int.tmod_eq_emod_of_nonneg (by omega), show C + g i * n = g i * n + C by omega, e1, e2, ext_succ]
        have w6 : w64 (sm 256 (tS n f g) (i + 1) / 256 ^ (i + 1)) = sm 256 (tS n f g) (i + 1) / 256 ^ (i + 1) := by rw [← e1]; exact wrap64 (by omega) (by omega)
        rw [w6]
        exact ⟨⟨by omega, by omega⟩, by omega, hK⟩
    · rw [round30]
      exact ⟨fun h => by simp at h, fun _ => hQ⟩
  · exact nomatch hx

theorem val30 (f g : Nat → Int) (n : Int) : evalVal E30 Try.f30 [.rows [.int .i64 f] 36, .rows [.int .i64 g] 36, .i .i64 n] =
    .req (0 = (0 : Int) ∧ 0 = (0 : Int) ∧ isD f ∧ isD g ∧ 0 ≤ n ∧ n < 256) (.req (36 ≤ 36) (.req (isD (ext (256 * V f + n * V g) 36 fun _ => 0) ∧ V (ext (256 * V f + n * V g) 36 fun _ => 0) < 1024 * order)
      (.req (0 = 0) (.ret (D (V (ext (256 * V f + n * V g) 36 fun _ => 0) % order)))))) := by kernel_rfl
theorem isD_ext (m : Int) (o : Nat → Int) : isD (ext m 36 o) := fun q hq => by
  simp only [ext, hq, if_true]; exact dig_range (by omega) _ _
theorem V_ext (m : Int) (o : Nat → Int) : V (ext m 36 o) = m % 256 ^ 36 := by
  rw [← V_dig]; exact sm_congr fun q hq => by simp [ext, hq]
theorem p30 {f g : Nat → Int} {n : Int} (hf : isD f) (hg : isD g) (h0 : 0 ≤ n) (h1 : n < 256) (hV : V f < order) (hW : V g < order) :
    PureOK Try.prog 30 [.rows [.int .i64 f] 36, .rows [.int .i64 g] 36, .i .i64 n] (D ((256 * V f + n * V g) % order)) := by
  obtain ⟨a1, a2⟩ := V_range hf
  obtain ⟨a3, a4⟩ := V_range hg
  have b1 : 0 ≤ n * V g := Int.mul_nonneg h0 a3
  have b2 : n * V g ≤ 255 * V g := Int.mul_le_mul_of_nonneg_right (by omega) a3
  have ho : 1024 * order < 256 ^ 36 := by decide +kernel
  have e : V (ext (256 * V f + n * V g) 36 fun _ => 0) = 256 * V f + n * V g := by rw [V_ext]; exact Int.emod_eq_of_lt (by omega) (by omega)
  refine pure_of_envL mixed (t := T30) t30_ok (fn := Try.f30) (by kernel_rfl) (by kernel_rfl) rfl [12, 17, 23, 27, 33] RT [L30] (told_one (by kernel_rfl) loop30) ⟨trivial, trivial, trivial, trivial⟩ trivial ?_
  rw [val30, e]
  exact ⟨⟨rfl, rfl, hf, hg, h0, h1⟩, by omega, ⟨isD_ext _ _, by omega⟩, rfl, rfl⟩

/-! ### bytes -/
/-- The first 32 digits as bytes. -/
def bytesL (f : Nat → Int) : List UInt8 := (List.range 32).map fun q => UInt8.ofNat (f q).toNat
def bytesT (f : Nat → Int) : Nat → Nat → R AV
  | 0, _ => .ret (.str (bytesL fun q => IntKind.u8.wrap (f q)))
  | k + 1, i => .req (i < 36) (bytesT f k (i + 1))
theorem val27 (f : Nat → Int) : evalVal (envL Try.prog [] Try.f27.ntmps [] 0 RT []) Try.f27 [.rows [.int .i64 f] 36] = bytesT f 32 0 := by kernel_rfl
theorem wrap8 {n : Int} (h1 : 0 ≤ n) (h2 : n < 256) : IntKind.u8.wrap n = n := by
  simp [IntKind.wrap, IntKind.signed, IntKind.bits]; omega
theorem bytesT_holds {f : Nat → Int} (hf : isD f) : ∀ k i, k + i ≤ 36 → (bytesT f k i).holds (· = .str (bytesL f))
  | 0, i, _ => by
    have : (bytesL fun q => IntKind.u8.wrap (f q)) = bytesL f := by
      unfold bytesL
      refine List.map_congr_left fun q hq => ?_
      obtain ⟨h1, h2⟩ := hf q (by have := List.mem_range.1 hq; omega)
      show UInt8.ofNat (IntKind.u8.wrap (f q)).toNat = _
      rw [wrap8 h1 h2]
    simp only [bytesT, R.holds, this]
  | k + 1, i, h => ⟨by omega, bytesT_holds hf k (i + 1) (by omega)⟩
theorem p27 {f : Nat → Int} (hf : isD f) : PureOK Try.prog 27 [.rows [.int .i64 f] 36] (.str (bytesL f)) := by
  refine pure_of_envL mixed (t := []) (fun x h => nomatch h) (fn := Try.f27) (by kernel_rfl) (by kernel_rfl) rfl [] RT [] told_none ⟨trivial, trivial⟩ trivial ?_
  rw [val27]
  exact bytesT_holds hf 32 0 (by omega)
end Go.Sc
