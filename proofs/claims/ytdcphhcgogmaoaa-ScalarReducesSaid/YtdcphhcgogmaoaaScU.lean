/- Scalars, the document's answer: sums and products. -/
import Derived.Test.YtdcphhcgogmaoaaScO
set_option linter.unusedVariables false
open Go Go.Sx Go.Proofs Go.Dg
namespace Go.Sc
theorem num_range (s : List UInt8) : 0 ≤ num s ∧ num s < order := ⟨Int.emod_nonneg _ (Int.ne_of_gt order_pos), Int.emod_lt_of_pos _ order_pos⟩
theorem V_num (s : List UInt8) : V (dig 256 (num s)) = num s := V_mod _
/-! ### Add -/
def C11 : Cut := ⟨[5, 6, 7, 8], [([5], 0), ([6], 1)], 8⟩
def view11 (c i : Int) (f g : Nat → Int) : View := ([.p 0 0 0, .p 1 0 0, .i .i64 c, .i .i64 i], [(0, rw f), (1, rw g)])
def spec11 : Sx.Spec := fun x => match x with
  | ([.p 0 0 0, .p 1 0 0, .v (.int .i64 c), .v (.int .i64 i)], [(0, .rows [.int .i64 f] 36 false), (1, .rows [.int .i64 g] 36 false)]) =>
    some (.req (c = 0 ∧ i = 0 ∧ isD f ∧ isD g) (.ret (.exit 0, view11 ((V f + V g) / 256 ^ 36) 36 (ext (V f + V g) 36 f) g)))
  | _ => none
def L11 : LoopC := ⟨4, C11, spec11⟩
def e28' : Entry := e28
abbrev T11 : Tab := [(26, e26), (27, e27), (28, e28)]
theorem t11_ok : ∀ x ∈ T11, EntryOK Try.prog x := by
  intro x hx
  simp only [List.mem_cons, List.not_mem_nil, or_false] at hx
  rcases hx with rfl | rfl | rfl
  · exact e26_ok
  · exact e27_ok
  · exact e28_ok
noncomputable abbrev E11 : Env := envL Try.prog T11 Try.f11.ntmps [15, 19, 22, 30] 0 RT [L11]
theorem round11 (c i : Int) (f g : Nat → Int) : round E11 C11 (loopAt Try.f11 0) (view11 c i f g) =
    .br (decide (i < 36)) (ix i (ix i (ix i (.ret (.normal, view11 (w64 ((w64 (w64 (f i.toNat + g i.toNat) + c)).tdiv 256)) (w64 (i + 1))
        (fun q => if q = i.toNat then (w64 (w64 (f i.toNat + g i.toNat) + c)).tmod 256 else f q) g)))))
      (.ret (.exit 0, view11 c i f g)) := by kernel_rfl
theorem loop11 : LoopCOK E11 L11 (loopAt Try.f11 0) := by
  intro x r Q hx hr
  simp only [L11, spec11] at hx
  split at hx
  · rename_i c i f g
    cases hx
    obtain ⟨⟨rfl, rfl, hf, hg⟩, hQ⟩ := hr
    refine ⟨37, ?_⟩
    have hs : ∀ m, sm 256 (fun q => f q + g q) m = sm 256 f m + sm 256 g m := fun m => sm_add f g m
    have key := rounds_for (step := round E11 C11 (loopAt Try.f11 0)) (Q := Q) (fun i => view11 (sm 256 (fun q => f q + g q) i / 256 ^ i) i (ext (V f + V g) i f) g) 36 0 (fun i _ hi K hK => ?_) ?_
    · have e1 : sm 256 (fun q => f q + g q) 0 / 256 ^ 0 = 0 := by simp [sm]
      rw [ext_zero, e1] at key
      exact key
    · rw [round11]
      refine ⟨fun _ => ?_, fun h => by simp at h; omega⟩
      have hti : ((i : Int)).toNat = i := by omega
      obtain ⟨d1, d2⟩ := hf i (by omega)
      obtain ⟨d3, d4⟩ := hg i (by omega)
      have e1 := carry_div (b := 256) (by omega) (fun q => f q + g q) i
      have e2 : (f i + g i + sm 256 (fun q => f q + g q) i / 256 ^ i) % 256 = dig 256 (V f + V g) i := by
        have := digit' (b := 256) (by omega) (fun q => f q + g q) (i := i) (n := 36) (by omega)
        rw [hs 36] at this
        exact this
      obtain ⟨c1, c2⟩ := carry_le (b := 256) (t := fun q => f q + g q) (by omega) (M := 2) (by omega) (m := i) (fun q hq => by
        obtain ⟨h1, h2⟩ := hf q (by omega)
        obtain ⟨h3, h4⟩ := hg q (by omega)
        omega)
      generalize hC : sm 256 (fun q => f q + g q) i / 256 ^ i = C at *
      have w1 : w64 (f i + g i) = f i + g i := wrap64 (by omega) (by omega)
      have w2 : w64 (f i + g i + C) = f i + g i + C := wrap64 (by omega) (by omega)
      have w3 : w64 ((i : Int) + 1) = (i : Int) + 1 := wrap64 (by omega) (by omega)
      simp only [hti, ext_self, w1, w2, w3]
      rw [Int.tdiv_eq_ediv_of_nonneg (by omega), Int.tmod_eq_emod_of_nonneg (by omega), e1, e2, ext_succ]
      have w6 : w64 (sm 256 (fun q => f q + g q) (i + 1) / 256 ^ (i + 1)) = sm 256 (fun q => f q + g q) (i + 1) / 256 ^ (i + 1) := by rw [← e1]; exact wrap64 (by omega) (by omega)
      rw [w6]
      exact ⟨⟨by omega, by omega⟩, by omega, ⟨by omega, by omega⟩, by omega, ⟨by omega, by omega⟩, by omega, hK⟩
    · rw [round11]
      refine ⟨fun h => by simp at h, fun _ => ?_⟩
      rw [hs]
      exact hQ
  · exact nomatch hx
theorem val11 (a b : List UInt8) : evalVal E11 Try.f11 [.str a, .str b] =
    .req (0 = 0) (.req (0 = 0) (.req (0 = (0 : Int) ∧ 0 = (0 : Int) ∧ isD (dig 256 (num a)) ∧ isD (dig 256 (num b))) (.req (36 ≤ 36)
      (.req (isD (ext (V (dig 256 (num a)) + V (dig 256 (num b))) 36 (dig 256 (num a))) ∧ V (ext (V (dig 256 (num a)) + V (dig 256 (num b))) 36 (dig 256 (num a))) < 1024 * order)
        (.req (isD (dig 256 (V (ext (V (dig 256 (num a)) + V (dig 256 (num b))) 36 (dig 256 (num a))) % order)))
          (.ret (.str (txt (V (ext (V (dig 256 (num a)) + V (dig 256 (num b))) 36 (dig 256 (num a))) % order)))))))))  := by kernel_rfl
theorem p11 (a b : List UInt8) : PureOK Try.prog 11 [.str a, .str b] (.str (txt ((num a + num b) % order))) := by
  refine pure_of_envL mixed (t := T11) t11_ok (fn := Try.f11) (by kernel_rfl) (by kernel_rfl) rfl [15, 19, 22, 30] RT [L11] (told_one (by kernel_rfl) loop11) ⟨trivial, trivial, trivial⟩ trivial ?_
  rw [val11]
  obtain ⟨a1, a2⟩ := num_range a
  obtain ⟨b1, b2⟩ := num_range b
  have ho : 1024 * order < 256 ^ 36 := by decide +kernel
  have hp := order_pos
  have e : V (ext (V (dig 256 (num a)) + V (dig 256 (num b))) 36 (dig 256 (num a))) = num a + num b := by
    rw [V_ext, V_num, V_num]; exact Int.emod_eq_of_lt (by omega) (by omega)
  rw [e]
  exact ⟨rfl, rfl, ⟨rfl, rfl, isD_dig _, isD_dig _⟩, by omega, ⟨isD_ext _ _, by omega⟩, isD_dig _, rfl⟩

/-! ### Mul -/
def e19 : Entry := fun vs => match vs with
  | [.str s] => some (.ret (.str (txt (num s))))
  | _ => none
theorem e19_ok : EntryOK Try.prog (19, e19) := fun vs r h => by
  dsimp only [e19] at h
  split at h
  · cases h; exact .inl ⟨_, rfl, p19 _⟩
  · exact nomatch h
def C14 : Cut := ⟨[5, 6, 7, 8], [([5], 0), ([7], 1)], 8⟩
def view14 (s : List UInt8) (i : Int) (g f : Nat → Int) : View := ([.p 0 0 0, .str s, .p 1 0 0, .i .i64 i], [(0, rw g), (1, rw f)])
def spec14 : Sx.Spec := fun x => match x with
  | ([.p 0 0 0, .str s, .p 1 0 0, .v (.int .i64 i)], [(0, .rows [.int .i64 g] 36 false), (1, .rows [.int .i64 f] 36 false)]) =>
    some (.req (i = 31 ∧ s.length = 32 ∧ f = (fun _ => 0) ∧ isD g ∧ V g < order) (.ret (.exit 0, view14 s (-1) g (dig 256 (le s * V g % order)))))
  | _ => none
def L14 : LoopC := ⟨5, C14, spec14⟩
abbrev T14 : Tab := [(26, e26), (27, e27), (19, e19), (30, e30)]
theorem t14_ok : ∀ x ∈ T14, EntryOK Try.prog x := by
  intro x hx
  simp only [List.mem_cons, List.not_mem_nil, or_false] at hx
  rcases hx with rfl | rfl | rfl | rfl
  · exact e26_ok
  · exact e27_ok
  · exact e19_ok
  · exact e30_ok
noncomputable abbrev E14 : Env := envL Try.prog T14 Try.f14.ntmps [14, 21] 0 RT [L14]
theorem round14 (s : List UInt8) (i : Int) (g f : Nat → Int) : round E14 C14 (loopAt Try.f14 0) (view14 s i g f) =
    .br (decide (i ≥ 0)) (.req (36 ≤ 36) (.req (36 ≤ 36) (.req (0 ≤ i ∧ i < s.length) (.req (isD f ∧ isD g ∧ 0 ≤ w64 (s.getD i.toNat 0).toNat ∧ w64 (s.getD i.toNat 0).toNat < 256 ∧ V f < order ∧ V g < order)
      (.req (0 = 0) (.ret (.normal, view14 s (w64 (i - 1)) g (dig 256 ((256 * V f + w64 (s.getD i.toNat 0).toNat * V g) % order)))))))))
      (.ret (.exit 0, view14 s i g f)) := by kernel_rfl
theorem loop14 : LoopCOK E14 L14 (loopAt Try.f14 0) := by
  intro x r Q hx hr
  simp only [L14, spec14] at hx
  split at hx
  · rename_i s i g f
    cases hx
    obtain ⟨⟨rfl, hs, rfl, hg, hV⟩, hQ⟩ := hr
    refine ⟨33, ?_⟩
    have key := rounds_for (step := round E14 C14 (loopAt Try.f14 0)) (Q := Q) (fun j => view14 s (31 - (j : Int)) g (dig 256 (le (s.drop (32 - j)) * V g % order))) 32 0 (fun j _ hj K hK => ?_) ?_
    · have e1 : dig 256 (le (s.drop (32 - 0)) * V g % order) = fun _ => 0 := by
        rw [zero_dig, List.drop_of_length_le (by omega)]; simp [le]
      rw [e1] at key
      exact key
    · rw [round14]
      obtain ⟨k, hk⟩ : ∃ k, k = 31 - j := ⟨_, rfl⟩
      have hki : (31 : Int) - j = k := by omega
      have hk1 : 32 - j = k + 1 := by omega
      have hk2 : 32 - (j + 1) = k := by omega
      have hki2 : (31 : Int) - ((j + 1 : Nat) : Int) = (k : Int) - 1 := by omega
      rw [hki2, hk2, le_drop (show k < s.length by omega)] at hK
      have hb : 0 ≤ ((s.getD k 0).toNat : Int) ∧ ((s.getD k 0).toNat : Int) < 256 := by
        have := (s.getD k 0).toNat_lt; omega
      have w1 : w64 ((s.getD k 0).toNat : Int) = ((s.getD k 0).toNat : Int) := wrap64 (by omega) (by omega)
      have w2 : w64 ((k : Int) - 1) = (k : Int) - 1 := wrap64 (by omega) (by omega)
      have hti : ((k : Int)).toNat = k := by omega
      refine ⟨fun _ => ?_, fun h => by simp at h; omega⟩
      simp only [hki, hk1, hti, w1, w2, V_mod]
      have h2 := Int.emod_lt_of_pos (le (s.drop (k + 1)) * V g) order_pos
      refine ⟨by omega, by omega, by omega, ⟨isD_dig _, hg, hb.1, hb.2, h2, hV⟩, trivial, ?_⟩
      have e : (256 * (le (s.drop (k + 1)) * V g % order) + ((s.getD k 0).toNat : Int) * V g) % order = (((s.getD k 0).toNat : Int) + 256 * le (s.drop (k + 1))) * V g % order := by
        rw [Int.add_comm, Int.add_emod, Int.mul_emod 256, Int.emod_emod, ← Int.mul_emod, ← Int.add_emod]
        congr 1
        grind
      rw [e]
      exact hK
    · rw [round14]
      refine ⟨fun h => by simp at h, fun _ => ?_⟩
      exact hQ
  · exact nomatch hx
theorem bytesL_length (f : Nat → Int) : (bytesL f).length = 32 := by simp [bytesL]
theorem val14 (a b : List UInt8) : evalVal E14 Try.f14 [.str a, .str b] =
    .req (0 = 0) (.req (31 = (31 : Int) ∧ (txt (num b)).length = 32 ∧ zF = zF ∧ isD (dig 256 (num a)) ∧ V (dig 256 (num a)) < order) (.req (36 ≤ 36)
        (.req (isD (dig 256 (le (txt (num b)) * V (dig 256 (num a)) % order)))
          (.ret (.str (txt (le (txt (num b)) * V (dig 256 (num a)) % order))))))) := by kernel_rfl
/-- The bytes of a number below 2^256 are that number's. -/
theorem le_range (g : Nat → Int) (hg : ∀ q, 0 ≤ g q ∧ g q < 256) : ∀ (n k : Nat), le ((List.range' k n).map fun q => UInt8.ofNat (g q).toNat) = sm 256 (fun q => g (k + q)) n
  | 0, k => rfl
  | n + 1, k => by
    have h1 : ∀ m, sm 256 (fun q => g (k + q)) (m + 1) = g k + 256 * sm 256 (fun q => g (k + 1 + q)) m := by
      intro m
      induction m with
      | zero => simp [sm]
      | succ m ih =>
        rw [sm, ih]
        simp only [sm, Int.pow_succ, show k + (m + 1) = k + 1 + m by omega]
        grind
    rw [List.range'_succ, List.map_cons, le, le_range g hg n (k + 1), h1]
    obtain ⟨a1, a2⟩ := hg k
    have : ((UInt8.ofNat (g k).toNat).toNat : Int) = g k := by
      rw [UInt8.toNat_ofNat', Nat.mod_eq_of_lt (by omega)]; omega
    rw [this]
theorem le_txt (n : Int) : le (txt n) = n % 256 ^ 32 := by
  have := le_range (dig 256 n) (fun q => dig_range (by omega) n q) 32 0
  rw [← List.range_eq_range'] at this
  unfold txt bytesL
  rw [this, ← sm_dig (by omega) n 32]
  exact sm_congr fun q _ => by rw [Nat.zero_add]
theorem order_lt32 : order < 256 ^ 32 := by decide +kernel
theorem le_txt_num (s : List UInt8) : le (txt (num s)) = num s := by
  obtain ⟨a1, a2⟩ := num_range s
  rw [le_txt]; exact Int.emod_eq_of_lt a1 (Int.lt_trans a2 order_lt32)
theorem p14 (a b : List UInt8) : PureOK Try.prog 14 [.str a, .str b] (.str (txt (num a * num b % order))) := by
  refine pure_of_envL mixed (t := T14) t14_ok (fn := Try.f14) (by kernel_rfl) (by kernel_rfl) rfl [14, 21] RT [L14] (told_one (by kernel_rfl) loop14) ⟨trivial, trivial, trivial⟩ trivial ?_
  rw [val14]
  obtain ⟨a1, a2⟩ := num_range a
  rw [le_txt_num, V_num, Int.mul_comm]
  exact ⟨rfl, ⟨rfl, bytesL_length _, rfl, isD_dig _, a2⟩, by omega, isD_dig _, rfl⟩
end Go.Sc
