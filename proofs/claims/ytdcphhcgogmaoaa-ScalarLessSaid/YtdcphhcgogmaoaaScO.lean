/- Scalars, the document's answer: a text's number. -/
import Derived.Test.YtdcphhcgogmaoaaScN
set_option linter.unusedVariables false
open Go Go.Sx Go.Proofs Go.Dg
namespace Go.Sc
/-- The number of bytes, the lowest first. -/
def le : List UInt8 → Int
  | [] => 0
  | b :: l => b.toNat + 256 * le l
theorem le_drop {s : List UInt8} {j : Nat} (h : j < s.length) : le (s.drop j) = (s.getD j 0).toNat + 256 * le (s.drop (j + 1)) := by
  rw [List.drop_eq_getElem_cons h, le, List.getD_eq_getElem?_getD, List.getElem?_eq_getElem h]; rfl
def e30 : Entry := fun vs => match vs with
  | [.rows [.int .i64 f] 36, .rows [.int .i64 g] 36, .v (.int .i64 n)] => some (.req (isD f ∧ isD g ∧ 0 ≤ n ∧ n < 256 ∧ V f < order ∧ V g < order) (.ret (D ((256 * V f + n * V g) % order))))
  | _ => none
theorem e30_ok : EntryOK Try.prog (30, e30) := fun vs r h => by
  dsimp only [e30] at h
  split at h
  · cases h; exact .inr ⟨_, _, rfl, fun ⟨h1, h2, h3, h4, h5, h6⟩ => p30 h1 h2 h3 h4 h5 h6⟩
  · exact nomatch h
abbrev T26 : Tab := [(30, e30)]
theorem t26_ok : ∀ x ∈ T26, EntryOK Try.prog x := by
  intro x hx
  simp only [List.mem_cons, List.not_mem_nil, or_false] at hx
  subst hx
  exact e30_ok
theorem zero_dig : (fun _ => 0 : Nat → Int) = dig 256 0 := by funext q; simp [dig]
def oneF : Nat → Int := fun q => if q = 0 then 1 else 0
theorem isD_one : isD oneF := fun q _ => by unfold oneF; split <;> omega
theorem V_one : V oneF = 1 := by decide +kernel
theorem order_pos : (0 : Int) < order := by unfold order; omega
theorem order_lt : order < 256 ^ 36 := by decide +kernel
theorem V_mod (n : Int) : V (dig 256 (n % order)) = n % order := by
  rw [V_dig]
  have h1 := Int.emod_nonneg n (Int.ne_of_gt order_pos)
  have h2 := Int.emod_lt_of_pos n order_pos
  exact Int.emod_eq_of_lt h1 (Int.lt_trans h2 order_lt)
def C26 : Cut := ⟨[0, 2, 3, 4, 5], [([2], 0), ([3], 1), ([4], 2)], 8⟩
def view26 (s : List UInt8) (i : Int) (r f o : Nat → Int) : View := ([.str s, .p 0 0 0, .p 1 0 0, .p 2 0 0, .i .i64 i], [(0, rw r), (1, rw f), (2, rw o)])
def spec26 : Sx.Spec := fun x => match x with
  | ([.str s, .p 0 0 0, .p 1 0 0, .p 2 0 0, .v (.int .i64 i)], [(0, .rows [.int .i64 r] 36 false), (1, .rows [.int .i64 f] 36 false), (2, .rows [.int .i64 o] 36 false)]) =>
    some (.req (i = (s.length : Int) - 1 ∧ f = (fun _ => 0) ∧ o = oneF ∧ s.length ≤ 64) (.ret (.exit 0, view26 s (-1) r (dig 256 (le s % order)) o)))
  | _ => none
def L26 : LoopC := ⟨5, C26, spec26⟩
noncomputable abbrev E26 : Env := envL Try.prog T26 Try.f26.ntmps [10, 16, 23] 0 RT [L26]
theorem round26 (s : List UInt8) (i : Int) (r f o : Nat → Int) : round E26 C26 (loopAt Try.f26 0) (view26 s i r f o) =
    .br (decide (i ≥ 0)) (.req (36 ≤ 36) (.req (36 ≤ 36) (.req (0 ≤ i ∧ i < s.length) (.req (isD f ∧ isD o ∧ 0 ≤ w64 (s.getD i.toNat 0).toNat ∧ w64 (s.getD i.toNat 0).toNat < 256 ∧ V f < order ∧ V o < order)
      (.req (0 = 0) (.ret (.normal, view26 s (w64 (i - 1)) r (dig 256 ((256 * V f + w64 (s.getD i.toNat 0).toNat * V o) % order)) o)))))))
      (.ret (.exit 0, view26 s i r f o)) := by kernel_rfl
theorem loop26 : LoopCOK E26 L26 (loopAt Try.f26 0) := by
  intro x r Q hx hr
  simp only [L26, spec26] at hx
  split at hx
  · rename_i s i r f o
    cases hx
    obtain ⟨⟨rfl, rfl, rfl, hs⟩, hQ⟩ := hr
    refine ⟨s.length + 1, ?_⟩
    have key := rounds_for (step := round E26 C26 (loopAt Try.f26 0)) (Q := Q) (fun j => view26 s ((s.length : Int) - 1 - j) r (dig 256 (le (s.drop (s.length - j)) % order)) oneF) s.length 0 (fun j _ hj K hK => ?_) ?_
    · have e1 : dig 256 (le (s.drop (s.length - 0)) % order) = fun _ => 0 := by
        rw [zero_dig, Nat.sub_zero, List.drop_length]; simp [le]
      rw [e1, show (s.length : Int) - 1 - ((0 : Nat) : Int) = (s.length : Int) - 1 by omega] at key
      exact key
    · rw [round26]
      obtain ⟨k, hk⟩ : ∃ k, k = s.length - 1 - j := ⟨_, rfl⟩
      have hki : (s.length : Int) - 1 - j = k := by omega
      have hk1 : s.length - j = k + 1 := by omega
      have hk2 : s.length - (j + 1) = k := by omega
      have hki2 : (s.length : Int) - 1 - ((j + 1 : Nat) : Int) = (k : Int) - 1 := by omega
      rw [hki2, hk2, le_drop (show k < s.length by omega)] at hK
      have hb : 0 ≤ ((s.getD k 0).toNat : Int) ∧ ((s.getD k 0).toNat : Int) < 256 := by
        have := (s.getD k 0).toNat_lt; omega
      have w1 : w64 ((s.getD k 0).toNat : Int) = ((s.getD k 0).toNat : Int) := wrap64 (by omega) (by omega)
      have w2 : w64 ((k : Int) - 1) = (k : Int) - 1 := wrap64 (by omega) (by omega)
      have hti : ((k : Int)).toNat = k := by omega
      refine ⟨fun _ => ?_, fun h => by simp at h; omega⟩
      simp only [hki, hk1, hti, w1, w2, V_mod, V_one]
      have h2 := Int.emod_lt_of_pos (le (s.drop (k + 1))) order_pos
      refine ⟨by omega, by omega, by omega, ⟨isD_dig _, isD_one, hb.1, hb.2, h2, by unfold order; omega⟩, trivial, ?_⟩
      have e : (256 * (le (s.drop (k + 1)) % order) + ((s.getD k 0).toNat : Int) * 1) % order = (((s.getD k 0).toNat : Int) + 256 * le (s.drop (k + 1))) % order := by
        rw [Int.mul_one, Int.add_comm, Int.add_emod, Int.mul_emod, Int.emod_emod, ← Int.mul_emod, ← Int.add_emod]
      rw [e]
      exact hK
    · rw [round26]
      refine ⟨fun h => by simp at h; omega, fun _ => ?_⟩
      have e1 : (s.length : Int) - 1 - ((0 + s.length : Nat) : Int) = -1 := by omega
      have e2 : s.length - (0 + s.length) = 0 := by omega
      simp only [e1, e2, List.drop_zero]
      exact hQ
  · exact nomatch hx

/-- The first 64 bytes. -/
def first (s : List UInt8) : List UInt8 := s.take 64
def zF : Nat → Int := fun _ => 0
def cutN (s : List UInt8) : Int := if (64 : Int) < s.length then 64 else s.length
theorem cutN_take (s : List UInt8) : s.take (cutN s).toNat = first s := by
  unfold cutN first
  split
  · rfl
  · rw [Int.toNat_natCast, List.take_length, List.take_of_length_le (by omega)]
theorem val26 (s : List UInt8) : evalVal E26 Try.f26 [.str s] =
    .req (0 ≤ cutN s ∧ cutN s ≤ s.length) (.req (0 < 36) (.req (w64 (((s.take (cutN s).toNat).drop 0).length - 1) = ((s.take (cutN s).toNat).drop 0).length - 1 ∧ (zF = zF) ∧ oneF = oneF ∧ ((s.take (cutN s).toNat).drop 0).length ≤ 64)
      (.req (36 ≤ 36) (.req (0 = 0) (.ret (D (le ((s.take (cutN s).toNat).drop 0) % order))))))) := by kernel_rfl
theorem p26 (s : List UInt8) : PureOK Try.prog 26 [.str s] (D (le (first s) % order)) := by
  refine pure_of_envL mixed (t := T26) t26_ok (fn := Try.f26) (by kernel_rfl) (by kernel_rfl) rfl [10, 16, 23] RT [L26] (told_one (by kernel_rfl) loop26) ⟨trivial, trivial⟩ trivial ?_
  rw [val26]
  have h1 : 0 ≤ cutN s ∧ cutN s ≤ s.length := by unfold cutN; split <;> omega
  have h2 : (s.take (cutN s).toNat).length ≤ 64 := by rw [cutN_take]; unfold first; rw [List.length_take]; omega
  rw [List.drop_zero]
  refine ⟨h1, by omega, ⟨wrap64 (by omega) (by omega), rfl, rfl, h2⟩, by omega, rfl, ?_⟩
  rw [cutN_take]; rfl

/-! ### Reduce, Check -/
def e26 : Entry := fun vs => match vs with
  | [.str s] => some (.ret (D (le (first s) % order)))
  | _ => none
theorem e26_ok : EntryOK Try.prog (26, e26) := fun vs r h => by
  dsimp only [e26] at h
  split at h
  · cases h; exact .inl ⟨_, rfl, p26 _⟩
  · exact nomatch h
def e27 : Entry := fun vs => match vs with
  | [.rows [.int .i64 f] 36] => some (.req (isD f) (.ret (.str (bytesL f))))
  | _ => none
theorem e27_ok : EntryOK Try.prog (27, e27) := fun vs r h => by
  dsimp only [e27] at h
  split at h
  · cases h; exact .inr ⟨_, _, rfl, p27⟩
  · exact nomatch h
/-- A number's 32 bytes. -/
def txt (n : Int) : List UInt8 := bytesL (dig 256 n)
/-- A text's number. -/
def num (s : List UInt8) : Int := le (first s) % order
abbrev T19 : Tab := [(26, e26), (27, e27)]
theorem t19_ok : ∀ x ∈ T19, EntryOK Try.prog x := by
  intro x hx
  simp only [List.mem_cons, List.not_mem_nil, or_false] at hx
  rcases hx with rfl | rfl
  · exact e26_ok
  · exact e27_ok
theorem val19 (s : List UInt8) : evalVal (envL Try.prog T19 Try.f19.ntmps [] 0 RT []) Try.f19 [.str s] = .req (isD (dig 256 (num s))) (.ret (.str (txt (num s)))) := by kernel_rfl
theorem p19 (s : List UInt8) : PureOK Try.prog 19 [.str s] (.str (txt (num s))) := by
  refine pure_of_envL mixed (t := T19) t19_ok (fn := Try.f19) (by kernel_rfl) (by kernel_rfl) rfl [] RT [] told_none ⟨trivial, trivial⟩ trivial ?_
  rw [val19]
  exact ⟨isD_dig _, rfl⟩
end Go.Sc
