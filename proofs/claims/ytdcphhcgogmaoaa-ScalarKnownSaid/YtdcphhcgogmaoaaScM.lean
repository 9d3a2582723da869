/- Scalars, the document's answer: modulo. -/
import Derived.Test.YtdcphhcgogmaoaaScR2
set_option linter.unusedVariables false
open Go Go.Sx Go.Proofs Go.Dg
namespace Go.Sc
def e33 : Entry := fun vs => match vs with
  | [] => some (.ret (D order))
  | _ => none
def e34 : Entry := fun vs => match vs with
  | [.rows [.int .i64 f] 36] => some (.req (isD f) (.ret (D (2 * V f))))
  | _ => none
def e35 : Entry := fun vs => match vs with
  | [.rows [.int .i64 f] 36, .rows [.int .i64 g] 36] => some (.req (isD f ∧ isD g) (.ret (.b (decide (V f < V g)))))
  | _ => none
def e36 : Entry := fun vs => match vs with
  | [.rows [.int .i64 f] 36, .rows [.int .i64 g] 36] => some (.req (isD f ∧ isD g) (.ret (D (V f - V g))))
  | _ => none
theorem e33_ok : EntryOK Try.prog (33, e33) := fun vs r h => by
  dsimp only [e33] at h
  split at h
  · cases h; exact .inl ⟨_, rfl, p33⟩
  · exact nomatch h
theorem e34_ok : EntryOK Try.prog (34, e34) := fun vs r h => by
  dsimp only [e34] at h
  split at h
  · cases h; exact .inr ⟨_, _, rfl, fun h => p34 h⟩
  · exact nomatch h
theorem e35_ok : EntryOK Try.prog (35, e35) := fun vs r h => by
  dsimp only [e35] at h
  split at h
  · cases h; exact .inr ⟨_, _, rfl, fun h => p35 h.1 h.2⟩
  · exact nomatch h
theorem e36_ok : EntryOK Try.prog (36, e36) := fun vs r h => by
  dsimp only [e36] at h
  split at h
  · cases h; exact .inr ⟨_, _, rfl, fun h => p36 h.1 h.2⟩
  · exact nomatch h
abbrev T28 : Tab := [(33, e33), (34, e34), (35, e35), (36, e36)]
theorem t28_ok : ∀ x ∈ T28, EntryOK Try.prog x := by
  intro x hx
  simp only [List.mem_cons, List.not_mem_nil, or_false] at hx
  rcases hx with rfl | rfl | rfl | rfl
  · exact e33_ok
  · exact e34_ok
  · exact e35_ok
  · exact e36_ok

/-- The table of L, 2 L, 4 L .. -/
def tab (k : Nat) : Nat → Int := fun q => if q < 36 * k then dig 256 (2 ^ (q / 36) * order) (q % 36) else 0
theorem tab_at {k i q : Nat} (hi : i < k) (hq : q < 36) : tab k (q + i * 36) = dig 256 (2 ^ i * order) q := by
  unfold tab
  rw [if_pos (by omega), show (q + i * 36) / 36 = i by omega, show (q + i * 36) % 36 = q by omega]
theorem V_tab {k i : Nat} (hi : i < k) (hk : k ≤ 10) : (V fun q => tab k (q + i * 36)) = 2 ^ i * order := by
  have : (V fun q => tab k (q + i * 36)) = V (dig 256 (2 ^ i * order)) := sm_congr fun q hq => tab_at hi hq
  rw [this, V_dig]
  have hp : (2 : Int) ^ i ≤ 2 ^ 9 := by
    have : (2 : Nat) ^ i ≤ 2 ^ 9 := Nat.pow_le_pow_right (by omega) (by omega)
    exact_mod_cast this
  have h0 : (0 : Int) ≤ 2 ^ i := Int.le_of_lt (Int.pow_pos (by omega))
  refine Int.emod_eq_of_lt (Int.mul_nonneg h0 (by unfold order; omega)) ?_
  have : (2 : Int) ^ i * order ≤ 2 ^ 9 * order := Int.mul_le_mul_of_nonneg_right hp (by unfold order; omega)
  have : (2 : Int) ^ 9 * order < 256 ^ 36 := by decide +kernel
  omega
theorem isD_tab {k i : Nat} (hi : i < k) : isD fun q => tab k (q + i * 36) := fun q hq => by
  show 0 ≤ tab k (q + i * 36) ∧ tab k (q + i * 36) < 256
  rw [tab_at hi hq]; exact dig_range (by omega) _ _
theorem tab_succ {k : Nat} (hk : k ≤ 10) (hk0 : 0 < k) : (fun q => if k * 36 ≤ q ∧ q < k * 36 + 36 then dig 256 (2 * V fun q => tab k (q + (k - 1) * 36)) (q - k * 36) else tab k q) = tab (k + 1) := by
  funext q
  rw [V_tab (by omega) hk]
  by_cases h : k * 36 ≤ q ∧ q < k * 36 + 36
  · rw [if_pos h]
    have e := tab_at (k := k + 1) (i := k) (q := q - k * 36) (by omega) (by omega)
    rw [show q - k * 36 + k * 36 = q by omega] at e
    rw [e, show (2 : Int) * (2 ^ (k - 1) * order) = 2 ^ k * order by
      obtain ⟨j, rfl⟩ := Nat.exists_eq_succ_of_ne_zero (by omega : k ≠ 0)
      rw [Nat.succ_sub_one, Nat.succ_eq_add_one, Int.pow_succ]; grind]
  · rw [if_neg h]
    unfold tab
    by_cases h2 : q < 36 * k
    · rw [if_pos h2, if_pos (by omega)]
    · rw [if_neg h2, if_neg (by omega)]

def C28a : Cut := ⟨[1, 2, 3, 4], [([1], 0), ([2], 1), ([3], 2)], 8⟩
def C28b : Cut := ⟨[1, 2, 3, 5], [([1], 0), ([2], 1), ([3], 2)], 8⟩
def view28 (i : Int) (f r l : Nat → Int) : View := ([.p 0 0 0, .p 1 0 0, .p 2 0 0, .i .i64 i], [(0, rw f), (1, rw r), (2, .rows [.int .i64 l] 360 false)])
def spec28a : Sx.Spec := fun x => match x with
  | ([.p 0 0 0, .p 1 0 0, .p 2 0 0, .v (.int .i64 i)], [(0, .rows [.int .i64 f] 36 false), (1, .rows [.int .i64 r] 36 false), (2, .rows [.int .i64 l] 360 false)]) =>
    some (.req (i = 1 ∧ l = tab 1) (.ret (.exit 0, view28 10 f r (tab 10))))
  | _ => none
/-- What is left when so much has been taken off as often as it goes. -/
def left (f : Nat → Int) (n : Int) : Nat → Int := if V f < n then f else dig 256 (V f % n)
def spec28b : Sx.Spec := fun x => match x with
  | ([.p 0 0 0, .p 1 0 0, .p 2 0 0, .v (.int .i64 i)], [(0, .rows [.int .i64 f] 36 false), (1, .rows [.int .i64 r] 36 false), (2, .rows [.int .i64 l] 360 false)]) =>
    some (.req (i = 9 ∧ l = tab 10 ∧ isD f ∧ V f < 1024 * order) (.ret (.exit 2, view28 (-1) (left f order) r (tab 10))))
  | _ => none
def L28a : LoopC := ⟨4, C28a, spec28a⟩
def L28b : LoopC := ⟨8, C28b, spec28b⟩
noncomputable abbrev E28 : Env := envL Try.prog T28 Try.f28.ntmps [9, 15, 18, 20, 25, 28, 31] 0 RT [L28a, L28b]
abbrev ix10 {α : Type} (i : Int) (k : R α) : R α := .req (0 ≤ i ∧ i < 10) (.req (i.toNat * 36 + 36 ≤ 360) k)
theorem round28a (i : Int) (f r l : Nat → Int) : round E28 C28a (loopAt Try.f28 0) (view28 i f r l) =
    .br (decide (i < 10)) (ix10 (w64 (i - 1)) (.req (isD fun q => l (q + (w64 (i - 1)).toNat * 36)) (ix10 i (.ret (.normal, view28 (w64 (i + 1)) f r
      (fun q => if i.toNat * 36 ≤ q ∧ q < i.toNat * 36 + 36 then dig 256 (2 * V fun q => l (q + (w64 (i - 1)).toNat * 36)) (q - i.toNat * 36) else l q))))))
      (.ret (.exit 0, view28 i f r l)) := by kernel_rfl
theorem round28b (i : Int) (f r l : Nat → Int) : round E28 C28b (loopAt Try.f28 1) (view28 i f r l) =
    .br (decide (i ≥ 0)) (.req (36 ≤ 36) (ix10 i (.req (isD f ∧ isD fun q => l (q + i.toNat * 36)) (.br (!decide (V f < V fun q => l (q + i.toNat * 36)))
      (.req (36 ≤ 36) (ix10 i (.req (isD f ∧ isD fun q => l (q + i.toNat * 36)) (.req (0 = 0) (.ret (.normal, view28 (w64 (i - 1)) (dig 256 (V f - V fun q => l (q + i.toNat * 36))) r l))))))
      (.ret (.normal, view28 (w64 (i - 1)) f r l))))))
      (.ret (.exit 2, view28 i f r l)) := by kernel_rfl

theorem loop28a : LoopCOK E28 L28a (loopAt Try.f28 0) := by
  intro x r Q hx hr
  simp only [L28a, spec28a] at hx
  split at hx
  · rename_i i f r l
    cases hx
    obtain ⟨⟨rfl, rfl⟩, hQ⟩ := hr
    refine ⟨10, ?_⟩
    refine rounds_for (step := round E28 C28a (loopAt Try.f28 0)) (Q := Q) (fun i => view28 ((i : Int) + 1) f r (tab (i + 1))) 9 0 (fun i _ hi K hK => ?_) ?_
    · rw [round28a]
      refine ⟨fun _ => ?_, fun h => by simp at h; omega⟩
      have w1 : w64 ((i : Int) + 1 - 1) = i := by rw [show (i : Int) + 1 - 1 = i by omega]; exact wrap64 (by omega) (by omega)
      have w2 : w64 ((i : Int) + 1 + 1) = (i : Int) + 1 + 1 := wrap64 (by omega) (by omega)
      have hti : ((i : Int)).toNat = i := by omega
      have hti' : ((i : Int) + 1).toNat = i + 1 := by omega
      simp only [w1, w2, hti, hti']
      refine ⟨by omega, by omega, isD_tab (by omega), by omega, by omega, ?_⟩
      have := tab_succ (k := i + 1) (by omega) (by omega)
      rw [show i + 1 - 1 = i by omega] at this
      rw [this]
      exact hK
    · rw [round28a]
      exact ⟨fun h => by simp at h, fun _ => hQ⟩
  · exact nomatch hx

theorem isD_left {f : Nat → Int} (hf : isD f) (n : Int) : isD (left f n) := by
  unfold left
  split
  · exact hf
  · exact isD_dig _
theorem V_left {f : Nat → Int} (hf : isD f) {n : Int} (hn : 0 < n) : V (left f n) = V f % n := by
  obtain ⟨h1, h2⟩ := V_range hf
  unfold left
  split
  · rename_i h; rw [Int.emod_eq_of_lt h1 h]
  · rename_i h
    rw [V_dig]
    have h3 := Int.emod_nonneg (V f) (show n ≠ 0 by omega)
    have h4 := Int.emod_lt_of_pos (V f) hn
    exact Int.emod_eq_of_lt h3 (by omega)
theorem emod_half {a n : Int} (hn : 0 < n) : a % n = if a % (2 * n) < n then a % (2 * n) else a % (2 * n) - n := by
  have h1 := Int.emod_add_mul_ediv a (2 * n)
  have h3 := Int.emod_nonneg a (show 2 * n ≠ 0 by omega)
  have h4 := Int.emod_lt_of_pos a (show 0 < 2 * n by omega)
  split
  · have e : a % n = (a % (2 * n)) % n := (Int.emod_emod_of_dvd a ⟨2, by omega⟩).symm
    rw [e]; exact Int.emod_eq_of_lt h3 (by omega)
  · have e : a % n = (a % (2 * n)) % n := (Int.emod_emod_of_dvd a ⟨2, by omega⟩).symm
    rw [e]
    have : a % (2 * n) % n = (a % (2 * n) - n) % n := by rw [Int.sub_emod_right]
    rw [this]; exact Int.emod_eq_of_lt (by omega) (by omega)
theorem left_half {f : Nat → Int} (hf : isD f) {n : Int} (hn : 0 < n) :
    (V f % (2 * n) < n → left f n = left f (2 * n)) ∧ (¬ V f % (2 * n) < n → left f n = dig 256 (V f % (2 * n) - n)) := by
  obtain ⟨h1, h2⟩ := V_range hf
  have e := emod_half (a := V f) hn
  refine ⟨fun h => ?_, fun h => ?_⟩
  · rw [if_pos h] at e
    unfold left
    by_cases hv : V f < n
    · rw [if_pos hv, if_pos (by omega)]
    · rw [if_neg hv, if_neg, e]
      intro h5
      rw [Int.emod_eq_of_lt h1 h5] at h; exact hv h
  · rw [if_neg h] at e
    unfold left
    rw [if_neg, e]
    intro h5
    rw [Int.emod_eq_of_lt h1 (by omega)] at h; exact h h5

theorem loop28b : LoopCOK E28 L28b (loopAt Try.f28 1) := by
  intro x r Q hx hr
  simp only [L28b, spec28b] at hx
  split at hx
  · rename_i i f r l
    cases hx
    obtain ⟨⟨rfl, rfl, hf, hV⟩, hQ⟩ := hr
    refine ⟨11, ?_⟩
    have key := rounds_for (step := round E28 C28b (loopAt Try.f28 1)) (Q := Q) (fun j => view28 (9 - (j : Int)) (left f (2 ^ (10 - j) * order)) r (tab 10)) 10 0 (fun j _ hj K hK => ?_) ?_
    · have : left f (2 ^ (10 - 0) * order) = f := by
        unfold left; rw [if_pos]; exact hV
      rw [this] at key
      exact key
    · rw [round28b]
      refine ⟨fun _ => ?_, fun h => by simp at h; omega⟩
      obtain ⟨i, hi⟩ : ∃ i, i = 9 - j := ⟨_, rfl⟩
      have hij : 9 - (j : Int) = i := by omega
      have hti : ((i : Int)).toNat = i := by omega
      have w2 : w64 ((i : Int) - 1) = (i : Int) - 1 := wrap64 (by omega) (by omega)
      have hn : (0 : Int) < 2 ^ i * order := Int.mul_pos (Int.pow_pos (by omega)) (by unfold order; omega)
      have h2n : (2 : Int) ^ (10 - j) * order = 2 * (2 ^ i * order) := by
        rw [show 10 - j = i + 1 by omega, Int.pow_succ]; grind
      have hK2 : 9 - ((j + 1 : Nat) : Int) = (i : Int) - 1 := by omega
      have hK3 : 10 - (j + 1) = i := by omega
      rw [hK2, hK3] at hK
      simp only [hij, h2n, hti, w2, V_tab (k := 10) (i := i) (by omega) (by omega), V_left hf (n := 2 * (2 ^ i * order)) (by omega)]
      obtain ⟨g1, g2⟩ := left_half hf hn
      have hd := isD_left hf (2 * (2 ^ i * order))
      refine ⟨by omega, by omega, by omega, ⟨hd, isD_tab (by omega)⟩, fun h => ⟨by omega, by omega, by omega, ⟨hd, isD_tab (by omega)⟩, trivial, ?_⟩, fun h => ?_⟩
      · have h : ¬ V f % (2 * (2 ^ i * order)) < 2 ^ i * order := by simpa using h
        rw [g2 h] at hK; exact hK
      · have h : V f % (2 * (2 ^ i * order)) < 2 ^ i * order := by simpa using h
        rw [g1 h] at hK; exact hK
    · rw [round28b]
      refine ⟨fun h => by simp at h, fun _ => ?_⟩
      have : (2 : Int) ^ (10 - (0 + 10)) * order = order := by simp
      rw [this]
      exact hQ
  · exact nomatch hx

theorem tab_one : (fun q => if 0 ≤ q ∧ q < 0 + 36 then dig 256 order (q - 0) else 0) = tab 1 := by
  funext q
  unfold tab
  by_cases h : q < 36
  · rw [if_pos (by omega), if_pos (by omega), show q / 36 = 0 by omega, show q % 36 = q by omega]; simp
  · rw [if_neg (by omega), if_neg (by omega)]
theorem val28 (f : Nat → Int) : evalVal E28 Try.f28 [.rows [.int .i64 f] 36] =
    .req (0 + 36 ≤ 360) (.req (1 = (1 : Int) ∧ (fun q => if 0 ≤ q ∧ q < 0 + 36 then dig 256 order (q - 0) else 0) = tab 1) (.req (9 = (9 : Int) ∧ tab 10 = tab 10 ∧ isD f ∧ V f < 1024 * order) (.req (36 ≤ 36) (.req (0 = 0) (.ret (.rows [.int .i64 (left f order)] 36)))))) := by kernel_rfl
theorem p28 {f : Nat → Int} (hf : isD f) (hV : V f < 1024 * order) : PureOK Try.prog 28 [.rows [.int .i64 f] 36] (D (V f % order)) := by
  have hl : ∀ q, q < 36 → left f order q = dig 256 (V f % order) q := fun q hq => by
    have ho : (0 : Int) < order := by unfold order; omega
    rw [← V_left hf ho]
    exact (dig_sm (by omega) (isD_left hf order) hq).symm
  refine PureOK.rows_congr (g := left f order) ?_ hl
  refine pure_of_envL mixed (t := T28) t28_ok (fn := Try.f28) (by kernel_rfl) (by kernel_rfl) rfl [9, 15, 18, 20, 25, 28, 31] RT [L28a, L28b]
    (told_two (by kernel_rfl) (by kernel_rfl) (by kernel_rfl) (by decide) loop28a loop28b) ⟨trivial, trivial⟩ trivial ?_
  rw [val28]
  exact ⟨by omega, ⟨rfl, tab_one⟩, ⟨rfl, rfl, hf, hV⟩, by omega, rfl, rfl⟩
end Go.Sc
