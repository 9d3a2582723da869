/- Numbers modulo p: the examples; bytes there and back. -/
import Derived.Test.YtbfmneknabhlcaaFldL
set_option linter.unusedVariables false
set_option linter.unusedSimpArgs false
set_option maxRecDepth 100000
open Go Go.Sx Go.Fld Go.Proofs Go.Dg
namespace Go.Fc
def endsL (a b : Int) : List UInt8 := UInt8.ofNat a.toNat :: (List.replicate 30 255 ++ [UInt8.ofNat b.toNat])
theorem v35 (a b : Int) : evalVal (env Try.prog [] Try.f35.ntmps []) Try.f35 [.i .u8 a, .i .u8 b] = .ret (.str (endsL a b)) := by kernel_rfl
theorem p35 (a b : Int) : PureOK Try.prog 35 [.i .u8 a, .i .u8 b] (.str (endsL a b)) := by
  refine pure_of_env mixed (t := []) (fun x h => nomatch h) (fn := Try.f35) (by kernel_rfl) (by kernel_rfl) rfl [] ⟨trivial, trivial, trivial⟩ trivial ?_
  rw [v35]; rfl
def eEnds : Entry := fun vs => match vs with
  | [.v (.int .u8 a), .v (.int .u8 b)] => some (.ret (.str (endsL a b)))
  | _ => none
theorem eEnds_ok : EntryOK Try.prog (35, eEnds) := fun vs r h => by
  dsimp only [eEnds] at h
  split at h
  · cases h; exact .inl ⟨_, rfl, p35 _ _⟩
  · exact nomatch h
abbrev TK : Tab := (35, eEnds) :: TLaw
theorem tk_ok : ∀ x ∈ TK, EntryOK Try.prog x := all_cons eEnds_ok tlaw_ok
theorem v10  : must (evalVal (envL Try.prog TK Try.f10.ntmps [56, 60, 63, 68, 72, 76, 84, 90, 93, 98, 101, 107, 110, 115, 122] 0 [] []) Try.f10 []) =
    (((0 : Int) ≤ (1 : Int) ∧ (1 : Int) < (4294967296 : Int)) ∧
    ((E (1 : Int)).lt L51) ∧
    ((0 : Int) ≤ (0 : Int) ∧ (0 : Int) < (4294967296 : Int)) ∧
    (E (0 : Int) = E (E (0 : Int)).val) ∧
    ((0 : Int) ≤ (9 : Int) ∧ (9 : Int) < (4294967296 : Int)) ∧
    (E (9 : Int) = E (E (9 : Int)).val) ∧
    (E (-(E (1 : Int)).val) = E (E (-(E (1 : Int)).val)).val) ∧
    (true = true) ∧
    ((!isEl (endsL (237 : Int) (127 : Int))) = true) ∧
    (isEl (endsL (236 : Int) (127 : Int)) = true) ∧
    ((E (if isEl (endsL (236 : Int) (127 : Int)) = true then leI (endsL (236 : Int) (127 : Int)) else (0 : Int))).lt L51 ∧
    (E (-(E (1 : Int)).val)).lt L51) ∧
    (decide
    ((E (if isEl (endsL (236 : Int) (127 : Int)) = true then leI (endsL (236 : Int) (127 : Int)) else (0 : Int))).val =
      (E (-(E (1 : Int)).val)).val) =
  true) ∧
    ((!isEl
      [UInt8.ofNat (Int.toNat (0 : Int)), UInt8.ofNat (Int.toNat (0 : Int)), UInt8.ofNat (Int.toNat (0 : Int)),
        UInt8.ofNat (Int.toNat (0 : Int)), UInt8.ofNat (Int.toNat (0 : Int)), UInt8.ofNat (Int.toNat (0 : Int)),
        UInt8.ofNat (Int.toNat (0 : Int)), UInt8.ofNat (Int.toNat (0 : Int)), UInt8.ofNat (Int.toNat (0 : Int)),
        UInt8.ofNat (Int.toNat (0 : Int)), UInt8.ofNat (Int.toNat (0 : Int)), UInt8.ofNat (Int.toNat (0 : Int)),
        UInt8.ofNat (Int.toNat (0 : Int)), UInt8.ofNat (Int.toNat (0 : Int)), UInt8.ofNat (Int.toNat (0 : Int)),
        UInt8.ofNat (Int.toNat (0 : Int)), UInt8.ofNat (Int.toNat (0 : Int)), UInt8.ofNat (Int.toNat (0 : Int)),
        UInt8.ofNat (Int.toNat (0 : Int)), UInt8.ofNat (Int.toNat (0 : Int)), UInt8.ofNat (Int.toNat (0 : Int)),
        UInt8.ofNat (Int.toNat (0 : Int)), UInt8.ofNat (Int.toNat (0 : Int)), UInt8.ofNat (Int.toNat (0 : Int)),
        UInt8.ofNat (Int.toNat (0 : Int)), UInt8.ofNat (Int.toNat (0 : Int)), UInt8.ofNat (Int.toNat (0 : Int)),
        UInt8.ofNat (Int.toNat (0 : Int)), UInt8.ofNat (Int.toNat (0 : Int)), UInt8.ofNat (Int.toNat (0 : Int)),
        UInt8.ofNat (Int.toNat (0 : Int))]) =
  true) ∧
    ((!isEl (endsL (236 : Int) (255 : Int))) = true) ∧
    ((0 : Int) ≤ (3 : Int) ∧ (3 : Int) < (4294967296 : Int)) ∧
    ((0 : Int) ≤ (5 : Int) ∧ (5 : Int) < (4294967296 : Int)) ∧
    ((E (3 : Int)).lt L51 ∧ (E (5 : Int)).lt L51) ∧
    ((0 : Int) ≤ (2 : Int) ∧ (2 : Int) < (4294967296 : Int)) ∧
    ((E (2 : Int)).lt L51) ∧
    ((E ((E (3 : Int)).val - (E (5 : Int)).val)).lt L51 ∧ (E (-(E (2 : Int)).val)).lt L51) ∧
    (decide ((E ((E (3 : Int)).val - (E (5 : Int)).val)).val = (E (-(E (2 : Int)).val)).val) = true) ∧
    ((0 : Int) ≤ (0 : Int) ∧ (0 : Int) < (4294967296 : Int)) ∧
    (E (0 : Int) = E (E (0 : Int)).val) ∧
    ((0 : Int) ≤ (0 : Int) ∧ (0 : Int) < (4294967296 : Int)) ∧
    ((E (pw (E (0 : Int)).val (pN - (2 : Nat)))).lt L51 ∧ (E (0 : Int)).lt L51) ∧
    (decide ((E (pw (E (0 : Int)).val (pN - (2 : Nat)))).val = (E (0 : Int)).val) = true) ∧
    (hasR (E (0 : Int)).val = true) ∧
    ((E (rootV (E (0 : Int)).val)).lt L51 ∧ (L5.mk (0 : Int) (0 : Int) (0 : Int) (0 : Int) (0 : Int)).lt L51) ∧
    (decide ((E (rootV (E (0 : Int)).val)).val = (L5.mk (0 : Int) (0 : Int) (0 : Int) (0 : Int) (0 : Int)).val) = true) ∧
    (hasR (E (9 : Int)).val = true) ∧
    ((0 : Int) ≤ (3 : Int) ∧ (3 : Int) < (4294967296 : Int)) ∧
    ((E (3 : Int)).lt L51) ∧
    ((E (rootV (E (9 : Int)).val)).lt L51 ∧ (E (-(E (3 : Int)).val)).lt L51) ∧
    (decide ((E (rootV (E (9 : Int)).val)).val = (E (-(E (3 : Int)).val)).val) = true) ∧
    (hasR (E (-(E (1 : Int)).val)).val = true) ∧
    ((E (rootV (E (-(E (1 : Int)).val)).val)).lt L51) ∧
    ((txt (E (rootV (E (-(E (1 : Int)).val)).val)).val ==
    (ByteArray.mk
          #[(176 : UInt8), (160 : UInt8), (14 : UInt8), (74 : UInt8), (39 : UInt8), (27 : UInt8), (238 : UInt8),
            (196 : UInt8), (120 : UInt8), (228 : UInt8), (47 : UInt8), (173 : UInt8), (6 : UInt8), (24 : UInt8),
            (67 : UInt8), (47 : UInt8), (167 : UInt8), (215 : UInt8), (251 : UInt8), (61 : UInt8), (153 : UInt8),
            (0 : UInt8), (77 : UInt8), (43 : UInt8), (11 : UInt8), (223 : UInt8), (193 : UInt8), (79 : UInt8),
            (128 : UInt8), (36 : UInt8), (131 : UInt8), (43 : UInt8)]).data.toList) =
  true) ∧
    ((L5.mk (0 : Int) (0 : Int) (0 : Int) (0 : Int) (0 : Int)).lt L51) ∧
    ((txt (L5.mk (0 : Int) (0 : Int) (0 : Int) (0 : Int) (0 : Int)).val ==
    [UInt8.ofNat (Int.toNat (0 : Int)), UInt8.ofNat (Int.toNat (0 : Int)), UInt8.ofNat (Int.toNat (0 : Int)),
      UInt8.ofNat (Int.toNat (0 : Int)), UInt8.ofNat (Int.toNat (0 : Int)), UInt8.ofNat (Int.toNat (0 : Int)),
      UInt8.ofNat (Int.toNat (0 : Int)), UInt8.ofNat (Int.toNat (0 : Int)), UInt8.ofNat (Int.toNat (0 : Int)),
      UInt8.ofNat (Int.toNat (0 : Int)), UInt8.ofNat (Int.toNat (0 : Int)), UInt8.ofNat (Int.toNat (0 : Int)),
      UInt8.ofNat (Int.toNat (0 : Int)), UInt8.ofNat (Int.toNat (0 : Int)), UInt8.ofNat (Int.toNat (0 : Int)),
      UInt8.ofNat (Int.toNat (0 : Int)), UInt8.ofNat (Int.toNat (0 : Int)), UInt8.ofNat (Int.toNat (0 : Int)),
      UInt8.ofNat (Int.toNat (0 : Int)), UInt8.ofNat (Int.toNat (0 : Int)), UInt8.ofNat (Int.toNat (0 : Int)),
      UInt8.ofNat (Int.toNat (0 : Int)), UInt8.ofNat (Int.toNat (0 : Int)), UInt8.ofNat (Int.toNat (0 : Int)),
      UInt8.ofNat (Int.toNat (0 : Int)), UInt8.ofNat (Int.toNat (0 : Int)), UInt8.ofNat (Int.toNat (0 : Int)),
      UInt8.ofNat (Int.toNat (0 : Int)), UInt8.ofNat (Int.toNat (0 : Int)), UInt8.ofNat (Int.toNat (0 : Int)),
      UInt8.ofNat (Int.toNat (0 : Int)), UInt8.ofNat (Int.toNat (0 : Int))]) =
  true) ∧
    ((0 : Int) ≤ (4294967295 : Int) ∧ (4294967295 : Int) < (4294967296 : Int)) ∧
    ((0 : Int) ≤ (1 : Int) ∧ (1 : Int) < (4294967296 : Int)) ∧
    ((E (4294967295 : Int)).lt L51 ∧ (E (1 : Int)).lt L51) ∧
    ((E ((E (4294967295 : Int)).val + (E (1 : Int)).val)).lt L51) ∧
    ((txt (E ((E (4294967295 : Int)).val + (E (1 : Int)).val)).val ==
    (ByteArray.mk #[(0 : UInt8), (0 : UInt8), (0 : UInt8), (0 : UInt8), (1 : UInt8)]).data.toList ++
      [UInt8.ofNat (Int.toNat (0 : Int)), UInt8.ofNat (Int.toNat (0 : Int)), UInt8.ofNat (Int.toNat (0 : Int)),
        UInt8.ofNat (Int.toNat (0 : Int)), UInt8.ofNat (Int.toNat (0 : Int)), UInt8.ofNat (Int.toNat (0 : Int)),
        UInt8.ofNat (Int.toNat (0 : Int)), UInt8.ofNat (Int.toNat (0 : Int)), UInt8.ofNat (Int.toNat (0 : Int)),
        UInt8.ofNat (Int.toNat (0 : Int)), UInt8.ofNat (Int.toNat (0 : Int)), UInt8.ofNat (Int.toNat (0 : Int)),
        UInt8.ofNat (Int.toNat (0 : Int)), UInt8.ofNat (Int.toNat (0 : Int)), UInt8.ofNat (Int.toNat (0 : Int)),
        UInt8.ofNat (Int.toNat (0 : Int)), UInt8.ofNat (Int.toNat (0 : Int)), UInt8.ofNat (Int.toNat (0 : Int)),
        UInt8.ofNat (Int.toNat (0 : Int)), UInt8.ofNat (Int.toNat (0 : Int)), UInt8.ofNat (Int.toNat (0 : Int)),
        UInt8.ofNat (Int.toNat (0 : Int)), UInt8.ofNat (Int.toNat (0 : Int)), UInt8.ofNat (Int.toNat (0 : Int)),
        UInt8.ofNat (Int.toNat (0 : Int)), UInt8.ofNat (Int.toNat (0 : Int)), UInt8.ofNat (Int.toNat (0 : Int))]) =
  true)) := by kernel_rfl
theorem pS10 : PureOK Try.prog 10 [] (.b true) := by
  refine pure_of_must mixed tk_ok (fn := Try.f10) (by kernel_rfl) (by kernel_rfl) rfl [56, 60, 63, 68, 72, 76, 84, 90, 93, 98, 101, 107, 110, 115, 122] [] [] told_none trivial ?_
  rw [v10]
  simp only [ltT, true_and, and_true]
  and_intros
  all_goals first | decide +kernel | exact canE _
theorem v6 (s : List UInt8) (f : Nat → Int) : must (evalVal (envL Try.prog TLaw Try.f6.ntmps [11, 22, 28, 33, 41, 48, 46] 0 [40] []) Try.f6 [.str s, X32 f]) =
    (((!true) = false) ∧
    ((0 : Nat) +
    (envL Try.prog TLaw Try.f6.ntmps
              [(11 : Nat), (22 : Nat), (28 : Nat), (33 : Nat), (41 : Nat), (48 : Nat), (46 : Nat)] (0 : Nat)
              [(40 : Nat)] []).P.types[(40 : Nat)].size ≤
  (envL Try.prog TLaw Try.f6.ntmps [(11 : Nat), (22 : Nat), (28 : Nat), (33 : Nat), (41 : Nat), (48 : Nat), (46 : Nat)]
            (0 : Nat) [(40 : Nat)] []).P.types[(40 : Nat)].size) ∧
    (isB fun q => f (q + (0 : Nat))) ∧
    ((E (anyF fun q => f (q + (0 : Nat)))).lt L51) ∧
    ((!isEl (txt (E (anyF fun q => f (q + (0 : Nat)))).val)) = false) ∧
    ((E (anyF fun q => f (q + (0 : Nat)))).lt L51 ∧
    (E
        (if isEl (txt (E (anyF fun q => f (q + (0 : Nat)))).val) = true then
          leI (txt (E (anyF fun q => f (q + (0 : Nat)))).val)
        else (0 : Int))).lt
    L51) ∧
    ((!decide
      ((E (anyF fun q => f (q + (0 : Nat)))).val =
        (E
            (if isEl (txt (E (anyF fun q => f (q + (0 : Nat)))).val) = true then
              leI (txt (E (anyF fun q => f (q + (0 : Nat)))).val)
            else (0 : Int))).val)) =
  false) ∧
    ((E (anyF fun q => f (q + (0 : Nat)))).lt L51) ∧
    ((↑(txt (E (anyF fun q => f (q + (0 : Nat)))).val).length != (32 : Int)) = false) ∧
    ((!isEl s) = true →
  ((0 : Int) ≤ (0 : Int) ∧ (0 : Int) < (4294967296 : Int)) ∧
    ((E (if isEl s = true then leI s else (0 : Int))).lt L51 ∧ (E (0 : Int)).lt L51) ∧
    (decide ((E (if isEl s = true then leI s else (0 : Int))).val = (E (0 : Int)).val) = true → true = true) ∧
    (decide ((E (if isEl s = true then leI s else (0 : Int))).val = (E (0 : Int)).val) = false →
          isEl s = true ∧
    (E (if isEl s = true then leI s else (0 : Int))).lt L51 ∧
    (txt (E (if isEl s = true then leI s else (0 : Int))).val == s) = true)) ∧
    ((!isEl s) = false →
  isEl s = true ∧
    (E (if isEl s = true then leI s else (0 : Int))).lt L51 ∧
    (txt (E (if isEl s = true then leI s else (0 : Int))).val == s) = true)) := by kernel_rfl
theorem txt_length (n : Int) : (txt n).length = 32 := by simp [txt]
theorem byt_txt (n : Int) {q : Nat} (hq : q < 32) : byt (txt n) q = dig 256 n q := by
  unfold byt txt
  rw [List.getD_eq_getElem?_getD]
  simp [hq]
  have := dig_range (b := 256) (by decide) n q
  have h := ofNat_byte this.1 this.2
  simpa using h
theorem leI_txt {n : Int} (h0 : 0 ≤ n) (h1 : n < 256 ^ 32) : leI (txt n) = n := by
  unfold leI
  rw [sm_congr (u := dig 256 n) fun q hq => byt_txt n hq, sm_dig (by decide)]
  exact Int.emod_eq_of_lt h0 h1
theorem p_lt32 : p < 256 ^ 32 := by decide
theorem isEl_txt {n : Int} (h0 : 0 ≤ n) (h1 : n < p) : isEl (txt n) = true := by
  have := p_lt32
  unfold isEl
  rw [txt_length, leI_txt h0 (by omega)]
  simp [h1]
theorem txt_leI {s : List UInt8} (h : s.length = 32) : txt (leI s) = s := by
  apply List.ext_getElem?
  intro q
  by_cases hq : q < 32
  · have hd := leI_dig s hq
    have h2 : dig 256 (leI s) q = byt s q := hd
    simp [txt, hq, h2, byt]
    rw [List.getElem?_eq_getElem (by omega)]
    simp
  · rw [List.getElem?_eq_none (by rw [txt_length]; omega), List.getElem?_eq_none (by omega)]
theorem E_range (n : Int) : 0 ≤ (E n).val ∧ (E n).val < p := by
  rw [E_val]
  exact ⟨Int.emod_nonneg _ (by decide), Int.emod_lt_of_pos _ p_pos⟩
theorem pS6 (s : List UInt8) {f : Nat → Int} (hf : isB f) : PureOK Try.prog 6 [.str s, X32 f] (.b true) := by
  refine pure_of_must mixed tlaw_ok (fn := Try.f6) (by kernel_rfl) (by kernel_rfl) rfl [11, 22, 28, 33, 41, 48, 46] [40] [] told_none ⟨trivial, trivial, trivial⟩ ?_
  rw [v6]
  simp only [Nat.add_zero]
  obtain ⟨r0, r1⟩ := E_range (anyF f)
  have h32 := p_lt32
  rw [isEl_txt r0 r1, leI_txt r0 (by omega), txt_length]
  simp only [ltT, true_and, and_true, if_true, ← canE]
  and_intros
  any_goals first | exact hf | decide
  · intro h
    have h : isEl s = false := by simpa using h
    simp [h]
  · intro h
    have h : isEl s = true := by simpa using h
    have hs := h
    unfold isEl at hs
    simp only [Bool.and_eq_true, decide_eq_true_eq] at hs
    have hr := leI_range s
    simp only [h, if_true, true_and, E_val]
    rw [Int.emod_eq_of_lt hr.1 hs.2, txt_leI hs.1]
    simp
end Go.Fc
