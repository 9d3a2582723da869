/- Numbers modulo p: the number of 32 bytes whose highest bit counts for nothing. -/
import Derived.Test.YtbfmneknabhlcaaFldW
set_option linter.unusedVariables false
set_option linter.unusedSimpArgs false
open Go Go.Sx Go.Fld Go.Proofs Go.Dg
namespace Go.Fc
abbrev X32 (f : Nat → Int) : AV := .rows [.int .u8 f] 32
def isB (f : Nat → Int) : Prop := ∀ q, q < 32 → 0 ≤ f q ∧ f q < 256
def clrL (f : Nat → Int) : List UInt8 := (List.range 31).map (fun q => UInt8.ofNat (f q).toNat) ++ [UInt8.ofNat (iAnd .u8 (f 31) 127).toNat]
def anyF (f : Nat → Int) : Int := sm 256 f 32 % 57896044618658097711785492504343953926634992332820282019728792003956564819968
def subX (f : Nat → Int) : Int := IntKind.u32.wrap (IntKind.u32.wrap (f 0) - 237)
theorem t20 (f : Nat → Int) : evalVal (env Try.prog TW Try.f20.ntmps [16]) Try.f20 [unr (X32 f)] =
    .br (!isEl (clrL f)) (.req (0 ≤ subX f ∧ subX f < 4294967296) (.ret (FE (subX f)))) (.ret (FE (if isEl (clrL f) then leI (clrL f) else 0))) := by kernel_rfl
theorem and127 {n : Int} (h0 : 0 ≤ n) (h1 : n < 256) : iAnd .u8 n 127 = n % 128 := by
  obtain ⟨k, rfl⟩ := Int.eq_ofNat_of_zero_le h0
  have := iAnd_nat8 k 127 (by omega) (by omega)
  rw [show (127 : Int) = ((127 : Nat) : Int) from rfl, this, show (127 : Nat) = 2 ^ 7 - 1 from rfl, Nat.and_two_pow_sub_one_eq_mod]
  omega
theorem ofNat_byte {n : Int} (h0 : 0 ≤ n) (h1 : n < 256) : (((UInt8.ofNat n.toNat).toNat : Nat) : Int) = n := by
  rw [UInt8.toNat_ofNat', Nat.mod_eq_of_lt (by omega)]; omega
theorem clrL_length (f : Nat → Int) : (clrL f).length = 32 := by simp [clrL]
theorem clrL_byt {f : Nat → Int} (hf : isB f) {q : Nat} (hq : q < 32) : byt (clrL f) q = if q < 31 then f q else f 31 % 128 := by
  unfold byt clrL
  rw [List.getD_eq_getElem?_getD]
  by_cases h : q < 31
  · rw [if_pos h, List.getElem?_append_left (by simp; omega)]
    simp [h]
    have := ofNat_byte (hf q hq).1 (hf q hq).2
    simpa using this
  · have : q = 31 := by omega
    subst this
    rw [if_neg h, List.getElem?_append_right (by simp)]
    have h31 := hf 31 (by omega)
    rw [and127 h31.1 h31.2]
    have := ofNat_byte (n := f 31 % 128) (by omega) (by omega)
    simpa using this
theorem leI_clr {f : Nat → Int} (hf : isB f) : leI (clrL f) = anyF f := by
  have e1 : leI (clrL f) = sm 256 (byt (clrL f)) 31 + byt (clrL f) 31 * 256 ^ 31 := rfl
  have e2 : sm 256 f 32 = sm 256 f 31 + f 31 * 256 ^ 31 := rfl
  have e3 : sm 256 (byt (clrL f)) 31 = sm 256 f 31 := sm_congr fun q hq => by rw [clrL_byt hf (by omega), if_pos hq]
  have e4 : byt (clrL f) 31 = f 31 % 128 := by rw [clrL_byt hf (by omega)]; rfl
  obtain ⟨l0, l1⟩ := sm_lt (b := 256) (t := f) (m := 31) (by decide) (fun q hq => hf q (by omega))
  have e5 : (256 : Int) ^ 31 = 452312848583266388373324160190187140051835877600158453279131187530910662656 := rfl
  obtain ⟨h0, h1⟩ := hf 31 (by omega)
  unfold anyF
  rw [e1, e2, e3, e4]
  rw [e5] at l1 ⊢
  omega
theorem anyF_range (f : Nat → Int) : 0 ≤ anyF f ∧ anyF f < 57896044618658097711785492504343953926634992332820282019728792003956564819968 := by
  unfold anyF; omega
theorem anyF_low {f : Nat → Int} (hf : isB f) : anyF f % 256 = f 0 := by
  have h := leI_dig (clrL f) (i := 0) (by omega)
  rw [Int.pow_zero, Int.ediv_one, leI_clr hf, clrL_byt hf (by omega)] at h
  exact h
theorem p20 {f : Nat → Int} (hf : isB f) : PureOK Try.prog 20 [X32 f] (FE (anyF f)) := by
  refine PureOK.args_congr0 (vs := [unr (X32 f)]) ?_ (fun ρ => by simp only [concL, conc_unr])
  refine pure_of_env mixed tw_ok (fn := Try.f20) (by kernel_rfl) (by kernel_rfl) rfl [16] ⟨?_, trivial⟩ (all5 _) ?_
  · show allL NoIds _
    rw [allL_iff]
    intro x hx
    obtain ⟨q, _, rfl⟩ := List.mem_map.1 hx
    trivial
  rw [t20]
  have hr := anyF_range f
  have hel : isEl (clrL f) = decide (anyF f < p) := by unfold isEl; rw [clrL_length, leI_clr hf]; simp
  rw [hel, leI_clr hf]
  by_cases h : anyF f < p
  · simp only [h, decide_true, Bool.not_true, if_true]
    exact ⟨fun h => (nomatch h), fun _ => rfl⟩
  · simp only [h, decide_false, Bool.not_false]
    have hl := anyF_low hf
    have h0 := hf 0 (by omega)
    unfold p at h
    have hs : subX f = anyF f - p := by
      unfold subX
      have w1 : IntKind.u32.wrap (f 0) = f 0 := by simp [IntKind.wrap, IntKind.signed, IntKind.bits]; omega
      rw [w1]
      have w2 : IntKind.u32.wrap (f 0 - 237) = (f 0 - 237) % 4294967296 := by simp [IntKind.wrap, IntKind.signed, IntKind.bits]
      rw [w2]
      unfold p
      omega
    rw [hs]
    refine ⟨fun _ => ⟨?_, ?_⟩, fun h => (nomatch h)⟩
    · unfold p; omega
    · show FE _ = FE _
      refine FE_congr ?_
      rw [Int.sub_emod_right]
def eAny : Entry := fun vs => match vs with
  | [.rows [.int .u8 f] 32] => some (.req (isB f) (.ret (FE (anyF f))))
  | _ => none
theorem eAny_ok : EntryOK Try.prog (20, eAny) := fun vs r h => by
  dsimp only [eAny] at h
  split at h
  · cases h; exact .inr ⟨_, _, rfl, p20⟩
  · exact nomatch h
abbrev TLaw : Tab := (20, eAny) :: (19, fun vs => match vs with | [] => some (.ret (.b true)) | _ => none) :: TW
theorem tlaw_ok : ∀ x ∈ TLaw, EntryOK Try.prog x := all_cons eAny_ok (all_cons (fun vs r h => by
  dsimp only at h
  split at h
  · cases h; exact .inl ⟨_, rfl, p19⟩
  · exact nomatch h) tw_ok)
end Go.Fc
