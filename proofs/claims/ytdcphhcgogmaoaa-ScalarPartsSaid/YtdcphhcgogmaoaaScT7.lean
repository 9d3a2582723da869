/- Scalars, the program: clamped. -/
import Derived.Test.YtdcphhcgogmaoaaScT6
set_option linter.unusedVariables false
set_option maxRecDepth 10000
open Go Go.Sx Go.Proofs Go.Dg
namespace Go.Sc
def l32 (c0 c1 c2 c3 c4 c5 c6 c7 c8 c9 c10 c11 c12 c13 c14 c15 c16 c17 c18 c19 c20 c21 c22 c23 c24 c25 c26 c27 c28 c29 c30 c31 : UInt8) : List UInt8 := [c0, c1, c2, c3, c4, c5, c6, c7, c8, c9, c10, c11, c12, c13, c14, c15, c16, c17, c18, c19, c20, c21, c22, c23, c24, c25, c26, c27, c28, c29, c30, c31]
def elseOf {α : Type} : R α → R α
  | .br _ _ e => e
  | r => r
theorem val21 (s : List UInt8) : evalVal (envL Try.prog [] Try.f21.ntmps [6] 0 RW []) Try.f21 [.str s] =
    .br ((s.length : Int) != 32) (.ret (.str [])) (elseOf (evalVal (envL Try.prog [] Try.f21.ntmps [6] 0 RW []) Try.f21 [.str s])) := by kernel_rfl
def byt (c : UInt8) : UInt8 := UInt8.ofNat ((c.toNat : Int)).toNat
def cl0 (n : Nat) : UInt8 := UInt8.ofNat (iAnd .u8 n 248).toNat
def cl1 (n : Nat) : UInt8 := UInt8.ofNat (iOr .u8 (iAnd .u8 n 127) 64).toNat
theorem val21' (c0 c1 c2 c3 c4 c5 c6 c7 c8 c9 c10 c11 c12 c13 c14 c15 c16 c17 c18 c19 c20 c21 c22 c23 c24 c25 c26 c27 c28 c29 c30 c31 : UInt8) : elseOf (evalVal (envL Try.prog [] Try.f21.ntmps [6] 0 RW []) Try.f21 [.str (l32 c0 c1 c2 c3 c4 c5 c6 c7 c8 c9 c10 c11 c12 c13 c14 c15 c16 c17 c18 c19 c20 c21 c22 c23 c24 c25 c26 c27 c28 c29 c30 c31)]) =
    .any 32 fun _ => .ret (.str (cl0 c0.toNat :: ([c1, c2, c3, c4, c5, c6, c7, c8, c9, c10, c11, c12, c13, c14, c15, c16, c17, c18, c19, c20, c21, c22, c23, c24, c25, c26, c27, c28, c29, c30].map byt ++ [cl1 c31.toNat]))) := by kernel_rfl
theorem byt_eq (c : UInt8) : byt c = c := by simp [byt]
theorem cl_all : ∀ n, n < 256 → cl0 n = UInt8.ofNat (IntKind.u8.wrap (IntKind.u8.wrap ((n : Int).tdiv 8) * 8)).toNat ∧ cl1 n = UInt8.ofNat (IntKind.u8.wrap ((n : Int).tmod 64 + 64)).toNat := by decide +kernel
theorem clampMid_l32 (c0 c1 c2 c3 c4 c5 c6 c7 c8 c9 c10 c11 c12 c13 c14 c15 c16 c17 c18 c19 c20 c21 c22 c23 c24 c25 c26 c27 c28 c29 c30 c31 : UInt8) : clampMid (l32 c0 c1 c2 c3 c4 c5 c6 c7 c8 c9 c10 c11 c12 c13 c14 c15 c16 c17 c18 c19 c20 c21 c22 c23 c24 c25 c26 c27 c28 c29 c30 c31) = cl0 c0.toNat :: ([c1, c2, c3, c4, c5, c6, c7, c8, c9, c10, c11, c12, c13, c14, c15, c16, c17, c18, c19, c20, c21, c22, c23, c24, c25, c26, c27, c28, c29, c30].map byt ++ [cl1 c31.toNat]) := by
  have h : [c1, c2, c3, c4, c5, c6, c7, c8, c9, c10, c11, c12, c13, c14, c15, c16, c17, c18, c19, c20, c21, c22, c23, c24, c25, c26, c27, c28, c29, c30].map byt = [c1, c2, c3, c4, c5, c6, c7, c8, c9, c10, c11, c12, c13, c14, c15, c16, c17, c18, c19, c20, c21, c22, c23, c24, c25, c26, c27, c28, c29, c30] := by
    rw [show byt = id from funext byt_eq, List.map_id]
  rw [h, (cl_all c0.toNat c0.toNat_lt).1, (cl_all c31.toNat c31.toNat_lt).2]
  rfl
theorem len_succ {α : Type} {s : List α} {n : Nat} (h : s.length = n + 1) : ∃ c s', s = c :: s' ∧ s'.length = n := by
  cases s with
  | nil => simp at h
  | cons c s => exact ⟨c, s, rfl, by simpa using h⟩
theorem of_32 {p : List UInt8 → Prop} (hp : ∀ c0 c1 c2 c3 c4 c5 c6 c7 c8 c9 c10 c11 c12 c13 c14 c15 c16 c17 c18 c19 c20 c21 c22 c23 c24 c25 c26 c27 c28 c29 c30 c31, p (l32 c0 c1 c2 c3 c4 c5 c6 c7 c8 c9 c10 c11 c12 c13 c14 c15 c16 c17 c18 c19 c20 c21 c22 c23 c24 c25 c26 c27 c28 c29 c30 c31)) {s : List UInt8} (h : s.length = 32) : p s := by
  obtain ⟨c0, s0, rfl, h0⟩ := len_succ h
  obtain ⟨c1, s1, rfl, h1⟩ := len_succ h0
  obtain ⟨c2, s2, rfl, h2⟩ := len_succ h1
  obtain ⟨c3, s3, rfl, h3⟩ := len_succ h2
  obtain ⟨c4, s4, rfl, h4⟩ := len_succ h3
  obtain ⟨c5, s5, rfl, h5⟩ := len_succ h4
  obtain ⟨c6, s6, rfl, h6⟩ := len_succ h5
  obtain ⟨c7, s7, rfl, h7⟩ := len_succ h6
  obtain ⟨c8, s8, rfl, h8⟩ := len_succ h7
  obtain ⟨c9, s9, rfl, h9⟩ := len_succ h8
  obtain ⟨c10, s10, rfl, h10⟩ := len_succ h9
  obtain ⟨c11, s11, rfl, h11⟩ := len_succ h10
  obtain ⟨c12, s12, rfl, h12⟩ := len_succ h11
  obtain ⟨c13, s13, rfl, h13⟩ := len_succ h12
  obtain ⟨c14, s14, rfl, h14⟩ := len_succ h13
  obtain ⟨c15, s15, rfl, h15⟩ := len_succ h14
  obtain ⟨c16, s16, rfl, h16⟩ := len_succ h15
  obtain ⟨c17, s17, rfl, h17⟩ := len_succ h16
  obtain ⟨c18, s18, rfl, h18⟩ := len_succ h17
  obtain ⟨c19, s19, rfl, h19⟩ := len_succ h18
  obtain ⟨c20, s20, rfl, h20⟩ := len_succ h19
  obtain ⟨c21, s21, rfl, h21⟩ := len_succ h20
  obtain ⟨c22, s22, rfl, h22⟩ := len_succ h21
  obtain ⟨c23, s23, rfl, h23⟩ := len_succ h22
  obtain ⟨c24, s24, rfl, h24⟩ := len_succ h23
  obtain ⟨c25, s25, rfl, h25⟩ := len_succ h24
  obtain ⟨c26, s26, rfl, h26⟩ := len_succ h25
  obtain ⟨c27, s27, rfl, h27⟩ := len_succ h26
  obtain ⟨c28, s28, rfl, h28⟩ := len_succ h27
  obtain ⟨c29, s29, rfl, h29⟩ := len_succ h28
  obtain ⟨c30, s30, rfl, h30⟩ := len_succ h29
  obtain ⟨c31, s31, rfl, h31⟩ := len_succ h30
  have : s31 = [] := List.length_eq_zero_iff.1 h31
  subst this
  exact hp c0 c1 c2 c3 c4 c5 c6 c7 c8 c9 c10 c11 c12 c13 c14 c15 c16 c17 c18 c19 c20 c21 c22 c23 c24 c25 c26 c27 c28 c29 c30 c31
theorem any_holds (L : List UInt8) : (R.any 32 fun _ => .ret (.str L) : R AV).holds (· = .str L) := fun _ _ => rfl
structure OkC (s : List UInt8) : Prop where
  h : (elseOf (evalVal (envL Try.prog [] Try.f21.ntmps [6] 0 RW []) Try.f21 [.str s])).holds (· = .str (clampMid s))
theorem clamp_holds (c0 c1 c2 c3 c4 c5 c6 c7 c8 c9 c10 c11 c12 c13 c14 c15 c16 c17 c18 c19 c20 c21 c22 c23 c24 c25 c26 c27 c28 c29 c30 c31 : UInt8) : OkC (l32 c0 c1 c2 c3 c4 c5 c6 c7 c8 c9 c10 c11 c12 c13 c14 c15 c16 c17 c18 c19 c20 c21 c22 c23 c24 c25 c26 c27 c28 c29 c30 c31) := by
  refine ⟨?_⟩
  rw [val21', clampMid_l32]
  exact any_holds _
theorem okC_all {s : List UInt8} (h : s.length = 32) : OkC s := of_32 (p := OkC) clamp_holds h
theorem p21 (s : List UInt8) : PureOK Try.prog 21 [.str s] (.str (clamp s)) := by
  refine pure_of_envL mixed (t := []) (fun x h => nomatch h) (fn := Try.f21) (by kernel_rfl) (by kernel_rfl) rfl [6] RW [] told_none ⟨trivial, trivial⟩ trivial ?_
  rw [val21]
  refine ⟨fun h => ?_, fun h => ?_⟩
  · have : ¬ s.length = 32 := by intro e; simp [e] at h
    simp [R.holds, clamp, this]
  · have hl : s.length = 32 := by simp only [bne_eq_false_iff_eq] at h; omega
    have e : clamp s = clampMid s := by simp [clamp, hl]
    rw [e]
    exact (okC_all hl).h
end Go.Sc
