/- Scalars: entries of all that the laws call; small, order, works. -/
import Derived.Test.YtdcphhcgogmaoaaScT7
import Derived.Test.YtdcphhcgogmaoaaSxY
set_option linter.unusedVariables false
open Go Go.Sx Go.Proofs Go.Dg
namespace Go.Sc
def eSS (g : List UInt8 → List UInt8 → List UInt8) : Entry := fun vs => match vs with
  | [.str a, .str b] => some (.ret (.str (g a b)))
  | _ => none
def eS (g : List UInt8 → List UInt8) : Entry := fun vs => match vs with
  | [.str a] => some (.ret (.str (g a)))
  | _ => none
def eSB (g : List UInt8 → Bool) : Entry := fun vs => match vs with
  | [.str a] => some (.ret (.b (g a)))
  | _ => none
theorem eSS_ok {f : Nat} {g : List UInt8 → List UInt8 → List UInt8} (h : ∀ a b, PureOK Try.prog f [.str a, .str b] (.str (g a b))) : EntryOK Try.prog (f, eSS g) := fun vs r hr => by
  dsimp only [eSS] at hr
  split at hr
  · cases hr; exact .inl ⟨_, rfl, h _ _⟩
  · exact nomatch hr
theorem eS_ok {f : Nat} {g : List UInt8 → List UInt8} (h : ∀ a, PureOK Try.prog f [.str a] (.str (g a))) : EntryOK Try.prog (f, eS g) := fun vs r hr => by
  dsimp only [eS] at hr
  split at hr
  · cases hr; exact .inl ⟨_, rfl, h _⟩
  · exact nomatch hr
theorem eSB_ok {f : Nat} {g : List UInt8 → Bool} (h : ∀ a, PureOK Try.prog f [.str a] (.b (g a))) : EntryOK Try.prog (f, eSB g) := fun vs r hr => by
  dsimp only [eSB] at hr
  split at hr
  · cases hr; exact .inl ⟨_, rfl, h _⟩
  · exact nomatch hr
def addT (a b : List UInt8) : List UInt8 := txt ((num a + num b) % order)
def mulT (a b : List UInt8) : List UInt8 := txt (num a * num b % order)
def redT (a : List UInt8) : List UInt8 := txt (num a)
def zs (n : Nat) : List UInt8 := List.replicate n 0
theorem val16 (c : Int) : evalVal (envL Try.prog [] Try.f16.ntmps [] 0 RT []) Try.f16 [.i .u8 c] = .ret (.str (UInt8.ofNat c.toNat :: zs 31)) := by kernel_rfl
theorem p16 (c : Int) : PureOK Try.prog 16 [.i .u8 c] (.str (UInt8.ofNat c.toNat :: zs 31)) := by
  refine pure_of_envL mixed (t := []) (fun x h => nomatch h) (fn := Try.f16) (by kernel_rfl) (by kernel_rfl) rfl [] RT [] told_none ⟨trivial, trivial⟩ trivial ?_
  rw [val16]; rfl
def e16 : Entry := fun vs => match vs with
  | [.v (.int .u8 c)] => some (.ret (.str (UInt8.ofNat c.toNat :: zs 31)))
  | _ => none
theorem e16_ok : EntryOK Try.prog (16, e16) := fun vs r hr => by
  dsimp only [e16] at hr
  split at hr
  · cases hr; exact .inl ⟨_, rfl, p16 _⟩
  · exact nomatch hr
def orderT : List UInt8 := [237, 211, 245, 92, 26, 99, 18, 88, 214, 156, 247, 162, 222, 249, 222, 20] ++ zs 15 ++ [16]
theorem val18 : evalVal (envL Try.prog [] Try.f18.ntmps [] 0 RT []) Try.f18 [] = .ret (.str orderT) := by kernel_rfl
theorem p18 : PureOK Try.prog 18 [] (.str orderT) := by
  refine pure_of_envL mixed (t := []) (fun x h => nomatch h) (fn := Try.f18) (by kernel_rfl) (by kernel_rfl) rfl [] RT [] told_none trivial trivial ?_
  rw [val18]; rfl
def e0 (v : AV) : Entry := fun vs => match vs with
  | [] => some (.ret v)
  | _ => none
theorem e0_ok {f : Nat} {v : AV} (h : PureOK Try.prog f [] v) : EntryOK Try.prog (f, e0 v) := fun vs r hr => by
  dsimp only [e0] at hr
  split at hr
  · cases hr; exact .inl ⟨_, rfl, h⟩
  · exact nomatch hr
abbrev TA : Tab := [(10, eSS addT), (11, eSS addT), (13, eSS mulT), (14, eSS mulT), (15, eS redT), (19, eS redT), (17, eSB check), (20, eSB check), (21, eS clamp), (22, eS clamp), (16, e16), (18, e0 (.str orderT))]
theorem ta_ok : ∀ x ∈ TA, EntryOK Try.prog x :=
  all_cons (eSS_ok p10) (all_cons (eSS_ok p11) (all_cons (eSS_ok p13) (all_cons (eSS_ok p14) (all_cons (eS_ok p15) (all_cons (eS_ok p19) (all_cons (eSB_ok p17) (all_cons (eSB_ok p20) (all_cons (eS_ok p21) (all_cons (eS_ok p22) (all_cons e16_ok (all_cons (e0_ok p18) all_nil)))))))))))
theorem val12 : evalVal (envL Try.prog TA Try.f12.ntmps [] 0 RT []) Try.f12 [] = .ret (.b true) := by kernel_rfl
theorem p12 : PureOK Try.prog 12 [] (.b true) := by
  refine pure_of_envL mixed (t := TA) ta_ok (fn := Try.f12) (by kernel_rfl) (by kernel_rfl) rfl [] RT [] told_none trivial trivial ?_
  rw [val12]; rfl
abbrev TL : Tab := (12, e0 (.b true)) :: TA
theorem tl_ok : ∀ x ∈ TL, EntryOK Try.prog x := all_cons (e0_ok p12) ta_ok
end Go.Sc
