/- Numbers modulo p, the program: powers, the inverse. -/
import Derived.Test.YtbfmneknabhlcaaFldC
import Derived.Test.YtbfmneknabhlcaaSxWa
set_option linter.unusedVariables false
open Go Go.Sx Go.Fld Go.Proofs
namespace Go.Fc
noncomputable def M49 : Nat → MTab
  | 0 => []
  | k + 1 => [(49, (fun np => envM Try.prog TF (M49 k) Try.f49.ntmps [] np []), Try.f49, [1])]
theorem m49_ok : ∀ k, MTabOK Try.prog (M49 k)
  | 0 => mtab_nil
  | k + 1 => mtab_cons (mok_env mixed tf_ok (m49_ok k) (f := 49) (by kernel_rfl) (by kernel_rfl) [] []) mtab_nil
noncomputable def MI : MTab := (41, (fun np => envM Try.prog TF [] Try.f41.ntmps [] np []), Try.f41, []) :: (40, (fun np => envM Try.prog TF [] Try.f40.ntmps [] np []), Try.f40, []) :: M49 12
theorem mi_ok : MTabOK Try.prog MI :=
  mtab_cons (mok_env mixed tf_ok mtab_nil (f := 41) (by kernel_rfl) (by kernel_rfl) [] []) (mtab_cons (mok_env mixed tf_ok mtab_nil (f := 40) (by kernel_rfl) (by kernel_rfl) [] []) (m49_ok 12))
def mulE (v w : AV) : R AV := match l5 v, l5 w with
  | some x, some y => .req (x.lt L51 ∧ y.lt L51) (.ret (FE (x.val * y.val)))
  | _, _ => .bad "mul"
def sqE : Nat → AV → R AV
  | 0, v => .ret v
  | n + 1, v => (mulE v v).bind (sqE n)
def findN (n : Nat) : List (Nat × AV) → Option AV
  | [] => none
  | (m, v) :: l => cond (Nat.beq m n) (some v) (findN n l)
def powE : Nat → Nat → List (Nat × AV) → R (AV × List (Nat × AV))
  | 0, _, _ => .bad "fuel"
  | f + 1, n, known => match findN n known with
    | some v => .ret (v, known)
    | none => (powE f (n - n / 2) known).bind fun x => (sqE (n / 2) x.1).bind fun y => (powE f (n / 2) x.2).bind fun z => (mulE y z.1).bind fun r => .ret (r, z.2 ++ [(n, r)])
def invE (a : AV) : R AV := (powE 12 250 [(1, a)]).bind fun x => (sqE 2 x.1).bind fun y => (mulE y a).bind fun z => (sqE 3 z).bind fun u => (powE 12 2 x.2).bind fun t => mulE u t.1
set_option maxRecDepth 100000 in
theorem t24 (x : L5) : evalVal (envM Try.prog TF MI Try.f24.ntmps [] 0 []) Try.f24 [x.av] = invE x.av := by kernel_rfl
end Go.Fc
