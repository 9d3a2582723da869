/- Numbers modulo p, the program: contracts. -/
import Derived.Test.YtbfmneknabhlcaaFldM
import Derived.Test.YtbfmneknabhlcaaSxY
import Derived.Shelf.Spec.BitsCarry
import Derived.Test.YtbfmneknabhlcaaProg
set_option linter.unusedVariables false
open Go Go.Sx Go.Fld Go.Proofs
namespace Go.Fc
theorem mixed : Try.prog.follows .mixedOrders = true := by kernel_rfl
abbrev L51 : Int := 2251799813685248
theorem find51 : Extern.find Try.f51 = some add64Entry := by kernel_rfl
theorem p51 {x y c : Int} (hx : 0 ≤ x) (hy : 0 ≤ y) (h0 : 0 ≤ c) (h1 : c ≤ 1) : PureOK Try.prog 51 [.i .u64 x, .i .u64 y, .i .u64 c] (add64X x y c) := by
  refine pure_of_extern ⟨trivial, trivial, trivial⟩ fun ρ w => ?_
  rw [run_callFunc_extern (fn := Try.f51) (by kernel_rfl) (by kernel_rfl) (by kernel_rfl) (by kernel_rfl) find51]
  have := run_add64 (P := Try.prog) x y c hx hy h0 h1 w
  simp only [concL, conc] at *
  rw [show (#[Value.int .u64 x, Value.int .u64 y, Value.int .u64 c] : Array Value) = [Value.int .u64 x, Value.int .u64 y, Value.int .u64 c].toArray from rfl] at this
  rw [this]
  obtain ⟨X, rfl⟩ := Int.eq_ofNat_of_zero_le hx
  obtain ⟨Y, rfl⟩ := Int.eq_ofNat_of_zero_le hy
  obtain ⟨C, rfl⟩ := Int.eq_ofNat_of_zero_le h0
  simp [Result.andThen, add64X, conc, concL]
def e51 : Entry := fun vs => match vs with
  | [.v (.int .u64 x), .v (.int .u64 y), .v (.int .u64 c)] => some (.req (0 ≤ x ∧ 0 ≤ y ∧ 0 ≤ c ∧ c ≤ 1) (.ret (add64X x y c)))
  | _ => none
theorem e51_ok : EntryOK Try.prog (51, e51) := fun vs r h => by
  dsimp only [e51] at h
  split at h
  · cases h; exact .inr ⟨_, _, rfl, fun h => p51 h.1 h.2.1 h.2.2.1 h.2.2.2⟩
  · exact nomatch h
theorem t50 (x y : Int) : evalVal (env Try.prog [] Try.f50.ntmps []) Try.f50 [.i .u64 x, .i .u64 y] = .ret (mul64X x y) := by kernel_rfl
theorem p50 (x y : Int) : PureOK Try.prog 50 [.i .u64 x, .i .u64 y] (mul64X x y) := by
  refine pure_of_env mixed (t := []) (fun x h => nomatch h) (fn := Try.f50) (by kernel_rfl) (by kernel_rfl) rfl [] ⟨trivial, trivial, trivial⟩ ⟨trivial, trivial, trivial⟩ ?_
  rw [t50]; rfl
def e50 : Entry := fun vs => match vs with
  | [.v (.int .u64 x), .v (.int .u64 y)] => some (.ret (mul64X x y))
  | _ => none
theorem e50_ok : EntryOK Try.prog (50, e50) := fun vs r h => by
  dsimp only [e50] at h
  split at h
  · cases h; exact .inl ⟨_, rfl, p50 _ _⟩
  · exact nomatch h
def plusT' (h l a b : Int) : R AV :=
  .req (0 ≤ l ∧ 0 ≤ mw a b ∧ 0 ≤ (0 : Int) ∧ (0 : Int) ≤ 1) (.req (0 ≤ h ∧ 0 ≤ mul64H a b ∧ 0 ≤ ((((l.toNat + (mw a b).toNat + (0 : Int).toNat) / 18446744073709551616 : Nat) : Int)) ∧ ((((l.toNat + (mw a b).toNat + (0 : Int).toNat) / 18446744073709551616 : Nat) : Int)) ≤ 1)
    (.ret (.a [.i .u64 (((h.toNat + (mul64H a b).toNat + ((((l.toNat + (mw a b).toNat + (0 : Int).toNat) / 18446744073709551616 : Nat) : Int)).toNat) % 18446744073709551616 : Nat) : Int),
      .i .u64 (((l.toNat + (mw a b).toNat + (0 : Int).toNat) % 18446744073709551616 : Nat) : Int)])))
theorem t45 (h l x y : Int) : evalVal (env Try.prog [(50, e50), (51, e51)] Try.f45.ntmps []) Try.f45 [.a [.i .u64 h, .i .u64 l], .i .u64 x, .i .u64 y] = plusT' h l x y := by kernel_rfl
theorem p45 {h l a b : Int} (hh : rng h) (hl : rng l) (ha : rng a) (hb : rng b) : PureOK Try.prog 45 [.a [.i .u64 h, .i .u64 l], .i .u64 a, .i .u64 b] (wideAV ((h * 18446744073709551616 + l + a * b) % 340282366920938463463374607431768211456)) := by
  refine pure_of_env mixed (t := [(50, e50), (51, e51)]) (all_cons e50_ok (all_cons e51_ok all_nil)) (fn := Try.f45) (by kernel_rfl) (by kernel_rfl) rfl [] ⟨⟨trivial, trivial, trivial⟩, trivial, trivial, trivial⟩ ⟨trivial, trivial, trivial⟩ ?_
  rw [t45]
  have k := plusT_holds hh hl ha hb
  have h1 := mul64H_eq ha hb
  have h2 := mw_eq a b
  have hp := mul_bound ha.1 (Int.le_sub_one_of_lt ha.2) hb.1 (Int.le_sub_one_of_lt hb.2)
  obtain ⟨k1, k2, k3⟩ := k
  refine ⟨⟨hl.1, ?_, by decide, by decide⟩, ⟨hh.1, ?_, by omega, ?_⟩, k3⟩
  · rw [h2]; omega
  · rw [h1]; omega
  · omega
def e45 : Entry := fun vs => match vs with
  | [w, .v (.int .u64 x), .v (.int .u64 y)] => (match w with
    | .a [.v (.int .u64 h), .v (.int .u64 l)] => some (plusR w x y)
    | _ => none)
  | _ => none
theorem e45_ok : EntryOK Try.prog (45, e45) := fun vs r h => by
  dsimp only [e45] at h
  split at h
  · split at h
    · cases h; exact .inr ⟨_, _, rfl, fun h => p45 h.1 h.2.1 h.2.2.1 h.2.2.2⟩
    · exact nomatch h
  · exact nomatch h
theorem t47 (h l : Int) : evalVal (env Try.prog [] Try.f47.ntmps []) Try.f47 [.a [.i .u64 h, .i .u64 l]] = .ret (.i .u64 (aboveX h l)) := by kernel_rfl
theorem p47 (h l : Int) : PureOK Try.prog 47 [.a [.i .u64 h, .i .u64 l]] (.i .u64 (aboveX h l)) := by
  refine pure_of_env mixed (t := []) (fun x h => nomatch h) (fn := Try.f47) (by kernel_rfl) (by kernel_rfl) rfl [] ⟨⟨trivial, trivial, trivial⟩, trivial⟩ trivial ?_
  rw [t47]; rfl
def e47 : Entry := fun vs => match vs with
  | [.a [.v (.int .u64 h), .v (.int .u64 l)]] => some (.ret (.i .u64 (aboveX h l)))
  | _ => none
theorem e47_ok : EntryOK Try.prog (47, e47) := fun vs r h => by
  dsimp only [e47] at h
  split at h
  · cases h; exact .inl ⟨_, rfl, p47 _ _⟩
  · exact nomatch h
theorem all5 : ∀ (l : L5), l.av.all NoIds := fun l => ⟨trivial, trivial, trivial, trivial, trivial, trivial⟩
theorem t46 (d : L5) : evalVal (env Try.prog [] Try.f46.ntmps [81,85,90,97]) Try.f46 [d.av] = carriedT d := by kernel_rfl
theorem p46 (d : L5) : PureOK Try.prog 46 [d.av] (carriedX d).av := by
  refine pure_of_env mixed (t := []) (fun x h => nomatch h) (fn := Try.f46) (by kernel_rfl) (by kernel_rfl) rfl [81,85,90,97] ⟨all5 _, trivial⟩ (all5 _) ?_
  rw [t46]; exact carriedT_holds d
def e46 : Entry := fun vs => match vs with
  | [.a [.v (.int .u64 a), .v (.int .u64 b), .v (.int .u64 c), .v (.int .u64 d), .v (.int .u64 e)]] => some (.ret (carriedX ⟨a, b, c, d, e⟩).av)
  | _ => none
theorem e46_ok : EntryOK Try.prog (46, e46) := fun vs r h => by
  dsimp only [e46] at h
  split at h
  · rename_i a b c d e
    cases h; exact .inl ⟨_, rfl, p46 ⟨a, b, c, d, e⟩⟩
  · exact nomatch h
def prm : L5 := ⟨2251799813685229, 2251799813685247, 2251799813685247, 2251799813685247, 2251799813685247⟩
theorem t36 : evalVal (env Try.prog [] Try.f36.ntmps []) Try.f36 [] = .ret prm.av := by kernel_rfl
theorem p36 : PureOK Try.prog 36 [] prm.av := by
  refine pure_of_env mixed (t := []) (fun x h => nomatch h) (fn := Try.f36) (by kernel_rfl) (by kernel_rfl) rfl [] trivial (all5 _) ?_
  rw [t36]; rfl
def e36 : Entry := fun vs => match vs with
  | [] => some (.ret prm.av)
  | _ => none
theorem e36_ok : EntryOK Try.prog (36, e36) := fun vs r h => by
  dsimp only [e36] at h
  split at h
  · cases h; exact .inl ⟨_, rfl, p36⟩
  · exact nomatch h
/-! ### sums, products -/
abbrev FE (n : Int) : AV := (E n).av
theorem t29 (x y : L5) : evalVal (env Try.prog [(46, e46)] Try.f29.ntmps []) Try.f29 [x.av, y.av] = .ret (addL x y).av := by kernel_rfl
theorem p29 {x y : L5} (hx : x.lt L51) (hy : y.lt L51) : PureOK Try.prog 29 [x.av, y.av] (FE (x.val + y.val)) := by
  refine pure_of_env mixed (t := [(46, e46)]) (all_cons e46_ok all_nil) (fn := Try.f29) (by kernel_rfl) (by kernel_rfl) rfl [] ⟨all5 _, all5 _, trivial⟩ (all5 _) ?_
  rw [t29, addL_spec hx hy]; rfl
theorem t31 (x y : L5) : evalVal (env Try.prog [(46, e46), (36, e36)] Try.f31.ntmps []) Try.f31 [x.av, y.av] = .ret (subL x y).av := by kernel_rfl
theorem p31 {x y : L5} (hx : x.lt L51) (hy : y.lt L51) : PureOK Try.prog 31 [x.av, y.av] (FE (x.val - y.val)) := by
  refine pure_of_env mixed (t := [(46, e46), (36, e36)]) (all_cons e46_ok (all_cons e36_ok all_nil)) (fn := Try.f31) (by kernel_rfl) (by kernel_rfl) rfl [] ⟨all5 _, all5 _, trivial⟩ (all5 _) ?_
  rw [t31, subL_spec hx hy]; rfl
theorem t28 (x : L5) : evalVal (env Try.prog [(46, e46), (36, e36)] Try.f28.ntmps []) Try.f28 [x.av] = .ret (negL x).av := by kernel_rfl
theorem p28 {x : L5} (hx : x.lt L51) : PureOK Try.prog 28 [x.av] (FE (-x.val)) := by
  refine pure_of_env mixed (t := [(46, e46), (36, e36)]) (all_cons e46_ok (all_cons e36_ok all_nil)) (fn := Try.f28) (by kernel_rfl) (by kernel_rfl) rfl [] ⟨all5 _, trivial⟩ (all5 _) ?_
  rw [t28, negL_spec hx]; rfl
theorem t27 (x y : L5) : evalVal (env Try.prog [(46, e46), (45, e45), (47, e47)] Try.f27.ntmps []) Try.f27 [x.av, y.av] = mulT x y := by kernel_rfl
theorem p27 {x y : L5} (hx : x.lt L51) (hy : y.lt L51) : PureOK Try.prog 27 [x.av, y.av] (FE (x.val * y.val)) := by
  refine pure_of_env mixed (t := [(46, e46), (45, e45), (47, e47)]) (all_cons e46_ok (all_cons e45_ok (all_cons e47_ok all_nil))) (fn := Try.f27) (by kernel_rfl) (by kernel_rfl) rfl [] ⟨all5 _, all5 _, trivial⟩ (all5 _) ?_
  rw [t27]; exact mulT_holds hx hy
def l5 : AV → Option L5
  | .a [.v (.int .u64 a), .v (.int .u64 b), .v (.int .u64 c), .v (.int .u64 d), .v (.int .u64 e)] => some ⟨a, b, c, d, e⟩
  | _ => none
theorem l5_av {v : AV} {l : L5} (h : l5 v = some l) : v = l.av := by
  unfold l5 at h
  split at h
  · cases h; rfl
  · exact nomatch h
def eLL (g : Int → Int → Int) : Entry := fun vs => match vs with
  | [x, y] => (match l5 x, l5 y with
    | some x, some y => some (.req (x.lt L51 ∧ y.lt L51) (.ret (FE (g x.val y.val))))
    | _, _ => none)
  | _ => none
theorem eLL_ok {f : Nat} {g : Int → Int → Int} (h : ∀ {x y : L5}, x.lt L51 → y.lt L51 → PureOK Try.prog f [x.av, y.av] (FE (g x.val y.val))) : EntryOK Try.prog (f, eLL g) := fun vs r hr => by
  dsimp only [eLL] at hr
  split at hr
  · split at hr
    · rename_i h1 h2
      cases hr
      rw [l5_av h1, l5_av h2]
      exact .inr ⟨_, _, rfl, fun k => h k.1 k.2⟩
    · exact nomatch hr
  · exact nomatch hr
def eL (g : Int → AV) : Entry := fun vs => match vs with
  | [x] => (match l5 x with
    | some x => some (.req (x.lt L51) (.ret (g x.val)))
    | _ => none)
  | _ => none
theorem eL_ok {f : Nat} {g : Int → AV} (h : ∀ {x : L5}, x.lt L51 → PureOK Try.prog f [x.av] (g x.val)) : EntryOK Try.prog (f, eL g) := fun vs r hr => by
  dsimp only [eL] at hr
  split at hr
  · split at hr
    · rename_i h1
      cases hr
      rw [l5_av h1]
      exact .inr ⟨_, _, rfl, fun k => h k⟩
    · exact nomatch hr
  · exact nomatch hr
abbrev TF : Tab := [(29, eLL (· + ·)), (31, eLL (· - ·)), (27, eLL (· * ·)), (28, eL fun n => FE (-n))]
theorem tf_ok : ∀ x ∈ TF, EntryOK Try.prog x := all_cons (eLL_ok p29) (all_cons (eLL_ok p31) (all_cons (eLL_ok p27) (all_cons (eL_ok p28) all_nil)))
end Go.Fc
