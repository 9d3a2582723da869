/- Scalars, the program: the parts of times and of the iterator; one round. -/
import Derived.Test.YtdcphhcgogmaoaaSxV
import Derived.Test.YtdcphhcgogmaoaaSxX
import Derived.Test.YtdcphhcgogmaoaaScZ2
set_option linter.unusedVariables false
open Go Go.Sx Go.Proofs Go.Dg
namespace Go.Sc
noncomputable def A29 (k : Nat) : Code := match Try.f29.body with
  | some (.seq a (.seq b (.seq (.seq c (.block _ (.rangeFunc _ _ x y))) d))) => (match k with | 0 => a | 1 => b | 2 => c | 3 => x | 4 => y | _ => d)
  | _ => .skip
theorem body29 : Try.f29.body = some (.seq (A29 0) (.seq (A29 1) (.seq (.seq (A29 2) (.block 0 (.rangeFunc (.tmp 8) #[9] (A29 3) (A29 4)))) (A29 5)))) := by kernel_rfl
noncomputable def A40 (k : Nat) : Code := match Try.f40.body with
  | some (.seq a (.block _ (.loop (.seq b (.seq (.block _ (.seq c (.seq d (.block _ (.loop (.seq e (.seq (.block _ (.seq _ _)) f))))))) g))))) => (match k with | 0 => a | 1 => b | 2 => c | 3 => d | 4 => e | 5 => f | _ => g)
  | _ => .skip
noncomputable def ops7 : Array Oper := match Try.f40.body with
  | some (.seq a (.block _ (.loop (.seq b (.seq (.block _ (.seq c (.seq d (.block _ (.loop (.seq e (.seq (.block _ (.seq (.region _ o _) _)) f))))))) g))))) => o
  | _ => #[]
theorem body40 : Try.f40.body = some (.seq (A40 0) (.block 0 (.loop (.seq (A40 1) (.seq (.block 1 (.seq (A40 2) (.seq (A40 3) (.block 2 (.loop (.seq (A40 4) (.seq (.block 3 (.seq (.region 7 ops7 false) (.cond (.tmp 23) .ret .skip))) (A40 5)))))))) (A40 6)))))) := by kernel_rfl
def e24 : Entry := fun vs => match vs with
  | [.rows [.int .u64 f] 4, .rows [.int .u64 g] 4] => some (.req (isW f ∧ isW g ∧ V4 f < order ∧ V4 g < order) (.ret (W ((V4 f + V4 g) % order))))
  | _ => none
theorem e24_ok : EntryOK Try.prog (24, e24) := fun vs r h => by
  dsimp only [e24] at h
  split at h
  · cases h; exact .inr ⟨_, _, rfl, fun h => p24 h.1 h.2.1 h.2.2.1 h.2.2.2⟩
  · exact nomatch h
abbrev T29 : Tab := [(24, e24)]
theorem t29_ok : ∀ x ∈ T29, EntryOK Try.prog x := by
  intro x hx
  simp only [List.mem_cons, List.not_mem_nil, or_false] at hx
  rcases hx with rfl
  exact e24_ok
noncomputable abbrev E29 : Env := envL Try.prog T29 Try.f29.ntmps [12, 16] 4 RW []
abbrev rq (f : Nat → Int) (ro : Bool) : AObj := .rows [.int .u64 f] 4 ro
def sR (f g : Nat → Int) (b : Bool) : St := ⟨((Tr.e.set 2 (.p 0 0 0)).set 5 (.p 2 0 0)).set 9 (.v (.bool b)), (Tr.e.set 0 (rq g true)).set 2 (rq f false), 8, []⟩
def sR1 (f g : Nat → Int) (b : Bool) : St := ⟨(((Tr.e.set 2 (.p 0 0 0)).set 5 (.p 2 0 0)).set 9 (.v (.bool b))).set 6 (.v (.bool b)), (Tr.e.set 0 (rq g true)).set 2 (rq f false), 8, []⟩
theorem ev29a (f g : Nat → Int) (b : Bool) : evalCode E29 (A29 3) (sR f g b) = .ret (.normal, sR1 f g b) := by kernel_rfl
def zeroW (f : Nat → Int) : Bool := f 0 == 0 && (f 1 == 0 && (f 2 == 0 && (f 3 == 0 && true)))
theorem ev29b (f g : Nat → Int) (b : Bool) : ((evalCode E29 (A29 4) (sR1 f g b)).bind fun x => .ret (x.1, x.2.mem.get 2)) =
    .req (4 ≤ 4) (.br (!zeroW f)
      (.req (4 ≤ 4) (.req (4 ≤ 4) (.req (isW f ∧ isW f ∧ V4 f < order ∧ V4 f < order) (.req (0 = 0) (.br b
        (.req (4 ≤ 4) (.req (4 ≤ 4) (.req (isW (dig B64 ((V4 f + V4 f) % order)) ∧ isW g ∧ V4 (dig B64 ((V4 f + V4 f) % order)) < order ∧ V4 g < order) (.req (0 = 0)
          (.ret (.normal, some (rq (dig B64 ((V4 (dig B64 ((V4 f + V4 f) % order)) + V4 g) % order)) false)))))))
        (.ret (.normal, some (rq (dig B64 ((V4 f + V4 f) % order)) false))))))))
      (.br b
        (.req (4 ≤ 4) (.req (4 ≤ 4) (.req (isW f ∧ isW g ∧ V4 f < order ∧ V4 g < order) (.req (0 = 0)
          (.ret (.normal, some (rq (dig B64 ((V4 f + V4 g) % order)) false)))))))
        (.ret (.normal, some (rq f false))))) := by kernel_rfl
theorem order_ltB : order < B64 ^ 4 := by decide +kernel
theorem V4_dmod (n : Int) : V4 (dig B64 (n % order)) = n % order := by
  rw [V4_dig]
  have h1 := Int.emod_nonneg n (show order ≠ 0 by decide)
  have h2 := Int.emod_lt_of_pos n (show 0 < order by decide)
  have := order_ltB
  exact Int.emod_eq_of_lt h1 (by omega)
theorem zeroW_V4 {f : Nat → Int} (hf : isW f) : zeroW f = true ↔ V4 f = 0 := by
  have h0 := hf 0 (by omega)
  have h1 := hf 1 (by omega)
  have h2 := hf 2 (by omega)
  have h3 := hf 3 (by omega)
  simp only [B64] at h0 h1 h2 h3
  simp only [zeroW, V4, sm, B64, Bool.and_true, Bool.and_eq_true, beq_iff_eq]
  omega
/-- What a bit makes of a number. -/
def bitStep (X Y : Int) (b : Bool) : Int := (2 * X + (if b then Y else 0)) % order
theorem holds29 {f g : Nat → Int} {b : Bool} (hf : isW f) (hg : isW g) (h1 : V4 f < order) (h2 : V4 g < order) :
    (evalCode E29 (A29 4) (sR1 f g b)).holds fun x => x.1 = .normal ∧ ∃ f', x.2.mem.get 2 = some (rq f' false) ∧ isW f' ∧ V4 f' = bitStep (V4 f) (V4 g) b := by
  have key : ((evalCode E29 (A29 4) (sR1 f g b)).bind fun x => .ret (x.1, x.2.mem.get 2)).holds fun x => x.1 = .normal ∧ ∃ f', x.2 = some (rq f' false) ∧ isW f' ∧ V4 f' = bitStep (V4 f) (V4 g) b := by
    obtain ⟨f0, f1⟩ := V4_range hf
    obtain ⟨g0, g1⟩ := V4_range hg
    rw [ev29b]
    refine ⟨by omega, fun hz => ?_, fun hz => ?_⟩
    · refine ⟨by omega, by omega, ⟨hf, hf, h1, h1⟩, rfl, fun hb => ?_, fun hb => ?_⟩
      · subst hb
        refine ⟨by omega, by omega, ⟨isW_dig _, hg, by rw [V4_dmod]; exact Int.emod_lt_of_pos _ (by decide), h2⟩, rfl, rfl, _, rfl, isW_dig _, ?_⟩
        rw [V4_dmod, V4_dmod, bitStep, if_pos rfl, Int.emod_add_emod]
        congr 1; omega
      · subst hb
        refine ⟨rfl, _, rfl, isW_dig _, ?_⟩
        rw [V4_dmod, bitStep]
        congr 1; simp; omega
    · have hz' : V4 f = 0 := (zeroW_V4 hf).1 (by simpa using hz)
      refine ⟨fun hb => ?_, fun hb => ?_⟩
      · subst hb
        refine ⟨by omega, by omega, ⟨hf, hg, h1, h2⟩, rfl, rfl, _, rfl, isW_dig _, ?_⟩
        rw [V4_dmod, bitStep, if_pos rfl]
        congr 1; omega
      · subst hb
        refine ⟨rfl, _, rfl, hf, ?_⟩
        rw [bitStep, hz']; simp
  rw [R.holds_bind] at key
  exact key
end Go.Sc
