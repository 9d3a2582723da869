/- Numbers modulo p, the document's answer: the rest by p, the passes. -/
import Derived.Test.YtbfmneknabhlcaaRfB
set_option linter.unusedVariables false
open Go Go.Sx Go.Fld Go.Proofs Go.Dg
namespace Go.Rf
theorem first39 {Q : Ex × View → Prop} {f f1 f2 r : Nat → Int} (q : Q (.exit 0, view39a (ext (fold (fold (V f))) 16 f) r))
    (v0 : 0 ≤ V f) (g0 : 0 ≤ fold (V f)) (b2 : V f1 = fold (V f)) (b3 : ∀ n, ext n 16 f1 = ext n 16 f) (k2 : V f2 = fold (V f1)) (k3 : ∀ n, ext n 16 f2 = ext n 16 f1) :
    (V f < W → Q (.exit 0, view39a (ext (V f) 16 f) r)) ∧ (V f1 < W → Q (.exit 0, view39a (ext (V f1) 16 f1) r)) ∧ Q (.exit 0, view39a (ext (V f2) 16 f2) r) := by
  refine And.intro (fun h => ?_) (And.intro (fun h => ?_) ?_)
  · rw [fold_of_lt v0 h, fold_of_lt v0 h] at q; exact q
  · rw [b2] at h ⊢
    rw [b3]
    rw [fold_of_lt g0 h] at q; exact q
  · rw [k3, b3, k2, b2]; exact q
theorem run39a {Q : Ex × View → Prop} {f r : Nat → Int} (hf : isU f) (q : Q (.exit 0, view39a (ext (fold (fold (V f))) 16 f) r)) :
    (roundsV (round E39 C39a (loopAt Try.f39 0)) 3 (view39a f r)).holds Q := by
  have v := isU_V hf
  have ff := fold_one v.1 v.2
  have gg := fold_two ff.1 ff.2
  have b := bump_ok hf
  have k := bump_ok b.1
  have F := first39 q v.1 ff.1 b.2.1 b.2.2 k.2.1 k.2.2
  exact step39a 3 2 f _ rfl hf rfl F.1 fun _ => step39a 2 1 _ _ rfl b.1 rfl F.2.1 fun _ => step39a 1 0 _ _ rfl k.1 rfl (fun _ => F.2.2) fun h => absurd (by rw [k.2.1, b.2.1]; exact gg.2) h
set_option maxHeartbeats 1000000 in
theorem loop39a : LoopCOK E39 L39a (loopAt Try.f39 0) := by
  intro x r Q hx hr
  simp only [L39a, spec39a] at hx
  split at hx
  · rename_i f r
    cases hx
    obtain ⟨hf, hQ⟩ := hr
    exact ⟨3, run39a hf hQ⟩
  · exact nomatch hx

/-! ### the copy -/
theorem round39c (i : Int) (f r o : Nat → Int) : round E39 C39c (loopAt Try.f39 2) (view39c i f r o) =
    .br (decide (i < 16)) (ix i (ix i (.ret (.normal, view39c (w64 (i + 1)) f r (fun q => if q = i.toNat then w32 (f i.toNat) else o q)))))
      (.ret (.exit 4, view39c i f r o)) := by kernel_rfl
theorem loop39c : LoopCOK E39 L39c (loopAt Try.f39 2) := by
  intro x r Q hx hr
  simp only [L39c, spec39c] at hx
  split at hx
  · rename_i i f r o
    cases hx
    obtain ⟨rfl, hQ⟩ := hr
    refine ⟨17, ?_⟩
    have key := rounds_for (step := round E39 C39c (loopAt Try.f39 2)) (Q := Q) (fun i => view39c i f r (cp f i o)) 16 0 (fun i _ hi K hK => ?_) ?_
    · have e0 : cp f 0 o = o := by funext q; simp [cp]
      rw [e0] at key
      exact key
    · rw [round39c]
      refine ⟨fun _ => ?_, fun h => by simp at h; omega⟩
      have hti : ((i : Int)).toNat = i := by omega
      have w3 : w64 ((i : Int) + 1) = (i : Int) + 1 := wrap64 (by omega) (by omega)
      refine ⟨⟨by omega, by omega⟩, by omega, ⟨by omega, by omega⟩, by omega, ?_⟩
      simp only [hti, w3]
      have : (fun q => if q = i then w32 (f i) else cp f i o q) = cp f (i + 1) o := by
        funext q
        unfold cp
        by_cases h1 : q = i
        · subst h1; simp
        · by_cases h2 : q < i
          · rw [if_neg h1, if_pos h2, if_pos (by omega)]
          · rw [if_neg h1, if_neg h2, if_neg (by omega)]
      rw [this]
      exact hK
    · rw [round39c]
      exact ⟨fun h => by simp at h, fun _ => hQ⟩
  · exact nomatch hx

/-! ### less p, less p -/
theorem round39d (f r o : Nat → Int) : round E39 C39d (loopAt Try.f39 3) (view39d f r o) =
    .req (0 + 16 ≤ 16) (.req (isD o ∧ isD (dig 65536 p)) (.br (!decide (V o < V (dig 65536 p)))
      (.req (0 + 16 ≤ 16) (.req (isD o ∧ isD (dig 65536 p)) (.req (0 = 0) (.ret (.normal, view39d f r (dig 65536 (V o - V (dig 65536 p))))))))
      (.ret (.exit 6, view39d f r o)))) := by kernel_rfl
theorem V_p : V (dig 65536 p) = p := by rw [V_dig]; decide +kernel
theorem loop39d : LoopCOK E39 L39d (loopAt Try.f39 3) := by
  intro x r Q hx hr
  simp only [L39d, spec39d] at hx
  split at hx
  · rename_i f r o
    cases hx
    obtain ⟨hf, hQ⟩ := hr
    refine ⟨3, ?_⟩
    have step : ∀ (m : Nat) (o : Nat → Int), isD o → (V o < p → Q (.exit 6, view39d f r o)) →
        (¬ V o < p → (roundsV (round E39 C39d (loopAt Try.f39 3)) m (view39d f r (dig 65536 (V o - p)))).holds Q) →
        (roundsV (round E39 C39d (loopAt Try.f39 3)) (m + 1) (view39d f r o)).holds Q := by
      intro m o ho h1 h2
      rw [roundsV, R.holds_bind, round39d, V_p]
      refine ⟨by omega, ⟨ho, isD_dig p⟩, fun h => ⟨by omega, ⟨ho, isD_dig p⟩, rfl, ?_⟩, fun h => ?_⟩
      · refine h2 ?_; simpa using h
      · refine h1 ?_; simpa using h
    obtain ⟨v0, v1⟩ := V_range hf
    rw [W_pow] at v1
    have e : ∀ n : Int, 0 ≤ n → n < W → V (dig 65536 n) = n := fun n h0 h1 => by rw [V_dig, W_pow, Int.emod_eq_of_lt h0 h1]
    have q := hQ
    simp only [R.holds] at q
    refine step 2 o hf (fun h => ?_) fun h => step 1 _ (isD_dig _) (fun h' => ?_) fun h' => step 0 _ (isD_dig _) (fun h'' => ?_) fun h'' => ?_
    · have : left o = o := by unfold left; rw [if_pos h]
      rw [this] at q; exact q
    · rw [e _ (by unfold W p at *; omega) (by unfold W p at *; omega)] at h'
      have : left o = dig 65536 (V o - p) := by
        unfold left; rw [if_neg h]; congr 1; unfold p at *; omega
      rw [this] at q; exact q
    · rw [e (V o - p) (by unfold W p at *; omega) (by unfold W p at *; omega)] at h' h'' ⊢
      rw [e _ (by unfold W p at *; omega) (by unfold W p at *; omega)] at h''
      have : left o = dig 65536 (V o - p - p) := by
        unfold left; rw [if_neg h]; congr 1; unfold p at *; omega
      rw [this] at q; exact q
    · rw [e (V o - p) (by unfold W p at *; omega) (by unfold W p at *; omega)] at h' h''
      rw [e _ (by unfold W p at *; omega) (by unfold W p at *; omega)] at h''
      exfalso; unfold W p at *; omega
  · exact nomatch hx
theorem key_inj {ps : List (LoopC × Code)} : (ps.map (·.1.k)).Nodup → ∀ {x y : LoopC × Code}, x ∈ ps → y ∈ ps → x.1.k = y.1.k → x = y := by
  induction ps with
  | nil => intro _ x y hx; exact nomatch hx
  | cons a l ih =>
    intro hn x y hx hy e
    simp only [List.map_cons, List.nodup_cons, List.mem_map, not_exists, not_and] at hn
    rcases List.mem_cons.1 hx with h1 | h1
    · rcases List.mem_cons.1 hy with h2 | h2
      · rw [h1, h2]
      · subst h1; exact absurd e.symm (hn.1 y h2)
    · rcases List.mem_cons.1 hy with h2 | h2
      · subst h2; exact absurd e (hn.1 x h1)
      · exact ih hn.2 h1 h2 e
theorem told_zip {E : Env} {fn : Func} (ps : List (LoopC × Code)) (h : fn.body.map loopsOf = some (ps.map (·.2))) (hk : ∀ x ∈ ps, firstRegion x.2 = some x.1.k) (hn : (ps.map (·.1.k)).Nodup)
    (hL : ∀ x ∈ ps, LoopCOK E x.1 x.2) : ∀ c, fn.body = some c → LoopsTold E (ps.map (·.1)) (loopsOf c) := by
  intro c hc x hx k hk' L' hL' e
  rw [hc] at h
  simp only [Option.map_some, Option.some.injEq] at h
  rw [h] at hx
  obtain ⟨y, hy, rfl⟩ := List.mem_map.1 hx
  obtain ⟨z, hz, rfl⟩ := List.mem_map.1 hL'
  have e2 := hk y hy
  rw [hk'] at e2
  cases e2
  have := key_inj hn hy hz e.symm
  subst this
  exact hL y hy
theorem told39 : ∀ c, Try.f39.body = some c → LoopsTold E39 [L39a, L39, L39c, L39d] (loopsOf c) := by
  refine told_zip [(L39a, loopAt Try.f39 0), (L39, loopAt Try.f39 1), (L39c, loopAt Try.f39 2), (L39d, loopAt Try.f39 3)] (by kernel_rfl) ?_ (by decide) ?_
  · intro x hx
    simp only [List.mem_cons, List.not_mem_nil, or_false] at hx
    rcases hx with rfl | rfl | rfl | rfl <;> kernel_rfl
  · intro x hx
    simp only [List.mem_cons, List.not_mem_nil, or_false] at hx
    rcases hx with rfl | rfl | rfl | rfl
    · exact loop39a
    · exact loop39
    · exact loop39c
    · exact loop39d
/-- The digits before p is taken away. -/
def low (f : Nat → Int) : Nat → Int := cp (ext (fold (fold (V f))) 16 f) 16 fun _ => 0
theorem val39 (f : Nat → Int) : evalVal E39 Try.f39 [.rows [.int .u64 f] 16] =
    .req (isU f) (.req (0 = (0 : Int)) (.req (isD (low f)) (.req (0 + 16 ≤ 16) (.req (0 = 0) (.ret (.rows [.int .u32 (left (low f))] 16)))))) := by kernel_rfl
theorem p39 {f : Nat → Int} (hf : isU f) : PureOK Try.prog 39 [.rows [.int .u64 f] 16] (D (V f % p)) := by
  obtain ⟨v0, v1⟩ := isU_V hf
  obtain ⟨f0, f1⟩ := fold_one v0 v1
  obtain ⟨g0, g1⟩ := fold_two f0 f1
  have hlow : ∀ q, q < 16 → low f q = dig 65536 (fold (fold (V f))) q := fun q hq => by
    obtain ⟨d1, d2⟩ := dig_range (b := 65536) (by omega) (fold (fold (V f))) q
    unfold low cp ext
    rw [if_pos hq, if_pos hq]; exact wrap32 d1 (by omega)
  have hl : isD (low f) := fun q hq => by rw [hlow q hq]; exact dig_range (by omega) _ _
  have hV : V (low f) = fold (fold (V f)) := by
    have : V (low f) = V (dig 65536 (fold (fold (V f)))) := sm_congr hlow
    rw [this, V_dig, W_pow, Int.emod_eq_of_lt g0 g1]
  have hm : V (low f) % p = V f % p := by rw [hV, fold_mod, fold_mod]
  refine PureOK.rows_congr (g := left (low f)) ?_ (fun q hq => ?_)
  · refine pure_of_envL mixed (t := T39) t39_ok (fn := Try.f39) (by kernel_rfl) (by kernel_rfl) rfl [8, 13, 17, 19, 24, 27, 29, 37, 42, 45, 49] RG [L39a, L39, L39c, L39d] told39 ⟨trivial, trivial⟩ trivial ?_
    rw [val39]
    exact ⟨hf, rfl, hl, by omega, rfl, rfl⟩
  · unfold left
    split
    · rename_i h
      rw [← hm, Int.emod_eq_of_lt (by rw [hV]; exact g0) h]
      exact dig_V hl hq
    · rw [hm]
end Go.Rf
