/- Regions: every region of the model, by the abstract machine. -/
import Derived.Test.YtbfmneknabhlcaaSxN
set_option linter.unusedSimpArgs false
set_option linter.unusedVariables false
namespace Go.Sx
open Go.RowKit (Below)

section
variable {B : Base} {w w' : World} {ρ ρ' : Nat → Loc} {U U' : Nat → Prop} {g g' : Nat → Option AObj} {t t' : Nat → Option AV} {n : Nat} {a : Act}

theorem Sim.mono (h : Sim B n U ρ t g a w) (hU : ∀ i, U i → U' i) : Sim B n U' ρ t g a w :=
  ⟨h.size, h.df, fun k v e => ⟨(h.tm k v e).1, all_mono hU (h.tm k v e).2⟩, h.mem.mono hU⟩

/-- The ids in use when the operations X have been carried out. -/
def UX (U0 : Nat → Prop) (base : Nat) (X : Nat → Bool) : Nat → Prop := fun i => U0 i ∨ ∃ k, X k = true ∧ newIds (base + 4 * k) i

def XInv (E : Env) (B : Base) (all : List Oper) (base : Nat) (rs : List Rec) (U0 : Nat → Prop) (t0 : Nat → Option AV) (g0 : Nat → Option AObj) (X : Nat → Bool) (a : Act) (w : World) : Prop :=
  ∃ ρ, Sim B E.n (UX U0 base X) ρ (GX X (updsT all rs) 0 t0) (GX X (updsW rs) 0 g0) a w

theorem mem_tmpsOf {k : Nat} : ∀ {l : List Operand}, Operand.tmp k ∈ l → k ∈ tmpsOf l
  | [], h => by simp at h
  | y :: l, h => by
    rcases List.mem_cons.1 h with rfl | h
    · simp [tmpsOf]
    · have := mem_tmpsOf h
      cases y <;> simp [tmpsOf, this]

/-- One more operation, which is ready. -/
theorem orders_step {E : Env} (hE : EnvOK E) {all : List Oper} {base : Nat} {rs : List Rec} {U0 : Nat → Prop} {t0 : Nat → Option AV} {g0 : Nat → Option AObj} (H : Orders E all base rs t0 g0)
    (hU0 : ∀ i, U0 i → i < base) {X : Nat → Bool} (hcl : ClosedX all X) {j : Nat} {o : Oper} (ho : all[j]? = some o) (hXj : X j = false)
    (hready : ∀ e ∈ o.after.toList, Region.binds .any e = true → X e.on = true) (hXlen : ∀ k, X k = true → k < all.length)
    {K : Act → World → Prop} {Q : Exit → Act → World → Prop} (hK : ∀ a w, XInv E B all base rs U0 t0 g0 (fun i => i == j || X i) a w → K a w)
    (h : XInv E B all base rs U0 t0 g0 X a w) : wpOp E.P all.toArray Q j K a w := by
  obtain ⟨ρ, hs⟩ := h
  have hrlen : j < rs.length := by rw [H.len]; exact (List.getElem?_eq_some_iff.1 ho).1
  have hr : rs[j]? = some rs[j] := List.getElem?_eq_getElem hrlen
  generalize rs[j] = r at hr
  obtain ⟨s1, s2, hrec, hT, hW⟩ := H.recs j o r ho hr
  have hjX : ∀ i, Ahead all i j → X i = true := ahead_in H.back hcl j o ho hready
  have hXj' : ∀ m, X m = true → ¬ Ahead all j m := fun m hm ha => by
    have hmlt := hXlen m hm
    have := ahead_in H.back hcl m all[m] (List.getElem?_eq_getElem hmlt) (hcl m _ (List.getElem?_eq_getElem hmlt) hm) j ha
    rw [hXj] at this; exact nomatch this
  have hXm : ∀ m, j ≤ m → below j m = false := fun m hm => by simp [below]; omega
  have hXl : ∀ m, m < j → below j m = true := fun m hm => by simp [below]; omega
  -- a slot that the operation names
  have hname : ∀ d, d ∈ namesOf all o → GX (below j) (updsT all rs) 0 t0 d = GX X (updsT all rs) 0 t0 d := fun d hd => by
    refine GX_agree rfl fun m u hu hk => ?_
    rw [Nat.zero_add]
    obtain ⟨om, rm, h1, h2, rfl⟩ := updsT_at hu
    have hdm := keys_updT hk
    have hdd : d ∈ dstOf om := by simp [dstOf, hdm]
    rcases Nat.lt_trichotomy m j with hlt | rfl | hgt
    · rw [hXl m hlt]
      rcases H.temps m j om o hlt h1 ho with ha | ⟨h3, _⟩
      · exact (hjX m ha).symm
      · exact absurd hd (h3 d hdd)
    · rw [hXm m (Nat.le_refl _), hXj]
    · rw [hXm m (by omega)]
      cases hx : X m with
      | false => rfl
      | true =>
        rcases H.temps j m o om hgt ho h1 with ha | ⟨_, h3⟩
        · exact absurd ha (hXj' m hx)
        · exact absurd hd (h3 d hdd)
  have hacc : ∀ i, i ∈ r.acc → GX (below j) (updsW rs) 0 g0 i = GX X (updsW rs) 0 g0 i := fun i hi => by
    refine GX_agree rfl fun m u hu hk => ?_
    rw [Nat.zero_add]
    simp only [updsW, List.getElem?_map, Option.map_eq_some_iff] at hu
    obtain ⟨rm, h2, rfl⟩ := hu
    rcases Nat.lt_trichotomy m j with hlt | rfl | hgt
    · rw [hXl m hlt]
      rcases H.apart m j rm r hlt h2 hr with ha | ⟨h3, _, _⟩
      · exact (hjX m ha).symm
      · exact absurd hi (h3 i hk)
    · rw [hXm m (Nat.le_refl _), hXj]
    · rw [hXm m (by omega)]
      cases hx : X m with
      | false => rfl
      | true =>
        rcases H.apart j m r rm hgt hr h2 with ha | ⟨_, _, h3⟩
        · exact absurd ha (hXj' m hx)
        · exact absurd hi (h3 i hk)
  have hslot : ∀ d v, d ∈ namesOf all o → r.s.tm.get d = some v → a.tmps.getD d undef = conc ρ v ∧ v.all (UX U0 base X) := fun d v hd hv => by
    have := hT d v (hrec.tm d v hv)
    rw [hname d hd] at this
    exact hs.tm d v this
  have hopnd : ∀ d, Operand.tmp d ∈ o.op.operands.toList → d ∈ namesOf all o := fun d hd => by
    simp only [namesOf, List.mem_append]
    exact .inr (.inl (mem_tmpsOf hd))
  -- behind it
  have hXX : ∀ i, (fun i => i == j || X i) i = (i == j || X i) := fun _ => rfl
  have hinsT : ∀ k u, GX (fun i => i == j || X i) (updsT all rs) 0 t0 k = some u → (o.dst = some k ∧ u = r.val) ∨ (o.dst ≠ some k ∧ GX X (updsT all rs) 0 t0 k = some u) := fun k u hu => by
    rw [GX_insert hXX hXj (updsT_get ho hr)] at hu
    · by_cases hk : o.dst = some k
      · left
        have : updT o r = [(k, r.val)] := by simp [updT, hk]
        rw [this] at hu; simp [wrG] at hu
        exact ⟨hk, hu.symm⟩
      · right
        rw [wrG_no (fun hm => hk (keys_updT hm))] at hu
        exact ⟨hk, hu⟩
    · intro hk m v hv hm hx hkv
      obtain ⟨om, rm, h1, h2, rfl⟩ := updsT_at hv
      have hdo := keys_updT hk
      have hdm := keys_updT hkv
      rcases H.temps j m o om hm ho h1 with ha | ⟨h3, _⟩
      · exact hXj' m hx ha
      · exact h3 k (by simp [dstOf, hdo]) (by simp [namesOf, dstOf, hdm])
  have hinsW : ∀ k, GX (fun i => i == j || X i) (updsW rs) 0 g0 k = wrF (GX X (updsW rs) 0 g0) r.wr k := fun k => by
    rw [GX_insert hXX hXj (show (updsW rs)[j]? = some r.wr by simp [updsW, hr]), wrF_eq]
    intro hk m v hv hm hx hkv
    simp only [updsW, List.getElem?_map, Option.map_eq_some_iff] at hv
    obtain ⟨rm, h2, rfl⟩ := hv
    rcases H.apart j m r rm hm hr h2 with ha | ⟨_, h3, _⟩
    · exact hXj' m hx ha
    · exact h3 k hk hkv
  obtain ⟨p1, _⟩ := putT_spec hrec.put
  have hUmono : ∀ i, UX U0 base X i → UX U0 base (fun i => i == j || X i) i := fun i hi => by
    rcases hi with h | ⟨k, h1, h2⟩
    · exact .inl h
    · exact .inr ⟨k, by simp [h1], h2⟩
  -- the guard
  have hwant : Region.wanted o (yielded all.toArray a.tmps) = r.ex := by
    rcases hrec.guard with ⟨hg, he⟩ | ⟨p, want, d, hg, hd, hcase⟩
    · rw [wanted_none hg, he]
    · have hdn : d ∈ namesOf all o := by
        simp only [namesOf, List.mem_append, hg]
        cases hp : lnth all p with
        | none => rw [hp] at hd; simp at hd
        | some q => rw [hp] at hd; simp only [Option.bind_some] at hd; exact .inr (.inr (by simp [dstOf, hd]))
      rw [wanted_some hg]
      rcases hcase with ⟨b, hb, he⟩ | ⟨vs, hb, he⟩
      · rw [yielded_bool hd (hslot d _ hdn hb).1, he]
        cases b <;> cases want <;> rfl
      · rw [yielded_tuple hd (hslot d _ hdn hb).1, he]
        cases want <;> rfl
  unfold wpOp
  simp only [List.getElem?_toArray, ho, hwant]
  cases hex : r.ex with
  | false =>
    rw [if_neg (by simp)]
    obtain ⟨v1, v2, v3⟩ := hrec.no hex
    refine hK _ _ ⟨ρ, ?_⟩
    have hm : MemOK B (UX U0 base fun i => i == j || X i) ρ (GX (fun i => i == j || X i) (updsW rs) 0 g0) w := (hs.mem.mono hUmono).sub fun k o hk => by
      rw [hinsW k, v2] at hk; exact hk
    have := Sim.step (v := .v undef) hs (fun _ _ => rfl) hUmono hm trivial o.dst p1 (fun k u hu => by have := hinsT k u hu; rw [v1] at this; exact this)
    exact this
  | true =>
    rw [if_pos rfl]
    left
    obtain ⟨out, sy, v1, v2, hgets⟩ := hrec.yes hex
    have hnew : ∀ i, newIds (base + 4 * j) i → ¬ UX U0 base X i := fun i hi hu => by
      simp only [newIds] at hi
      rcases hu with h | ⟨k, h1, h2⟩
      · have := hU0 i h; omega
      · simp only [newIds] at h2
        have : k ≠ j := fun e => by subst e; rw [hXj] at h1; exact nomatch h1
        omega
    let ev' : Operand → Option AV := fun x => match x with
      | .tmp k => if k ∈ tmpsOf o.op.operands.toList then r.s.tm.get k else none
      | x => opnd r.s.tm x
    have hloc : aop E (opnd r.s.tm) sy (base + 4 * j) o = aop E ev' sy (base + 4 * j) o := aop_local fun x hx => by
      cases x with
      | tmp k => show r.s.tm.get k = if k ∈ tmpsOf o.op.operands.toList then r.s.tm.get k else none; rw [if_pos (mem_tmpsOf hx)]
      | const _ => rfl
      | func _ => rfl
      | global _ => rfl
    have hev : ∀ x v, ev' x = some v → a.eval x = conc ρ v ∧ v.all (UX U0 base X) := fun x v hv => by
      cases x with
      | tmp k =>
        simp only [ev'] at hv
        split at hv
        · rename_i hk
          exact hslot k v (by simp only [namesOf, List.mem_append]; exact .inr (.inl hk)) hv
        · exact nomatch hv
      | const c => cases hv; exact ⟨(conc_ofValue ρ c).symm, ofValue_all _ c⟩
      | func f => cases hv; exact ⟨by simp [Act.eval, conc, concL], trivial⟩
      | global _ => exact nomatch hv
    have hres := R.gets_res (g := GX X (updsW rs) 0 g0) (fun i o hi hm => by
      rw [← hacc i hi]
      exact hW i o (by rw [← hrec.mem]; exact hm)) hgets
    rw [hloc] at hres
    refine aop_ok hE.calls hs.mem hnew (V := newIds (base + 4 * j)) (fun _ _ h => h) hev hres fun out' ρ' w' hout hρ hm hv => ?_
    subst hout
    refine hK _ _ ⟨ρ', ?_⟩
    have hU' : ∀ i, orU (UX U0 base X) (newIds (base + 4 * j)) i → UX U0 base (fun i => i == j || X i) i := fun i hi => by
      rcases hi with h | h
      · exact hUmono i h
      · exact .inr ⟨j, by simp, h⟩
    have hm' : MemOK B (UX U0 base fun i => i == j || X i) ρ' (GX (fun i => i == j || X i) (updsW rs) 0 g0) w' := (hm.mono hU').sub fun k o hk => by
      rw [hinsW k, v2] at hk; exact hk
    exact Sim.step hs hρ hUmono hm' (all_mono hU' hv) o.dst p1 (fun k u hu => by have := hinsT k u hu; rw [v1] at this; exact this)

theorem GX_congr {α : Type} {X Y : Nat → Bool} {us : List (List (Nat × α))} {g : Nat → Option α} (h : ∀ m, m < us.length → X m = Y m) : GX X us 0 g = GX Y us 0 g :=
  funext fun id => GX_agree rfl fun m u hu _ => by rw [Nat.zero_add]; exact h m (List.getElem?_eq_some_iff.1 hu).1

theorem updsT_length : ∀ {l : List Oper} {rs : List Rec}, rs.length = l.length → (updsT l rs).length = l.length
  | [], _, _ => rfl
  | _ :: _, [], h => by simp at h
  | o :: l, r :: rs, h => by simp only [updsT, List.length_cons]; rw [updsT_length (by simpa using h)]

theorem orders_any {E : Env} (hE : EnvOK E) {all : List Oper} {base : Nat} {rs : List Rec} {U0 : Nat → Prop} {t0 : Nat → Option AV} {g0 : Nat → Option AObj} (H : Orders E all base rs t0 g0)
    (hU0 : ∀ i, U0 i → i < base) {Q : Exit → Act → World → Prop}
    (hQ : ∀ a w, XInv E B all base rs U0 t0 g0 (below all.length) a w → Q .normal a w) :
    ∀ (fuel : Nat) (listed : Array Bool) (a : Act) (w : World), listed.size = all.length → ClosedX all (fun i => listed.getD i false) →
      ((List.range all.length).filter fun i => !listed.getD i false).length ≤ fuel →
      XInv E B all base rs U0 t0 g0 (fun i => listed.getD i false) a w → wpAny E.P .any all.toArray Q fuel listed a w := by
  have hnone : ∀ (listed : Array Bool), listed.size = all.length → ClosedX all (fun i => listed.getD i false) → Region.ready .any all.toArray listed = [] →
      ∀ a w, XInv E B all base rs U0 t0 g0 (fun i => listed.getD i false) a w → Q .normal a w := by
    intro listed hsz hcl hnil a w ⟨ρ, hs⟩
    have hall : ∀ i, i < all.length → listed.getD i false = true := by
      intro i
      induction i using Nat.strongRecOn with
      | _ i ih =>
        intro hi
        cases hx : listed.getD i false with
        | true => rfl
        | false =>
          have hmem : i ∈ Region.ready .any all.toArray listed := by
            unfold Region.ready
            rw [List.mem_filter]
            refine ⟨by simpa using hi, ?_⟩
            have h1 : listed.getD i true = false := by
              have hlt : i < listed.size := by omega
              rw [Array.getD_eq_getD_getElem?, Array.getElem?_eq_getElem hlt] at hx ⊢
              exact hx
            have ho : all[i]? = some all[i] := List.getElem?_eq_getElem hi
            simp only [h1, Bool.not_false, Bool.true_and, List.getElem?_toArray, ho, Option.map_some, Option.getD_some]
            rw [← Array.all_toList]
            refine List.all_eq_true.2 fun e he => ?_
            cases hb : Region.binds .any e with
            | false => rfl
            | true =>
              have hlt := backEdges_at H.back i all[i] ho e he hb
              rw [ih e.on (by omega) (by omega)]; rfl
          rw [hnil] at hmem
          simp at hmem
    refine hQ a w ⟨ρ, ?_⟩
    have e1 : GX (fun i => listed.getD i false) (updsT all rs) 0 t0 = GX (below all.length) (updsT all rs) 0 t0 := GX_congr fun m hm => by
      rw [updsT_length H.len] at hm
      simp [hall m hm, below, hm]
    have e2 : GX (fun i => listed.getD i false) (updsW rs) 0 g0 = GX (below all.length) (updsW rs) 0 g0 := GX_congr fun m hm => by
      simp only [updsW, List.length_map, H.len] at hm
      simp [hall m hm, below, hm]
    rw [e1, e2] at hs
    refine hs.mono fun i hi => ?_
    rcases hi with h | ⟨k, h1, h2⟩
    · exact .inl h
    · have hk : k < all.length := by
        rcases Nat.lt_or_ge k all.length with h | h
        · exact h
        · exfalso
          dsimp only at h1
          rw [Array.getD_eq_getD_getElem?, Array.getElem?_eq_none (by omega)] at h1
          exact nomatch h1
      exact .inr ⟨k, by simp [below, hk], h2⟩
  intro fuel
  induction fuel with
  | zero =>
    intro listed a w hsz hcl hf hinv
    have hnil : Region.ready .any all.toArray listed = [] := by
      rw [List.eq_nil_iff_forall_not_mem]
      intro i hi
      unfold Region.ready at hi
      rw [List.mem_filter] at hi
      obtain ⟨h1, h2⟩ := hi
      simp only [Bool.and_eq_true] at h2
      have h3 : i < all.length := by simpa using h1
      have hlt : i < listed.size := by omega
      have h4 : listed.getD i false = false := by
        have := h2.1
        rw [Array.getD_eq_getD_getElem?, Array.getElem?_eq_getElem hlt] at this ⊢
        simpa using this
      have : i ∈ (List.range all.length).filter fun i => !listed.getD i false := by
        rw [List.mem_filter]; exact ⟨by simpa using h3, by simp [h4]⟩
      have := List.length_pos_of_mem this
      omega
    exact ⟨hnil, hnone listed hsz hcl hnil a w hinv⟩
  | succ fuel ih =>
    intro listed a w hsz hcl hf hinv
    refine ⟨fun hnil => hnone listed hsz hcl hnil a w hinv, fun i hi => ?_⟩
    unfold Region.ready at hi
    rw [List.mem_filter] at hi
    obtain ⟨h1, h2⟩ := hi
    simp only [Bool.and_eq_true] at h2
    have h3 : i < all.length := by simpa using h1
    have hlt : i < listed.size := by omega
    have hXi : listed.getD i false = false := by
      have := h2.1
      rw [Array.getD_eq_getD_getElem?, Array.getElem?_eq_getElem hlt] at this ⊢
      simpa using this
    have ho : all[i]? = some all[i] := List.getElem?_eq_getElem h3
    have hready : ∀ e ∈ all[i].after.toList, Region.binds .any e = true → listed.getD e.on false = true := by
      have := h2.2
      simp only [List.getElem?_toArray, ho, Option.map_some, Option.getD_some] at this
      rw [← Array.all_toList] at this
      intro e he hb
      have := List.all_eq_true.1 this e he
      simpa [hb] using this
    have hget : ∀ k, (listed.setIfInBounds i true).getD k false = (k == i || listed.getD k false) := fun k => by
      rw [Array.getD_eq_getD_getElem?, Array.getD_eq_getD_getElem?, Array.getElem?_setIfInBounds]
      by_cases hk : i = k
      · subst hk; simp [hlt]
      · rw [if_neg hk]
        have : (k == i) = false := by simpa using fun e => hk e.symm
        rw [this, Bool.false_or]
    refine orders_step hE H hU0 hcl ho hXi hready (fun k hk => ?_) (fun a' w' hinv' => ?_) hinv
    · rcases Nat.lt_or_ge k all.length with h | h
      · exact h
      · exfalso
        rw [Array.getD_eq_getD_getElem?, Array.getElem?_eq_none (by omega)] at hk
        exact nomatch hk
    · refine ih (listed.setIfInBounds i true) a' w' (by simp [hsz]) ?_ ?_ ?_
      · intro k o hk hx e he hb
        simp only [hget, Bool.or_eq_true, beq_iff_eq] at hx ⊢
        rcases hx with rfl | hx
        · rw [ho] at hk; cases hk
          exact .inr (hready e he hb)
        · exact .inr (hcl k o hk hx e he hb)
      · have hsub : ((List.range all.length).filter fun k => !(listed.setIfInBounds i true).getD k false).length <
            ((List.range all.length).filter fun k => !listed.getD k false).length := by
          have e1 : ((List.range all.length).filter fun k => !(listed.setIfInBounds i true).getD k false) =
              (((List.range all.length).filter fun k => !listed.getD k false).filter fun k => !(k == i)) := by
            rw [List.filter_filter]
            congr 1
            funext k
            rw [hget]; simp [Bool.not_or]
          rw [e1]
          have hmem : i ∈ (List.range all.length).filter fun k => !listed.getD k false := by
            rw [List.mem_filter]; exact ⟨by simpa using h3, by simp [hXi]⟩
          exact List.length_filter_lt_length_iff_exists.2 ⟨i, hmem, by simp⟩
        omega
      · have : (fun k => (listed.setIfInBounds i true).getD k false) = (fun k => k == i || listed.getD k false) := funext hget
        rw [this]; exact hinv'
end
end Go.Sx
