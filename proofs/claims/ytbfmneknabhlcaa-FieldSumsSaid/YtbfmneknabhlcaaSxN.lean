/- Regions whose order is open: the walk over all orders, closed. -/
import Derived.Test.YtbfmneknabhlcaaSxM
set_option linter.unusedSimpArgs false
set_option linter.unusedVariables false
namespace Go.Sx
open Go.RowKit (Below)

def updT (o : Oper) (r : Rec) : List (Nat × AV) :=
  match o.dst with
  | some d => [(d, r.val)]
  | none => []
def updsT : List Oper → List Rec → List (List (Nat × AV))
  | o :: l, r :: rs => updT o r :: updsT l rs
  | _, _ => []
def updsW (rs : List Rec) : List (List (Nat × AObj)) := rs.map (·.wr)

theorem updsT_at : ∀ {l : List Oper} {rs : List Rec} {m : Nat} {u : List (Nat × AV)}, (updsT l rs)[m]? = some u → ∃ o r, l[m]? = some o ∧ rs[m]? = some r ∧ u = updT o r
  | [], _, _, _, h => by simp [updsT] at h
  | _ :: _, [], _, _, h => by simp [updsT] at h
  | o :: l, r :: rs, 0, u, h => by simp [updsT] at h; exact ⟨o, r, rfl, rfl, h.symm⟩
  | o :: l, r :: rs, m + 1, u, h => by
    obtain ⟨o', r', h1, h2, h3⟩ := updsT_at (l := l) (rs := rs) (m := m) (by simpa [updsT] using h)
    exact ⟨o', r', by simpa using h1, by simpa using h2, h3⟩
theorem updsT_get : ∀ {l : List Oper} {rs : List Rec} {m : Nat} {o : Oper} {r : Rec}, l[m]? = some o → rs[m]? = some r → (updsT l rs)[m]? = some (updT o r)
  | [], _, _, _, _, h, _ => by simp at h
  | _ :: _, [], _, _, _, _, h => by simp at h
  | o' :: l, r' :: rs, 0, o, r, h1, h2 => by simp at h1 h2; subst h1; subst h2; rfl
  | o' :: l, r' :: rs, m + 1, o, r, h1, h2 => by simp only [updsT, List.getElem?_cons_succ]; exact updsT_get (by simpa using h1) (by simpa using h2)
theorem keys_updT {o : Oper} {r : Rec} {d : Nat} (h : d ∈ keys (updT o r)) : o.dst = some d := by
  unfold updT at h
  split at h
  · rename_i d' hd; simp [keys] at h; rw [hd, h]
  · simp [keys] at h

def below (k : Nat) : Nat → Bool := fun i => decide (i < k)

theorem recs_at {E : Env} {all : List Oper} {base : Nat} {rsAll : List Rec} {t0 : Nat → Option AV} {g0 : Nat → Option AObj} :
    ∀ {l : List Oper} {k : Nat} {s : St} {rs : List Rec} {sf : St}, Recs E all base k l s rs sf → (∀ m, l[m]? = all[k + m]?) → (∀ m, rs[m]? = rsAll[k + m]?) →
      (∀ i v, s.tm.get i = some v → GX (below k) (updsT all rsAll) 0 t0 i = some v) → (∀ i o, s.mem.get i = some o → GX (below k) (updsW rsAll) 0 g0 i = some o) →
      (∀ m o r, l[m]? = some o → rs[m]? = some r → ∃ s1 s2, RecOK E all base (k + m) o s1 s2 r ∧ (∀ i v, s1.tm.get i = some v → GX (below (k + m)) (updsT all rsAll) 0 t0 i = some v) ∧
        (∀ i o, s1.mem.get i = some o → GX (below (k + m)) (updsW rsAll) 0 g0 i = some o)) ∧
      (∀ i v, sf.tm.get i = some v → GX (below (k + l.length)) (updsT all rsAll) 0 t0 i = some v) ∧ (∀ i o, sf.mem.get i = some o → GX (below (k + l.length)) (updsW rsAll) 0 g0 i = some o)
  | [], k, s, rs, sf, h, _, _, ht, hg => by
    obtain ⟨rfl, rfl⟩ := h
    exact ⟨fun m o r h => by simp at h, by simpa using ht, by simpa using hg⟩
  | o :: l, k, s, rs, sf, h, hl, hr, ht, hg => by
    obtain ⟨r, rs', s1, rfl, hrec, hrest⟩ := h
    have hins : ∀ i, below (k + 1) i = (i == k || below k i) := fun i => by
      rw [Bool.eq_iff_iff]; simp only [below, decide_eq_true_eq, Bool.or_eq_true, beq_iff_eq]; omega
    have hk : below k k = false := by simp [below]
    have ho : all[k]? = some o := by have := hl 0; simpa using this.symm
    have hrk : rsAll[k]? = some r := by have := hr 0; simpa using this.symm
    have hT : (updsT all rsAll)[k]? = some (updT o r) := updsT_get ho hrk
    have hW : (updsW rsAll)[k]? = some r.wr := by simp [updsW, hrk]
    obtain ⟨p1, p2⟩ := putT_spec hrec.put
    have ht1 : ∀ i v, s1.tm.get i = some v → GX (below (k + 1)) (updsT all rsAll) 0 t0 i = some v := fun i v hv => by
      rw [GX_insert hins hk hT (fun _ m v hv hm hx => absurd hx (by simp [below]; omega))]
      rcases p2 i v hv with ⟨h1, rfl⟩ | ⟨h1, h2⟩
      · have : updT o r = [(i, r.val)] := by simp [updT, h1]
        rw [this]; simp [wrG]
      · rw [wrG_no]
        · exact ht i v (hrec.tm i v h2)
        · intro hm; exact h1 (keys_updT hm)
    have hg1 : ∀ i o, s1.mem.get i = some o → GX (below (k + 1)) (updsW rsAll) 0 g0 i = some o := fun i o' hv => by
      rw [GX_insert hins hk hW (fun _ m v hv hm hx => absurd hx (by simp [below]; omega))]
      rw [hrec.mem'] at hv
      have := setMem_spec hv
      rw [← wrF_eq]
      exact wrF_sub (fun i o e => hg i o e) i o' this
    obtain ⟨q1, q2, q3⟩ := recs_at hrest (fun m => by have := hl (m + 1); simp at this; rw [this]; congr 1; omega) (fun m => by have := hr (m + 1); simp at this; rw [this]; congr 1; omega) ht1 hg1
    refine ⟨fun m o' r' h1 h2 => ?_, ?_, ?_⟩
    · cases m with
      | zero =>
        simp at h1 h2; subst h1; subst h2
        exact ⟨s, s1, hrec, ht, hg⟩
      | succ m =>
        obtain ⟨a1, a2, b1, b2, b3⟩ := q1 m o' r' (by simpa using h1) (by simpa using h2)
        rw [show k + 1 + m = k + (m + 1) by omega] at b1 b2 b3
        exact ⟨a1, a2, b1, b2, b3⟩
    · rw [show k + 1 + l.length = k + (o :: l).length by simp; omega] at q2; exact q2
    · rw [show k + 1 + l.length = k + (o :: l).length by simp; omega] at q3; exact q3

/-! ### what the look at the orders gives -/
def Calm2 (all : List Oper) (x y : Tn) : Prop :=
  ordered (masks [] all) x.idx y.idx = true ∨ ((∀ i ∈ x.wr, i ∉ y.acc) ∧ (∀ i ∈ x.wr, i ∉ y.wr) ∧ ∀ i ∈ y.wr, i ∉ x.acc)

theorem calm_pairwise {all : List Oper} : ∀ {tr : List Tn}, calm (masks [] all) tr = true → tr.Pairwise (Calm2 all)
  | [], _ => List.Pairwise.nil
  | x :: l, h => by
    simp only [calm] at h
    rcases cond_split h with ⟨h1, h2⟩ | ⟨_, h⟩
    · exact List.Pairwise.cons (fun y hy => calmOne_spec h1 y hy) (calm_pairwise h2)
    · exact nomatch h

theorem tns_mem : ∀ {rs : List Rec} {k m : Nat} {r : Rec}, rs[m]? = some r → r.ex = true → tnOf (k + m) r ∈ tns k rs
  | [], _, _, _, h, _ => by simp at h
  | r' :: rs, k, 0, r, h, he => by simp at h; subst h; simp [tns, he]
  | r' :: rs, k, m + 1, r, h, he => by
    have := tns_mem (k := k + 1) (m := m) (rs := rs) (r := r) (by simpa using h) he
    rw [show k + 1 + m = k + (m + 1) by omega] at this
    simp only [tns]
    split
    · exact List.mem_cons_of_mem _ this
    · exact this

theorem tns_pair {all : List Oper} : ∀ {rs : List Rec} {k : Nat}, (tns k rs).Pairwise (fun x y => Calm2 all y x) → ∀ p q rp rq, p < q → rs[p]? = some rp → rs[q]? = some rq → rp.ex = true → rq.ex = true →
    Calm2 all (tnOf (k + q) rq) (tnOf (k + p) rp)
  | [], _, _, p, q, _, _, _, h, _, _, _ => by simp at h
  | r :: rs, k, hp, p, q, rp, rq, hpq, h1, h2, e1, e2 => by
    obtain ⟨q, rfl⟩ : ∃ q', q = q' + 1 := ⟨q - 1, by omega⟩
    have h2' : rs[q]? = some rq := by simpa using h2
    cases p with
    | zero =>
      simp at h1; subst h1
      simp only [tns, e1, if_true] at hp
      have := tns_mem (k := k + 1) h2' e2
      rw [show k + 1 + q = k + (q + 1) by omega] at this
      exact (List.pairwise_cons.1 hp).1 _ this
    | succ p =>
      have h1' : rs[p]? = some rp := by simpa using h1
      have hp' : (tns (k + 1) rs).Pairwise (fun x y => Calm2 all y x) := by
        simp only [tns] at hp
        split at hp
        · exact (List.pairwise_cons.1 hp).2
        · exact hp
      have := tns_pair hp' p q rp rq (by omega) h1' h2' e1 e2
      rw [show k + 1 + p = k + (p + 1) by omega, show k + 1 + q = k + (q + 1) by omega] at this
      exact this

structure Orders (E : Env) (all : List Oper) (base : Nat) (rs : List Rec) (t0 : Nat → Option AV) (g0 : Nat → Option AObj) : Prop where
  back : backEdges all 0 = true
  len : rs.length = all.length
  recs : ∀ j o r, all[j]? = some o → rs[j]? = some r → ∃ s1 s2, RecOK E all base j o s1 s2 r ∧ (∀ i v, s1.tm.get i = some v → GX (below j) (updsT all rs) 0 t0 i = some v) ∧
    (∀ i o, s1.mem.get i = some o → GX (below j) (updsW rs) 0 g0 i = some o)
  temps : ∀ p q o o', p < q → all[p]? = some o → all[q]? = some o' → Ahead all p q ∨ ((∀ x ∈ dstOf o, x ∉ namesOf all o') ∧ ∀ x ∈ dstOf o', x ∉ namesOf all o)
  apart : ∀ p q r r', p < q → rs[p]? = some r → rs[q]? = some r' → Ahead all p q ∨ ((∀ i ∈ keys r.wr, i ∉ r'.acc) ∧ (∀ i ∈ keys r.wr, i ∉ keys r'.wr) ∧ ∀ i ∈ keys r'.wr, i ∉ r.acc)

theorem orders_of {E : Env} {all : List Oper} {base : Nat} {rs : List Rec} {s sf : St} (hb : backEdges all 0 = true) (ht : tcalm (masks [] all) all 0 all = true)
    (hr : Recs E all base 0 all s rs sf) (hc : calm (masks [] all) ((tns 0 rs).reverse ++ []) = true) :
    Orders E all base rs s.tm.get s.mem.get ∧ (∀ i v, sf.tm.get i = some v → GX (below all.length) (updsT all rs) 0 s.tm.get i = some v) ∧
      (∀ i o, sf.mem.get i = some o → GX (below all.length) (updsW rs) 0 s.mem.get i = some o) := by
  have h0T : ∀ i v, s.tm.get i = some v → GX (below 0) (updsT all rs) 0 s.tm.get i = some v := fun i v h => by
    rw [GX_no (fun m u _ hx => absurd hx (by simp [below]))]; exact h
  have h0W : ∀ i o, s.mem.get i = some o → GX (below 0) (updsW rs) 0 s.mem.get i = some o := fun i v h => by
    rw [GX_no (fun m u _ hx => absurd hx (by simp [below]))]; exact h
  obtain ⟨q1, q2, q3⟩ := recs_at (rsAll := rs) (t0 := s.tm.get) (g0 := s.mem.get) hr (fun m => by simp) (fun m => by simp) h0T h0W
  simp only [Nat.zero_add] at q1 q2 q3
  refine ⟨⟨hb, recs_length hr, q1, fun p q o o' hpq h1 h2 => by simpa using tcalm_spec ht p q o o' hpq h1 h2, ?_⟩, q2, q3⟩
  intro p q r r' hpq h1 h2
  have hpw := calm_pairwise hc
  rw [List.append_nil, List.pairwise_reverse] at hpw
  have hlen := recs_length hr
  have hex : ∀ {j : Nat} {r : Rec}, rs[j]? = some r → r.ex = false → r.wr = [] ∧ r.acc = [] := fun {j r} hj he => by
    have hlt : j < all.length := by rw [← hlen]; exact (List.getElem?_eq_some_iff.1 hj).1
    obtain ⟨s1, s2, hrec, _⟩ := q1 j all[j] r (List.getElem?_eq_getElem hlt) hj
    exact (hrec.no he).2
  cases e1 : r.ex with
  | false =>
    obtain ⟨w1, w2⟩ := hex h1 e1
    exact .inr ⟨by simp [keys, w1], by simp [keys, w1], by simp [w2]⟩
  | true =>
    cases e2 : r'.ex with
    | false =>
      obtain ⟨w1, w2⟩ := hex h2 e2
      exact .inr ⟨by simp [w2], by simp [keys, w1], by simp [keys, w1]⟩
    | true =>
      have := tns_pair hpw p q r r' hpq h1 h2 e1 e2
      simp only [Nat.zero_add] at this
      rcases this with h | ⟨h3, h4, h5⟩
      · exact .inl (ordered_lt hpq (.inl h))
      · exact .inr ⟨h5, fun i hi hj => h4 i hj hi, h3⟩
end Go.Sx
