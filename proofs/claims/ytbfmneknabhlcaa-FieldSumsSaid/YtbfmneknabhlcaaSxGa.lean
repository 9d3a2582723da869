/- Tables: arrays told by columns. -/
import Derived.Test.YtbfmneknabhlcaaSxG
import Derived.Deep.AppendSrc
import Derived.Laws.IdiomCopy
import Derived.Deep.MidRow
set_option linter.unusedSimpArgs false
set_option linter.unusedVariables false
namespace Go.Sx
open Go.RowKit (Below)

theorem ikEq_eq {a b : IntKind} (h : ikEq a b = true) : a = b := by
  unfold ikEq at h
  rw [nbeq] at h
  cases a <;> cases b <;> first | rfl | simp [IntKind.ctorIdx] at h

theorem conc_av (ρ : Nat → Loc) (c : Col) (i : Nat) : conc ρ (c.av i) = c.val i := by cases c <;> rfl
theorem av_one (c : Col) (i : Nat) : (c.av i).one = true := by cases c <;> rfl
theorem av_all {U : Nat → Prop} (c : Col) (i : Nat) : (c.av i).all U := by cases c <;> trivial
theorem val_one (c : Col) (i : Nat) : (c.val i).oneCell' = true := by cases c <;> rfl
theorem shift_val (c : Col) (i q : Nat) : (c.shift i).val q = c.val (i + q) := by rw [Nat.add_comm]; cases c <;> rfl
theorem mulN_eq (k n : Nat) : mulN k n = k * n := by
  unfold mulN
  rw [nbeq]
  by_cases h : n = 1
  · subst h; simp
  · simp [h]

theorem rowsV_one (c : Col) (n : Nat) : rowsV [c] n = (List.range n).map c.val := by
  simp [rowsV, rowV, List.flatMap_singleton']
  induction List.range n with
  | nil => rfl
  | cons x l ih => simp [ih, rowV]
theorem rowsV_length (cs : List Col) (n : Nat) : (rowsV cs n).length = n * cs.length := by
  simp [rowsV, rowV, List.length_flatMap]
  induction n with
  | zero => simp
  | succ n ih => simp [List.range_succ, ih, Nat.add_mul]
theorem rowsV_get (cs : List Col) : ∀ (n i j : Nat) (c : Col), i < n → cs[j]? = some c → (rowsV cs n)[i * cs.length + j]? = some (c.val i)
  | n + 1, i, j, c, hi, hj => by
    have hjl : j < cs.length := (List.getElem?_eq_some_iff.1 hj).1
    have e : rowsV cs (n + 1) = rowsV cs n ++ rowV cs n := by simp [rowsV, List.range_succ]
    rw [e]
    by_cases h : i < n
    · rw [List.getElem?_append_left]
      · exact rowsV_get cs n i j c h hj
      · rw [rowsV_length]
        have : (i + 1) * cs.length ≤ n * cs.length := Nat.mul_le_mul_right _ h
        rw [Nat.add_mul] at this; omega
    · have : i = n := by omega
      subst this
      rw [List.getElem?_append_right (by rw [rowsV_length]; omega), rowsV_length, Nat.add_sub_cancel_left]
      simp [rowV, hj]

section
variable {P : Program} {B : Base} {w : World} {ρ : Nat → Loc} {U : Nat → Prop} {g : Nat → Option AObj} {nid : Nat}

theorem isArr_agg {t : TypeId} (h : isArr P t = true) : ∃ n e, P.underlying t = some (.array n e) := by
  unfold isArr at h
  split at h
  · exact ⟨_, _, by assumption⟩
  · exact nomatch h

theorem rows_here {id : Nat} {cs : List Col} {n : Nat} {ro : Bool} (h : ObjOK ρ id (.rows cs n ro) w) (hn : 0 < n) :
    (ρ id).nil = false ∧ (ρ id).blk < w.heap.size ∧ (ρ id).esz = cs.length ∧ (∀ i j c, i < n → cs[j]? = some c → w.cell? ((ρ id).at (i * cs.length + j)) = some (c.val i)) ∧
      (ro = false → n ≤ (ρ id).cap ∧ ∀ q, q < (ρ id).cap * cs.length → (w.cell? ((ρ id).at q)).isSome = true ∧ w.frozen? ((ρ id).at q) = false) := by
  obtain ⟨h1, h | ⟨h2, h3, h4, h5⟩⟩ := h
  · omega
  · exact ⟨h2, h3, h1, h4, h5⟩

/-- An array of m whole numbers, from the i-th on. -/
theorem run_load_sub {id : Nat} {c : Col} {n : Nat} {ro : Bool} (h : ObjOK ρ id (.rows [c] n ro) w) {t : TypeId} (ht : isArr P t = true) {m i : Nat} (hm : asz P t = some m) (h0 : 0 < m) (hi : i + m ≤ n) :
    (loadVar t ((ρ id).at (i * (ρ id).esz))).run P w = .ok (conc ρ (.rows [c.shift i] m)) w := by
  obtain ⟨_, _, he, hr, _⟩ := rows_here h (by omega)
  obtain ⟨n', e', hd⟩ := isArr_agg ht
  unfold asz at hm
  rw [Option.map_eq_some_iff] at hm
  obtain ⟨ti, hti, rfl⟩ := hm
  unfold loadVar
  simp only [Sem.run_bind, run_isAgg t hd, Result.andThen_ok, isAggD, if_true, run_sizeOf t hti]
  have hl := run_loadCells_list (P := P) (w := w) ((ρ id).at (i * (ρ id).esz)) (rowsV [c.shift i] ti.size) (by
    intro k x hx
    rw [show (Loc.at (ρ id) (i * (ρ id).esz)).add k = Loc.at (ρ id) (i * (ρ id).esz + k) from by simp [Loc.at, addr_add, Nat.add_assoc]]
    have hk : k < ti.size := by
      have := (List.getElem?_eq_some_iff.1 hx).1
      rw [rowsV_length] at this; simpa using this
    have hq := rowsV_get [c.shift i] ti.size k 0 (c.shift i) hk rfl
    simp only [List.length_singleton, Nat.mul_one, Nat.add_zero] at hq
    rw [hq] at hx
    cases hx
    have := hr (i + k) 0 c (by omega) rfl
    rw [shift_val, he]
    simpa using this)
  rw [rowsV_length] at hl
  simp only [List.length_singleton, Nat.mul_one] at hl
  rw [hl]
  simp [conc]

theorem run_load_row {id : Nat} {cs : List Col} {n : Nat} {ro : Bool} (h : ObjOK ρ id (.rows cs n ro) w) {t : TypeId} {i j : Nat} (hi : i < n) {v : AV} (hv : apart P t (rowA cs i) j = some v) :
    (loadVar t ((ρ id).at (i * (ρ id).esz + j))).run P w = .ok (conc ρ v) w := by
  obtain ⟨_, _, he, hr, _⟩ := rows_here h (by omega)
  have hread : readAt ρ { ρ id with base := (ρ id).base + i * (ρ id).esz } (rowA cs i) w := by
    intro k x hx
    simp only [rowA, List.getElem?_map, Option.map_eq_some_iff] at hx
    obtain ⟨c, hc, rfl⟩ := hx
    have := hr i k c hi hc
    rw [conc_av, ← this]
    simp only [Loc.at, he, Nat.add_assoc]
  have := run_loadVar_at (P := P) hread hv
  rw [← this]
  simp only [Loc.at, Nat.add_assoc]

theorem rowA_all (cs : List Col) (i : Nat) : allL U (rowA cs i) := allL_iff.2 fun x hx => by
  simp only [rowA, List.mem_map] at hx
  obtain ⟨c, _, rfl⟩ := hx
  exact av_all c i

theorem res_look {α : Type} {id : Nat} {k : Option AObj → R α} : R.res g (.look id k) = R.res g (k (g id)) := rfl

theorem ok_load (hm : MemOK B U ρ g w) {V : Nat → Prop} {t : TypeId} {x : AV} {K : Out → Prop} (h : (R.res g (aload P t x)).holds K) :
    SemOK P B U V ρ g w (Instr.loadAt t (conc ρ x)) K := by
  unfold aload at h
  split at h
  · rename_i id i j
    rw [res_look] at h
    split at h
    · rename_i cs n ro ho
      have hobj := hm.obj _ _ ho
      unfold rload at h
      split at h
      · rename_i m ht hmm
        split at h
        · rename_i c hlt
          obtain ⟨hi, h⟩ := h
          refine SemOK.still hm h ?_ trivial
          simp only [conc, Instr.loadAt, Instr.sureAddr, Sem.run_bind, Sem.run_pure, Result.andThen_ok, Nat.add_zero]
          exact run_load_sub hobj ht hmm (by simpa using hlt) hi
        · exact h.elim
      · obtain ⟨hi, h⟩ := h
        split at h
        · rename_i v hv
          refine SemOK.still hm h ?_ (apart_all hv (rowA_all _ _))
          simp only [conc, Instr.loadAt, Instr.sureAddr, Sem.run_bind, Sem.run_pure, Result.andThen_ok]
          have := run_load_row hobj hi hv
          simp only [Loc.at] at this
          rw [← Nat.add_assoc] at this
          exact this
        · exact h.elim
      · exact h.elim
    · split at h
      · rename_i cs hcs
        split at h
        · rename_i v hv
          have ho : ∃ o, g id = some o := by
            cases e : g id with
            | none => rw [e] at hcs; exact nomatch hcs
            | some o => exact ⟨o, rfl⟩
          obtain ⟨o, ho⟩ := ho
          rw [ho] at hcs
          refine SemOK.still hm h ?_ (apart_all hv (mem_all hm ho hcs))
          simp only [conc, Instr.loadAt, Instr.sureAddr, Sem.run_bind, Sem.run_pure, Result.andThen_ok, Nat.zero_mul, Nat.add_zero]
          exact run_loadVar hm ho hcs hv
        · exact h.elim
      · exact h.elim
  · exact h.elim

theorem setCells_same (b : Nat) : ∀ (news : List Value) (o : Nat) (w : World), (∀ k, k ≠ b → (w.setCells b o news).heap[k]? = w.heap[k]?) ∧ (w.setCells b o news).heap.size = w.heap.size ∧
    (w.setCells b o news).os = w.os ∧ (w.setCells b o news).tape = w.tape ∧ (w.setCells b o news).output = w.output
  | [], _, _ => ⟨fun _ _ => rfl, rfl, rfl, rfl, rfl⟩
  | v :: l, o, w => by
    obtain ⟨h1, h2, h3, h4, h5⟩ := setCells_same b l (o + 1) (w.setCell ⟨b, o, none⟩ v)
    rw [World.setCells]
    exact ⟨fun k hk => (h1 k hk).trans (Below.heap_setCell _ _ _ _ hk), h2.trans (by simp), h3.trans rfl, h4.trans rfl, h5.trans rfl⟩

theorem rows_store (hm : MemOK B U ρ g w) {id : Nat} {cs cs' : List Col} {n : Nat} (e : g id = some (.rows cs n false)) (hn : 0 < n) (p : Nat) (news : List Value) (hlen : p + news.length ≤ n * cs.length)
    (h1 : ∀ v ∈ news, v.oneCell' = true) (hcs : cs'.length = cs.length)
    (hval : ∀ i j c', i < n → cs'[j]? = some c' → (p ≤ i * cs.length + j → i * cs.length + j < p + news.length → news[i * cs.length + j - p]? = some (c'.val i)) ∧
      (¬ (p ≤ i * cs.length + j ∧ i * cs.length + j < p + news.length) → ∃ c, cs[j]? = some c ∧ c.val i = c'.val i)) :
    ∃ w', (storeCells ((ρ id).at p) news 0).run P w = .ok () w' ∧ MemOK B U ρ (updF g id (.rows cs' n false)) w' := by
  obtain ⟨h0, h2, h3, h4, h5⟩ := rows_here (hm.obj id _ e) hn
  obtain ⟨h5, h6⟩ := h5 rfl
  have hcap : n * cs.length ≤ (ρ id).cap * cs.length := Nat.mul_le_mul_right _ h5
  have hthere : ∀ j, j < news.length → (w.cell? ⟨(ρ id).blk, (ρ id).base + p + j, none⟩).isSome = true := fun j hj => by
    have := (h6 (p + j) (by omega)).1; simpa [Loc.at, Nat.add_assoc] using this
  refine ⟨w.setCells (ρ id).blk ((ρ id).base + p) news, ?_, ?_⟩
  · have := run_storeCells_cells (P := P) (ρ id).blk ((ρ id).base + p) news 0 w (by simpa using hthere) (fun j hj => by
      have := (h6 (p + j) (by omega)).2; simpa [Loc.at, Nat.add_assoc] using this) h1
    simpa using this
  · obtain ⟨s1, s2, s3, s4, s5⟩ := setCells_same (ρ id).blk news ((ρ id).base + p) w
    refine hm.put e rfl (by simp [AObj.live, h0]) trivial ?_ s1 s2 s3 s4 s5
    refine ⟨by rw [hcs]; exact h3, .inr ⟨h0, by rw [s2]; exact h2, fun i j c' hi hj => ?_, fun _ => ⟨h5, fun q hq => ?_⟩⟩⟩
    · rw [hcs]
      obtain ⟨v1, v2⟩ := hval i j c' hi hj
      by_cases hr : p ≤ i * cs.length + j ∧ i * cs.length + j < p + news.length
      · have hjn : i * cs.length + j - p < news.length := by omega
        have := World.cell?_setCells_in (ρ id).blk news ((ρ id).base + p) w hthere (i * cs.length + j - p) hjn
        have e2 := v1 hr.1 hr.2
        rw [List.getElem?_eq_getElem hjn, Option.some.injEq] at e2
        rw [e2] at this
        rw [← this]
        simp only [Loc.at]; congr 2; omega
      · obtain ⟨c, hc, hv⟩ := v2 hr
        rw [World.cell?_setCells_out]
        · rw [← hv]; exact h4 i j c hi hc
        · intro _ _; simp only [Loc.at]; omega
    · rw [World.frozen?_setCells]
      refine ⟨?_, (h6 q (by rw [← hcs]; exact hq)).2⟩
      exact World.isSome_setCells _ _ _ _ _ (h6 q (by rw [← hcs]; exact hq)).1

theorem over_spec {c c' c'' : Col} {i m : Nat} (h : c.over c' i m = some c'') (q : Nat) : (i ≤ q ∧ q < i + m → c''.val q = c'.val (q - i)) ∧ (¬ (i ≤ q ∧ q < i + m) → c''.val q = c.val q) := by
  unfold Col.over at h
  split at h
  · split at h
    · rename_i k f k' f' hk
      cases h
      have := ikEq_eq hk
      subst this
      exact ⟨fun h => by simp [Col.val, h], fun h => by simp only [Col.val, if_neg h]⟩
    · exact nomatch h
  · exact nomatch h

theorem put_spec {c c' : Col} {i : Nat} {x : AV} (h : c.put i x = some c') (q : Nat) : c'.val q = if q = i then conc ρ x else c.val q := by
  unfold Col.put at h
  split at h
  · split at h
    · rename_i k f k' y hk
      cases h
      have := ikEq_eq hk
      subst this
      simp only [Col.val, conc]; split <;> rfl
    · exact nomatch h
  · cases h; simp only [Col.val, conc]; split <;> rfl
  · cases h; simp only [Col.val, conc]; split <;> rfl
  · exact nomatch h

theorem put_one {c c' : Col} {i : Nat} {x : AV} (h : c.put i x = some c') : x.one = true := by
  unfold Col.put at h
  split at h <;> first | rfl | exact nomatch h

theorem putCols_spec {i : Nat} : ∀ {cs : List Col} {j : Nat} {xs : List AV} {cs' : List Col}, putCols i cs j xs = some cs' → cs'.length = cs.length ∧ (xs ≠ [] → j + xs.length ≤ cs.length) ∧ (∀ x ∈ xs, x.one = true) ∧
    ∀ k c', cs'[k]? = some c' → ∃ c, cs[k]? = some c ∧ (∀ q, q ≠ i → c'.val q = c.val q) ∧ (j ≤ k → k < j + xs.length → (concL ρ xs)[k - j]? = some (c'.val i)) ∧ (¬ (j ≤ k ∧ k < j + xs.length) → c'.val i = c.val i)
  | cs, 0, [], cs', h => by
    simp only [putCols, Option.some.injEq] at h
    subst h
    exact ⟨rfl, fun h => absurd rfl h, (fun x hx => nomatch hx), fun k c' hk => ⟨c', hk, fun _ _ => rfl, fun _ h => by simp at h, fun _ => rfl⟩⟩
  | c :: cs, 0, x :: xs, cs', h => by
    simp only [putCols] at h
    split at h
    · rename_i c1 cs1 h1 h2
      cases h
      obtain ⟨a1, a2, a3, a4⟩ := putCols_spec h2
      refine ⟨by simp [a1], fun _ => ?_, fun y hy => ?_, fun k c' hk => ?_⟩
      · by_cases hx : xs = []
        · subst hx; simp
        · have := a2 hx; simp at this ⊢; omega
      · rcases List.mem_cons.1 hy with rfl | hy
        · exact put_one h1
        · exact a3 y hy
      · cases k with
        | zero =>
          simp only [List.getElem?_cons_zero, Option.some.injEq] at hk
          subst hk
          refine ⟨c, by simp, fun q hq => by rw [put_spec (ρ := ρ) h1, if_neg hq], fun _ _ => by rw [put_spec (ρ := ρ) h1, if_pos rfl]; simp [concL], fun h => absurd ⟨Nat.le_refl _, by simp⟩ h⟩
        | succ k =>
          simp only [List.getElem?_cons_succ] at hk
          obtain ⟨c2, b1, b2, b3, b4⟩ := a4 k c' hk
          refine ⟨c2, by simpa using b1, b2, fun _ hl => ?_, fun hn => b4 (fun h => hn ?_)⟩
          · have := b3 (Nat.zero_le _) (by simp at hl; omega)
            simpa [concL] using this
          · simp; omega
    · exact nomatch h
  | c :: cs, j + 1, xs, cs', h => by
    simp only [putCols] at h
    split at h
    · rename_i cs1 h2
      cases h
      obtain ⟨a1, a2, a3, a4⟩ := putCols_spec h2
      refine ⟨by simp [a1], fun hx => by have := a2 hx; simp; omega, a3, fun k c' hk => ?_⟩
      cases k with
      | zero =>
        simp only [List.getElem?_cons_zero, Option.some.injEq] at hk
        subst hk
        exact ⟨c, by simp, fun _ _ => rfl, fun h => by omega, fun _ => rfl⟩
      | succ k =>
        simp only [List.getElem?_cons_succ] at hk
        obtain ⟨c2, b1, b2, b3, b4⟩ := a4 k c' hk
        refine ⟨c2, by simpa using b1, b2, fun h1 h2 => ?_, fun hn => b4 (fun h => hn (by omega))⟩
        have := b3 (by omega) (by omega)
        rw [show k + 1 - (j + 1) = k - j by omega]; exact this
    · exact nomatch h
  | [], 0, x :: xs, cs', h => by simp [putCols] at h
  | [], j + 1, xs, cs', h => by simp [putCols] at h

theorem nthI_get {k : IntKind} : ∀ {cs : List AV}, allK k cs = true → ∀ i, i < cs.length → (concL ρ cs)[i]? = some (.int k (nthI cs i))
  | [], _, i, hi => by simp at hi
  | x :: l, h, i, hi => by
    unfold allK at h
    split at h
    · rename_i hnil; exact nomatch hnil
    · rename_i k' n l' e
      cases e
      split at h
      · rename_i hk
        have := ikEq_eq hk; subst this
        cases i with
        | zero => simp [concL, conc, nthI]
        | succ i =>
          have := nthI_get h i (by simpa using hi)
          simp only [concL, List.getElem?_cons_succ, nthI]
          exact this
      · exact nomatch h
    · exact nomatch h

theorem toCol_spec {m : Nat} {v : AV} {c : Col} (h : toCol m v = some c) : (conc ρ v).cells.toList.length = m ∧ (∀ q, q < m → (conc ρ v).cells.toList[q]? = some (c.val q)) ∧ ∀ x ∈ (conc ρ v).cells.toList, x.oneCell' = true := by
  unfold toCol at h
  split at h
  · rename_i k f n
    split at h
    · rename_i hn
      cases h
      have hn : n = m := by simpa [nbeq] using hn
      subst hn
      simp only [conc, Value.cells]
      refine ⟨by simp [rowsV_length], fun q hq => ?_, fun x hx => ?_⟩
      · have := rowsV_get [.int k f] n q 0 _ hq rfl
        simpa using this
      · rw [rowsV_one] at hx
        obtain ⟨q, _, rfl⟩ := List.mem_map.1 hx
        rfl
    · exact nomatch h
  · rename_i cs
    split at h
    · rename_i k hk hl
      split at h
      · rename_i ha
        cases h
        have hl : cs.length = m := by simpa [nbeq] using hl
        subst hl
        simp only [conc, Value.cells]
        refine ⟨by simp [concL_eq], fun q hq => ?_, fun x hx => ?_⟩
        · exact nthI_get ha q hq
        · obtain ⟨i, hi, e⟩ := List.getElem_of_mem hx
          have hi' : i < cs.length := by simpa [concL_eq] using hi
          have := nthI_get (ρ := ρ) ha i hi'
          rw [List.getElem?_eq_getElem (by simpa [concL_eq] using hi')] at this
          have e2 : x = .int k (nthI cs i) := by rw [← e]; simpa using this
          rw [e2]; rfl
      · exact nomatch h
    · exact nomatch h
  · exact nomatch h

theorem run_storeVar_list {t : TypeId} {m : Nat} (hm : asz P t = some m) (a : Addr) (v : Value) (hl : v.cells.toList.length = m) {r : Result Unit} (h : (storeCells a v.cells.toList 0).run P w = r) :
    (storeVar t a v).run P w = r := by
  simp only [storeVar, Sem.run_bind, asz_run hm, Result.andThen_ok]
  rw [if_neg (by rw [← hl]; simp)]
  exact h

theorem ok_store (hm : MemOK B U ρ g w) {V : Nat → Prop} {t : TypeId} {x v : AV} {K : Out → Prop} (h : (R.res g (astore P t x v)).holds K) (hv : v.all U) :
    ∃ out w', K out ∧ out.val = .v undef ∧ (Instr.storeAt t (conc ρ x) (conc ρ v)).run P w = .ok () w' ∧ MemOK B (orU U V) ρ (wrF g out.wr) w' := by
  unfold astore at h
  split at h
  · rename_i id i j
    rw [res_look] at h
    split at h
    · rename_i cs n ho
      have hobj := hm.obj _ _ ho
      unfold rstore at h
      split at h
      · rename_i m ht hmm
        split at h
        · rename_i c c' hlt hc'
          have h0 : 0 < m := by simpa using hlt
          obtain ⟨t1, t2, t3⟩ := toCol_spec (ρ := ρ) hc'
          split at h
          · rename_i hmn
            have hmn : m = n := by simpa [nbeq] using hmn
            subst hmn
            obtain ⟨hi, h⟩ := h
            subst hi
            obtain ⟨w', hr, hm'⟩ := rows_store (P := P) (cs' := [c']) hm ho h0 0 (conc ρ v).cells.toList (by rw [t1]; simp) t3 rfl (fun i j c'' hi hj => by
              have hj0 : j = 0 := by
                have := (List.getElem?_eq_some_iff.1 hj).1; simpa using this
              subst hj0
              simp only [List.getElem?_cons_zero, Option.some.injEq] at hj
              subst hj
              simp only [List.length_singleton, Nat.mul_one, Nat.add_zero, Nat.zero_add, Nat.sub_zero]
              exact ⟨fun _ _ => t2 i hi, fun hn => absurd ⟨Nat.zero_le _, by omega⟩ hn⟩)
            refine ⟨_, w', h, rfl, ?_, hm'.mono fun _ h => .inl h⟩
            simp only [conc, Instr.storeAt, Instr.sureAddr, Sem.run_bind, Sem.run_pure, Result.andThen_ok]
            refine run_storeVar_list hmm _ _ t1 ?_
            simpa [Loc.at] using hr
          · split at h
            · rename_i c'' hov
              obtain ⟨hi, h⟩ := h
              obtain ⟨_, _, he, _⟩ := rows_here hobj (by omega)
              have hsp := over_spec hov
              obtain ⟨w', hr, hm'⟩ := rows_store (P := P) (cs' := [c'']) hm ho (by omega) i (conc ρ v).cells.toList (by rw [t1]; simpa using hi) t3 rfl (fun q j c3 hq hj => by
                have hj0 : j = 0 := by
                  have := (List.getElem?_eq_some_iff.1 hj).1; simpa using this
                subst hj0
                simp only [List.getElem?_cons_zero, Option.some.injEq] at hj
                subst hj
                simp only [List.length_singleton, Nat.mul_one, Nat.add_zero, t1]
                refine ⟨fun a1 a2 => ?_, fun hn => ⟨c, rfl, ((hsp q).2 hn).symm⟩⟩
                rw [(hsp q).1 ⟨a1, a2⟩]
                exact t2 (q - i) (by omega))
              refine ⟨_, w', h, rfl, ?_, hm'.mono fun _ h => .inl h⟩
              simp only [conc, Instr.storeAt, Instr.sureAddr, Sem.run_bind, Sem.run_pure, Result.andThen_ok]
              refine run_storeVar_list hmm _ _ t1 ?_
              simp only [List.length_singleton] at he
              simpa [Loc.at, he] using hr
            · exact h.elim
        · exact h.elim
      · rename_i m ht hmm
        split at h
        · rename_i cs' hl hp
          have hl : v.cells.length = m := by simpa [nbeq] using hl
          obtain ⟨hi, h⟩ := h
          obtain ⟨_, _, he, _⟩ := rows_here hobj (by omega)
          obtain ⟨p1, p2, p3, p4⟩ := putCols_spec (ρ := ρ) hp
          have hcells : (conc ρ v).cells.toList = concL ρ v.cells := by rw [cells_conc]
          have hfit : i * cs.length + j + v.cells.length ≤ n * cs.length ∨ v.cells = [] := by
            by_cases hx : v.cells = []
            · exact .inr hx
            · left
              have := p2 hx
              have h3 : (i + 1) * cs.length ≤ n * cs.length := Nat.mul_le_mul_right _ hi
              rw [Nat.add_mul] at h3; omega
          by_cases hx : v.cells = []
          · refine ⟨_, w, h, rfl, ?_, ?_⟩
            · simp only [conc, Instr.storeAt, Instr.sureAddr, Sem.run_bind, Sem.run_pure, Result.andThen_ok]
              refine run_storeVar_list hmm _ _ (by rw [hcells, concL_eq, List.length_map, hl]) ?_
              rw [hcells, hx]; rfl
            · have hcs : ∀ {cs : List Col} {j : Nat} {cs' : List Col}, putCols i cs j [] = some cs' → cs' = cs := by
                intro cs
                induction cs with
                | nil => intro j cs' h; cases j <;> simp [putCols] at h; exact h.symm ▸ rfl
                | cons c cs ih =>
                  intro j cs' h
                  cases j with
                  | zero => simp [putCols] at h; exact h.symm ▸ rfl
                  | succ j =>
                    simp only [putCols] at h
                    split at h
                    · rename_i cs1 h2; cases h; rw [ih h2]
                    · exact nomatch h
              rw [hx] at hp
              have := hcs hp
              subst this
              refine (hm.sub fun k o hk => ?_).mono fun _ h => .inl h
              simp only [wrF, updF] at hk
              split at hk
              · rename_i hk'; subst hk'; cases hk; exact ho
              · exact hk
          · obtain ⟨w', hr, hm'⟩ := rows_store (P := P) (cs' := cs') hm ho (by omega) (i * cs.length + j) (concL ρ v.cells) (by rw [concL_eq, List.length_map]; rcases hfit with h | h; exact h; exact absurd h hx)
              (fun u hu => by rw [concL_eq] at hu; obtain ⟨y, hy, rfl⟩ := List.mem_map.1 hu; exact one_conc (p3 y hy)) p1 (fun q k c3 hq hk => by
                obtain ⟨c, b1, b2, b3, b4⟩ := p4 k c3 hk
                have hkl : k < cs.length := (List.getElem?_eq_some_iff.1 b1).1
                have hjl := p2 hx
                have hlen : (concL ρ v.cells).length = v.cells.length := by rw [concL_eq, List.length_map]
                rw [hlen]
                rcases Nat.lt_trichotomy q i with hqi | hqi | hqi
                · have h3 : (q + 1) * cs.length ≤ i * cs.length := Nat.mul_le_mul_right _ hqi
                  rw [Nat.add_mul] at h3
                  exact ⟨fun a1 a2 => by omega, fun _ => ⟨c, b1, (b2 q (by omega)).symm⟩⟩
                · subst hqi
                  refine ⟨fun a1 a2 => ?_, fun hn => ⟨c, b1, (b4 fun h => hn (by omega)).symm⟩⟩
                  have := b3 (by omega) (by omega)
                  rw [← this]; congr 1; omega
                · have h3 : (i + 1) * cs.length ≤ q * cs.length := Nat.mul_le_mul_right _ hqi
                  rw [Nat.add_mul] at h3
                  exact ⟨fun a1 a2 => by omega, fun _ => ⟨c, b1, (b2 q (by omega)).symm⟩⟩)
            refine ⟨_, w', h, rfl, ?_, hm'.mono fun _ h => .inl h⟩
            simp only [conc, Instr.storeAt, Instr.sureAddr, Sem.run_bind, Sem.run_pure, Result.andThen_ok]
            refine run_storeVar_list hmm _ _ (by rw [hcells, concL_eq, List.length_map, hl]) ?_
            rw [hcells]
            simpa [Loc.at, he, Nat.add_assoc] using hr
        · exact h.elim
      · exact h.elim
    · rename_i cs hcs
      split at h
      · rename_i n hn
        split at h
        · rename_i hsz
          split at h
          · rename_i cs' h1 hp
            have hlen : v.cells.length = n := by simpa [nbeq] using hsz
            obtain ⟨w', hr, hm'⟩ := MemOK.stores (P := P) (new := v.cells) (cs' := cs') 0 hm hcs (by simpa using hp) (cells_all hv) (allOne_iff.1 h1)
            refine ⟨_, w', h, rfl, ?_, hm'.mono fun _ h => .inl h⟩
            simp only [conc, Instr.storeAt, Instr.sureAddr, Sem.run_bind, Sem.run_pure, Result.andThen_ok, storeVar, asz_run hn, cells_conc]
            rw [if_neg (by simp [length_concL, hlen])]
            simpa using hr
          · exact h.elim
        · exact h.elim
      · exact h.elim
    · exact h.elim
  · exact h.elim

abbrev Loc.newR (b m : Nat) : Loc := { blk := b, base := 0, esz := 1, cap := m }
theorem conc_newR (b m : Nat) : conc (upd ρ nid (Loc.newR b m)) (.p nid 0 0) = .pointer (some ⟨b, 0, none⟩) := by simp [conc, upd]

/-- A new array told by a column. -/
theorem MemOK.allocR (hm : MemOK B U ρ g w) (hn : ∀ i, newIds nid i → ¬ U i) {c : Col} {m : Nat} {vals : List Value} (hl : vals.length = m) (hv : ∀ q, q < m → vals[q]? = some (c.val q)) (T : TypeId) :
    (∀ i, U i → upd ρ nid (Loc.newR w.heap.size m) i = ρ i) ∧ MemOK B (orU U (newIds nid)) (upd ρ nid (Loc.newR w.heap.size m)) (updF g nid (.rows [c] m false)) (w.alloc (.cells vals.toArray T)) := by
  have hnU : ¬ U nid := hn nid ⟨Nat.le_refl _, by omega⟩
  refine ⟨fun i hi => ?_, ?_⟩
  · have : i ≠ nid := fun e => hnU (e ▸ hi)
    simp [upd, this]
  refine (hm.newO hnU (below_alloc w _) (Loc.newR w.heap.size m) (Nat.le_refl _) (o := .rows [c] m false) ?_ trivial).mono ?_
  · have hnew : upd ρ nid (Loc.newR w.heap.size m) nid = Loc.newR w.heap.size m := by simp [upd]
    have hcell : ∀ q, q < m → (w.alloc (.cells vals.toArray T)).cell? ((Loc.newR w.heap.size m).at q) = some (c.val q) := fun q hq => by
      simp only [Loc.at, Nat.zero_add, World.cell?_alloc_new]
      simpa using hv q hq
    simp only [ObjOK, hnew]
    refine ⟨rfl, .inr ⟨trivial, by simp, fun i j c' hi hj => ?_, fun _ => ⟨Nat.le_refl _, fun q hq => ?_⟩⟩⟩
    · have hj0 : j = 0 := by have := (List.getElem?_eq_some_iff.1 hj).1; simpa using this
      subst hj0
      simp only [List.getElem?_cons_zero, Option.some.injEq] at hj
      subst hj
      simpa using hcell i hi
    · simp only [List.length_singleton, Nat.mul_one] at hq
      exact ⟨by rw [hcell q hq]; rfl, by simp only [Loc.at, Nat.zero_add, World.frozen?_alloc_new]⟩
  · intro i hi
    rcases hi with h | h
    · exact .inl h
    · exact .inr (by subst h; exact ⟨Nat.le_refl _, by omega⟩)

theorem zeroCol_get {cs : List AV} {c : Col} (h : zeroCol cs = some c) : ∀ q, q < cs.length → (concL ρ cs)[q]? = some (c.val q) := by
  unfold zeroCol at h
  split at h
  · rename_i k hk
    split at h
    · rename_i ha
      cases h
      have key : ∀ (cs : List AV), allZ k cs = true → ∀ q, q < cs.length → (concL ρ cs)[q]? = some (.int k 0) := by
        intro cs
        induction cs with
        | nil => intro _ q hq; simp at hq
        | cons x l ih =>
          intro ha q hq
          unfold allZ at ha
          split at ha
          · rename_i e; exact nomatch e
          · rename_i k' n l' e
            cases e
            split at ha
            · rename_i hk'
              have := ikEq_eq hk'; subst this
              cases q with
              | zero => simp [concL, conc]
              | succ q => simpa [concL] using ih ha q (by simpa using hq)
            · exact nomatch ha
          · exact nomatch ha
      exact key cs ha
    · exact nomatch h
  · exact nomatch h

theorem ok_allocR (hm : MemOK B U ρ g w) (hn : ∀ i, newIds nid i → ¬ U i) {e : TypeId} {z : AV} (hz : azero P e = some z) {c : Col} (hc : zeroCol z.cells = some c) {K : Out → Prop}
    (hK : K ⟨.p nid 0 0, [(nid, .rows [c] z.cells.length false)]⟩) : SemOK P B U (newIds nid) ρ g w (Instr.alloc e true (.tuple #[])) K := by
  unfold azero at hz
  split at hz
  · rename_i i hi
    simp only [Option.map_eq_some_iff] at hz
    obtain ⟨v, hv, rfl⟩ := hz
    obtain ⟨h1, h2⟩ := hm.allocR (m := (ofValue v).cells.length) (vals := concL ρ (ofValue v).cells) hn (by rw [concL_eq, List.length_map]) (zeroCol_get hc) e
    refine ⟨_, _, _, hK, ?_, h1, h2, all_nid⟩
    simp only [Instr.alloc, Sem.run_bind, run_zeroValue e hi hv, Result.andThen_ok, newVar, run_newRow, Sem.run_pure, conc_newR]
    rw [← cells_conc, conc_ofValue]
  · exact nomatch hz

theorem ok_boxR (hm : MemOK B U ρ g w) (hn : ∀ i, newIds nid i → ¬ U i) {e : TypeId} {v : AV} {m : Nat} {c : Col} (hc : toCol m v = some c) {K : Out → Prop} (hK : K ⟨.p nid 0 0, [(nid, .rows [c] m false)]⟩) :
    SemOK P B U (newIds nid) ρ g w (Instr.box e (conc ρ v)) K := by
  obtain ⟨t1, t2, _⟩ := toCol_spec (ρ := ρ) hc
  obtain ⟨h1, h2⟩ := hm.allocR hn t1 t2 e
  refine ⟨_, _, _, hK, ?_, h1, h2, all_nid⟩
  simp only [Instr.box, Sem.run_bind, newVar, run_newRow, Result.andThen_ok, Sem.run_pure, conc_newR]

theorem ok_indexAddr (hm : MemOK B U ρ g w) {V : Nat → Prop} {sy : Bool} {t : TypeId} {x ix : AV} {K : Out → Prop} (hx : x.all U) (h : (R.res g (aindexAddr P sy t x ix)).holds K) :
    SemOK P B U V ρ g w (Instr.indexAt t (conc ρ x) (conc ρ ix)) K := by
  unfold aindexAddr at h
  split at h
  · rename_i len e id i j k x h1
    split at h
    · rename_i n hn
      rw [res_look] at h
      split at h
      · rename_i c m ro ho
        split at h
        · obtain ⟨hb, h⟩ := indexN_holds h
          have he := (hm.obj _ _ ho).1
          simp only [List.length_singleton] at he
          refine SemOK.still hm h ?_ hx
          simp only [conc, Instr.indexAt, asIntOf, Sem.run_bind, Sem.run_pure, Result.andThen_ok, run_underlying t h1, Instr.sureAddr]
          simp only [hb, and_self, if_true, Sem.run_bind, asz_run hn, Result.andThen_ok, Sem.run_pure, addr_add, he, mulN_eq]
          congr 4; omega
        · exact h.elim
      all_goals first
        | exact h.elim
        | (split at h
           · obtain ⟨hb, h⟩ := indexN_holds h
             refine SemOK.still hm h ?_ hx
             simp only [conc, Instr.indexAt, asIntOf, Sem.run_bind, Sem.run_pure, Result.andThen_ok, run_underlying t h1, Instr.sureAddr]
             simp only [hb, and_self, if_true, Sem.run_bind, asz_run hn, Result.andThen_ok, Sem.run_pure, addr_add]
             congr 4; omega
           · exact h.elim)
    · exact h.elim
  · rename_i e id j len cap k i h1
    split at h
    · rename_i n hn
      obtain ⟨hb, h⟩ := indexN_holds h
      refine SemOK.still hm h ?_ hx
      simp only [conc, Instr.indexAt, asIntOf, Sem.run_bind, Sem.run_pure, Result.andThen_ok, run_underlying t h1]
      simp only [hb, and_self, if_true, Sem.run_bind, asz_run hn, Result.andThen_ok, Sem.run_pure, addr_add]
      congr 4; omega
    · exact h.elim
  · exact h.elim

theorem run_part_sub {t : TypeId} (ht : isArr P t = true) {m : Nat} (hm : asz P t = some m) (c : Col) (n off : Nat) (hle : off + m ≤ n) :
    (part t (rowsV [c] n).toArray off).run P w = .ok (conc ρ (.rows [c.shift off] m)) w := by
  obtain ⟨n', e', hd⟩ := isArr_agg ht
  unfold asz at hm
  rw [Option.map_eq_some_iff] at hm
  obtain ⟨ti, hti, rfl⟩ := hm
  unfold part
  simp only [Sem.run_bind, run_isAgg t hd, Result.andThen_ok, isAggD, if_true, run_sizeOf t hti, Sem.run_pure, conc]
  congr 2
  apply Array.ext'
  simp only [Array.toList_extract, List.extract_eq_take_drop, List.toList_toArray]
  apply List.ext_getElem?
  intro k
  by_cases hk : k < ti.size
  · rw [List.getElem?_take, if_pos (by omega), List.getElem?_drop]
    have a := rowsV_get [c] n (off + k) 0 c (by omega) rfl
    have b := rowsV_get [c.shift off] ti.size k 0 _ hk rfl
    simp only [List.length_singleton, Nat.mul_one, Nat.add_zero] at a b
    rw [a, b, shift_val]
  · rw [List.getElem?_eq_none (by simp [rowsV_length]; omega), List.getElem?_eq_none (by simp [rowsV_length]; omega)]

theorem ok_index (hm : MemOK B U ρ g w) {V : Nat → Prop} {sy : Bool} {t : TypeId} {x ix : AV} {K : Out → Prop} (hx : x.all U) (h : (R.res g (aindex P sy t x ix)).holds K) :
    SemOK P B U V ρ g w (Instr.index t (conc ρ x) (conc ρ ix)) K := by
  unfold aindex at h
  split at h
  · rename_i len e cs k i h1
    split at h
    · rename_i n hn
      obtain ⟨hb, h⟩ := indexN_holds h
      split at h
      · rename_i v hv
        refine SemOK.still hm h ?_ (apart_all hv hx)
        simp only [conc, Instr.index, asIntOf, Sem.run_bind, Sem.run_pure, Result.andThen_ok, run_underlying t h1]
        simp only [hb, and_self, if_true, Sem.run_bind, asz_run hn, Result.andThen_ok, run_part hv]
      · exact h.elim
    · exact h.elim
  · rename_i len e c n k i h1
    split at h
    · rename_i m hmm
      split at h
      · rename_i hn h0
        have hn : n = len * m := by simpa [nbeq] using hn
        split at h
        · rename_i ht
          obtain ⟨hb, h⟩ := indexN_holds h
          rw [mulN_eq] at h
          have hle : i.toNat * m + m ≤ n := by
            have h3 : (i.toNat + 1) * m ≤ len * m := Nat.mul_le_mul_right _ (by omega)
            rw [Nat.add_mul] at h3; omega
          refine SemOK.still hm h ?_ trivial
          simp only [conc, Instr.index, asIntOf, Sem.run_bind, Sem.run_pure, Result.andThen_ok, run_underlying t h1]
          simp only [hb, and_self, if_true, Sem.run_bind, asz_run hmm, Result.andThen_ok]
          exact run_part_sub (ρ := ρ) ht hmm c n _ hle
        · split at h
          · rename_i hm1
            have hm1 : m = 1 := by simpa [nbeq] using hm1
            subst hm1
            split at h
            · rename_i hagg
              obtain ⟨hb, h⟩ := indexN_holds h
              refine SemOK.still hm h ?_ (av_all c _)
              simp only [conc, Instr.index, asIntOf, Sem.run_bind, Sem.run_pure, Result.andThen_ok, run_underlying t h1]
              simp only [hb, and_self, if_true, Sem.run_bind, asz_run hmm, Result.andThen_ok]
              split at hagg
              · rename_i d hd
                unfold part
                simp only [Sem.run_bind, run_isAgg e hd, Result.andThen_ok, hagg, Bool.false_eq_true, if_false, Nat.mul_one]
                have := rowsV_get [c] n i.toNat 0 c (by omega) rfl
                simp only [List.length_singleton, Nat.mul_one, Nat.add_zero] at this
                have h2 : (rowsV [c] n).toArray[i.toNat]? = some (c.val i.toNat) := by simpa using this
                rw [h2, conc_av]; rfl
              · exact nomatch hagg
            · exact h.elim
          · exact h.elim
      · exact h.elim
    · exact h.elim
  · rename_i b k i h1
    obtain ⟨hb, h⟩ := indexN_holds h
    refine SemOK.still hm h ?_ trivial
    simp only [conc, Instr.index, asIntOf, Sem.run_bind, Sem.run_pure, Result.andThen_ok, run_underlying t h1]
    have hlt : i.toNat < b.length := by omega
    have : (⟨b.toArray⟩ : ByteArray)[i.toNat]? = some b[i.toNat] := by
      rw [getElem?_pos _ _ (by rw [size_mk]; exact hlt)]
      rfl
    simp only [hb.1, if_true, this, Sem.run_pure, List.getD_eq_getElem?_getD, List.getElem?_eq_getElem hlt, Option.getD_some]
  · exact h.elim
end
end Go.Sx
