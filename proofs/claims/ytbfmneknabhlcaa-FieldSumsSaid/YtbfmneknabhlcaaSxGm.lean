/- Operations on maps. -/
import Derived.Test.YtbfmneknabhlcaaSxGa
set_option linter.unusedSimpArgs false
set_option linter.unusedVariables false
namespace Go.Sx
open Go.RowKit (Below)

section
variable {P : Program} {B : Base} {w : World} {ρ : Nat → Loc} {U : Nat → Prop} {g : Nat → Option AObj} {nid : Nat}

def isKeyD : TypeDesc → Bool
  | .int _ | .string => true
  | _ => false

theorem keySame_spec {t : TypeId} {x y : AV} {b : Bool} (h : keySame P t x y = some b) :
    ∃ d, P.underlying t = some d ∧ isKeyD d = true ∧ Instr.sameNow d (conc ρ x) (conc ρ y) = some b ∧ (b = true → Instr.sameBits 10000 (conc ρ y) (conc ρ x) = true) := by
  unfold keySame at h
  split at h
  · rename_i q k a k' b' hu
    split at h
    · rename_i hk
      have := ikEq_iff hk; subst this
      cases h
      refine ⟨_, hu, rfl, by simp [conc, Instr.sameNow], fun hb => ?_⟩
      have : a = b' := by simpa using hb
      subst this
      simp [conc, Instr.sameBits]
    · exact nomatch h
  · rename_i a b' hu
    cases h
    refine ⟨_, hu, rfl, ?_, fun hb => ?_⟩
    · simp only [conc, Instr.sameNow]
      rw [beq_toListBytes, ByteArray.toList_eq, ByteArray.toList_eq]
    · have : a = b' := by simpa using hb
      subst this
      simp only [conc, Instr.sameBits]
      rw [beq_toListBytes]; simp
  · exact nomatch h

theorem run_checkKey {t : TypeId} {d : TypeDesc} (hd : P.underlying t = some d) (hk : isKeyD d = true) (e : Bool) (v : Value) : (Instr.checkKey e 10000 t v).run P w = .ok () w := by
  unfold Instr.checkKey
  simp only [Sem.run_bind, run_underlying t hd, Result.andThen_ok]
  cases d <;> simp [isKeyD] at hk
  all_goals cases v <;> rfl

def entryOf (e : MapEntry) : Value × Value := (e.key, e.val)
def concE (ρ : Nat → Loc) (e : AV × AV) : Value × Value := (conc ρ e.1, conc ρ e.2)

theorem findE_spec {t : TypeId} {d : TypeDesc} (hd : P.underlying t = some d) {k : AV} : ∀ {es : List (AV × AV)} {l : List MapEntry} {i : Nat} {r : Option (Nat × AV)}, findE P t k es i = some r → l.map entryOf = es.map (concE ρ) →
    Instr.findNow d (conc ρ k) l i = some (r.map fun x => (x.1, conc ρ x.2)) ∧ ∀ j v, r = some (j, v) → ∃ n e, j = i + n ∧ es[n]? = some e ∧ v = e.2 ∧ ∃ m, l[n]? = some m ∧ Instr.sameBits 10000 m.key (conc ρ k) = true
  | [], [], i, r, h, _ => by simp only [findE, Option.some.injEq] at h; subst h; exact ⟨rfl, fun j v h => nomatch h⟩
  | [], _ :: _, _, _, _, hl => by simp at hl
  | _ :: _, [], _, _, _, hl => by simp at hl
  | e :: es, m :: l, i, r, h, hl => by
    simp only [List.map_cons, List.cons.injEq] at hl
    obtain ⟨he, hl⟩ := hl
    have hkey : m.key = conc ρ e.1 := congrArg Prod.fst he
    have hval : m.val = conc ρ e.2 := congrArg Prod.snd he
    simp only [findE] at h
    split at h
    · rename_i b hb
      obtain ⟨d', h1, _, h2, h3⟩ := keySame_spec (ρ := ρ) hb
      rw [hd] at h1; cases h1
      simp only [Instr.findNow, hkey, h2]
      split at h
      · cases h
        refine ⟨by simp [hval], fun j v hjv => ?_⟩
        cases hjv
        exact ⟨0, e, rfl, rfl, rfl, m, rfl, by rw [hkey]; exact h3 rfl⟩
      · obtain ⟨f1, f2⟩ := findE_spec hd h hl
        refine ⟨f1, fun j v hjv => ?_⟩
        obtain ⟨n, e', a1, a2, a3, m', a4, a5⟩ := f2 j v hjv
        exact ⟨n + 1, e', by omega, by simpa using a2, a3, m', by simpa using a4, a5⟩
    · exact nomatch h

theorem run_findKey {t : TypeId} {d : TypeDesc} (hd : P.underlying t = some d) {k : AV} {es : List (AV × AV)} {l : List MapEntry} {r : Option (Nat × AV)} (h : findE P t k es 0 = some r) (hl : l.map entryOf = es.map (concE ρ)) :
    (Instr.findKey t (conc ρ k) l).run P w = .ok (r.map fun x => (x.1, conc ρ x.2)) w := by
  unfold Instr.findKey
  simp only [Sem.run_bind, run_underlying t hd, Result.andThen_ok, (findE_spec (ρ := ρ) hd h hl).1, Sem.run_pure]

theorem run_getObj_map {b : Nat} {arr : Array MapEntry} {clock : Nat} (h : w.heap[b]? = some (.map arr clock)) : (getObj b).run P w = .ok (.map arr clock) w := by
  unfold getObj
  simp only [Sem.run, h]
theorem run_setObj_map {b : Nat} {arr : Array MapEntry} {clock : Nat} {o : Obj} (h : w.heap[b]? = some (.map arr clock)) : (setObj b o).run P w = .ok () { w with heap := w.heap.setIfInBounds b o } := by
  unfold setObj
  simp only [Sem.run, h]

theorem setE_map {k v : AV} : ∀ {es : List (AV × AV)} {i : Nat}, (setE k v es i).map (concE ρ) = (es.map (concE ρ)).set i (conc ρ k, conc ρ v)
  | [], _ => rfl
  | _ :: es, 0 => rfl
  | e :: es, i + 1 => by simp only [setE, List.map_cons, List.set_cons_succ, setE_map (es := es)]
theorem setE_mem {k v : AV} : ∀ {es : List (AV × AV)} {i : Nat} {e : AV × AV}, e ∈ setE k v es i → e = (k, v) ∨ e ∈ es
  | [], _, e, h => by simp [setE] at h
  | _ :: es, 0, e, h => by
    simp only [setE, List.mem_cons] at h
    rcases h with h | h
    · exact .inl h
    · exact .inr (List.mem_cons_of_mem _ h)
  | e' :: es, i + 1, e, h => by
    simp only [setE, List.mem_cons] at h
    rcases h with h | h
    · exact .inr (by simp [h])
    · rcases setE_mem h with h | h
      · exact .inl h
      · exact .inr (List.mem_cons_of_mem _ h)

theorem findE_mem {t : TypeId} {k : AV} : ∀ {es : List (AV × AV)} {i j : Nat} {v : AV}, findE P t k es i = some (some (j, v)) → ∃ e ∈ es, e.2 = v
  | [], _, _, _, h => by simp [findE] at h
  | e :: es, i, j, v, h => by
    simp only [findE] at h
    split at h
    · split at h
      · cases h; exact ⟨e, by simp, rfl⟩
      · obtain ⟨e', h1, h2⟩ := findE_mem h
        exact ⟨e', List.mem_cons_of_mem _ h1, h2⟩
    · exact nomatch h

theorem ok_lookup (hm : MemOK B U ρ g w) {V : Nat → Prop} {t : TypeId} {m k : AV} {ok : Bool} {K : Out → Prop} (h : (R.res g (alookup P t m k ok)).holds K) :
    SemOK P B U V ρ g w (Instr.lookup t (conc ρ m) (conc ρ k) ok) K := by
  unfold alookup at h
  split at h
  · rename_i kt et id hu
    simp only [R.res] at h
    split at h
    · rename_i es hes
      obtain ⟨arr, clock, h1, h2⟩ := hm.obj id _ hes
      have hU := (hm.use id _ hes).2
      have hl : arr.toList.map entryOf = es.map (concE ρ) := h2
      split at h
      · rename_i b j v z hks hf hz
        obtain ⟨d, hd, hdk, _, _⟩ := keySame_spec (ρ := ρ) hks
        obtain ⟨e, he, hev⟩ := findE_mem hf
        have hv : v.all U := by rw [← hev]; exact (hU e he).2
        refine SemOK.still hm h ?_ ?_
        · simp only [conc, Instr.lookup, Sem.run_bind, run_underlying t hu, Result.andThen_ok, run_getObj_map h1, Sem.run_pure, run_checkKey hd hdk, run_findKey (ρ := ρ) hd hf hl, Option.map_some]
          cases ok <;> simp [conc, concL]
        · cases ok
          · exact hv
          · exact ⟨hv, trivial, trivial⟩
      · rename_i b z hks hf hz
        obtain ⟨d, hd, hdk, _, _⟩ := keySame_spec (ρ := ρ) hks
        obtain ⟨z1, z2⟩ := azero_run (w := w) (ρ := ρ) hz
        refine SemOK.still hm h ?_ ?_
        · simp only [conc, Instr.lookup, Sem.run_bind, run_underlying t hu, Result.andThen_ok, run_getObj_map h1, Sem.run_pure, run_checkKey hd hdk, run_findKey (ρ := ρ) hd hf hl, Option.map_none, z1]
          cases ok <;> simp [conc, concL]
        · cases ok
          · exact z2 U
          · exact ⟨z2 U, trivial, trivial⟩
      · exact h.elim
    · exact h.elim
  · exact h.elim

theorem ok_mapUpdate (hm : MemOK B U ρ g w) {V : Nat → Prop} {t : TypeId} {m k v : AV} {K : Out → Prop} (h : (R.res g (amapUpdate P t m k v)).holds K) (hk : k.all U) (hv : v.all U) :
    ∃ out w', K out ∧ out.val = .v undef ∧ (Instr.mapUpdate t (conc ρ m) (conc ρ k) (conc ρ v)).run P w = .ok () w' ∧ MemOK B (orU U V) ρ (wrF g out.wr) w' := by
  unfold amapUpdate at h
  split at h
  · rename_i kt et id hu
    simp only [R.res] at h
    split at h
    · rename_i es hes
      obtain ⟨arr, clock, h1, h2⟩ := hm.obj id _ hes
      have hU := (hm.use id _ hes).2
      have hl : arr.toList.map entryOf = es.map (concE ρ) := h2
      split at h
      · rename_i b i x hks hf
        obtain ⟨d, hd, hdk, _, _⟩ := keySame_spec (ρ := ρ) hks
        obtain ⟨n, e, a1, a2, a3, me, a4, a5⟩ := (findE_spec (ρ := ρ) hd hf hl).2 _ _ rfl
        rw [Nat.zero_add] at a1; subst a1
        have hnew := hm.setMap (id := id) (es := es) (es' := setE k v es i) (clock := clock) (arr := arr.modify i fun e => { e with key := conc ρ k, val := conc ρ v }) hes
          (fun e he => by rcases setE_mem he with rfl | he; exact ⟨hk, hv⟩; exact hU e he) (by
            have e1 : (setE k v es i).map (fun e => (conc ρ e.1, conc ρ e.2)) = (es.map (concE ρ)).set i (conc ρ k, conc ρ v) := setE_map
            rw [e1, ← hl]
            apply List.ext_getElem?
            intro j
            simp only [Array.toList_modify, List.getElem?_map, List.getElem?_set, List.length_map, List.getElem?_modify]
            by_cases hj : i = j
            · subst hj
              have hlt : i < arr.toList.length := (List.getElem?_eq_some_iff.1 a4).1
              simp [a4, show i < arr.size by simpa using hlt]
            · simp [hj]; rfl)
        refine ⟨_, _, h, rfl, ?_, hnew.mono fun _ h => .inl h⟩
        have ha4 : arr[i]? = some me := by rw [← Array.getElem?_toList]; exact a4
        simp only [conc, Instr.mapUpdate, Sem.run_bind, run_underlying t hu, Result.andThen_ok, run_getObj_map h1, run_checkKey hd hdk, run_findKey (ρ := ρ) hd hf hl, Option.map_some, Instr.keyThatStays, ha4,
          Option.getD_some, a5, if_true, Sem.run_pure, run_setObj_map h1]
      · rename_i b hks hf
        obtain ⟨d, hd, hdk, _, _⟩ := keySame_spec (ρ := ρ) hks
        have hnew := hm.setMap (id := id) (es := es) (es' := es ++ [(k, v)]) (clock := clock + 1) (arr := arr.push { key := conc ρ k, val := conc ρ v, born := clock }) hes
          (fun e he => by
            rcases List.mem_append.1 he with he | he
            · exact hU e he
            · simp at he; subst he; exact ⟨hk, hv⟩) (by
            simp only [Array.toList_push, List.map_append, List.map_cons, List.map_nil]
            rw [h2])
        refine ⟨_, _, h, rfl, ?_, hnew.mono fun _ h => .inl h⟩
        simp only [conc, Instr.mapUpdate, Sem.run_bind, run_underlying t hu, Result.andThen_ok, run_getObj_map h1, run_checkKey hd hdk, run_findKey (ρ := ρ) hd hf hl, Option.map_none, run_setObj_map h1]
      · exact h.elim
    · exact h.elim
  · exact h.elim

theorem ok_makeMap (hm : MemOK B U ρ g w) (hn : ∀ i, newIds nid i → ¬ U i) {t : TypeId} {K : Out → Prop} (hK : K ⟨.m nid, [(nid, .map [])]⟩) :
    SemOK P B U (newIds nid) ρ g w (Instr.makeMap t none) K := by
  have hnU : ¬ U nid := hn nid ⟨Nat.le_refl _, by omega⟩
  refine ⟨_, upd ρ nid (Loc.new w.heap.size), w.alloc (.map #[] 0), hK, ?_, ?_, ?_, all_nid⟩
  · simp only [Instr.makeMap, Sem.run_bind, Sem.run_pure, Result.andThen_ok, run_newObj, conc, upd_nid]
    rfl
  · intro i hi
    have : i ≠ nid := fun e => hnU (e ▸ hi)
    simp [upd, this]
  · refine (hm.newO hnU (below_alloc w _) (Loc.new w.heap.size) (Nat.le_refl _) (o := .map []) ⟨#[], 0, ?_, rfl⟩ (fun e he => nomatch he)).mono ?_
    · rw [upd_nid]
      show (w.heap.push _)[w.heap.size]? = _
      simp
    · intro i hi
      rcases hi with h | h
      · exact .inl h
      · exact .inr (by subst h; exact ⟨Nat.le_refl _, by omega⟩)
end
end Go.Sx
