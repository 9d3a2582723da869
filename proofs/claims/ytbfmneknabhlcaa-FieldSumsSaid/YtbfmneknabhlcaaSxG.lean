/- One operation of the abstract machine is the model's: operation by operation. -/
import Derived.Test.YtbfmneknabhlcaaSxF
set_option linter.unusedSimpArgs false
set_option linter.unusedVariables false
namespace Go.Sx
open Go.RowKit (Below)

def newIds (nid : Nat) : Nat → Prop := fun i => nid ≤ i ∧ i < nid + 4

section
variable {P : Program} {B : Base} {w : World} {ρ : Nat → Loc} {U : Nat → Prop} {g : Nat → Option AObj} {nid : Nat}

/-- What a piece of the model that answers a value does, told by an outcome. -/
def SemOK (P : Program) (B : Base) (U V : Nat → Prop) (ρ : Nat → Loc) (g : Nat → Option AObj) (w : World) (x : Sem Value) (K : Out → Prop) : Prop :=
  ∃ out ρ' w', K out ∧ x.run P w = .ok (conc ρ' out.val) w' ∧ (∀ i, U i → ρ' i = ρ i) ∧ MemOK B (orU U V) ρ' (wrF g out.wr) w' ∧ out.val.all (orU U V)

theorem SemOK.still {V : Nat → Prop} {x : Sem Value} {K : Out → Prop} (hm : MemOK B U ρ g w) {v : AV} (hK : K ⟨v, []⟩) (hx : x.run P w = .ok (conc ρ v) w) (hv : v.all U) :
    SemOK P B U V ρ g w x K :=
  ⟨⟨v, []⟩, ρ, w, hK, hx, fun _ _ => rfl, hm.mono fun _ h => .inl h, all_mono (fun _ h => .inl h) hv⟩

theorem below_alloc (w : World) (o : Obj) : Below w.heap.size w (w.alloc o) := (Below.refl _ _).alloc (Nat.le_refl _) o

theorem wrF_one {g : Nat → Option AObj} {k : Nat} {o : AObj} : wrF g [(k, o)] = updF g k o := rfl

/-- A new block of known cells. -/
theorem MemOK.alloc (hm : MemOK B U ρ g w) (hn : ∀ i, newIds nid i → ¬ U i) {cs : List AV} (hU : allL U cs) (T : TypeId) (w' : World) (hw : w' = w.alloc (.cells (concL ρ cs).toArray T)) :
    (∀ i, U i → upd ρ nid (Loc.new w.heap.size) i = ρ i) ∧ MemOK B (orU U (newIds nid)) (upd ρ nid (Loc.new w.heap.size)) (updF g nid (.cells cs)) w' := by
  subst hw
  have hnU : ¬ U nid := hn nid ⟨Nat.le_refl _, by omega⟩
  refine ⟨fun i hi => ?_, ?_⟩
  · have : i ≠ nid := fun e => hnU (e ▸ hi)
    simp [upd, this]
  refine (hm.new hnU (below_alloc w _) (Loc.new w.heap.size) (Nat.le_refl _) (by simp) ?_ ?_ hU).mono ?_
  · intro j c hc
    simp only [Loc.at, Nat.zero_add, World.cell?_alloc_new]
    simp [concL_eq, hc]
  · intro j _
    simp only [Loc.at, Nat.zero_add, World.frozen?_alloc_new]
  · intro i hi
    rcases hi with h | h
    · exact .inl h
    · exact .inr (by subst h; exact ⟨Nat.le_refl _, by omega⟩)

theorem run_newRow (T : TypeId) (c : Array Value) : (newRow T c).run P w = .ok ⟨w.heap.size, 0, none⟩ (w.alloc (.cells c T)) := rfl

theorem upd_nid (l : Loc) : upd ρ nid l nid = l := by simp [upd]

theorem conc_new (b : Nat) : conc (upd ρ nid (Loc.new b)) (.p nid 0 0) = .pointer (some ⟨b, 0, none⟩) := by simp [conc, upd]
theorem conc_newS (b len cap : Nat) : conc (upd ρ nid (Loc.new b)) (.s nid 0 len cap) = .slice (some ⟨b, 0, none⟩) len cap := by simp [conc, upd]

theorem all_nid : (orU U (newIds nid)) nid := .inr ⟨Nat.le_refl _, by omega⟩

theorem ok_alloc (hm : MemOK B U ρ g w) (hn : ∀ i, newIds nid i → ¬ U i) {e : TypeId} {z : AV} (hz : azero P e = some z) {K : Out → Prop} (hK : K ⟨.p nid 0 0, [(nid, .cells z.cells)]⟩) :
    SemOK P B U (newIds nid) ρ g w (Instr.alloc e true (.tuple #[])) K := by
  unfold azero at hz
  split at hz
  · rename_i i hi
    simp only [Option.map_eq_some_iff] at hz
    obtain ⟨v, hv, rfl⟩ := hz
    have hall : allL U (ofValue v).cells := cells_all (ofValue_all U v)
    obtain ⟨h1, h2⟩ := hm.alloc hn hall e _ rfl
    refine ⟨_, _, _, hK, ?_, h1, h2, all_nid⟩
    simp only [Instr.alloc, Sem.run_bind, run_zeroValue e hi hv, Result.andThen_ok, newVar, run_newRow, Sem.run_pure, conc_new]
    rw [← conc_ofValue ρ v, cells_conc, conc_ofValue]
  · exact nomatch hz

theorem ok_box (hm : MemOK B U ρ g w) (hn : ∀ i, newIds nid i → ¬ U i) {e : TypeId} {v : AV} (hv : v.all U) {K : Out → Prop} (hK : K ⟨.p nid 0 0, [(nid, .cells v.cells)]⟩) :
    SemOK P B U (newIds nid) ρ g w (Instr.box e (conc ρ v)) K := by
  obtain ⟨h1, h2⟩ := hm.alloc hn (cells_all hv) e _ rfl
  refine ⟨_, _, _, hK, ?_, h1, h2, all_nid⟩
  simp only [Instr.box, Sem.run_bind, newVar, run_newRow, Result.andThen_ok, Sem.run_pure, conc_new, cells_conc]

theorem mapM_fields : ∀ {fs : List Field} {pl : List (Nat × Nat)}, fs.mapM (fun f => (asz P f.type).map fun n => (f.offset, n)) = some pl →
    (fs.mapM (fun f => do pure (f.offset, ← sizeOf f.type)) : Sem (List (Nat × Nat))).run P w = .ok pl w
  | [], pl, h => by simp at h; subst h; simp
  | f :: fs, pl, h => by
    simp only [List.mapM_cons, Option.bind_eq_bind, Option.bind_eq_some_iff, Option.map_eq_some_iff, Option.pure_def, Option.some.injEq] at h
    obtain ⟨x, ⟨n, hn, rfl⟩, rest, hr, rfl⟩ := h
    have hn' : ∃ i, P.info? f.type = some i ∧ i.size = n := by simpa [asz] using hn
    obtain ⟨i, hi, rfl⟩ := hn'
    simp only [List.mapM_cons, Sem.run_bind, run_sizeOf _ hi, Result.andThen_ok, Sem.run_pure, mapM_fields hr]

theorem afill_all {place : Nat → Option (Nat × Nat)} : ∀ {vs : List (Nat × AV)} {cells cs : List AV}, afill place cells vs = some cs → allL U cells → (∀ p ∈ vs, p.2.all U) → allL U cs
  | [], cells, cs, h, hc, _ => by simp only [afill, Option.some.injEq] at h; subst h; exact hc
  | (i, x) :: rest, cells, cs, h, hc, hv => by
    simp only [afill] at h
    split at h
    · exact nomatch h
    · split at h
      · exact nomatch h
      · split at h
        · exact nomatch h
        · rename_i cs' hput
          refine afill_all h ?_ (fun p hp => hv p (List.mem_cons_of_mem _ hp))
          refine allL_iff.2 fun y hy => ?_
          obtain ⟨j, hj⟩ := List.getElem?_of_mem hy
          rw [lput_get _ _ _ _ hput j] at hj
          split at hj
          · exact allL_iff.1 (cells_all (hv (i, x) (List.mem_cons_self ..))) y (List.mem_of_getElem? hj)
          · exact allL_iff.1 hc y (List.mem_of_getElem? hj)

theorem azero_run {e : TypeId} {z : AV} (hz : azero P e = some z) : (zeroValue e).run P w = .ok (conc ρ z) w ∧ ∀ U, z.all U := by
  unfold azero at hz
  split at hz
  · rename_i i hi
    simp only [Option.map_eq_some_iff] at hz
    obtain ⟨v, hv, rfl⟩ := hz
    exact ⟨by rw [run_zeroValue e hi hv, conc_ofValue], fun U => ofValue_all U v⟩
  · exact nomatch hz

theorem asz_run {e : TypeId} {n : Nat} (h : asz P e = some n) : (sizeOf e).run P w = .ok n w := by
  have hn' : ∃ i, P.info? e = some i ∧ i.size = n := by simpa [asz] using h
  obtain ⟨i, hi, rfl⟩ := hn'
  exact run_sizeOf e hi

theorem ok_build_struct (hm : MemOK B U ρ g w) {V : Nat → Prop} {t : TypeId} {z : AV} {vs : List (Nat × AV)} {fs : Array Field} {pl : List (Nat × Nat)} {cs : List AV} (hz : azero P t = some z)
    (hu : P.underlying t = some (.struct fs)) (hp : fs.toList.mapM (fun f => (asz P f.type).map fun n => (f.offset, n)) = some pl) (hf : afill (lnth pl) z.cells vs = some cs)
    (hv : ∀ p ∈ vs, p.2.all U) {K : Out → Prop} (hK : K ⟨.a cs, []⟩) :
    SemOK P B U V ρ g w (Instr.build t (vs.map fun p => (p.1, conc ρ p.2)).toArray) K := by
  obtain ⟨hz1, hz2⟩ := azero_run (w := w) (ρ := ρ) hz
  refine SemOK.still hm hK ?_ (by exact afill_all hf (cells_all (hz2 U)) hv)
  have e : (fs.mapM (fun f => do pure (f.offset, ← sizeOf f.type)) : Sem (Array (Nat × Nat))).run P w = .ok pl.toArray w := by
    rw [Array.mapM_eq_mapM_toList]
    simp only [Sem.run_map]
    rw [mapM_fields (w := w) (by simpa using hp)]; rfl
  simp only [Instr.build, Sem.run_bind, hz1, run_underlying t hu, Result.andThen_ok, e]
  have hpl : (fun x => pl.toArray[x]? : Nat → Option (Nat × Nat)) = lnth pl := funext fun x => by rw [lnth_eq]; simp
  rw [cells_conc, hpl, afill_sound hf]
  rfl

theorem ok_build_array (hm : MemOK B U ρ g w) {V : Nat → Prop} {t e : TypeId} {z : AV} {vs : List (Nat × AV)} {len n : Nat} {cs : List AV} (hz : azero P t = some z)
    (hu : P.underlying t = some (.array len e)) (hn : asz P e = some n) (hf : afill (fun i => some (i * n, n)) z.cells vs = some cs)
    (hv : ∀ p ∈ vs, p.2.all U) {K : Out → Prop} (hK : K ⟨.a cs, []⟩) :
    SemOK P B U V ρ g w (Instr.build t (vs.map fun p => (p.1, conc ρ p.2)).toArray) K := by
  obtain ⟨hz1, hz2⟩ := azero_run (w := w) (ρ := ρ) hz
  refine SemOK.still hm hK ?_ (by exact afill_all hf (cells_all (hz2 U)) hv)
  simp only [Instr.build, Sem.run_bind, hz1, run_underlying t hu, Result.andThen_ok, asz_run hn]
  rw [cells_conc, afill_sound hf]
  rfl

theorem replicate_flat (z : List AV) (len : Nat) (n : Nat) (hz : z.length = n) :
    (Array.range (len * n)).map (fun i => (concL ρ z).toArray[i % (concL ρ z).toArray.size]!) = (concL ρ (List.replicate len z).flatten).toArray := by
  have hs : (concL ρ z).toArray.size = n := by simp [length_concL, hz]
  rw [hs]
  apply Array.ext_getElem?
  intro i
  simp only [Array.getElem?_map, List.getElem?_toArray, concL_eq, List.getElem?_map]
  induction len generalizing i with
  | zero => simp
  | succ k ih =>
    rw [List.replicate_succ, List.flatten_cons]
    by_cases hi : i < n
    · rw [Array.getElem?_range, if_pos (by rw [Nat.succ_mul]; omega), List.getElem?_append_left (by omega)]
      rw [List.getElem?_eq_getElem (by omega)]
      simp [Nat.mod_eq_of_lt hi, hz, hi]
    · rw [List.getElem?_append_right (by omega), hz, ← ih (i - n)]
      rw [Array.getElem?_range, Array.getElem?_range]
      have e1 : (i < (k + 1) * n) = (i - n < k * n) := by rw [Nat.succ_mul]; apply propext; omega
      have e2 : i % n = (i - n) % n := by rw [← Nat.mod_eq_sub_mod (by omega)]
      split <;> split <;> first | omega | simp_all

theorem ok_buildSlice (hm : MemOK B U ρ g w) (hn : ∀ i, newIds nid i → ¬ U i) {t e : TypeId} {z : AV} {vs : List (Nat × AV)} {len n : Nat} {cs : List AV} (hz : azero P e = some z)
    (hu : P.underlying t = some (.slice e)) (hsz : asz P e = some n) (h1 : z.cells.length = n) (h2 : len * n ≤ 16777216) (h3 : len * n ≠ 0)
    (hf : afill (fun i => some (i * n, n)) (List.replicate len z.cells).flatten vs = some cs)
    (hv : ∀ p ∈ vs, p.2.all U) {K : Out → Prop} (hK : K ⟨.s nid 0 len len, [(nid, .cells cs)]⟩) :
    SemOK P B U (newIds nid) ρ g w (Instr.buildSlice t len (vs.map fun p => (p.1, conc ρ p.2)).toArray) K := by
  obtain ⟨hz1, hz2⟩ := azero_run (w := w) (ρ := ρ) hz
  have hall : allL U (List.replicate len z.cells).flatten := allL_iff.2 fun x hx => by
    obtain ⟨l, hl, hx⟩ := List.mem_flatten.1 hx
    rw [(List.mem_replicate.1 hl).2] at hx
    exact allL_iff.1 (cells_all (hz2 U)) x hx
  obtain ⟨m1, m2⟩ := hm.alloc hn (afill_all hf hall hv) e _ rfl
  refine ⟨_, _, _, hK, ?_, m1, m2, all_nid⟩
  simp only [Instr.buildSlice, Sem.run_bind, run_underlying t hu, Result.andThen_ok, asz_run hsz]
  rw [if_neg (by omega), if_neg h3]
  simp only [Sem.run_bind, hz1, Result.andThen_ok, Sem.run_pure, cells_conc]
  rw [replicate_flat z.cells len n h1, afill_sound hf]
  simp only [Sem.run_bind, run_newRow, Result.andThen_ok, Sem.run_pure, conc_newS]

theorem bytesOf_spec : ∀ {cs : List AV} {b : List UInt8}, bytesOf cs = some b → ∃ ns : List Int, concL ρ cs = ns.map (Value.int .u8) ∧ b = ns.map fun n => UInt8.ofNat n.toNat
  | [], b, h => by simp only [bytesOf, Option.some.injEq] at h; subst h; exact ⟨[], rfl, rfl⟩
  | c :: cs, b, h => by
    unfold bytesOf at h
    split at h
    · rename_i heq; cases heq
    · rename_i n l heq
      cases heq
      simp only [Option.map_eq_some_iff] at h
      obtain ⟨b', hb, rfl⟩ := h
      obtain ⟨ns, h1, h2⟩ := bytesOf_spec hb
      exact ⟨n :: ns, by simp [concL, conc, h1], by simp [h2]⟩
    · exact nomatch h

theorem ofBytes_conc (b : List UInt8) : concL ρ (ofBytes b) = b.map fun c => Value.int .u8 c.toNat := by
  rw [concL_eq, ofBytes, List.map_map]; rfl
theorem ofBytes_all (b : List UInt8) : allL U (ofBytes b) := allL_iff.2 fun x hx => by
  obtain ⟨c, _, rfl⟩ := List.mem_map.1 hx; trivial

theorem below_drew_alloc (w : World) (o : Obj) : Below w.heap.size w (w.drew.alloc o) := ((Below.refl _ _).drew).alloc (Nat.le_refl _) o

theorem ok_convert (hm : MemOK B U ρ g w) (hn : ∀ i, newIds nid i → ¬ U i) {src dst : TypeId} {x : AV} {K : Out → Prop} (h : (R.res g (aconv P nid src dst x)).holds K) :
    SemOK P B U (newIds nid) ρ g w (convert src dst (conc ρ x)) K := by
  unfold aconv at h
  split at h
  · rename_i d1 k n h1 h2
    refine SemOK.still hm h ?_ trivial
    simp only [conc, convert, Sem.run_bind, run_underlying src h1, run_underlying dst h2, Result.andThen_ok]
    cases d1 <;> rfl
  · rename_i d1 b h1 h2
    refine SemOK.still hm h ?_ trivial
    simp only [conc, convert, Sem.run_bind, run_underlying src h1, run_underlying dst h2, Result.andThen_ok]
    cases d1 <;> rfl
  · rename_i e b hs h2
    split at h
    · rename_i he
      simp only [R.res, R.holds] at h
      have hnU : ¬ U nid := hn nid ⟨Nat.le_refl _, by omega⟩
      have hcap : b.length ≤ grownCap w b.length 0 e := by simp only [grownCap, Question.cut]; omega
      have hrun := run_bytes_of_string (P := P) w src dst e ⟨b.toArray⟩ hs h2 he
      simp only [size_mk] at hrun
      refine ⟨_, upd ρ nid (Loc.new w.heap.size), w.drew.alloc (.cells (bytesRow ⟨b.toArray⟩ (grownCap w b.length 0 e)) e ((bytesRow ⟨b.toArray⟩ (grownCap w b.length 0 e)).size, (bytesRow ⟨b.toArray⟩ (grownCap w b.length 0 e)).size + 1)), h _ hcap, ?_, ?_, ?_, all_nid⟩
      · simp only [conc]
        rw [hrun]
        simp [upd]
      · intro i hi
        have : i ≠ nid := fun e => hnU (e ▸ hi)
        simp [upd, this]
      · have hblk : ∀ o : Obj, (w.drew.alloc o).heap[w.heap.size]? = some o := fun o => by
          show (w.heap.push o)[w.heap.size]? = _
          simp
        have hrow : ∀ (j : Nat) (c : UInt8), b[j]? = some c → (bytesRow ⟨b.toArray⟩ (grownCap w b.length 0 e))[j]? = some (.int .u8 c.toNat) := fun j c hc => by
          have hj : j < b.length := (List.getElem?_eq_some_iff.1 hc).1
          unfold bytesRow
          rw [Array.getElem?_append_left (by simp; exact hj)]
          simp [hc]
        refine (hm.new hnU (below_drew_alloc w _) (Loc.new w.heap.size) (Nat.le_refl _) (by simp) ?_ ?_ (ofBytes_all b)).mono ?_
        · intro j c hc
          simp only [ofBytes, List.getElem?_map, Option.map_eq_some_iff] at hc
          obtain ⟨c, hc, rfl⟩ := hc
          simp only [World.cell?, hblk, Nat.zero_add, Option.isSome_none, Bool.false_eq_true, if_false, hrow j c hc, conc]
        · intro j hj
          simp only [World.frozen?, hblk, Nat.zero_add]
          have : j < (bytesRow ⟨b.toArray⟩ (grownCap w b.length 0 e)).size := by
            simp only [ofBytes, List.length_map] at hj
            simp only [bytesRow, Array.size_append, Array.size_map]
            simp only [List.size_toArray]
            omega
          simp; omega
        · intro i hi
          rcases hi with h | h
          · exact .inl h
          · exact .inr (by subst h; exact ⟨Nat.le_refl _, by omega⟩)
    · exact h.elim
  · rename_i e id j len cap h1 h2
    split at h
    · rename_i he
      simp only [R.res] at h
      split at h
      · rename_i cs hcs
        split at h
        · rename_i b hb
          obtain ⟨ns, hns, rfl⟩ := bytesOf_spec (ρ := ρ) hb
          refine SemOK.still hm h ?_ trivial
          simp only [cellsAt] at hcs
          split at hcs
          · rename_i all hall
            have ho : ∃ o, g id = some o := by
              cases e : g id with
              | none => rw [e] at hall; exact nomatch hall
              | some o => exact ⟨o, rfl⟩
            obtain ⟨o, ho⟩ := ho
            rw [ho] at hall
            have hread : readAt ρ (ρ id) all w := by
              have := hm.obj id o ho
              cases o <;> simp only [acells, Option.some.injEq] at hall
              · subst hall; exact this.2.1
              · subst hall; exact this.2
              all_goals exact nomatch hall
            obtain ⟨t1, t2⟩ := ltake_eq _ _ _ hcs
            rw [ldrop_eq] at t1
            simp only [conc]
            rw [run_convert_bytes_string w src dst e _ len cap h1 he h2]
            have hl := run_loadCells_list (P := P) w ((ρ id).at j) (concL ρ cs) (by
              intro k x hx
              rw [show (Loc.at (ρ id) j).add k = Loc.at (ρ id) (j + k) from by simp [Loc.at, addr_add, Nat.add_assoc]]
              rw [concL_eq, List.getElem?_map, Option.map_eq_some_iff] at hx
              obtain ⟨y, hy, rfl⟩ := hx
              refine hread (j + k) y ?_
              rw [t1, List.getElem?_take] at hy
              split at hy
              · rwa [List.getElem?_drop] at hy
              · exact nomatch hy)
            rw [length_concL, t2, hns] at hl
            rw [run_bytesToString w _ len cap ns hl, foldl_push_bytes]
            have he0 : ByteArray.empty.data = #[] := rfl
            rw [he0]
            simp
          · exact nomatch hcs
        · exact h.elim
      · exact h.elim
    · exact h.elim
  · exact h.elim

theorem indexN_holds {sy : Bool} {i : Int} {len : Nat} {k : Nat → R Out} {K : Out → Prop} (h : (R.res g (indexN sy i len k)).holds K) :
    (0 ≤ i ∧ i < (len : Int)) ∧ (R.res g (k i.toNat)).holds K := by
  unfold indexN at h
  rw [res_needR] at h
  exact needR_holds h

theorem ok_fieldAddr (hm : MemOK B U ρ g w) {V : Nat → Prop} {t : TypeId} {x : AV} {f : Nat} {K : Out → Prop} (hx : x.all U) (h : (R.res g (afieldAddr P t x f)).holds K) :
    SemOK P B U V ρ g w (Instr.fieldAt t (conc ρ x) f) K := by
  unfold afieldAddr at h
  split at h
  · rename_i fs id i j h1
    split at h
    · rename_i fd hf
      split at h
      · exact h.elim
      · rename_i n h0 hn
        refine SemOK.still hm h ?_ hx
        have hn0 : n ≠ 0 := h0
        simp only [conc, Instr.fieldAt, Sem.run_bind, run_underlying t h1, Result.andThen_ok, hf, Instr.sureAddr, Sem.run_pure, fieldPlace, asz_run hn]
        simp only [hn0, if_false, Sem.run_pure, Result.andThen_ok, addr_add, Nat.add_assoc]
      · exact h.elim
    · exact h.elim
  · exact h.elim

theorem ok_field (hm : MemOK B U ρ g w) {V : Nat → Prop} {t : TypeId} {x : AV} {f : Nat} {K : Out → Prop} (hx : x.all U) (h : (R.res g (afield P t x f)).holds K) :
    SemOK P B U V ρ g w (Instr.field t (conc ρ x) f) K := by
  unfold afield at h
  split at h
  · rename_i fs cs h1
    split at h
    · rename_i fd hf
      split at h
      · rename_i v hv
        refine SemOK.still hm h ?_ (apart_all hv hx)
        simp only [conc, Instr.field, Sem.run_bind, run_underlying t h1, Result.andThen_ok, hf, asAgg, Sem.run_pure, run_part hv]
      · exact h.elim
    · exact h.elim
  · exact h.elim

theorem abound_holds {sy : Bool} {x : Option AV} {y d : Nat} {k : Nat → R Out} {K : Out → Prop} (h : (R.res g (abound sy x y d k)).holds K) :
    ∃ n, (R.res g (k n)).holds K ∧ ∀ (code : BoundsCode), (match x.map (conc ρ) with
      | some v => Instr.sliceBound v y code
      | none => pure d : Sem Nat).run P w = .ok n w := by
  unfold abound at h
  split at h
  · exact ⟨d, h, fun _ => rfl⟩
  · rename_i k' i
    rw [res_needR] at h
    obtain ⟨hb, h⟩ := needR_holds h
    exact ⟨_, h, fun code => by simp only [Option.map_some, conc]; exact run_sliceBound w k' i y code hb.1 hb.2⟩
  · exact h.elim

theorem run_bounds {isS : Bool} {len cap l h : Nat} {lo hi : Option AV}
    (e1 : ∀ (code : BoundsCode), (match hi.map (conc ρ) with
      | some v => Instr.sliceBound v cap code
      | none => pure len : Sem Nat).run P w = .ok h w)
    (e2 : ∀ (code : BoundsCode), (match lo.map (conc ρ) with
      | some v => Instr.sliceBound v h code
      | none => pure 0 : Sem Nat).run P w = .ok l w) :
    (Instr.sliceBounds isS len cap (lo.map (conc ρ)) (hi.map (conc ρ)) none).run P w = .ok (l, h, cap) w := by
  cases hi with
  | none =>
    have s1 := e1 .index
    simp only [Option.map_none, Sem.run_pure, Result.ok.injEq, and_true] at s1
    subst s1
    cases lo with
    | none =>
      have s2 := e2 .index
      simp only [Option.map_none, Sem.run_pure, Result.ok.injEq, and_true] at s2
      subst s2
      simp [Instr.sliceBounds]
    | some v =>
      have s2 := e2 .sliceB
      simp only [Option.map_some] at s2
      simp [Instr.sliceBounds, s2]
  | some u =>
    have s1 := e1 (if isS then .sliceAcap else .sliceAlen)
    simp only [Option.map_some] at s1
    cases lo with
    | none =>
      have s2 := e2 .index
      simp only [Option.map_none, Sem.run_pure, Result.ok.injEq, and_true] at s2
      subst s2
      simp [Instr.sliceBounds, s1]
    | some v =>
      have s2 := e2 .sliceB
      simp only [Option.map_some] at s2
      simp [Instr.sliceBounds, s1, s2]

theorem ok_slice (hm : MemOK B U ρ g w) {V : Nat → Prop} {sy : Bool} {t : TypeId} {x : AV} {lo hi mx : Option AV} {K : Out → Prop} (hx : x.all U)
    (h : (R.res g (aslice P sy t x lo hi mx)).holds K) :
    SemOK P B U V ρ g w (Instr.sliceAt t (conc ρ x) (lo.map (conc ρ)) (hi.map (conc ρ)) (mx.map (conc ρ))) K := by
  unfold aslice at h
  split at h
  · rename_i b h1
    obtain ⟨hh, h, e1⟩ := abound_holds (P := P) (w := w) (ρ := ρ) h
    obtain ⟨l, h, e2⟩ := abound_holds (P := P) (w := w) (ρ := ρ) h
    refine SemOK.still hm h ?_ trivial
    simp only [conc, Instr.sliceAt, Sem.run_bind, run_underlying t h1, Result.andThen_ok, Instr.slice, Option.map_none, Option.isSome_none, Bool.false_eq_true, if_false, size_mk]
    rw [run_bounds e1 e2]
    simp only [Result.andThen_ok, Sem.run_pure]
    congr 2
    apply ByteArray.ext
    simp [ByteArray.data_extract]
    exact List.drop_take.symm
  · rename_i n e id j h1
    split at h
    · rename_i sz hsz
      obtain ⟨hh, h, e1⟩ := abound_holds (P := P) (w := w) (ρ := ρ) h
      obtain ⟨l, h, e2⟩ := abound_holds (P := P) (w := w) (ρ := ρ) h
      split at h
      · exact h.elim
      · rename_i hl
        refine SemOK.still hm h ?_ hx
        have hne : n ≠ l := fun e => of_decide_eq_false (by rw [← nbeq]; exact hl) e.symm
        simp only [conc, Instr.sliceAt, Sem.run_bind, run_underlying t h1, Result.andThen_ok, Instr.sureAddr, Option.map_none, Sem.run_pure]
        rw [run_bounds e1 e2]
        simp only [Result.andThen_ok, Sem.run_bind, asz_run hsz, Sem.run_pure, hne, if_false, addr_add, Nat.zero_mul, Nat.add_zero, Nat.add_assoc]
    · exact h.elim
  · rename_i e id j len cap h1
    split at h
    · rename_i sz hsz
      obtain ⟨hh, h, e1⟩ := abound_holds (P := P) (w := w) (ρ := ρ) h
      obtain ⟨l, h, e2⟩ := abound_holds (P := P) (w := w) (ρ := ρ) h
      split at h
      · rename_i hl
        have hl0 : l = 0 := by rw [nbeq] at hl; simpa using hl
        subst hl0
        refine SemOK.still hm h ?_ hx
        simp only [conc, Instr.sliceAt, Sem.run_bind, run_underlying t h1, Result.andThen_ok, Instr.slice, Option.map_none]
        rw [run_bounds e1 e2]
        simp only [Result.andThen_ok, Sem.run_bind, asz_run hsz, Sem.run_pure, Nat.zero_mul, Nat.sub_zero, Option.map_some, addr_add, Nat.add_zero, ite_self]
      · split at h
        · exact h.elim
        · rename_i _ hl
          refine SemOK.still hm h ?_ hx
          have hne : cap ≠ l := fun e => of_decide_eq_false (by rw [← nbeq]; exact hl) e.symm
          simp only [conc, Instr.sliceAt, Sem.run_bind, run_underlying t h1, Result.andThen_ok, Instr.slice, Option.map_none]
          rw [run_bounds e1 e2]
          simp only [Result.andThen_ok, Sem.run_bind, asz_run hsz, Sem.run_pure, hne, if_false, Option.map_some, addr_add, Nat.add_assoc]
    · exact h.elim
  · exact h.elim
end
end Go.Sx
