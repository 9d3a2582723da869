/- The abstract memory and the world. -/
import Derived.Test.YtbfmneknabhlcaaSxC
set_option linter.unusedSimpArgs false
set_option linter.unusedVariables false
namespace Go.Sx
open Go.RowKit (Below)

structure Base where
  w0 : World
  prot : Nat → Prop
  /-- names whose places are settled -/
  pin : Nat → Option Loc := fun _ => none
  /-- the activation's deferred calls -/
  df : List Deferred := []

abbrev Loc.at (l : Loc) (j : Nat) : Addr := ⟨l.blk, l.base + j, none⟩

def readAt (ρ : Nat → Loc) (l : Loc) (cs : List AV) (w : World) : Prop := ∀ j c, cs[j]? = some c → w.cell? (l.at j) = some (conc ρ c)
def ObjOK (ρ : Nat → Loc) (id : Nat) (o : AObj) (w : World) : Prop :=
  match o with
  | .cells cs => (ρ id).blk < w.heap.size ∧ readAt ρ (ρ id) cs w ∧ ∀ j, j < cs.length → w.frozen? ((ρ id).at j) = false
  | .ro cs => (ρ id).blk < w.heap.size ∧ readAt ρ (ρ id) cs w
  | .map es => ∃ arr clock, w.heap[(ρ id).blk]? = some (.map arr clock) ∧ arr.toList.map (fun e => (e.key, e.val)) = es.map fun e => (conc ρ e.1, conc ρ e.2)
  | .rows cs n ro => (ρ id).esz = cs.length ∧ (((ρ id).nil = true ∧ n = 0) ∨ ((ρ id).nil = false ∧ (ρ id).blk < w.heap.size ∧
      (∀ i j c, i < n → cs[j]? = some c → w.cell? ((ρ id).at (i * cs.length + j)) = some (c.val i)) ∧
      (ro = false → n ≤ (ρ id).cap ∧ ∀ q, q < (ρ id).cap * cs.length → (w.cell? ((ρ id).at q)).isSome = true ∧ w.frozen? ((ρ id).at q) = false)))
  | .view oid off len => ((ρ id).nil = true ∧ len = 0) ∨ ((ρ id).nil = false ∧ (ρ id).len = len ∧ len ≤ (ρ id).cap ∧
      (0 < len → (ρ id).blk = (ρ oid).blk ∧ (ρ id).base = (ρ oid).base + off * (ρ oid).esz))
  | .dead => True
def AObj.rw : AObj → Bool
  | .cells _ => true
  | .map _ => true
  | .rows _ _ r => !r
  | _ => false
def AObj.live (l : Loc) : AObj → Bool
  | .dead => false
  | .view .. => false
  | .rows .. => !l.nil
  | _ => true
def AObj.all (U : Nat → Prop) : AObj → Prop
  | .cells cs => allL U cs
  | .ro cs => allL U cs
  | .map es => ∀ e ∈ es, e.1.all U ∧ e.2.all U
  | .rows .. => True
  | .view oid _ _ => U oid
  | .dead => True

structure MemOK (B : Base) (U : Nat → Prop) (ρ : Nat → Loc) (g : Nat → Option AObj) (w : World) : Prop where
  use : ∀ id o, g id = some o → U id ∧ o.all U
  obj : ∀ id o, g id = some o → ObjOK ρ id o w
  sep : ∀ id id' o o', g id = some o → g id' = some o' → id ≠ id' → o.rw = true → o.live (ρ id) = true → o'.live (ρ id') = true → (ρ id).blk ≠ (ρ id').blk
  own : ∀ id o, g id = some o → o.rw = true → o.live (ρ id) = true → ¬ B.prot (ρ id).blk
  os : w.os = B.w0.os
  tape : w.tape = B.w0.tape
  output : w.output = B.w0.output
  size : B.w0.heap.size ≤ w.heap.size
  kept : ∀ b, B.prot b → w.heap[b]? = B.w0.heap[b]?
  plt : ∀ b, B.prot b → b < B.w0.heap.size
  pin : ∀ i l, B.pin i = some l → U i ∧ ρ i = l

def upd {α : Type} (ρ : Nat → α) (i : Nat) (l : α) : Nat → α := fun k => if k = i then l else ρ k
def updF (g : Nat → Option AObj) (i : Nat) (o : AObj) : Nat → Option AObj := fun k => if k = i then some o else g k
def orU (U V : Nat → Prop) : Nat → Prop := fun i => U i ∨ V i

theorem AV_all_mono {U U' : Nat → Prop} (h : ∀ i, U i → U' i) {v : AV} (x : v.all U) : v.all U' := Sx.all_mono h x
theorem AObj.all_mono {U U' : Nat → Prop} (h : ∀ i, U i → U' i) {o : AObj} (x : o.all U) : o.all U' := by
  cases o <;> simp only [AObj.all] at * <;> first | exact allL_mono h x | exact fun e he => ⟨AV_all_mono h (x e he).1, AV_all_mono h (x e he).2⟩ | exact h _ x | trivial

section
variable {B : Base} {U U' : Nat → Prop} {ρ ρ' : Nat → Loc} {g g' : Nat → Option AObj} {w w' : World} {P : Program}

theorem MemOK.sub (h : MemOK B U ρ g w) (hg : ∀ id o, g' id = some o → g id = some o) : MemOK B U ρ g' w :=
  ⟨fun id o e => h.use id o (hg _ _ e), fun id o e => h.obj id o (hg _ _ e), fun id id' o o' e e' => h.sep id id' o o' (hg _ _ e) (hg _ _ e'),
    fun id o e => h.own id o (hg _ _ e), h.os, h.tape, h.output, h.size, h.kept, h.plt, h.pin⟩

theorem MemOK.mono (h : MemOK B U ρ g w) (hU : ∀ i, U i → U' i) : MemOK B U' ρ g w :=
  { h with
    use := fun id o e => ⟨hU _ (h.use id o e).1, AObj.all_mono hU (h.use id o e).2⟩
    pin := fun i l e => ⟨hU _ (h.pin i l e).1, (h.pin i l e).2⟩ }

theorem objOK_congr {o : AObj} {id : Nat} (hρ : ∀ i, U i → ρ' i = ρ i) (hu : U id ∧ o.all U) (h : ObjOK ρ id o w) : ObjOK ρ' id o w := by
  cases o with
  | cells cs =>
    simp only [ObjOK, hρ id hu.1] at *
    refine ⟨h.1, fun j c hc => ?_, h.2.2⟩
    rw [h.2.1 j c hc, conc_congr hρ (allL_iff.1 hu.2 c (List.mem_of_getElem? hc))]
  | ro cs =>
    simp only [ObjOK, hρ id hu.1] at *
    refine ⟨h.1, fun j c hc => ?_⟩
    rw [h.2 j c hc, conc_congr hρ (allL_iff.1 hu.2 c (List.mem_of_getElem? hc))]
  | map es =>
    simp only [ObjOK, hρ id hu.1] at *
    obtain ⟨arr, clock, h1, h2⟩ := h
    refine ⟨arr, clock, h1, ?_⟩
    rw [h2]
    apply List.map_congr_left
    intro e he
    have := hu.2 e he
    rw [conc_congr hρ this.1, conc_congr hρ this.2]
  | rows cs n ro => simp only [ObjOK, hρ id hu.1] at *; exact h
  | view oid off len =>
    have ho : ρ' oid = ρ oid := hρ oid hu.2
    simp only [ObjOK, hρ id hu.1, ho] at *; exact h
  | dead => trivial

theorem MemOK.congr (h : MemOK B U ρ g w) (hρ : ∀ i, U i → ρ' i = ρ i) : MemOK B U ρ' g w :=
  { h with
    obj := fun id o e => objOK_congr hρ (h.use id o e) (h.obj id o e)
    sep := fun id id' o o' e e' hne hr hl hl' => by
      rw [hρ _ (h.use id o e).1] at *; rw [hρ _ (h.use id' o' e').1] at *; exact h.sep id id' o o' e e' hne hr hl hl'
    own := fun id o e hr hl => by rw [hρ _ (h.use id o e).1] at *; exact h.own id o e hr hl
    pin := fun i l e => ⟨(h.pin i l e).1, by rw [hρ _ (h.pin i l e).1]; exact (h.pin i l e).2⟩ }

theorem objOK_other {o : AObj} {id : Nat} (hs : w.heap.size ≤ w'.heap.size) (hb : o.live (ρ id) = true → w'.heap[(ρ id).blk]? = w.heap[(ρ id).blk]?) (h : ObjOK ρ id o w) : ObjOK ρ id o w' := by
  have hc : ∀ j, w'.heap[(ρ id).blk]? = w.heap[(ρ id).blk]? → w'.cell? ((ρ id).at j) = w.cell? ((ρ id).at j) := fun j e => World.cell?_of_block (a := (ρ id).at j) e
  have hf : ∀ j, w'.heap[(ρ id).blk]? = w.heap[(ρ id).blk]? → w'.frozen? ((ρ id).at j) = w.frozen? ((ρ id).at j) := fun j e => World.frozen?_of_block (a := (ρ id).at j) e
  cases o with
  | cells cs =>
    obtain ⟨h1, h2, h3⟩ := h
    have hb := hb rfl
    exact ⟨Nat.lt_of_lt_of_le h1 hs, fun j c hc' => by rw [hc _ hb]; exact h2 j c hc', fun j hj => by rw [hf _ hb]; exact h3 j hj⟩
  | ro cs =>
    obtain ⟨h1, h2⟩ := h
    have hb := hb rfl
    exact ⟨Nat.lt_of_lt_of_le h1 hs, fun j c hc' => by rw [hc _ hb]; exact h2 j c hc'⟩
  | map es =>
    obtain ⟨arr, clock, h1, h2⟩ := h
    exact ⟨arr, clock, by rw [hb rfl]; exact h1, h2⟩
  | rows cs n ro =>
    rcases h with ⟨h2, h | ⟨h0, h1, h3, h4⟩⟩
    · exact ⟨h2, .inl h⟩
    · have hb := hb (by simp [AObj.live, h0])
      exact ⟨h2, .inr ⟨h0, Nat.lt_of_lt_of_le h1 hs, fun i j c hi hj => by rw [hc _ hb]; exact h3 i j c hi hj, fun hr => ⟨(h4 hr).1, fun q hq => by rw [hc _ hb, hf _ hb]; exact (h4 hr).2 q hq⟩⟩⟩
  | view _ _ _ => exact h
  | dead => trivial

theorem objOK_lt {o : AObj} {id : Nat} (h : ObjOK ρ id o w) (hl : o.live (ρ id) = true) : (ρ id).blk < w.heap.size := by
  cases o with
  | cells _ => exact h.1
  | ro _ => exact h.1
  | map _ =>
    obtain ⟨arr, clock, h1, _⟩ := h
    rcases Nat.lt_or_ge (ρ id).blk w.heap.size with h | h
    · exact h
    · rw [Array.getElem?_eq_none h] at h1; cases h1
  | rows cs n ro =>
    rcases h with ⟨_, h | ⟨h0, h1, _⟩⟩
    · simp [AObj.live, h.1] at hl
    · exact h1
  | view _ _ _ => simp [AObj.live] at hl
  | dead => simp [AObj.live] at hl

theorem objOK_below {o : AObj} {id : Nat} (hb : Below w.heap.size w w') (h : ObjOK ρ id o w) : ObjOK ρ id o w' :=
  objOK_other hb.size (fun hl => hb.block _ (objOK_lt h hl)) h

theorem MemOK.below (h : MemOK B U ρ g w) (hb : Below w.heap.size w w') : MemOK B U ρ g w' :=
  { h with
    obj := fun id o e => objOK_below hb (h.obj id o e)
    os := hb.os.trans h.os, tape := hb.tape.trans h.tape, output := hb.output.trans h.output, size := Nat.le_trans h.size hb.size
    kept := fun b p => by rw [hb.block b (Nat.lt_of_lt_of_le (h.plt b p) h.size)]; exact h.kept b p }

theorem MemOK.blk_lt (h : MemOK B U ρ g w) {id : Nat} {o : AObj} (e : g id = some o) (hl : o.live (ρ id) = true) : (ρ id).blk < w.heap.size := objOK_lt (h.obj id o e) hl

/-- One block is turned. -/
theorem MemOK.put (h : MemOK B U ρ g w) {id : Nat} {o o' : AObj} (e : g id = some o) (hrw : o.rw = true) (hl : o.live (ρ id) = true) (hU : o'.all U) (ho : ObjOK ρ id o' w')
    (hh : ∀ b, b ≠ (ρ id).blk → w'.heap[b]? = w.heap[b]?) (hsz : w'.heap.size = w.heap.size) (hos : w'.os = w.os) (htape : w'.tape = w.tape) (hout : w'.output = w.output) :
    MemOK B U ρ (updF g id o') w' := by
  constructor
  · intro id' o1 e'
    simp only [updF] at e'
    split at e'
    · rename_i he; subst he; cases e'; exact ⟨(h.use _ _ e).1, hU⟩
    · exact h.use id' o1 e'
  · intro id' o1 e'
    simp only [updF] at e'
    split at e'
    · rename_i he; subst he; cases e'; exact ho
    · rename_i hne
      refine objOK_other (Nat.le_of_eq hsz.symm) (fun hl' => hh _ fun hb => ?_) (h.obj id' o1 e')
      exact h.sep id id' o o1 e e' (fun h => hne h.symm) hrw hl hl' hb.symm
  · intro i1 i2 a1 a2 e1 e2 hne hrw1 hl1 hl2
    simp only [updF] at e1 e2
    split at e1 <;> split at e2
    · omega
    · rename_i he _; subst he
      exact h.sep i1 i2 _ a2 e e2 hne hrw hl hl2
    · rename_i _ he; subst he
      exact h.sep i1 i2 a1 _ e1 e hne hrw1 hl1 hl
    · exact h.sep i1 i2 a1 a2 e1 e2 hne hrw1 hl1 hl2
  · intro i o1 e' hrw1 hl1
    simp only [updF] at e'
    split at e'
    · rename_i he; subst he; exact h.own i _ e hrw hl
    · exact h.own i o1 e' hrw1 hl1
  · exact hos.trans h.os
  · exact htape.trans h.tape
  · exact hout.trans h.output
  · rw [hsz]; exact h.size
  · intro b hb
    rw [hh b (fun he => h.own id _ e hrw hl (he ▸ hb))]
    exact h.kept b hb
  · exact h.plt
  · exact h.pin

/-- A new block. -/
theorem MemOK.newO (h : MemOK B U ρ g w) {nid : Nat} (hn : ¬ U nid) (hb : Below w.heap.size w w') (l : Loc) (hl : w.heap.size ≤ l.blk)
    {o : AObj} (ho : ObjOK (upd ρ nid l) nid o w') (hU : o.all U) :
    MemOK B (orU U (· = nid)) (upd ρ nid l) (updF g nid o) w' := by
  have hρ : ∀ i, U i → upd ρ nid l i = ρ i := fun i hi => by
    have : i ≠ nid := fun e => hn (e ▸ hi)
    simp [upd, this]
  have h' := (h.below hb).congr hρ
  have hnew : upd ρ nid l nid = l := by simp [upd]
  constructor
  · intro id o' e
    simp only [updF] at e
    split at e
    · rename_i he; cases e; exact ⟨.inr he, AObj.all_mono (fun i hi => .inl hi) hU⟩
    · exact ⟨.inl (h.use id o' e).1, AObj.all_mono (fun i hi => .inl hi) (h.use id o' e).2⟩
  · intro id o' e
    simp only [updF] at e
    split at e
    · rename_i he; subst he; cases e; exact ho
    · exact h'.obj id o' e
  · intro id id' o1 o' e e' hne hrw hlive hlive'
    simp only [updF] at e e'
    split at e <;> split at e'
    · omega
    · rename_i he _; subst he
      rw [hρ _ (h.use id' o' e').1] at hlive'
      rw [hnew, hρ _ (h.use id' o' e').1]
      have := h.blk_lt e' hlive'
      omega
    · rename_i _ he; subst he
      rw [hρ _ (h.use id o1 e).1] at hlive
      rw [hnew, hρ _ (h.use id o1 e).1]
      have := h.blk_lt e hlive
      omega
    · exact h'.sep id id' o1 o' e e' hne hrw hlive hlive'
  · intro id o1 e hrw hlive
    simp only [updF] at e
    split at e
    · rename_i he; subst he; rw [hnew]
      intro hp
      have := h.plt _ hp
      have := h.size
      omega
    · exact h'.own id o1 e hrw hlive
  · exact h'.os
  · exact h'.tape
  · exact h'.output
  · exact h'.size
  · exact h'.kept
  · exact h'.plt
  · exact fun i l e => ⟨.inl (h'.pin i l e).1, (h'.pin i l e).2⟩

theorem MemOK.new (h : MemOK B U ρ g w) {nid : Nat} (hn : ¬ U nid) (hb : Below w.heap.size w w') (l : Loc) (hl : w.heap.size ≤ l.blk)
    (hl' : l.blk < w'.heap.size) {cs : List AV} (hr : ∀ j c, cs[j]? = some c → w'.cell? (l.at j) = some (conc ρ c))
    (hf : ∀ j, j < cs.length → w'.frozen? (l.at j) = false) (hU : allL U cs) :
    MemOK B (orU U (· = nid)) (upd ρ nid l) (updF g nid (.cells cs)) w' := by
  have hρ : ∀ i, U i → upd ρ nid l i = ρ i := fun i hi => by
    have : i ≠ nid := fun e => hn (e ▸ hi)
    simp [upd, this]
  have hnew : upd ρ nid l nid = l := by simp [upd]
  refine h.newO hn hb l hl ⟨by rw [hnew]; exact hl', fun j c hc => ?_, by rw [hnew]; exact hf⟩ hU
  rw [hnew, hr j c hc, conc_congr hρ (allL_iff.1 hU c (List.mem_of_getElem? hc))]

/-- A map's entries are turned. -/
theorem MemOK.setMap (h : MemOK B U ρ g w) {id : Nat} {es es' : List (AV × AV)} (e : g id = some (.map es)) (hU : ∀ e ∈ es', e.1.all U ∧ e.2.all U) {arr : Array MapEntry} {clock : Nat}
    (ha : arr.toList.map (fun e => (e.key, e.val)) = es'.map fun e => (conc ρ e.1, conc ρ e.2)) :
    MemOK B U ρ (updF g id (.map es')) { w with heap := w.heap.setIfInBounds (ρ id).blk (.map arr clock) } := by
  have hlt := h.blk_lt e rfl
  refine h.put e rfl rfl hU ⟨arr, clock, ?_, ha⟩ (fun b hb => ?_) (by simp) rfl rfl rfl
  · show (w.heap.setIfInBounds (ρ id).blk (.map arr clock))[(ρ id).blk]? = _
    rw [Array.getElem?_setIfInBounds, if_pos rfl, if_pos hlt]
  · show (w.heap.setIfInBounds (ρ id).blk (.map arr clock))[b]? = _
    rw [Array.getElem?_setIfInBounds, if_neg (fun e => hb e.symm)]

/-- One cell is written. -/
theorem MemOK.store1 (h : MemOK B U ρ g w) {id j : Nat} {cs : List AV} (e : g id = some (.cells cs)) (hj : j < cs.length) {c : AV} (hc : c.all U) :
    MemOK B U ρ (updF g id (.cells (cs.set j c))) (w.setCell ((ρ id).at j) (conc ρ c)) := by
  obtain ⟨o1, o2, o3⟩ := h.obj id _ e
  refine h.put e rfl rfl (allL_iff.2 fun x hx => ?_) ⟨by simpa using o1, fun k x hx => ?_, fun k hk => by rw [World.frozen?_setCell]; exact o3 k (by simpa using hk)⟩ (fun b hb => Below.heap_setCell _ _ _ _ hb) (by simp) rfl rfl rfl
  · rcases List.mem_or_eq_of_mem_set hx with hx | rfl
    · exact allL_iff.1 (h.use _ _ e).2 x hx
    · exact hc
  · rw [List.getElem?_set] at hx
    split at hx
    · rename_i hjk; subst hjk
      cases hx
      have hs : ∃ y, cs[j]? = some y := ⟨cs[j], by simp [hj]⟩
      obtain ⟨y, hy⟩ := hs
      exact World.cell?_setCell_same (w := w) (a := (ρ id).at j) (v := _) (o2 j y hy)
    · rename_i hjk
      have hne : (ρ id).at j ≠ (ρ id).at k := by simp only [Loc.at, ne_eq, Addr.mk.injEq, not_and]; omega
      rw [World.cell?_setCell_other (h := hne)]
      exact o2 k x hx

theorem lput_cons {α : Type} : ∀ (l : List α) (n : Nat) (y : α) (new r : List α), lput l n (y :: new) = some r → n < l.length ∧ lput (l.set n y) (n + 1) new = some r
  | [], 0, y, new, r, h => by simp [lput] at h
  | x :: l, 0, y, new, r, h => by
    simp only [lput] at h
    refine ⟨by simp, ?_⟩
    simp only [List.set_cons_zero, lput]
    cases new with
    | nil => simpa [lput] using h
    | cons z new => simpa [lput] using h
  | [], n + 1, y, new, r, h => by simp [lput] at h
  | x :: l, n + 1, y, new, r, h => by
    simp only [lput, Option.map_eq_some_iff] at h
    obtain ⟨r', h1, rfl⟩ := h
    obtain ⟨h2, h3⟩ := lput_cons l n y new r' h1
    exact ⟨by simp; omega, by simp [lput, h3]⟩

theorem addr_add (b o n : Nat) : (Addr.mk b o none).add n = ⟨b, o + n, none⟩ := by
  unfold Addr.add
  split
  · rename_i h; subst h; rfl
  · rfl

theorem MemOK.stores : ∀ {new : List AV} {g : Nat → Option AObj} {w : World} {id j : Nat} {cs cs' : List AV} (k : Nat), MemOK B U ρ g w → g id = some (.cells cs) →
    lput cs (j + k) new = some cs' → allL U new → (∀ x ∈ new, x.one = true) →
    ∃ w', (storeCells ((ρ id).at j) (concL ρ new) k).run P w = .ok () w' ∧ MemOK B U ρ (updF g id (.cells cs')) w'
  | [], g, w, id, j, cs, cs', k, h, e, hp, _, _ => by
    have hcs : cs' = cs := by
      rcases lput_eq cs (j + k) [] cs' hp with h | h
      · have := lput_get cs (j + k) [] cs' hp
        apply List.ext_getElem?
        intro i; rw [this i, if_neg (fun c => by simp only [List.length_nil] at c; omega)]
      · exact h.2
    subst hcs
    refine ⟨w, by simp [storeCells, concL], h.sub fun i o ho => ?_⟩
    simp only [updF] at ho
    split at ho
    · rename_i he; subst he; cases ho; exact e
    · exact ho
  | y :: new, g, w, id, j, cs, cs', k, h, e, hp, hU, h1 => by
    obtain ⟨hlt, hp'⟩ := lput_cons cs (j + k) y new cs' hp
    obtain ⟨o1, o2, o3⟩ := h.obj id _ e
    have hcell : ∃ v, w.cell? ((ρ id).at (j + k)) = some v := ⟨_, o2 (j + k) _ (List.getElem?_eq_getElem hlt)⟩
    obtain ⟨v, hv⟩ := hcell
    have hfz := o3 (j + k) hlt
    have hstep := h.store1 (j := j + k) e hlt hU.1
    have hget : updF g id (.cells (cs.set (j + k) y)) id = some (.cells (cs.set (j + k) y)) := by simp [updF]
    obtain ⟨w', hr, hm⟩ := MemOK.stores (k + 1) hstep hget (by rw [← Nat.add_assoc]; exact hp') hU.2 (fun x hx => h1 x (List.mem_cons_of_mem _ hx))
    refine ⟨w', ?_, hm.sub fun i o ho => ?_⟩
    · simp only [concL, storeCells, Sem.run_bind]
      rw [show (Loc.at (ρ id) j).add k = Loc.at (ρ id) (j + k) from by simp [Loc.at, addr_add, Nat.add_assoc]]
      rw [run_store P w _ _ .plain (one_conc (h1 y (by simp))), hv]
      simp only [hfz, Bool.false_eq_true, if_false, Result.andThen_ok]
      exact hr
    · simp only [updF] at ho ⊢
      split at ho <;> simp_all

/-! ### reading -/
theorem run_isAgg (t : TypeId) {d : TypeDesc} (h : P.underlying t = some d) : (isAgg t).run P w = .ok (isAggD d) w := by
  unfold isAgg underlying
  simp only [Sem.run_bind, run_program, Result.andThen_ok, h, Sem.run_pure]
  cases d <;> rfl
theorem run_sizeOf (t : TypeId) {i : TypeInfo} (h : P.info? t = some i) : (sizeOf t).run P w = .ok i.size w := by
  unfold sizeOf typeInfo
  simp only [Sem.run_bind, run_program, Result.andThen_ok, h, Sem.run_pure]
theorem run_underlying (t : TypeId) {d : TypeDesc} (h : P.underlying t = some d) : (underlying t).run P w = .ok d w := by
  unfold underlying
  simp only [Sem.run_bind, run_program, Result.andThen_ok, h, Sem.run_pure]
theorem run_zeroValue (t : TypeId) {i : TypeInfo} {v : Value} (h : P.info? t = some i) (hv : i.zero = some v) : (zeroValue t).run P w = .ok v w := by
  unfold zeroValue typeInfo
  simp only [Sem.run_bind, run_program, Result.andThen_ok, h, Sem.run_pure, hv]

theorem apart_all {t : TypeId} {cs : List AV} {off : Nat} {v : AV} (h : apart P t cs off = some v) (hU : allL U cs) : v.all U := by
  unfold apart at h
  split at h
  · rename_i d i hd hi
    split at h
    · simp only [Option.map_eq_some_iff] at h
      obtain ⟨r, hr, rfl⟩ := h
      have := ltake_eq _ _ _ hr
      rw [ldrop_eq] at this
      refine allL_iff.2 fun x hx => allL_iff.1 hU x ?_
      rw [this.1] at hx
      exact List.mem_of_mem_drop (List.mem_of_mem_take hx)
    · rw [lnth_eq] at h
      exact allL_iff.1 hU v (List.mem_of_getElem? h)
  · exact nomatch h

theorem run_part {t : TypeId} {cs : List AV} {off : Nat} {v : AV} (h : apart P t cs off = some v) :
    (part t (concL ρ cs).toArray off).run P w = .ok (conc ρ v) w := by
  unfold apart at h
  split at h
  · rename_i d i hd hi
    unfold part
    simp only [Sem.run_bind, run_isAgg t hd, Result.andThen_ok]
    split at h
    · rename_i ha
      simp only [Option.map_eq_some_iff] at h
      obtain ⟨r, hr, rfl⟩ := h
      have := ltake_eq _ _ _ hr
      rw [ldrop_eq] at this
      simp only [ha, if_true, Sem.run_bind, run_sizeOf t hi, Result.andThen_ok, Sem.run_pure, conc]
      congr 2
      simp [concL_eq, this.1, List.extract_eq_take_drop, List.map_drop, List.map_take]
    · rename_i ha
      rw [lnth_eq] at h
      simp only [ha, Bool.false_eq_true, if_false]
      have : (concL ρ cs).toArray[off]? = some (conc ρ v) := by simp [concL_eq, h]
      rw [this]; rfl
  · exact nomatch h

theorem run_loadVar_at {l : Loc} {cs : List AV} {j : Nat} (hread : readAt ρ l cs w) {t : TypeId} {v : AV}
    (hv : apart P t cs j = some v) : (loadVar t (l.at j)).run P w = .ok (conc ρ v) w := by
  unfold apart at hv
  split at hv
  · rename_i d i hd hi
    unfold loadVar
    simp only [Sem.run_bind, run_isAgg t hd, Result.andThen_ok]
    split at hv
    · rename_i ha
      simp only [Option.map_eq_some_iff] at hv
      obtain ⟨r, hr, rfl⟩ := hv
      obtain ⟨h1, h2⟩ := ltake_eq _ _ _ hr
      rw [ldrop_eq] at h1
      simp only [ha, if_true, Sem.run_bind, run_sizeOf t hi, Result.andThen_ok]
      have hl := run_loadCells_list (P := P) (w := w) (l.at j) (concL ρ r) (by
        intro k x hx
        rw [show (Loc.at l j).add k = Loc.at l (j + k) from by simp [Loc.at, addr_add, Nat.add_assoc]]
        rw [concL_eq, List.getElem?_map, Option.map_eq_some_iff] at hx
        obtain ⟨y, hy, rfl⟩ := hx
        refine hread (j + k) y ?_
        rw [h1, List.getElem?_take] at hy
        split at hy
        · rwa [List.getElem?_drop] at hy
        · exact nomatch hy)
      have hlen : (concL ρ r).length = i.size := by rw [concL_eq, List.length_map, h2]
      rw [hlen] at hl
      rw [hl]
      simp [conc]
    · rename_i ha
      rw [lnth_eq] at hv
      simp only [ha, Bool.false_eq_true, if_false, run_load, hread j v hv]
  · exact nomatch hv

theorem run_loadVar (h : MemOK B U ρ g w) {id j : Nat} {o : AObj} (e : g id = some o) {cs : List AV} (hcs : acells (some o) = some cs) {t : TypeId} {v : AV}
    (hv : apart P t cs j = some v) : (loadVar t ((ρ id).at j)).run P w = .ok (conc ρ v) w := by
  refine run_loadVar_at ?_ hv
  have := h.obj id o e
  cases o <;> simp only [acells, Option.some.injEq] at hcs
  · subst hcs; exact this.2.1
  · subst hcs; exact this.2
  all_goals exact nomatch hcs

theorem mem_all (h : MemOK B U ρ g w) {id : Nat} {o : AObj} (e : g id = some o) {cs : List AV} (hcs : acells (some o) = some cs) : allL U cs := by
  have := (h.use id o e).2
  cases o <;> simp only [acells, Option.some.injEq] at hcs
  · subst hcs; exact this
  · subst hcs; exact this
  all_goals exact nomatch hcs
end
end Go.Sx
