/- Regions whose order is open: the walk over all orders. -/
import Derived.Test.YtbfmneknabhlcaaSxL
set_option linter.unusedSimpArgs false
set_option linter.unusedVariables false
namespace Go.Sx
open Go.RowKit (Below)

/-- What an operation did in the text's order. -/
structure Rec where
  s : St
  ex : Bool
  val : AV
  wr : List (Nat × AObj)
  acc : List Nat

def GuardSays (all : List Oper) (s : St) (o : Oper) (ex : Bool) : Prop :=
  (o.guard = none ∧ ex = true) ∨ ∃ j want d, o.guard = some (j, want) ∧ (lnth all j).bind (·.dst) = some d ∧
    ((∃ b, s.tm.get d = some (.v (.bool b)) ∧ ex = (b == want)) ∨ (∃ vs, s.tm.get d = some (.v (.tuple vs)) ∧ ex = false))

structure RecOK (E : Env) (all : List Oper) (base j : Nat) (o : Oper) (s s' : St) (r : Rec) : Prop where
  tm : ∀ k v, r.s.tm.get k = some v → s.tm.get k = some v
  mem : r.s.mem = s.mem
  put : putT E.n r.s.tm o.dst r.val = some s'.tm
  mem' : s'.mem = setMem s.mem r.wr
  guard : GuardSays all r.s o r.ex
  yes : r.ex = true → ∃ out sy, r.val = out.val ∧ r.wr = out.wr ∧ (R.run true r.s.mem (aop E (opnd r.s.tm) sy (base + 4 * j) o) []).gets (out, r.acc)
  no : r.ex = false → r.val = .v undef ∧ r.wr = [] ∧ r.acc = []

def Recs (E : Env) (all : List Oper) (base : Nat) : Nat → List Oper → St → List Rec → St → Prop
  | _, [], s, rs, sf => rs = [] ∧ sf = s
  | j, o :: l, s, rs, sf => ∃ r rs' s1, rs = r :: rs' ∧ RecOK E all base j o s s1 r ∧ Recs E all base (j + 1) l s1 rs' sf

def tnOf (j : Nat) (r : Rec) : Tn := ⟨j, r.acc, r.wr.map (·.1)⟩
def tns : Nat → List Rec → List Tn
  | _, [] => []
  | j, r :: rs => if r.ex = true then tnOf j r :: tns (j + 1) rs else tns (j + 1) rs

theorem recs_length {E : Env} {all : List Oper} {base : Nat} : ∀ {l : List Oper} {j : Nat} {s : St} {rs : List Rec} {sf : St}, Recs E all base j l s rs sf → rs.length = l.length
  | [], _, _, _, _, h => by rw [h.1]; rfl
  | o :: l, j, s, rs, sf, h => by
    obtain ⟨r, rs', s1, rfl, _, h⟩ := h
    simp [recs_length h]

theorem evalOps_recs {E : Env} {all : List Oper} {base : Nat} {K : St × List Tn → Prop} : ∀ {l : List Oper} {idx : Nat} {s : St} {tr : List Tn}, (evalOps E true all base l idx s tr).holds K →
    ∃ rs sf, Recs E all base idx l s rs sf ∧ sf.nx = s.nx ∧ K (sf, (tns idx rs).reverse ++ tr)
  | [], idx, s, tr, h => ⟨[], s, ⟨rfl, rfl⟩, rfl, h⟩
  | o :: l, idx, s, tr, h => by
    have hgo : ∀ s1 : St, (∀ k v, s1.tm.get k = some v → s.tm.get k = some v) → s1.mem = s.mem → s1.nx = s.nx → GuardSays all s1 o true →
        ((doOp E true base idx o s1).bind fun (s', x) => evalOps E true all base l (idx + 1) s' (x :: tr)).holds K →
        ∃ rs sf, Recs E all base idx (o :: l) s rs sf ∧ sf.nx = s.nx ∧ K (sf, (tns idx rs).reverse ++ tr) := by
      intro s1 hs1 hm1 hx1 hg hh
      rw [R.holds_bind] at hh
      unfold doOp at hh
      simp only at hh
      rw [R.holds_bind] at hh
      obtain ⟨⟨out, acc⟩, hgets, hK⟩ := R.run_gets hh
      dsimp only at hK
      split at hK
      · rename_i tm htm
        obtain ⟨rs, sf, h1, h2, h3⟩ := evalOps_recs hK
        refine ⟨⟨s1, true, out.val, out.wr, acc⟩ :: rs, sf, ⟨_, rs, ⟨tm, setMem s1.mem out.wr, s1.nx, newDec o s1⟩, rfl, ?_, h1⟩, by rw [h2]; exact hx1, ?_⟩
        · exact ⟨hs1, hm1, htm, by rw [hm1], hg, fun _ => ⟨out, _, rfl, rfl, hgets⟩, fun h => nomatch h⟩
        · simp only [tns, if_true, List.reverse_cons, List.append_assoc, List.singleton_append]
          exact h3
      · exact hK.elim
    have hskip : ∀ s1 : St, (∀ k v, s1.tm.get k = some v → s.tm.get k = some v) → s1.mem = s.mem → s1.nx = s.nx → GuardSays all s1 o false →
        (match putT E.n s1.tm o.dst (.v undef) with
          | some tm => evalOps E true all base l (idx + 1) ⟨tm, s1.mem, s1.nx, delDst o s1.dec⟩ tr
          | none => .bad "slot's number" : R (St × List Tn)).holds K →
        ∃ rs sf, Recs E all base idx (o :: l) s rs sf ∧ sf.nx = s.nx ∧ K (sf, (tns idx rs).reverse ++ tr) := by
      intro s1 hs1 hm1 hx1 hg hh
      split at hh
      · rename_i tm htm
        obtain ⟨rs, sf, h1, h2, h3⟩ := evalOps_recs hh
        refine ⟨⟨s1, false, .v undef, [], []⟩ :: rs, sf, ⟨_, rs, ⟨tm, s1.mem, s1.nx, delDst o s1.dec⟩, rfl, ?_, h1⟩, by rw [h2]; exact hx1, ?_⟩
        · exact ⟨hs1, hm1, htm, by simp [setMem, hm1], hg, fun h => (nomatch h), fun _ => ⟨rfl, rfl, rfl⟩⟩
        · simp only [tns]
          exact h3
      · exact hh.elim
    unfold evalOps at h
    simp only at h
    split at h
    · rename_i hg
      exact hgo s (fun _ _ h => h) rfl rfl (.inl ⟨hg, rfl⟩) h
    · rename_i j want hg
      split at h
      · exact h.elim
      · rename_i d hd
        split at h
        · rename_i b hb
          have hset : ∀ k v, (s.tm.set d (.v (.bool b))).get k = some v → s.tm.get k = some v := fun k v e => by
            rcases Tr.get_set e with ⟨rfl, rfl⟩ | ⟨_, h2⟩
            · exact hb
            · exact h2
          by_cases hself : (s.tm.set d (.v (.bool b))).get d = some (.v (.bool b))
          · split at h
            · obtain ⟨h1, h2⟩ := h
              cases b with
              | true =>
                have := h1 rfl
                cases want with
                | true => exact hgo ⟨s.tm.set d (.v (.bool true)), s.mem, s.nx, d :: s.dec⟩ hset rfl rfl (.inr ⟨j, true, d, hg, hd, .inl ⟨true, hself, rfl⟩⟩) this
                | false => exact hskip ⟨s.tm.set d (.v (.bool true)), s.mem, s.nx, d :: s.dec⟩ hset rfl rfl (.inr ⟨j, false, d, hg, hd, .inl ⟨true, hself, rfl⟩⟩) this
              | false =>
                have := h2 rfl
                cases want with
                | true => exact hskip ⟨s.tm.set d (.v (.bool false)), s.mem, s.nx, d :: s.dec⟩ hset rfl rfl (.inr ⟨j, true, d, hg, hd, .inl ⟨false, hself, rfl⟩⟩) this
                | false => exact hgo ⟨s.tm.set d (.v (.bool false)), s.mem, s.nx, d :: s.dec⟩ hset rfl rfl (.inr ⟨j, false, d, hg, hd, .inl ⟨false, hself, rfl⟩⟩) this
            · cases b <;> cases want <;> simp only at h
              · exact hgo s (fun _ _ h => h) rfl rfl (.inr ⟨j, false, d, hg, hd, .inl ⟨false, hb, rfl⟩⟩) h
              · exact hskip s (fun _ _ h => h) rfl rfl (.inr ⟨j, true, d, hg, hd, .inl ⟨false, hb, rfl⟩⟩) h
              · exact hskip s (fun _ _ h => h) rfl rfl (.inr ⟨j, false, d, hg, hd, .inl ⟨true, hb, rfl⟩⟩) h
              · exact hgo s (fun _ _ h => h) rfl rfl (.inr ⟨j, true, d, hg, hd, .inl ⟨true, hb, rfl⟩⟩) h
          · exact absurd (Tr.get_set_self hb) hself
        · rename_i vs hb
          exact hskip s (fun _ _ h => h) rfl rfl (.inr ⟨j, want, d, hg, hd, .inr ⟨vs, hb, rfl⟩⟩) h
        · exact h.elim
end Go.Sx
