/- An abstract machine over the model's code: regions, code, functions; definitions. -/
import Derived.Test.YtbfmneknabhlcaaSxA
set_option linter.unusedVariables false
namespace Go.Sx

/-- What an operation did, for the look at the orders of a region. -/
structure Tn where
  idx : Nat
  acc : List Nat
  wr : List Nat

def setMem (m : Tr AObj) : List (Nat × AObj) → Tr AObj
  | [] => m
  | (k, o) :: l => setMem (m.set k o) l

def putT (n : Nat) (tm : Tr AV) (dst : Option Tmp) (v : AV) : Option (Tr AV) :=
  match dst with
  | none => some tm
  | some d => match Nat.blt d n with
    | true => some (tm.set d v)
    | false => none

def delN (x : Nat) : List Nat → List Nat
  | [] => []
  | y :: l => cond (Nat.beq x y) (delN x l) (y :: delN x l)
def isDec (dec : List Nat) : Operand → Bool
  | .const _ => true
  | .tmp t => memN t dec
  | _ => false
def newDec (o : Oper) (s : St) : List Nat :=
  match o.dst with
  | none => s.dec
  | some d => match (match o.op with
      | .move x | .assign x => isDec s.dec x
      | .unOp .not _ x => isDec s.dec x
      | .pick c a b => match isDec s.dec c with
        | true => match opnd s.tm c with
          | some (.v (.bool true)) => isDec s.dec a
          | some (.v (.bool false)) => isDec s.dec b
          | _ => false
        | false => false
      | _ => false) with
    | true => d :: delN d s.dec
    | false => delN d s.dec
def delDst (o : Oper) (dec : List Nat) : List Nat :=
  match o.dst with
  | none => dec
  | some d => delN d dec

section
variable (E : Env)

/-- An operation that is carried out: as one that looks at what it names alone ('calls'), or a call that is gone into ('inl'). -/
def doOp (quiet : Bool) (base idx : Nat) (o : Oper) (s : St) : R (St × Tn) :=
  let nid := match quiet with
    | true => base + 4 * idx
    | false => s.nx
  let nx' := match quiet with
    | true => s.nx
    | false => match allocs o.op with
      | true => s.nx + 4
      | false => s.nx
  let plain (r : R Out) : R (St × Tn) :=
    (R.run quiet s.mem r []).bind fun (out, acc) => match putT E.n s.tm o.dst out.val with
      | some tm => .ret (⟨tm, setMem s.mem out.wr, nx', newDec o s⟩, ⟨idx, acc, out.wr.map (·.1)⟩)
      | none => .bad "slot's number"
  let sy := match o.dst with
    | some d => memN d E.sym
    | none => false
  match quiet, o.op with
  | false, .call { callee := .value g, args := args, argTypes := _ } =>
    match opnd s.tm g, evs (opnd s.tm) args.toList with
    | some (.f fn cap), some vs => match E.calls fn (vs ++ cap) nid with
      | some r => plain r
      | none => match E.inl fn (vs ++ cap) s.mem s.nx with
        | some r => r.bind fun (v, m, nx) => match putT E.n s.tm o.dst v with
          | some tm => .ret (⟨tm, m, nx, delDst o s.dec⟩, ⟨idx, [], []⟩)
          | none => .bad "slot's number"
        | none => .bad "call"
    | _, _ => .bad "callee"
  | _, _ => plain (aop E (opnd s.tm) sy nid o)

/-- The operations of a region, in the order of the text. -/
def evalOps (quiet : Bool) (all : List Oper) (base : Nat) : List Oper → Nat → St → List Tn → R (St × List Tn)
  | [], _, s, tr => .ret (s, tr)
  | o :: l, idx, s, tr =>
    let go (s : St) : R (St × List Tn) := (doOp E quiet base idx o s).bind fun (s', x) => evalOps quiet all base l (idx + 1) s' (x :: tr)
    let skip (s : St) : R (St × List Tn) := match putT E.n s.tm o.dst (.v undef) with
      | some tm => evalOps quiet all base l (idx + 1) ⟨tm, s.mem, s.nx, delDst o s.dec⟩ tr
      | none => .bad "slot's number"
    match o.guard with
    | none => go s
    | some (j, want) => match (lnth all j).bind (·.dst) with
      | none => .bad "guard"
      | some d => match s.tm.get d with
        | some (.v (.bool b)) => match cond (memN d s.dec) false (memN d E.sym) with
          | true => .br b
            (let s := ⟨s.tm.set d (.v (.bool true)), s.mem, s.nx, d :: s.dec⟩; match want with | true => go s | false => skip s)
            (let s := ⟨s.tm.set d (.v (.bool false)), s.mem, s.nx, d :: s.dec⟩; match want with | true => skip s | false => go s)
          | false => match b, want with
            | true, true | false, false => go s
            | _, _ => skip s
        | some (.v (.tuple _)) => skip s
        | _ => .bad "guard's slot"

def meets : List Nat → List Nat → Bool
  | [], _ => false
  | x :: l, m => cond (memN x m) true (meets l m)

/-- The operations that stand ahead of an operation, as a number's bits. -/
def maskOf (acc : List Nat) : List Edge → Nat
  | [] => 0
  | e :: l => match Region.binds .any e with
    | true => Nat.lor (Nat.lor (2 ^ e.on) (match lnth acc e.on with | some m => m | none => 0)) (maskOf acc l)
    | false => maskOf acc l
def masks (acc : List Nat) : List Oper → List Nat
  | [] => acc
  | o :: l => masks (acc ++ [maskOf acc o.after.toList]) l

def ordered (ms : List Nat) (i j : Nat) : Bool :=
  match Nat.blt i j with
  | true => match lnth ms j with
    | some m => Nat.testBit m i
    | none => false
  | false => match lnth ms i with
    | some m => Nat.testBit m j
    | none => false

/-- Two operations of which neither must stand ahead of the other may not touch what the other one writes. -/
def calmOne (ms : List Nat) (x : Tn) : List Tn → Bool
  | [] => true
  | y :: l => cond (ordered ms x.idx y.idx) (calmOne ms x l)
      (cond (meets x.wr y.acc) false (cond (meets x.wr y.wr) false (cond (meets y.wr x.acc) false (calmOne ms x l))))
def calm (ms : List Nat) : List Tn → Bool
  | [] => true
  | x :: l => cond (calmOne ms x l) (calm ms l) false

def tmpsOf : List Operand → List Nat
  | [] => []
  | .tmp t :: l => t :: tmpsOf l
  | _ :: l => tmpsOf l
def dstOf (o : Oper) : List Nat :=
  match o.dst with
  | some d => [d]
  | none => []
/-- The slots that an operation names. -/
def namesOf (all : List Oper) (o : Oper) : List Nat :=
  dstOf o ++ (tmpsOf o.op.operands.toList ++ match o.guard with
    | some (j, _) => match lnth all j with
      | some p => dstOf p
      | none => []
    | none => [])

def tcalmOne (ms : List Nat) (i : Nat) (di ni : List Nat) (all : List Oper) (j : Nat) : List Oper → Bool
  | [] => true
  | o :: l => cond (ordered ms i j) (tcalmOne ms i di ni all (j + 1) l)
      (cond (meets di (namesOf all o)) false (cond (meets (dstOf o) ni) false (tcalmOne ms i di ni all (j + 1) l)))
def tcalm (ms : List Nat) (all : List Oper) (i : Nat) : List Oper → Bool
  | [] => true
  | o :: l => cond (tcalmOne ms i (dstOf o) (namesOf all o) all (i + 1) l) (tcalm ms all (i + 1) l) false

def backEdges : List Oper → Nat → Bool
  | [], _ => true
  | o :: l, i => cond (o.after.toList.all (fun e => !Region.binds .any e || Nat.blt e.on i)) (backEdges l (i + 1)) false

def evalRegion (ops : List Oper) (draw : Bool) (s : St) : R St :=
  let s' : St := ⟨s.tm, s.mem, s.nx + 4 * ops.length, s.dec⟩
  match draw with
  | false => (evalOps E false ops 0 ops 0 s []).bind fun (s, _) => .ret s
  | true => match backEdges ops 0, tcalm (masks [] ops) ops 0 ops with
    | true, true => (evalOps E true ops s.nx ops 0 s' []).bind fun (s, tr) => match calm (masks [] ops) tr with
      | true => .ret s
      | false => .bad "order"
    | _, _ => .bad "edges"

def iter (f : St → R (Ex × St)) : Nat → St → R (Ex × St)
  | 0, _ => .bad "fuel"
  | n + 1, s => (f s).bind fun (e, s') => match e with
    | .normal => iter f n s'
    | e => .ret (e, s')

def firstRegion : Code → Option Nat
  | .region id _ _ => some id
  | .seq a b => match firstRegion a with
    | some i => some i
    | none => firstRegion b
  | .cond _ a _ => firstRegion a
  | .block _ a => firstRegion a
  | .loop a => firstRegion a
  | _ => none

def evalCode : Code → St → R (Ex × St)
  | .skip, s => .ret (.normal, s)
  | .label _, s => .ret (.normal, s)
  | .region _ ops draw, s => (evalRegion E ops.toList draw s).bind fun s => .ret (.normal, s)
  | .seq a b, s => (evalCode a s).bind fun (e, s') => match e with
    | .normal => evalCode b s'
    | e => .ret (e, s')
  | .cond c x y, s => match opnd s.tm c with
    | some (.v (.bool b)) => match (match c with | .tmp d => cond (memN d s.dec) false (memN d E.sym) | _ => false) with
      | true => .br b (evalCode x s) (evalCode y s)
      | false => match b with
        | true => evalCode x s
        | false => evalCode y s
    | _ => .bad "test"
  | .block id c, s => (evalCode c s).bind fun (e, s') => match e with
    | .exit id' => match Nat.beq id' id with
      | true => .ret (.normal, s')
      | false => .ret (.exit id', s')
    | e => .ret (e, s')
  | .loop c, s => match (firstRegion c).bind fun k => E.loops k s with
    | some r => r
    | none => iter (fun s => evalCode c s) E.fuel s
  | .exit id, s => .ret (.exit id, s)
  | .ret, s => .ret (.ret, s)
  | _, _ => .bad "code"

def loadRes (tm : Tr AV) (m : Tr AObj) : ResultVar → Option AV
  | .tmp t => tm.get t
  | .cell a t => match tm.get a with
    | some (.p id 0 j) => match m.get id with
      | some (.rows [c] n _) => match j, isArr E.P t, asz E.P t with
        | 0, true, some m => match Nat.beq m n, Nat.blt 0 m with
          | true, true => some (.rows [c] n)
          | _, _ => none
        | _, _, _ => none
      | o => match acells o with
        | some cs => apart E.P t cs j
        | none => none
    | _ => none
def loadAll (tm : Tr AV) (m : Tr AObj) : List ResultVar → Option (List AV)
  | [] => some []
  | r :: l => match loadRes E tm m r, loadAll tm m l with
    | some v, some vs => some (v :: vs)
    | _, _ => none
def resultAV (vs : List AV) : AV :=
  match vs with
  | [v] => v
  | vs => .t vs

def argsTm : List AV → Nat → Tr AV → Tr AV
  | [], _, tm => tm
  | v :: l, i, tm => argsTm l (i + 1) (tm.set i v)

def evalBody (fn : Func) (args : List AV) (mem : Tr AObj) (nx : Nat) : R (AV × St) :=
  match fn.body, Nat.ble args.length E.n with
  | some c, true => (evalCode E c ⟨argsTm args 0 .e, mem, nx, []⟩).bind fun (e, s) => match e with
    | .exit _ => .bad "exit"
    | _ => match loadAll E s.tm s.mem fn.results.toList with
      | some vs => .ret (resultAV vs, s)
      | none => .bad "results"
  | _, _ => .bad "body"
end

end Go.Sx
