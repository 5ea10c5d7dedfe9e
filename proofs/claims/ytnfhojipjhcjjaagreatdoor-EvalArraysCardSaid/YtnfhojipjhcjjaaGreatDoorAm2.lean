/-
  THE READING OF A PROGRAM's CODE as code of the evaluator (definitions alone; what it is worth is shown by the soundness theorem). Conditions: none.
-/
import Derived.Test.YtnfhojipjhcjjaaGreatDoorAm1
namespace Go.Am
set_option autoImplicit false

mutual
def ofValue : Value → Option V
  | .bool b => some (.bool b)
  | .int k n => some (.int k n)
  | .string s => some (.str s.data.toList)
  | .pointer none => some .nilp
  | .slice none 0 0 => some .nils
  | .map none => some .nilm
  | .func (.func f) ⟨[]⟩ ⟨[]⟩ => some (.fn f [])
  | .nilFunc => some .nilf
  | .nilIface => some .nili
  | .agg ⟨cs⟩ => (ofValues cs).map .agg
  | _ => none
def ofValues : List Value → Option (List V)
  | [] => some []
  | x :: r => match ofValue x, ofValues r with
    | some y, some ys => some (y :: ys)
    | _, _ => none
end

def O.args : O → List A
  | .mv x | .box x | .load _ x | .nilck x | .un _ x | .conv _ x | .fa _ x | .fld _ _ x | .ext x _ | .lens x | .len x | .lenm x | .lena _ x | .clr _ x => [x]
  | .pick a b c => [a, b, c]
  | .alloc _ | .mkmap => []
  | .build _ ps | .bsl _ _ _ ps => ps.map (·.2.2)
  | .store _ p x => [p, x]
  | .bin _ x y | .eq _ _ x y | .ia _ x y | .iaa _ _ x y | .ixs x y | .ixa _ _ _ x y | .look _ _ _ _ x y | .app _ _ x y | .mksl _ _ x y => [x, y]
  | .mkfn _ l | .call _ l | .minmax _ l => l
  | .slc _ x a b c => x :: (a.toList ++ b.toList ++ c.toList)
  | .sls x a b | .sla _ _ x a b => x :: (a.toList ++ b.toList)
  | .mupd _ _ x y z => [x, y, z]
  | .dyn _ x l => x :: l

/-- Is it no constant that leads to an object? -/
def A.fine : A → Bool
  | .k (.own _ _) | .k (.osl _ _ _ _ _ _) | .k (.omap _) => false
  | _ => true

section
variable (P : Program) (gl : Nat → Option (List V))

def opd : Operand → Option A
  | .tmp t => some (.t t)
  | .const v => (ofValue v).map .k
  | .global g => (gl g).map fun cs => .k (.imm cs)
  | .func f => some (.k (.fn f []))

def opds (l : List Operand) : Option (List A) := l.mapM (opd gl)

def isAggB (t : TypeId) : Option Bool :=
  match P.underlying t with
  | some (.struct _) | some (.array _ _) => some true
  | some _ => some false
  | none => none

def sizeB (t : TypeId) : Option Nat := (P.info? t).map (·.size)

/-- How a variable of a type is read. -/
def how (t : TypeId) : Option (Option Nat) :=
  match isAggB P t, sizeB P t with
  | some true, some n => some (some n)
  | some false, some _ => some none
  | _, _ => none

def zeroB (t : TypeId) : Option (List V) :=
  match P.info? t with
  | some i => match i.zero with
    | some z => match ofValue z with
      | some v => if v.cells.all V.one ∧ v.cells.length = i.size then some v.cells else none
      | none => none
    | none => none
  | none => none

def zeroV (t : TypeId) : Option V :=
  match P.info? t with
  | some i => i.zero.bind ofValue
  | none => none

/-- The kinds of the cells of a type that '==' compares cell by cell. -/
def leafs : Nat → TypeId → Option (List LK)
  | 0, _ => none
  | d + 1, t =>
    match P.underlying t with
    | some (.int k) => some [.int k]
    | some .bool => some [.bool]
    | some .string => some [.str]
    | some (.struct fs) =>
      if P.stoodInHeld t then none else
      fs.toList.foldl (fun acc f => match acc, leafs d f.type, sizeB P f.type with
        | some l, some m, some s => if f.name ≠ "_" ∧ f.offset = l.length ∧ m.length = s then some (l ++ m) else none
        | _, _, _ => none) (some [])
    | some (.array n e) =>
      match leafs d e, sizeB P e with
      | some m, some s => if m.length = s then some ((List.replicate n m).flatten) else none
      | _, _ => none
    | _ => none

def eqB (t : TypeId) : Option EqT :=
  match P.underlying t with
  | some (.func _ _ _) => some .nl
  | some (.slice _) => some .nls
  | _ => match leafs P 20 t, isAggB P t with
    | some l, some a => if a && P.eqGuardType P.depth t then none else some (.sc l a)
    | _, _ => none

def keyB (t : TypeId) : Option (List LK × Bool) :=
  match P.underlying t with
  | some (.int k) => some ([.int k], false)
  | some .bool => some ([.bool], false)
  | some .string => some ([.str], false)
  | _ => none

def optA : Option Operand → Option (Option A)
  | none => some none
  | some x => (opd gl x).map some

def partsOf (place : Nat → Option (Nat × Nat)) (ps : List (Nat × Operand)) : Option (List (Nat × Nat × A)) :=
  ps.mapM fun (i, x) => match place i, opd gl x with
    | some (o, s), some a => some (o, s, a)
    | _, _ => none

def isOpInt (op : BinOp) : Bool := match op with | .eql | .neq => false | _ => true

def compOp (iso : Bool) (o : Oper) : Option O :=
  match o.op with
  | .move x | .assign x => (opd gl x).map .mv
  | .pick c a b => match opd gl c, opd gl a, opd gl b with
    | some c, some a, some b => some (.pick c a b)
    | _, _, _ => none
  | .alloc t => (zeroB P t).map .alloc
  | .box _ x => (opd gl x).map .box
  | .build t ps =>
    match zeroB P t, P.underlying t with
    | some z, some (.struct fs) => if !(fs.toList.all fun f => (sizeB P f.type).isSome) then none else (partsOf gl (fun i => match fs[i]? with | some f => (sizeB P f.type).map fun s => (f.offset, s) | none => none) ps.toList).map fun l =>
        .build z l
    | some z, some (.array _ e) => (sizeB P e).bind fun s => (partsOf gl (fun i => some (i * s, s)) ps.toList).map (.build z)
    | _, _ => none
  | .buildSlice t n ps =>
    match P.underlying t with
    | some (.slice e) => match sizeB P e, zeroB P e with
      | some s, some z => if n * s ≤ 16777216 ∧ z.length = s then (partsOf gl (fun i => some (i * s, s)) ps.toList).map (.bsl n s z) else none
      | _, _ => none
    | _ => none
  | .load t x => match how P t, opd gl x with
    | some n, some x => some (.load n x)
    | _, _ => none
  | .store t p x => match sizeB P t, opd gl p, opd gl x with
    | some n, some p, some x => some (.store n p x)
    | _, _, _ => none
  | .nilCheck x => (opd gl x).map .nilck
  | .binOp op t x y _ =>
    match opd gl x, opd gl y with
    | some x, some y =>
      if isOpInt op then some (.bin op x y) else (eqB P t).map fun e => .eq (op == .neq) e x y
    | _, _ => none
  | .unOp op _ x => (opd gl x).map (.un op)
  | .convert s d x =>
    match opd gl x, P.underlying s, P.underlying d with
    | some x, some (.int _), some (.int k) => some (.conv (.int k) x)
    | some x, some .string, some .string => some (.conv .same x)
    | some x, some (.slice e), some .string => match P.underlying e with
      | some (.int .u8) => some (.conv .b2s x)
      | _ => none
    | some x, some .string, some (.slice e) => match P.underlying e with
      | some (.int .u8) => some (.conv .s2b x)
      | _ => none
    | _, _, _ => none
  | .makeFunc (.func f) ⟨[]⟩ cap => (opds gl cap.toList).map (.mkfn f)
  | .makeMap _ none => some .mkmap
  | .makeSlice t n c =>
    match P.underlying t with
    | some (.slice e) => match zeroB P e, P.info? e, opd gl n, opd gl c with
      | some z, some i, some n, some c => some (.mksl z i.bytes n c)
      | _, _, _, _ => none
    | _ => none
  | .slice t x lo hi mx =>
    match P.underlying t with
    | some .string => match opd gl x, optA gl lo, optA gl hi, mx with
      | some x, some lo, some hi, none => some (.sls x lo hi)
      | _, _, _, _ => none
    | some (.slice e) => match sizeB P e, opd gl x, optA gl lo, optA gl hi, optA gl mx with
      | some s, some x, some lo, some hi, some mx => if 0 < s ∧ (mx.isNone ∨ hi.isSome) then some (.slc s x lo hi mx) else none
      | _, _, _, _, _ => none
    | some (.array n e) => match sizeB P e, opd gl x, optA gl lo, optA gl hi, mx with
      | some s, some x, some lo, some hi, none => if 0 < s then some (.sla n s x lo hi) else none
      | _, _, _, _, _ => none
    | _ => none
  | .fieldAddr t x f =>
    match P.underlying t with
    | some (.struct fs) => match fs[f]?, opd gl x with
      | some f, some x => match sizeB P f.type with
        | some s => if s = 0 then none else some (.fa f.offset x)
        | none => none
      | _, _ => none
    | _ => none
  | .field t x f =>
    match P.underlying t with
    | some (.struct fs) => match fs[f]?, opd gl x with
      | some f, some x => (how P f.type).map fun n => .fld f.offset n x
      | _, _ => none
    | _ => none
  | .indexAddr t x i =>
    match P.underlying t with
    | some (.slice e) => match sizeB P e, opd gl x, opd gl i with
      | some s, some x, some i => some (.ia s x i)
      | _, _, _ => none
    | some (.array n e) => match sizeB P e, opd gl x, opd gl i with
      | some s, some x, some i => some (.iaa n s x i)
      | _, _, _ => none
    | _ => none
  | .index t x i =>
    match P.underlying t with
    | some .string => match opd gl x, opd gl i with
      | some x, some i => some (.ixs x i)
      | _, _ => none
    | some (.array n e) => match sizeB P e, how P e, opd gl x, opd gl i with
      | some s, some hw, some x, some i => some (.ixa n s hw x i)
      | _, _, _, _ => none
    | _ => none
  | .lookup t m k ok =>
    match P.underlying t with
    | some (.map kt e) => match keyB P kt, zeroV P e, opd gl m, opd gl k with
      | some (l, a), some z, some m, some k => some (.look l a z ok m k)
      | _, _, _, _ => none
    | _ => none
  | .mapUpdate t m k v | .insert t m k v =>
    match P.underlying t with
    | some (.map kt _) => match keyB P kt, opd gl m, opd gl k, opd gl v with
      | some (l, a), some m, some k, some v => some (.mupd l a m k v)
      | _, _, _, _ => none
    | _ => none
  | .extract x i => (opd gl x).map fun x => .ext x i
  | .call c =>
    match c.callee with
    | .value (.func f) => match opds gl c.args.toList, P.funcs[f]? with
      | some as, some fn => if fn.body.isSome && !(fn.name == "runtime.NumGoroutine") then some (.call f as) else none
      | _, _ => none
    | .value x => match opd gl x, opds gl c.args.toList with
      | some x, some as => some (.dyn iso x as)
      | _, _ => none
    | .builtin .append =>
      match c.args.toList, c.argTypes.toList with
      | [s, x], [st, xt] =>
        match P.underlying st, P.underlying xt with
        | some (.slice e), some (.slice _) | some (.slice e), some .string => match P.info? e, zeroB P e, opd gl s, opd gl x with
          | some i, some z, some s, some x => if z.length = i.size ∧ 0 < i.size ∧ 0 < i.bytes then some (.app i.size i.bytes s x) else none
          | _, _, _, _ => none
        | _, _ => none
      | _, _ => none
    | .builtin .len =>
      match c.args.toList, c.argTypes.toList with
      | [x], [t] => match P.underlying t, opd gl x with
        | some .string, some x => some (.lens x)
        | some (.slice _), some x => some (.len x)
        | some (.map _ _), some x => some (.lenm x)
        | some (.array n _), some x => some (.lena n x)
        | _, _ => none
      | _, _ => none
    | .builtin .min => (opds gl c.args.toList).map (.minmax false)
    | .builtin .max => (opds gl c.args.toList).map (.minmax true)
    | .builtin .clear =>
      match c.args.toList, c.argTypes.toList with
      | [x], [t] => match P.underlying t with
        | some (.slice e) => match zeroB P e, opd gl x with
          | some z, some x => some (.clr z x)
          | _, _ => none
        | _ => none
      | _, _ => none
    | _ => none
  | _ => none

/-- An operation's guard: the slot, and what is wanted. -/
def guardOf (ops : List Oper) (o : Oper) : Option (Option (Nat × Bool)) :=
  match o.guard with
  | none => some none
  | some (j, w) => match (ops[j]?).bind (·.dst) with
    | some s => some (some (s, w))
    | none => none

def compReg (iso : Bool) (ops : List Oper) : Option (List Op) :=
  ops.mapM fun o => match compOp P gl iso o, guardOf ops o with
    | some q, some g => if q.args.all A.fine then some { dst := o.dst, g := g, op := q } else none
    | _, _ => none
end

/-! ### Regions whose order is drawn: what must come before what -/

/-- How an operation touches memory: not at all; it reads, or makes what is new; it writes. -/
inductive Tch where
  | no | reads | writes
  deriving DecidableEq, Inhabited

def A.slots : A → List Nat
  | .t i => [i]
  | .k _ => []

def Op.looks (o : Op) : List Nat := (o.op.args.flatMap A.slots) ++ (match o.g with | some (s, _) => [s] | none => [])

def tch (inl : FuncId → Bool) : O → Tch
  | .conv .b2s _ => .reads
  | .load .. | .look .. | .lenm _ | .sla .. => .reads
  | .call f _ => if inl f then .writes else .reads
  | .dyn iso _ _ => if iso then .reads else .writes
  | .store .. | .mupd .. | .app .. | .clr .. => .writes
  | _ => .no

/-- May its footprint be looked at when the code runs? -/
def told (inl : FuncId → Bool) : O → Bool
  | .call f _ => !inl f
  | .dyn iso _ _ => iso
  | _ => true

/-- For each operation the earlier ones that any order keeps before it, as bits. -/
def ancs (ops : List Oper) : List Nat :=
  (ops.foldl (init := ([] : List Nat)) fun acc o =>
    acc ++ [o.after.toList.foldl (fun s e => if Region.binds .any e && decide (e.on < acc.length) then s ||| 2 ^ e.on ||| acc.getD e.on 0 else s) 0])

/-- Must 'a' (the earlier one) stay before 'b' for a slot's sake? -/
def clashT (a b : Op) : Bool :=
  (match a.dst with | some d => b.dst == some d || b.looks.contains d | none => false) ||
  (match b.dst with | some d => a.looks.contains d | none => false)

/-- .. for memory's sake? -/
def clashM (inl : FuncId → Bool) (a b : O) : Bool :=
  (tch inl a == .writes && tch inl b != .no) || (tch inl b == .writes && tch inl a != .no)

/-- The operations, each with the earlier ones that it may change places with. -/
def loosen (inl : FuncId → Bool) (an : List Nat) (cs : List Op) : List Op :=
  cs.zipIdx.map fun (b, j) => { b with ls := (cs.take j).zipIdx.filterMap fun (a, i) => if clashM inl a.op b.op && !(an.getD j 0).testBit i then some i else none }

/-- Whatever must stay in the text's order does so, but for what is told in 'ls'. -/
def drawOk (inl : FuncId → Bool) (ops : List Oper) (cs : List Op) : Bool :=
  let an := ancs ops
  ops.zipIdx.all (fun (o, j) => o.after.all fun e => !Region.binds .any e || decide (e.on < j)) &&
  cs.zipIdx.all fun (b, j) => (cs.take j).zipIdx.all fun (a, i) =>
    (an.getD j 0).testBit i || (!clashT a b && (!clashM inl a.op b.op || (b.ls.contains i && told inl a.op && told inl b.op)))

def comp (P : Program) (gl : Nat → Option (List V)) (inl : FuncId → Bool) : Code → Option C
  | .skip => some .skip
  | .region _ ops d =>
    match compReg P gl d ops.toList with
    | some l =>
      if d then
        if drawOk inl ops.toList l then some (.reg l)
        else if drawOk inl ops.toList (loosen inl (ancs ops.toList) l) then some (.regL (loosen inl (ancs ops.toList) l)) else none
      else some (.reg l)
    | none => none
  | .seq a b => match comp P gl inl a, comp P gl inl b with
    | some a, some b => some (.seq a b)
    | _, _ => none
  | .cond c a b => match opd gl c, comp P gl inl a, comp P gl inl b with
    | some c, some a, some b => some (.cond c a b)
    | _, _, _ => none
  | .block id c => (comp P gl inl c).map (.block id)
  | .loop c => (comp P gl inl c).map .loop
  | .exit id => some (.exit id)
  | .ret => some .ret
  | _ => none

def compRes (P : Program) (r : ResultVar) : Option R :=
  match r with
  | .tmp t => some (.tmp t)
  | .cell a t => (how P t).map (.cell a)

def compFn (P : Program) (gl : Nat → Option (List V)) (inl : FuncId → Bool) (fn : Func) : Option Fn :=
  match fn.body with
  | none => none
  | some c => match comp P gl inl c, fn.results.toList.mapM (compRes P) with
    | some b, some rs => some { nt := fn.ntmps, res := rs, body := b }
    | _, _ => none

end Go.Am
