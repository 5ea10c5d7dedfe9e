/-
  THE EVALUATOR: a pure, deterministic reading of compiled Go code (values are trees; memory that a call itself makes is a list of objects).
  Conditions: none; definitions alone. What it says of the program is shown elsewhere (the soundness theorem).
-/
import Derived.Calls
import Derived.LoopN
import Derived.Orders
namespace Go.Am
set_option autoImplicit false

/-- Values. 'own' and 'osl' lead to an object of the list; 'imm', 'isl', 'imap' bear what they lead to, which never changes. -/
inductive V where
  | bool (b : Bool)
  | int (k : IntKind) (n : Int)
  | str (s : List UInt8)
  | agg (cs : List V)
  | tup (vs : List V)
  | nilp
  | own (id off : Nat)
  | imm (cs : List V)
  | nils
  | osl (id off len sz lo : Nat) (ex : Bool)
  | isl (cs : List V) (len : Nat) (ex : Option Nat)
  | nilm
  | omap (id : Nat)
  | imap (ks vs : List V)
  | fn (f : FuncId) (cap : List V)
  | nilf
  | nili
  | und
  deriving Inhabited

/-- Objects: a row of cells, or a map; 'm': may it still be written? -/
inductive Ob where
  | blk (m : Bool) (cs : List V)
  | map (m : Bool) (ks vs : List V)
  | dead
  deriving Inhabited

abbrev H := List Ob
abbrev T := List V

/-- Operands. -/
inductive A where
  | t (i : Nat)
  | k (v : V)
  deriving Inhabited

/-- The kind of a cell that '==' compares. -/
inductive LK where
  | int (k : IntKind)
  | bool
  | str
  deriving DecidableEq, Inhabited

/-- What '==' compares: cells one by one ('agg': of a struct or an array), or a value against nil. -/
inductive EqT where
  | sc (l : List LK) (agg : Bool)
  | nl
  | nls
  deriving Inhabited

inductive Cv where
  | int (k : IntKind)
  | same
  | b2s
  | s2b
  deriving Inhabited

inductive O where
  | mv (x : A)
  | pick (c a b : A)
  | alloc (z : List V)
  | box (x : A)
  | build (z : List V) (ps : List (Nat × Nat × A))
  | bsl (n sz : Nat) (z : List V) (ps : List (Nat × Nat × A))
  | load (n : Option Nat) (x : A)
  | store (n : Nat) (p x : A)
  | nilck (x : A)
  | bin (op : BinOp) (x y : A)
  | eq (neg : Bool) (e : EqT) (x y : A)
  | un (op : UnOp) (x : A)
  | conv (c : Cv) (x : A)
  | mkfn (f : FuncId) (cap : List A)
  | mkmap
  | mksl (z : List V) (bytes : Nat) (n c : A)
  | slc (sz : Nat) (x : A) (lo hi mx : Option A)
  | sls (x : A) (lo hi : Option A)
  | sla (n sz : Nat) (x : A) (lo hi : Option A)
  | fa (off : Nat) (x : A)
  | fld (off : Nat) (n : Option Nat) (x : A)
  | ia (sz : Nat) (x i : A)
  | iaa (n sz : Nat) (x i : A)
  | ixs (x i : A)
  | ixa (n sz : Nat) (how : Option Nat) (x i : A)
  | look (ks : List LK) (ka : Bool) (z : V) (ok : Bool) (m k : A)
  | mupd (ks : List LK) (ka : Bool) (m k v : A)
  | ext (x : A) (i : Nat)
  | call (f : FuncId) (as : List A)
  | dyn (iso : Bool) (x : A) (as : List A)
  | app (sz bytes : Nat) (s x : A)
  | lens (x : A)
  | len (x : A)
  | lenm (x : A)
  | lena (n : Nat) (x : A)
  | minmax (mx : Bool) (as : List A)
  | clr (z : List V) (x : A)
  deriving Inhabited

structure Op where
  dst : Option Nat
  g : Option (Nat × Bool)
  op : O
  /-- earlier operations that an order may put behind this one, though both touch memory and one writes -/
  ls : List Nat := []
  deriving Inhabited

inductive C where
  | skip
  | reg (ops : List Op)
  | regL (ops : List Op)
  | seq (a b : C)
  | cond (c : A) (a b : C)
  | block (id : Nat) (c : C)
  | loop (c : C)
  | exit (id : Nat)
  | ret
  deriving Inhabited

inductive R where
  | tmp (t : Nat)
  | cell (t : Nat) (n : Option Nat)
  deriving Inhabited

structure Fn where
  nt : Nat
  res : List R
  body : C
  deriving Inhabited

inductive X where
  | nrm
  | exit (id : Nat)
  | ret
  deriving DecidableEq, Inhabited

/-- 'inl': is a function carried out in its caller's memory? 'ext': functions that are known by what they answer. -/
structure Env where
  code : FuncId → Option Fn
  inl : FuncId → Bool
  ext : FuncId → Option (List V → Option V)

/-! ### Parts -/

def V.cells : V → List V
  | .agg cs => cs
  | v => [v]

/-- May it be the value of one cell? -/
def V.one : V → Bool
  | .agg _ | .tup _ | .und => false
  | _ => true

def ev (t : T) : A → V
  | .t i => t.getD i .und
  | .k v => v

def rdc (h : H) : V → Option (List V)
  | .imm cs => some cs
  | .own id off => match h[id]? with
    | some (.blk _ cs) => some (cs.drop off)
    | _ => none
  | _ => none

def fst (n : Option Nat) (cs : List V) : Option V :=
  match n with
  | none => cs.head?
  | some n => if n ≤ cs.length then some (.agg (cs.take n)) else none

/-- 'xs' in the place of what stands from 'i' on. -/
def splice (cs : List V) (i : Nat) (xs : List V) : List V := cs.take i ++ xs ++ cs.drop (i + xs.length)

def fill (cs : List V) : List (Nat × Nat × V) → Option (List V)
  | [] => some cs
  | (off, sz, v) :: r =>
    let xs := v.cells
    if xs.length = sz ∧ off + sz ≤ cs.length ∧ xs.all V.one then fill (splice cs off xs) r else none

def binInt (op : BinOp) (k : IntKind) (a b : Int) : Option V :=
  match op with
  | .add => some (.int k (k.wrap (a + b)))
  | .sub => some (.int k (k.wrap (a - b)))
  | .mul => some (.int k (k.wrap (a * b)))
  | .quo => if b = 0 then none else some (.int k (k.wrap (a.tdiv b)))
  | .rem => if b = 0 then none else some (.int k (a.tmod b))
  | .and => some (.int k (k.wrap (BitVec.ofInt k.bits a &&& BitVec.ofInt k.bits b).toNat))
  | .or => some (.int k (k.wrap (BitVec.ofInt k.bits a ||| BitVec.ofInt k.bits b).toNat))
  | .xor => some (.int k (k.wrap (BitVec.ofInt k.bits a ^^^ BitVec.ofInt k.bits b).toNat))
  | .andNot => some (.int k (k.wrap (BitVec.ofInt k.bits a &&& ~~~ BitVec.ofInt k.bits b).toNat))
  | .lss => some (.bool (decide (a < b)))
  | .leq => some (.bool (decide (a ≤ b)))
  | .gtr => some (.bool (decide (a > b)))
  | .geq => some (.bool (decide (a ≥ b)))
  | .eql => some (.bool (a == b))
  | .neq => some (.bool (a != b))
  | .shl | .shr => none

def binStr (op : BinOp) (a b : List UInt8) : Option V :=
  match op with
  | .add => if a.length + b.length ≤ 9223372036854775807 then some (.str (a ++ b)) else none
  | .eql => some (.bool (a == b))
  | .neq => some (.bool !(a == b))
  | .lss => some (.bool (Op.bytesLess a b))
  | .leq => some (.bool (Op.bytesLess a b || a == b))
  | .gtr => some (.bool !(Op.bytesLess a b || a == b))
  | .geq => some (.bool !(Op.bytesLess a b))
  | _ => none

def bin (op : BinOp) (x y : V) : Option V :=
  match op, x, y with
  | .shl, .int k a, .int _ b => if b < 0 then none else some (.int k (k.wrap (a * 2 ^ (min b.toNat k.bits))))
  | .shr, .int k a, .int _ b => if b < 0 then none else some (.int k (a.fdiv (2 ^ (min b.toNat k.bits))))
  | op, .int k a, .int j b => if k = j then binInt op k a b else none
  | op, .str a, .str b => binStr op a b
  | _, _, _ => none

/-- Cells of known kinds, compared one by one. -/
def eqL : List LK → List V → List V → Option Bool
  | [], [], [] => some true
  | .int k :: l, .int i a :: xs, .int j b :: ys => if i = k ∧ j = k then (eqL l xs ys).map ((a == b) && ·) else none
  | .bool :: l, .bool a :: xs, .bool b :: ys => (eqL l xs ys).map ((a == b) && ·)
  | .str :: l, .str a :: xs, .str b :: ys => (eqL l xs ys).map ((a == b) && ·)
  | _, _, _ => none

def eqV (e : EqT) (x y : V) : Option Bool :=
  match e, x, y with
  | .sc l true, .agg xs, .agg ys => eqL l xs ys
  | .sc l false, x, y => if x.one && y.one then eqL l [x] [y] else none
  | .nl, .fn _ _, .nilf | .nl, .nilf, .fn _ _ => some false
  | .nl, .nilf, .nilf => some true
  | .nls, .nils, .nils => some true
  | .nls, .isl _ _ _, .nils | .nls, .nils, .isl _ _ _ | .nls, .osl _ _ _ _ _ _, .nils | .nls, .nils, .osl _ _ _ _ _ _ => some false
  | _, _, _ => none

def un (op : UnOp) (x : V) : Option V :=
  match op, x with
  | .neg, .int k n => some (.int k (k.wrap (0 - n)))
  | .xor, .int k n => some (.int k (k.wrap (BitVec.ofInt k.bits (if k.signed then -1 else k.max) ^^^ BitVec.ofInt k.bits n).toNat))
  | .not, .bool b => some (.bool !b)
  | _, _ => none

def toU8 : List V → Option (List UInt8)
  | [] => some []
  | .int .u8 n :: r => (toU8 r).map (UInt8.ofNat n.toNat :: ·)
  | _ => none

def ofU8 (s : List UInt8) : List V := s.map fun b => .int .u8 b.toNat

/-- The cells of a slice. -/
def slcells (h : H) (sz : Nat) : V → Option (List V)
  | .nils => some []
  | .isl cs len _ => if cs.length = len * sz then some cs else none
  | .osl id off len z _ _ => match h[id]? with
    | some (.blk _ cs) => if z = sz ∧ off + len * sz ≤ cs.length then some ((cs.drop off).take (len * sz)) else none
    | _ => none
  | _ => none

def conv (h : H) (c : Cv) (x : V) : Option V :=
  match c, x with
  | .int k, .int _ n => some (.int k (k.wrap n))
  | .same, .str s => some (.str s)
  | .b2s, x => (slcells h 1 x).bind fun cs => (toU8 cs).map .str
  | _, _ => none

def asI : V → Option Int
  | .int _ n => some n
  | _ => none

def bnd (x : Option V) (d y : Nat) : Option Nat :=
  match x with
  | none => some d
  | some (.int _ i) => if 0 ≤ i ∧ i ≤ y then some i.toNat else none
  | _ => none

def slc (sz : Nat) (x : V) (lo hi mx : Option V) : Option V :=
  match x with
  | .nils =>
    match bnd mx 0 0, bnd hi 0 0, bnd lo 0 0 with
    | some _, some _, some _ => some .nils
    | _, _, _ => none
  | .isl cs len ex =>
    if cs.length = len * sz then
      match bnd mx 0 (ex.getD len) with
      | none => none
      | some m =>
        match bnd hi len (if mx.isSome then min m len else len) with
        | none => none
        | some h =>
          match bnd lo 0 h with
          | none => none
          | some l => some (.isl ((cs.drop (l * sz)).take ((h - l) * sz)) (h - l) (if mx.isSome then some (m - l) else ex.map (· - l)))
    else none
  | .osl id off len z c ex =>
    if z = sz ∧ len ≤ c then
      match bnd mx c c with
      | none => none
      | some m =>
        match bnd hi len m with
        | none => none
        | some h =>
          match bnd lo 0 h with
          | none => none
          | some l =>
            if l = m ∧ 0 < l then some (.isl [] 0 (if mx.isSome || ex then some 0 else none))
            else some (.osl id (off + l * sz) (h - l) sz (m - l) (mx.isSome || ex))
    else none
  | _ => none

def sls (x : V) (lo hi : Option V) : Option V :=
  match x with
  | .str s =>
    match bnd hi s.length s.length with
    | none => none
    | some h => match bnd lo 0 h with
      | none => none
      | some l => some (.str ((s.drop l).take (h - l)))
  | _ => none

def sla (h : H) (n sz : Nat) (x : V) (lo hi : Option V) : Option V :=
  match bnd hi n n with
  | none => none
  | some u => match bnd lo 0 u with
    | none => none
    | some l =>
      match x with
      | .own id off => match h[id]? with
        | some (.blk _ cs) => if off + n * sz ≤ cs.length ∧ (l < n ∨ l = 0) then some (.osl id (off + l * sz) (u - l) sz (n - l) true) else none
        | _ => none
      | .imm cs => if n * sz ≤ cs.length then some (.isl ((cs.drop (l * sz)).take ((u - l) * sz)) (u - l) (some (n - l))) else none
      | _ => none

def fa (off : Nat) : V → Option V
  | .imm cs => if off ≤ cs.length then some (.imm (cs.drop off)) else none
  | .own id o => some (.own id (o + off))
  | _ => none

def fld (off : Nat) (n : Option Nat) : V → Option V
  | .agg cs => fst n (cs.drop off)
  | _ => none

def ia (sz : Nat) (x i : V) : Option V :=
  match i, x with
  | .int _ i, .isl cs len _ => if 0 ≤ i ∧ i < len ∧ cs.length = len * sz then some (.imm (cs.drop (i.toNat * sz))) else none
  | .int _ i, .osl id off len z _ _ => if 0 ≤ i ∧ i < len ∧ z = sz then some (.own id (off + i.toNat * sz)) else none
  | _, _ => none

def iaa (n sz : Nat) (x i : V) : Option V :=
  match i, x with
  | .int _ i, .imm cs => if 0 ≤ i ∧ i < n ∧ n * sz ≤ cs.length then some (.imm (cs.drop (i.toNat * sz))) else none
  | .int _ i, .own id off => if 0 ≤ i ∧ i < n then some (.own id (off + i.toNat * sz)) else none
  | _, _ => none

def ixs (x i : V) : Option V :=
  match i, x with
  | .int _ i, .str s => if 0 ≤ i then (s[i.toNat]?).map fun b => .int .u8 b.toNat else none
  | _, _ => none

def ixa (n sz : Nat) (how : Option Nat) (x i : V) : Option V :=
  match i, x with
  | .int _ i, .agg cs => if 0 ≤ i ∧ i < n then fst how (cs.drop (i.toNat * sz)) else none
  | _, _ => none

/-- The place of a key. -/
def findK (l : List LK) (ka : Bool) (k : V) : List V → Option (Option Nat)
  | [] => some none
  | x :: r =>
    match eqV (.sc l ka) k x with
    | some true => some (some 0)
    | some false => (findK l ka k r).map fun o => o.map (· + 1)
    | none => none

def mapOf (h : H) : V → Option (List V × List V)
  | .nilm => some ([], [])
  | .imap ks vs => some (ks, vs)
  | .omap id => match h[id]? with
    | some (.map _ ks vs) => some (ks, vs)
    | _ => none
  | _ => none

def look (h : H) (l : List LK) (ka : Bool) (z : V) (ok : Bool) (m k : V) : Option V :=
  match mapOf h m with
  | none => none
  | some (ks, vs) =>
    match findK l ka k ks with
    | none => none
    | some none => if (eqV (.sc l ka) k k).isSome then some (if ok then .tup [z, .bool false] else z) else none
    | some (some i) => (vs[i]?).map fun v => if ok then .tup [v, .bool true] else v

def mupd (h : H) (l : List LK) (ka : Bool) (m k v : V) : Option H :=
  match m with
  | .omap id => match h[id]? with
    | some (.map true ks vs) =>
      match findK l ka k ks with
      | none => none
      | some (some i) => if ks.length = vs.length then some (h.set id (.map true (ks.set i k) (vs.set i v))) else none
      | some none => if (eqV (.sc l ka) k k).isSome ∧ ks.length = vs.length then some (h.set id (.map true (ks ++ [k]) (vs ++ [v]))) else none
    | _ => none
  | _ => none

def ext (x : V) (i : Nat) : Option V :=
  match x with
  | .tup vs => vs[i]?
  | _ => none

def news (h : H) (cs : List V) : H := h ++ [.blk true cs]

/-- What is appended: a slice's cells, or a string's bytes. -/
def appended (h : H) (sz : Nat) : V → Option (List V)
  | .str s => if sz = 1 then some (ofU8 s) else none
  | x => slcells h sz x

def app (h : H) (sz bytes : Nat) (s x : V) : Option (V × H) :=
  match appended h sz x with
  | none => none
  | some xs =>
    let n := xs.length / sz
    if 0 < sz ∧ xs.length = n * sz ∧ xs.all V.one then
      match s with
      | .nils => if n = 0 then some (.nils, h) else if n * bytes ≤ 140737488355328 then some (.osl h.length 0 n sz n false, news h xs) else none
      | .isl cs len ex =>
        if cs.length = len * sz then
          if n = 0 then some (.isl cs len ex, h)
          else match ex with
            | some c => if c < len + n ∧ (len + n) * bytes ≤ 140737488355328 ∧ cs.all V.one then some (.osl h.length 0 (len + n) sz (len + n) false, news h (cs ++ xs)) else none
            | none => none
        else none
      | .osl id off len z lo ex =>
        if z = sz ∧ len ≤ lo ∧ (len + n) * bytes ≤ 140737488355328 then
          match h[id]? with
          | some (.blk m cs) =>
            if off + lo * sz ≤ cs.length then
              if len + n ≤ lo then
                if n = 0 then some (.osl id off len sz lo ex, h)
                else if m then some (.osl id off (len + n) sz lo ex, h.set id (.blk true (splice cs (off + len * sz) xs))) else none
              else if ex then some (.osl h.length 0 (len + n) sz (len + n) false, news h ((cs.drop off).take (len * sz) ++ xs))
              else if m then some (.osl h.length 0 (len + n) sz (len + n) false, news (h.set id .dead) ((cs.drop off).take (len * sz) ++ xs))
              else none
            else none
          | _ => none
        else none
      | _ => none
    else none

def lenS : V → Option V
  | .str s => some (.int .i64 s.length)
  | _ => none

def lenV : V → Option V
  | .nils => some (.int .i64 0)
  | .isl _ n _ => some (.int .i64 n)
  | .osl _ _ n _ _ _ => some (.int .i64 n)
  | _ => none

def lenM (h : H) : V → Option V
  | .nilm => some (.int .i64 0)
  | .imap ks _ => some (.int .i64 ks.length)
  | .omap id => match h[id]? with
    | some (.map _ ks _) => some (.int .i64 ks.length)
    | _ => none
  | _ => none

def minmax (mx : Bool) : List V → Option V
  | [] => none
  | x :: r => r.foldlM (fun x y => match x, y with
    | .int k a, .int j b => if k = j then some (.int k (if mx then (if a < b then b else a) else (if b < a then b else a))) else none
    | _, _ => none) x

def store (h : H) (n : Nat) (p x : V) : Option H :=
  match p with
  | .own id off => match h[id]? with
    | some (.blk true cs) =>
      if x.cells.length = n ∧ off + n ≤ cs.length ∧ x.cells.all V.one then some (h.set id (.blk true (splice cs off x.cells))) else none
    | _ => none
  | _ => none

def frzL (f : V → Option (V × List Nat)) (l : List V) : Option (List V × List Nat) := l.foldr (fun x r => match r, f x with
  | some (ys, is), some (y, js) => some (y :: ys, js ++ is)
  | _, _ => none) (some ([], []))

/-- What a value leads to, as a value that leads to no object; and the objects that are met. -/
def frz (h : H) : Nat → V → Option (V × List Nat)
  | 0, _ => none
  | d + 1, v =>
    let all := frzL (frz h d)
    match v with
    | .agg cs => (all cs).map fun (ys, is) => (.agg ys, is)
    | .tup cs => (all cs).map fun (ys, is) => (.tup ys, is)
    | .fn f cs => (all cs).map fun (ys, is) => (.fn f ys, is)
    | .isl cs len _ => some (.isl cs len none, [])
    | .own id off => match h[id]? with
      | some (.blk _ cs) => (all (cs.drop off)).map fun (ys, is) => (.imm ys, id :: is)
      | _ => none
    | .osl id off len sz _ _ => match h[id]? with
      | some (.blk _ cs) => if off + len * sz ≤ cs.length then (all ((cs.drop off).take (len * sz))).map fun (ys, is) => (.isl ys len none, id :: is) else none
      | _ => none
    | .omap id => match h[id]? with
      | some (.map _ ks vs) => match all ks, all vs with
        | some (ys, is), some (zs, js) => some (.imap ys zs, id :: is ++ js)
        | _, _ => none
      | _ => none
    | v => some (v, [])

def frzs (h : H) (l : List V) : Option (List V × List Nat) := frzL (frz h 40) l

def Ob.frozen : Ob → Ob
  | .blk _ cs => .blk false cs
  | .map _ ks vs => .map false ks vs
  | .dead => .dead

def mark (h : H) (is : List Nat) : H := is.foldl (fun h i => h.modify i Ob.frozen) h

def put (t : T) (d : Option Nat) (v : V) : T :=
  match d with
  | some i => t.set i v
  | none => t

/-! ### The run -/

abbrev CallF := FuncId → List V → H → Option (V × H)

def parts (t : T) (ps : List (Nat × Nat × A)) : List (Nat × Nat × V) := ps.map fun (a, b, x) => (a, b, ev t x)

def rep (n : Nat) (z : List V) : List V := (List.replicate n z).flatten

def opE (inl : FuncId → Bool) (call : CallF) (o : O) (t : T) (h : H) : Option (V × H) :=
  let v (x : Option V) : Option (V × H) := x.map (·, h)
  match o with
  | .mv x => some (ev t x, h)
  | .pick c a b => match ev t c with
    | .bool q => some (if q then ev t a else ev t b, h)
    | _ => none
  | .alloc z => some (.own h.length 0, news h z)
  | .box x => if (ev t x).cells.all V.one then some (.own h.length 0, news h (ev t x).cells) else none
  | .build z ps => v ((fill z (parts t ps)).map .agg)
  | .bsl n sz z ps => (fill (rep n z) (parts t ps)).map fun cs => (.osl h.length 0 n sz n true, news h cs)
  | .load n x => v ((rdc h (ev t x)).bind (fst n))
  | .store n p x => (store h n (ev t p) (ev t x)).map (.und, ·)
  | .nilck x => match ev t x with
    | .own a b => some (.own a b, h)
    | .imm cs => some (.imm cs, h)
    | .fn f cs => some (.fn f cs, h)
    | _ => none
  | .bin op x y => v (bin op (ev t x) (ev t y))
  | .eq neg e x y => v ((eqV e (ev t x) (ev t y)).map fun b => .bool (b != neg))
  | .un op x => v (un op (ev t x))
  | .conv .s2b x => match ev t x with
    | .str s => some (.isl (ofU8 s) s.length none, h)
    | _ => none
  | .conv c x => v (conv h c (ev t x))
  | .mkfn f cap => some (.fn f (cap.map (ev t)), h)
  | .mkmap => some (.omap h.length, h ++ [.map true [] []])
  | .mksl z bytes n c => match ev t n, ev t c with
    | .int .i64 n, .int .i64 c => if 0 ≤ n ∧ n ≤ c ∧ c * bytes ≤ 140737488355328 ∧ c ≤ 9223372036854775807 then some (.osl h.length 0 n.toNat z.length c.toNat true, news h (rep c.toNat z)) else none
    | _, _ => none
  | .slc sz x lo hi mx => v (slc sz (ev t x) (lo.map (ev t)) (hi.map (ev t)) (mx.map (ev t)))
  | .sls x lo hi => v (sls (ev t x) (lo.map (ev t)) (hi.map (ev t)))
  | .sla n sz x lo hi => v (sla h n sz (ev t x) (lo.map (ev t)) (hi.map (ev t)))
  | .fa off x => v (fa off (ev t x))
  | .fld off n x => v (fld off n (ev t x))
  | .ia sz x i => v (ia sz (ev t x) (ev t i))
  | .iaa n sz x i => v (iaa n sz (ev t x) (ev t i))
  | .ixs x i => v (ixs (ev t x) (ev t i))
  | .look l ka z ok m k => v (look h l ka z ok (ev t m) (ev t k))
  | .mupd l ka m k x => (mupd h l ka (ev t m) (ev t k) (ev t x)).map (.und, ·)
  | .ext x i => v (ext (ev t x) i)
  | .call f as => call f (as.map (ev t)) h
  | .dyn iso x as => match ev t x with
    | .fn f cap => if iso && inl f then none else call f (as.map (ev t) ++ cap) h
    | _ => none
  | .app sz bytes s x => app h sz bytes (ev t s) (ev t x)
  | .lens x => v (lenS (ev t x))
  | .len x => v (lenV (ev t x))
  | .lenm x => v (lenM h (ev t x))
  | .ixa n sz hw x i => v (ixa n sz hw (ev t x) (ev t i))
  | .lena n _ => some (.int .i64 n, h)
  | .minmax mx as => v (minmax mx (as.map (ev t)))
  | .clr z x => match ev t x with
    | .nils => some (.tup [], h)
    | .isl _ 0 _ => some (.tup [], h)
    | .osl _ _ 0 _ _ _ => some (.tup [], h)
    | .osl id off len sz _ _ => match h[id]? with
      | some (.blk true cs) => if sz = z.length ∧ off + len * sz ≤ cs.length then some (.tup [], h.set id (.blk true (splice cs off (rep len z)))) else none
      | _ => none
    | _ => none

def regE (inl : FuncId → Bool) (call : CallF) : List Op → T → H → Option (T × H)
  | [], t, h => some (t, h)
  | o :: r, t, h =>
    match o.g with
    | none => match opE inl call o.op t h with
      | some (v, h') => regE inl call r (put t o.dst v) h'
      | none => none
    | some (s, want) =>
      match t.getD s .und with
      | .bool b =>
        if b = want then match opE inl call o.op t h with
          | some (v, h') => regE inl call r (put t o.dst v) h'
          | none => none
        else regE inl call r (put t o.dst .und) h
      | .und => regE inl call r (put t o.dst .und) h
      | _ => none

def oslId : V → List Nat
  | .osl i .. => [i]
  | _ => []

/-- What an operation reads and writes of the objects (of a call in its caller's memory nothing is told). -/
def fpE (o : O) (t : T) (h : H) : List Nat × List Nat :=
  match o with
  | .load _ x => match ev t x with | .own i _ => ([i], []) | _ => ([], [])
  | .store _ p _ => match ev t p with | .own i _ => ([], [i]) | _ => ([], [])
  | .look _ _ _ _ m _ => match ev t m with | .omap i => ([i], []) | _ => ([], [])
  | .mupd _ _ m _ _ => match ev t m with | .omap i => ([], [i]) | _ => ([], [])
  | .lenm x => match ev t x with | .omap i => ([i], []) | _ => ([], [])
  | .conv _ x => match ev t x with | .osl i .. => ([i], []) | _ => ([], [])
  | .sla _ _ x _ _ => match ev t x with | .own i _ => ([i], []) | _ => ([], [])
  | .clr _ x => match ev t x with | .osl _ _ 0 _ _ _ => ([], []) | .osl i .. => ([], [i]) | _ => ([], [])
  | .app sz _ s x =>
    let r := oslId (ev t x)
    match ev t s with
    | .osl i _ len _ lo ex => match appended h sz (ev t x) with
      | some xs => if (len + xs.length / sz ≤ lo ∧ ¬ xs.length / sz = 0) ∨ (¬ len + xs.length / sz ≤ lo ∧ ex = false) then (r, [i]) else (i :: r, [])
      | none => (i :: r, [i])
    | _ => (r, [])
  | .call _ as => match frzs h (as.map (ev t)) with | some (_, is) => (is, []) | none => ([], [])
  | .dyn _ x as => match ev t x with
    | .fn _ cap => match frzs h (as.map (ev t) ++ cap) with | some (_, is) => (is, []) | none => ([], [])
    | _ => ([], [])
  | _ => ([], [])

def apart (a b : List Nat × List Nat) : Bool :=
  (a.2.all fun i => !b.1.contains i && !b.2.contains i) && (b.2.all fun i => !a.1.contains i)

/-- A region of which some operations may change places: what they touch must lie apart. -/
def regLE (inl : FuncId → Bool) (call : CallF) : List Op → List (List Nat × List Nat) → T → H → Option (T × H)
  | [], _, t, h => some (t, h)
  | o :: r, fs, t, h =>
    let go : Option (T × H) :=
      if o.ls.all fun i => apart (fs.getD i ([], [])) (fpE o.op t h) then
        match opE inl call o.op t h with
        | some (v, h') => regLE inl call r (fs ++ [fpE o.op t h]) (put t o.dst v) h'
        | none => none
      else none
    match o.g with
    | none => go
    | some (s, want) =>
      match t.getD s .und with
      | .bool b => if b = want then go else regLE inl call r (fs ++ [([], [])]) (put t o.dst .und) h
      | .und => regLE inl call r (fs ++ [([], [])]) (put t o.dst .und) h
      | _ => none

def loopE (f : T → H → Option (X × T × H)) : Nat → T → H → Option (X × T × H)
  | 0, _, _ => none
  | n + 1, t, h => match f t h with
    | some (.nrm, t', h') => loopE f n t' h'
    | r => r

def runC (inl : FuncId → Bool) (call : CallF) (n : Nat) : C → T → H → Option (X × T × H)
  | .skip, t, h => some (.nrm, t, h)
  | .reg ops, t, h => (regE inl call ops t h).map fun (t', h') => (.nrm, t', h')
  | .regL ops, t, h => (regLE inl call ops [] t h).map fun (t', h') => (.nrm, t', h')
  | .seq a b, t, h => match runC inl call n a t h with
    | some (.nrm, t', h') => runC inl call n b t' h'
    | r => r
  | .cond c a b, t, h => match ev t c with
    | .bool true => runC inl call n a t h
    | .bool false => runC inl call n b t h
    | _ => none
  | .block id c, t, h => match runC inl call n c t h with
    | some (.exit j, t', h') => some (if j = id then .nrm else .exit j, t', h')
    | r => r
  | .loop c, t, h => loopE (fun t h => runC inl call n c t h) n t h
  | .exit id, t, h => some (.exit id, t, h)
  | .ret, t, h => some (.ret, t, h)

def resE (t : T) (h : H) (rs : List R) : Option V :=
  let one (r : R) : Option V := match r with
    | .tmp i => some (t.getD i .und)
    | .cell i n => (rdc h (t.getD i .und)).bind (fst n)
  match rs with
  | [r] => one r
  | rs => (rs.foldr (fun r acc => match one r, acc with | some v, some vs => some (v :: vs) | _, _ => none) (some [])).map .tup

def bodyE (inl : FuncId → Bool) (call : CallF) (n : Nat) (fn : Fn) (args : List V) (h : H) : Option (V × H) :=
  match runC inl call n fn.body (args ++ List.replicate (fn.nt - args.length) .und) h with
  | some (.nrm, t', h') | some (.ret, t', h') => (resE t' h' fn.res).map (·, h')
  | _ => none

def callE (E : Env) : Nat → CallF
  | 0, _, _, _ => none
  | n + 1, f, args, h =>
    match E.ext f with
    | some g => match frzs h args with
      | some (as, is) => (g as).map (·, mark h is)
      | none => none
    | none => match E.code f with
      | none => none
      | some fn =>
        if E.inl f then bodyE E.inl (callE E n) n fn args h
        else match frzs h args with
          | none => none
          | some (as, is) => match bodyE E.inl (callE E n) n fn as [] with
            | none => none
            | some (v, h') => match frz h' 40 v with
              | some (r, _) => some (r, mark h is)
              | none => none

end Go.Am
