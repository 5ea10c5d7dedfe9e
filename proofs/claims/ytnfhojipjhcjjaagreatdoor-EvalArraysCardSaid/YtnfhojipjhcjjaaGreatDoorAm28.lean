/-
  THE SYMBOLIC RUN: the evaluator in the style of continuations, so that a test of an unknown boolean stands at the head, with what follows in both branches. Conditions: as each lemma names them.
-/
import Derived.Test.YtnfhojipjhcjjaaGreatDoorAm27
namespace Go.Am
set_option autoImplicit false
set_option linter.unusedVariables false
set_option linter.unusedSimpArgs false

/-- An answer: behind conditions, and by cases. -/
inductive Tr where
  | is (v : V)
  | need (b : Bool) (r : Tr)
  | br (b : Bool) (x y : Tr)

noncomputable def runTr {α : Type} (r : Tr) (k : V → Option α) : Option α :=
  Tr.rec (motive := fun _ => Option α) (fun v => k v) (fun b _ ih => Bool.rec (motive := fun _ => Option α) none ih b) (fun b _ _ x y => Bool.rec (motive := fun _ => Option α) y x b) r

/-- Functions that are known by what they answer. -/
abbrev Sp := FuncId → List V → Option Tr

abbrev CallX (α : Type) := FuncId → List V → H → (V → H → Option α) → Option α

section
variable {α : Type}

/-- One of some numbers. -/
def enumX (i : Int) (k : Nat → Option α) : Nat → Nat → Option α
  | _, 0 => none
  | j, n + 1 => match i == (j : Int) with
    | true => k j
    | false => enumX i k (j + 1) n

def concX (v : V) (n : Nat) (k : V → Option α) : Option α :=
  match v with
  | .int q i => enumX i (fun j => k (.int q (j : Int))) 0 n
  | _ => none

def concO (v : Option V) (n : Nat) (k : Option V → Option α) : Option α :=
  match v with
  | none => k none
  | some v => concX v n fun v => k (some v)

def far : V → Nat
  | .isl _ len ex => max len (ex.getD 0) + 1
  | .osl _ _ len _ c _ => max len c + 1
  | .nils => 1
  | _ => 0

def thenX (o : Option (V × H)) (k : V → H → Option α) : Option α :=
  match o with
  | some (v, h) => k v h
  | none => none

/-! Lists, in the style of continuations (what is handed on is laid open; lengths are closed numbers). -/

noncomputable def nthK {β : Type} (l : List β) (i : Nat) (d : Option α) (k : β → Option α) : Option α :=
  List.rec (motive := fun _ => Nat → Option α) (fun _ => d) (fun x _ ih i => Nat.rec (motive := fun _ => Option α) (k x) (fun j _ => ih j) i) l i

noncomputable def setK {β : Type} (l : List β) (i : Nat) (x : β) (k : List β → Option α) : Option α :=
  List.rec (motive := fun _ => Nat → (List β → Option α) → Option α) (fun _ k => k []) (fun y r ih i k => Nat.rec (motive := fun _ => Option α) (k (x :: r)) (fun j _ => ih j fun r' => k (y :: r')) i) l i k

noncomputable def lenK {β : Type} (l : List β) (k : Nat → Option α) : Option α :=
  List.rec (motive := fun _ => Nat → Option α) (fun n => k n) (fun _ _ ih n => ih (n + 1)) l 0

noncomputable def dropK {β : Type} (l : List β) (n : Nat) (k : List β → Option α) : Option α :=
  List.rec (motive := fun _ => Nat → Option α) (fun _ => k []) (fun x r ih n => Nat.rec (motive := fun _ => Option α) (k (x :: r)) (fun j _ => ih j) n) l n

noncomputable def takeK {β : Type} (l : List β) (n : Nat) (k : List β → Option α) : Option α :=
  List.rec (motive := fun _ => Nat → (List β → Option α) → Option α) (fun _ k => k []) (fun x _ ih n k => Nat.rec (motive := fun _ => Option α) (k []) (fun j _ => ih j fun r' => k (x :: r')) n) l n k

noncomputable def appK {β : Type} (l m : List β) (k : List β → Option α) : Option α :=
  List.rec (motive := fun _ => (List β → Option α) → Option α) (fun k => k m) (fun x _ ih k => ih fun r' => k (x :: r')) l k

noncomputable def evK (t : T) (a : A) (k : V → Option α) : Option α :=
  match a with
  | .t i => nthK t i (k .und) k
  | .k v => k v

noncomputable def evsK (t : T) (as : List A) (k : List V → Option α) : Option α :=
  List.rec (motive := fun _ => (List V → Option α) → Option α) (fun k => k []) (fun a _ ih k => evK t a fun v => ih fun vs => k (v :: vs)) as k

noncomputable def evO (t : T) (a : Option A) (k : Option V → Option α) : Option α :=
  match a with
  | none => k none
  | some a => evK t a fun v => k (some v)

noncomputable def putK (t : T) (d : Option Nat) (v : V) (k : T → Option α) : Option α :=
  match d with
  | some i => setK t i v k
  | none => k t

noncomputable def spliceK (cs : List V) (i : Nat) (xs : List V) (k : List V → Option α) : Option α :=
  takeK cs i fun a => lenK xs fun n => dropK cs (i + n) fun b => appK xs b fun xb => appK a xb k

noncomputable def fstK (n : Option Nat) (cs : List V) (k : V → Option α) : Option α :=
  match n with
  | none => match cs with
    | x :: _ => k x
    | [] => none
  | some n => takeK cs n fun l => lenK l fun m => match m == n with
    | true => k (.agg l)
    | false => none

noncomputable def rdcK (h : H) (v : V) (k : List V → Option α) : Option α :=
  match v with
  | .imm cs => k cs
  | .own id off => nthK h id none fun ob => match ob with
    | .blk _ cs => dropK cs off k
    | _ => none
  | _ => none

noncomputable def fillK (t : T) (ps : List (Nat × Nat × A)) : List V → (List V → Option α) → Option α :=
  List.rec (motive := fun _ => List V → (List V → Option α) → Option α) (fun cs k => k cs) (fun p _ ih cs k => evK t p.2.2 fun v => lenK v.cells fun n => lenK cs fun c => match decide (n = p.2.1 ∧ p.1 + p.2.1 ≤ c) && v.cells.all V.one with
    | true => spliceK cs p.1 v.cells fun cs' => ih cs' k
    | false => none) ps

noncomputable def newsK (h : H) (cs : List V) (k : Nat → H → Option α) : Option α := lenK h fun n => appK h [.blk true cs] fun h' => k n h'

noncomputable def slcellsK (h : H) (sz : Nat) (x : V) (k : List V → Option α) : Option α :=
  match x with
  | .nils => k []
  | .isl cs len _ => lenK cs fun n => match n == len * sz with
    | true => k cs
    | false => none
  | .osl id off len z _ _ => nthK h id none fun ob => match ob with
    | .blk _ cs => lenK cs fun n => match decide (z = sz ∧ off + len * sz ≤ n) with
      | true => dropK cs off fun c => takeK c (len * sz) k
      | false => none
    | _ => none
  | _ => none

noncomputable def appendedK (h : H) (sz : Nat) (x : V) (k : List V → Option α) : Option α :=
  match x with
  | .str s => if sz = 1 then k (ofU8 s) else none
  | x => slcellsK h sz x k

noncomputable def appX (h : H) (sz bytes : Nat) (s x : V) (k : V → H → Option α) : Option α :=
  appendedK h sz x fun xs => lenK xs fun L => match decide (0 < sz ∧ L = L / sz * sz) && xs.all V.one with
    | false => none
    | true =>
      match s with
      | .nils => if L / sz = 0 then k .nils h else if L / sz * bytes ≤ 140737488355328 then newsK h xs fun n h' => k (.osl n 0 (L / sz) sz (L / sz) false) h' else none
      | .isl cs len ex => lenK cs fun c => if c = len * sz then
          if L / sz = 0 then k (.isl cs len ex) h
          else match ex with
            | some cc => match decide (cc < len + L / sz ∧ (len + L / sz) * bytes ≤ 140737488355328) && cs.all V.one with
              | true => appK cs xs fun ys => newsK h ys fun n h' => k (.osl n 0 (len + L / sz) sz (len + L / sz) false) h'
              | false => none
            | none => none
        else none
      | .osl id off len z lo ex =>
        if z = sz ∧ len ≤ lo ∧ (len + L / sz) * bytes ≤ 140737488355328 then
          nthK h id none fun ob => match ob with
          | .blk m cs => lenK cs fun c =>
            if off + lo * sz ≤ c then
              if len + L / sz ≤ lo then
                if L / sz = 0 then k (.osl id off len sz lo ex) h
                else match m with
                  | true => spliceK cs (off + len * sz) xs fun cs' => setK h id (.blk true cs') fun h' => k (.osl id off (len + L / sz) sz lo ex) h'
                  | false => none
              else dropK cs off fun a => takeK a (len * sz) fun a => appK a xs fun ys =>
                match ex with
                | true => newsK h ys fun n h' => k (.osl n 0 (len + L / sz) sz (len + L / sz) false) h'
                | false => match m with
                  | true => setK h id .dead fun h => newsK h ys fun n h' => k (.osl n 0 (len + L / sz) sz (len + L / sz) false) h'
                  | false => none
            else none
          | _ => none
        else none
      | _ => none

noncomputable def storeX (h : H) (n : Nat) (p x : V) (k : H → Option α) : Option α :=
  match p with
  | .own id off => nthK h id none fun ob => match ob with
    | .blk m cs => match m with
      | true => lenK x.cells fun c => lenK cs fun l => match decide (c = n ∧ off + n ≤ l) && x.cells.all V.one with
        | true => spliceK cs off x.cells fun cs' => setK h id (.blk true cs') k
        | false => none
      | false => none
    | _ => none
  | _ => none

/-- The row of a slice is laid open. -/
noncomputable def openX (v : V) (k : V → Option α) : Option α :=
  match v with
  | .isl cs n ex => appK cs [] fun cs => k (.isl cs n ex)
  | .imm cs => appK cs [] fun cs => k (.imm cs)
  | v => k v

noncomputable def frzLK (f : V → (V → List Nat → Option α) → Option α) : List V → (List V → List Nat → Option α) → Option α
  | [], k => k [] []
  | x :: r, k => frzLK f r fun ys is => f x fun y js => k (y :: ys) (js ++ is)

noncomputable def frzK (h : H) : Nat → V → (V → List Nat → Option α) → Option α
  | 0, _, _ => none
  | d + 1, v, k =>
    match v with
    | .agg cs => frzLK (frzK h d) cs fun ys is => k (.agg ys) is
    | .tup cs => frzLK (frzK h d) cs fun ys is => k (.tup ys) is
    | .fn f cs => frzLK (frzK h d) cs fun ys is => k (.fn f ys) is
    | .isl cs len _ => k (.isl cs len none) []
    | .own id off => nthK h id none fun ob => match ob with
      | .blk _ cs => dropK cs off fun cs => frzLK (frzK h d) cs fun ys is => k (.imm ys) (id :: is)
      | _ => none
    | .osl id off len sz _ _ => nthK h id none fun ob => match ob with
      | .blk _ cs => lenK cs fun c => if off + len * sz ≤ c then dropK cs off fun a => takeK a (len * sz) fun a => frzLK (frzK h d) a fun ys is => k (.isl ys len none) (id :: is) else none
      | _ => none
    | .omap id => nthK h id none fun ob => match ob with
      | .map _ ks vs => frzLK (frzK h d) ks fun ys is => frzLK (frzK h d) vs fun zs js => k (.imap ys zs) (id :: is ++ js)
      | _ => none
    | v => k v []

noncomputable def markK (h : H) (is : List Nat) (k : H → Option α) : Option α := match is with
  | [] => k h
  | is => appK (mark h is) [] k

/-- What is known of an operand that was tested. -/
def refA (t : T) (a : A) (q : Bool) : T :=
  match a with
  | .t i => t.set i (.bool q)
  | .k _ => t

variable (inl : FuncId → Bool) (call : CallX α)

noncomputable def opX (o : O) (t : T) (h : H) (k : V → H → Option α) : Option α :=
  match o with
  | .call f as => evsK t as fun vs => call f vs h k
  | .dyn iso x as => evK t x fun x => match x with
    | .fn f cap => match iso && inl f with
      | true => none
      | false => evsK t as fun vs => appK vs cap fun vs => call f vs h k
    | _ => none
  | .pick c a b => evK t c fun c => match c with
    | .bool q => match q with
      | true => evK t a fun v => k v h
      | false => evK t b fun v => k v h
    | _ => none
  | .mv x => evK t x fun v => k v h
  | .alloc z => newsK h z fun n h' => k (.own n 0) h'
  | .box x => evK t x fun v => match v.cells.all V.one with
    | true => newsK h v.cells fun n h' => k (.own n 0) h'
    | false => none
  | .build z ps => fillK t ps z fun cs => k (.agg cs) h
  | .bsl n sz z ps => fillK t ps (rep n z) fun cs => newsK h cs fun i h' => k (.osl i 0 n sz n true) h'
  | .load n x => evK t x fun x => rdcK h x fun cs => fstK n cs fun v => k v h
  | .store n p x => evK t p fun p => evK t x fun x => storeX h n p x fun h' => k .und h'
  | .app sz bytes s x => evK t s fun s => evK t x fun x => appX h sz bytes s x k
  | .fld off n x => evK t x fun x => match x with
    | .agg cs => dropK cs off fun cs => fstK n cs fun v => k v h
    | _ => none
  | .bin op x y => evK t x fun x => evK t y fun y => match op, x, y with
    | .rem, .int i a, .int j b => if i = j then match b == 0 with
      | true => none
      | false => k (.int i (a.tmod b)) h
      else none
    | .quo, .int i a, .int j b => if i = j then match b == 0 with
      | true => none
      | false => k (.int i (i.wrap (a.tdiv b))) h
      else none
    | .shl, .int i a, .int _ b => match decide (b < 0) with
      | true => none
      | false => k (.int i (i.wrap (a * 2 ^ (min b.toNat i.bits)))) h
    | .add, .str a, .str b => match decide (a.length + b.length ≤ 9223372036854775807) with
      | true => k (.str (a ++ b)) h
      | false => none
    | op, x, y => match Am.bin op x y with
      | some v => k v h
      | none => none
  | .eq neg e x y => evK t x fun x => evK t y fun y => match eqV e x y with
    | some b => k (.bool (b != neg)) h
    | none => none
  | .ext x i => evK t x fun x => match x with
    | .tup vs => nthK vs i none fun v => k v h
    | _ => none
  | .mkfn f cap => evsK t cap fun vs => k (.fn f vs) h
  | .ia sz x i => evK t x fun x => evK t i fun i => concX i (far x) fun j => match Am.ia sz x j with
    | some v => k v h
    | none => none
  | .iaa n sz x i => evK t x fun x => evK t i fun i => concX i n fun j => match Am.iaa n sz x j with
    | some v => k v h
    | none => none
  | .slc sz x lo hi mx => evK t x fun x => evO t lo fun lo => evO t hi fun hi => evO t mx fun mx => concO lo (far x) fun l => concO hi (far x) fun u => concO mx (far x) fun m => match Am.slc sz x l u m with
    | some v => openX v fun v => k v h
    | none => none
  | o => thenX (opE inl (fun _ _ _ => none) o t h) k

noncomputable def regX : List Op → T → H → (T → H → Option α) → Option α
  | [], t, h, k => k t h
  | o :: r, t, h, k =>
    match o.g with
    | none => opX inl call o.op t h fun v h' => putK t o.dst v fun t => regX r t h' k
    | some (s, want) =>
      nthK t s (putK t o.dst .und fun t => regX r t h k) fun q => match q with
      | .bool b => match b with
        | true => setK t s (.bool true) fun t => match want with
          | true => opX inl call o.op t h fun v h' => putK t o.dst v fun t => regX r t h' k
          | false => putK t o.dst .und fun t => regX r t h k
        | false => setK t s (.bool false) fun t => match want with
          | false => opX inl call o.op t h fun v h' => putK t o.dst v fun t => regX r t h' k
          | true => putK t o.dst .und fun t => regX r t h k
      | .und => putK t o.dst .und fun t => regX r t h k
      | _ => none

noncomputable def regLX : List Op → List (List Nat × List Nat) → T → H → (T → H → Option α) → Option α
  | [], _, t, h, k => k t h
  | o :: r, fs, t, h, k =>
    let go (t : T) : Option α := match o.ls.all fun i => apart (fs.getD i ([], [])) (fpE o.op t h) with
      | true => opX inl call o.op t h fun v h' => putK t o.dst v fun t' => regLX r (fs ++ [fpE o.op t h]) t' h' k
      | false => none
    let no (t : T) : Option α := putK t o.dst .und fun t => regLX r (fs ++ [([], [])]) t h k
    match o.g with
    | none => go t
    | some (s, want) =>
      nthK t s (no t) fun q => match q with
      | .bool b => match b with
        | true => setK t s (.bool true) fun t => match want with
          | true => go t
          | false => no t
        | false => setK t s (.bool false) fun t => match want with
          | false => go t
          | true => no t
      | .und => no t
      | _ => none

noncomputable def loopX (f : T → H → (X → T → H → Option α) → Option α) : Nat → T → H → (X → T → H → Option α) → Option α
  | 0, _, _, _ => none
  | n + 1, t, h, k => f t h fun x t' h' => match x with
    | .nrm => loopX f n t' h' k
    | .exit id => k (.exit id) t' h'
    | .ret => k .ret t' h'

noncomputable def refK (t : T) (a : A) (q : Bool) (k : T → Option α) : Option α :=
  match a with
  | .t i => setK t i (.bool q) k
  | .k _ => k t

noncomputable def runX (n : Nat) : C → T → H → (X → T → H → Option α) → Option α
  | .skip, t, h, k => k .nrm t h
  | .reg ops, t, h, k => regX inl call ops t h (k .nrm)
  | .regL ops, t, h, k => regLX inl call ops [] t h (k .nrm)
  | .seq a b, t, h, k => runX n a t h fun x t' h' => match x with
    | .nrm => runX n b t' h' k
    | .exit id => k (.exit id) t' h'
    | .ret => k .ret t' h'
  | .cond c a b, t, h, k => evK t c fun q => match q with
    | .bool q => match q with
      | true => refK t c true fun t => runX n a t h k
      | false => refK t c false fun t => runX n b t h k
    | _ => none
  | .block id c, t, h, k => runX n c t h fun x t' h' => match x with
    | .exit j => if j = id then k .nrm t' h' else k (.exit j) t' h'
    | .nrm => k .nrm t' h'
    | .ret => k .ret t' h'
  | .loop c, t, h, k => loopX (fun t h k => runX n c t h k) n t h k
  | .exit id, t, h, k => k (.exit id) t h
  | .ret, t, h, k => k .ret t h

noncomputable def resK1 (t : T) (h : H) (r : R) (k : V → Option α) : Option α :=
  match r with
  | .tmp i => nthK t i (k .und) k
  | .cell i n => nthK t i none fun x => rdcK h x fun cs => fstK n cs k

noncomputable def ressK (t : T) (h : H) : List R → (List V → Option α) → Option α
  | [], k => k []
  | r :: rs, k => resK1 t h r fun v => ressK t h rs fun vs => k (v :: vs)

noncomputable def resK (t : T) (h : H) (rs : List R) (k : V → Option α) : Option α :=
  match rs with
  | [r] => resK1 t h r k
  | rs => ressK t h rs fun vs => k (.tup vs)

noncomputable def bodyX (n : Nat) (fn : Fn) (args : List V) (h : H) (k : V → H → Option α) : Option α :=
  lenK args fun m => appK args (List.replicate (fn.nt - m) .und) fun t => runX inl call n fn.body t h fun x t' h' => match x with
    | .exit _ => none
    | .nrm => resK t' h' fn.res fun v => k v h'
    | .ret => resK t' h' fn.res fun v => k v h'
end

noncomputable def callX {α : Type} (E : Env) (sp : Sp) : Nat → CallX α
  | 0, _, _, _, _ => none
  | n + 1, f, args, h, k =>
    match E.inl f with
    | true => match E.ext f with
      | some _ => none
      | none => match E.code f with
        | none => none
        | some fn => bodyX E.inl (callX E sp n) n fn args h k
    | false => frzLK (frzK h 40) args fun as is => markK h is fun h' => match sp f as with
        | some tr => runTr tr fun v => k v h'
        | none => match E.ext f with
          | some g => match g as with
            | some v => k v h'
            | none => none
          | none => match E.code f with
            | none => none
            | some fn => bodyX E.inl (callX E sp n) n fn as [] fun v h2 => frzK h2 40 v fun r _ => k r h'

/-- A function as it is run. -/
noncomputable def fnX (E : Env) (sp : Sp) (n : Nat) (fn : Fn) (as : List V) : Option V :=
  bodyX E.inl (callX E sp n) n fn as [] fun v h' => frzK h' 40 v fun r _ => some r

/-! ### The lists -/

section
variable {α β : Type}

theorem nthK_eq {l : List β} {i : Nat} {d : Option α} {k : β → Option α} : nthK l i d k = match l[i]? with
    | some x => k x
    | none => d := by
  induction l generalizing i with
  | nil => rfl
  | cons x r ih =>
    cases i with
    | zero => rfl
    | succ i => rw [List.getElem?_cons_succ]; exact ih

theorem setK_eq {l : List β} {i : Nat} {x : β} {k : List β → Option α} : setK l i x k = k (l.set i x) := by
  induction l generalizing i k with
  | nil => rfl
  | cons y r ih =>
    cases i with
    | zero => rfl
    | succ i => exact ih

theorem lenK_eq {l : List β} {k : Nat → Option α} : lenK l k = k l.length := by
  have key : ∀ (l : List β) (n : Nat), List.rec (motive := fun _ => Nat → Option α) (fun n => k n) (fun _ _ ih n => ih (n + 1)) l n = k (n + l.length) := by
    intro l
    induction l with
    | nil => intro n; rfl
    | cons x r ih => intro n; show _ = k (n + (r.length + 1)); rw [show n + (r.length + 1) = n + 1 + r.length by omega]; exact ih (n + 1)
  unfold lenK
  rw [key l 0, Nat.zero_add]

theorem dropK_eq {l : List β} {n : Nat} {k : List β → Option α} : dropK l n k = k (l.drop n) := by
  induction l generalizing n with
  | nil => rw [List.drop_nil]; rfl
  | cons x r ih =>
    cases n with
    | zero => rfl
    | succ n => exact ih

theorem takeK_eq {l : List β} {n : Nat} {k : List β → Option α} : takeK l n k = k (l.take n) := by
  induction l generalizing n k with
  | nil => rw [List.take_nil]; rfl
  | cons x r ih =>
    cases n with
    | zero => rfl
    | succ n => exact ih

theorem appK_eq {l m : List β} {k : List β → Option α} : appK l m k = k (l ++ m) := by
  induction l generalizing k with
  | nil => rfl
  | cons x r ih => exact ih

theorem getD_of {t : T} {i : Nat} : t.getD i .und = match t[i]? with
    | some x => x
    | none => .und := by
  rw [List.getD_eq_getElem?_getD]
  cases t[i]? <;> rfl

theorem evK_eq {t : T} {a : A} {k : V → Option α} : evK t a k = k (ev t a) := by
  cases a with
  | t i =>
    show nthK t i (k .und) k = k (t.getD i .und)
    rw [nthK_eq, getD_of]
    cases t[i]? <;> rfl
  | k v => rfl

theorem evsK_eq {t : T} {as : List A} {k : List V → Option α} : evsK t as k = k (as.map (ev t)) := by
  induction as generalizing k with
  | nil => rfl
  | cons a r ih =>
    show evK t a (fun v => evsK t r fun vs => k (v :: vs)) = _
    rw [evK_eq, ih]
    rfl

theorem evO_eq {t : T} {a : Option A} {k : Option V → Option α} : evO t a k = k (a.map (ev t)) := by
  cases a with
  | none => rfl
  | some a =>
    show evK t a (fun v => k (some v)) = _
    rw [evK_eq]
    rfl

theorem putK_eq {t : T} {d : Option Nat} {v : V} {k : T → Option α} : putK t d v k = k (put t d v) := by
  cases d with
  | none => rfl
  | some i => exact setK_eq

theorem spliceK_eq {cs : List V} {i : Nat} {xs : List V} {k : List V → Option α} : spliceK cs i xs k = k (splice cs i xs) := by
  unfold spliceK splice
  rw [takeK_eq, lenK_eq, dropK_eq, appK_eq, appK_eq, List.append_assoc]

theorem fstK_some {n : Option Nat} {cs : List V} {k : V → Option α} {r : α} (e : fstK n cs k = some r) : ∃ v, fst n cs = some v ∧ k v = some r := by
  unfold fstK at e
  split at e
  · split at e
    · exact ⟨_, rfl, e⟩
    · cases e
  · rename_i n
    rw [takeK_eq, lenK_eq] at e
    split at e
    · rename_i h
      have h : (cs.take n).length = n := by simpa using h
      refine ⟨_, ?_, e⟩
      have : n ≤ cs.length := by rw [List.length_take] at h; omega
      simp only [fst, if_pos this]
    · cases e

theorem rdcK_some {h : H} {v : V} {k : List V → Option α} {r : α} (e : rdcK h v k = some r) : ∃ cs, rdc h v = some cs ∧ k cs = some r := by
  unfold rdcK at e
  split at e
  · exact ⟨_, rfl, e⟩
  · rw [nthK_eq] at e
    split at e
    · rename_i ob hob
      split at e
      · rw [dropK_eq] at e
        exact ⟨_, by simp only [rdc, hob], e⟩
      · cases e
    · cases e
  · cases e

theorem fillK_some {t : T} : ∀ (ps : List (Nat × Nat × A)) {cs : List V} {k : List V → Option α} {r : α}, fillK t ps cs k = some r → ∃ cs', fill cs (parts t ps) = some cs' ∧ k cs' = some r
  | [], cs, k, r, e => ⟨cs, rfl, e⟩
  | (off, sz, a) :: ps, cs, k, r, e => by
    have e : (evK t a fun v => lenK v.cells fun n => lenK cs fun c => match decide (n = sz ∧ off + sz ≤ c) && v.cells.all V.one with
      | true => spliceK cs off v.cells fun cs' => fillK t ps cs' k
      | false => none) = some r := e
    rw [evK_eq, lenK_eq, lenK_eq] at e
    split at e
    · rename_i hc
      rw [spliceK_eq] at e
      obtain ⟨cs', h1, h2⟩ := fillK_some ps e
      refine ⟨cs', ?_, h2⟩
      simp only [Bool.and_eq_true, decide_eq_true_eq] at hc
      show fill cs ((off, sz, ev t a) :: parts t ps) = some cs'
      simp only [fill]
      rw [if_pos ⟨hc.1.1, hc.1.2, hc.2⟩]
      exact h1
    · cases e

theorem newsK_eq {h : H} {cs : List V} {k : Nat → H → Option α} : newsK h cs k = k h.length (news h cs) := by
  unfold newsK news
  rw [lenK_eq, appK_eq]

theorem slcellsK_some {h : H} {sz : Nat} {x : V} {k : List V → Option α} {r : α} (e : slcellsK h sz x k = some r) : ∃ cs, slcells h sz x = some cs ∧ k cs = some r := by
  unfold slcellsK at e
  split at e
  · exact ⟨_, rfl, e⟩
  · rw [lenK_eq] at e
    split at e
    · rename_i hn
      exact ⟨_, by simp only [slcells, if_pos (by simpa using hn)], e⟩
    · cases e
  · rw [nthK_eq] at e
    split at e
    · rename_i ob hob
      split at e
      · rw [lenK_eq] at e
        split at e
        · rename_i hn
          rw [dropK_eq, takeK_eq] at e
          exact ⟨_, by simp only [slcells, hob, if_pos (of_decide_eq_true hn)], e⟩
        · cases e
      · cases e
    · cases e
  · cases e

theorem appendedK_some {h : H} {sz : Nat} {x : V} {k : List V → Option α} {r : α} (e : appendedK h sz x k = some r) : ∃ cs, appended h sz x = some cs ∧ k cs = some r := by
  unfold appendedK at e
  split at e
  · split at e
    · rename_i hs
      exact ⟨_, by simp only [appended, if_pos hs], e⟩
    · cases e
  · rename_i hx
    obtain ⟨cs, h1, h2⟩ := slcellsK_some e
    refine ⟨cs, ?_, h2⟩
    cases x <;> first | exact absurd rfl (hx _) | exact h1

theorem appX_some {h : H} {sz bytes : Nat} {s x : V} {k : V → H → Option α} {r : α} (e : appX h sz bytes s x k = some r) : ∃ v h', app h sz bytes s x = some (v, h') ∧ k v h' = some r := by
  unfold appX at e
  obtain ⟨xs, hx, e⟩ := appendedK_some e
  rw [lenK_eq] at e
  unfold app
  simp only [hx]
  split at e
  · cases e
  · rename_i hc
    simp only [Bool.and_eq_true, decide_eq_true_eq] at hc
    rw [if_pos ⟨hc.1.1, hc.1.2, hc.2⟩]
    split at e
    · split at e
      · rename_i h0; simp only [if_pos h0]; exact ⟨_, _, rfl, e⟩
      · rename_i h0
        split at e
        · rename_i h1; rw [newsK_eq] at e; simp only [if_neg h0, if_pos h1]; exact ⟨_, _, rfl, e⟩
        · cases e
    · rw [lenK_eq] at e
      split at e
      · rename_i hl
        simp only [if_pos hl]
        split at e
        · rename_i h0; simp only [if_pos h0]; exact ⟨_, _, rfl, e⟩
        · rename_i h0
          simp only [if_neg h0]
          split at e
          · split at e
            · rename_i hd
              simp only [Bool.and_eq_true, decide_eq_true_eq] at hd
              rw [appK_eq, newsK_eq] at e
              simp only [if_pos (And.intro hd.1.1 (And.intro hd.1.2 hd.2))]
              exact ⟨_, _, rfl, e⟩
            · cases e
          · cases e
      · cases e
    · split at e
      · rename_i hz
        simp only [if_pos hz]
        rw [nthK_eq] at e
        split at e
        · rename_i ob hob
          split at e
          · rename_i m cs
            rw [lenK_eq] at e
            simp only [hob]
            split at e
            · rename_i ho
              simp only [if_pos ho]
              split at e
              · rename_i hl
                simp only [if_pos hl]
                split at e
                · rename_i h0; simp only [if_pos h0]; exact ⟨_, _, rfl, e⟩
                · rename_i h0
                  simp only [if_neg h0]
                  split at e
                  · rw [spliceK_eq, setK_eq] at e; exact ⟨_, _, rfl, e⟩
                  · cases e
              · rename_i hl
                simp only [if_neg hl]
                rw [dropK_eq, takeK_eq, appK_eq] at e
                split at e
                · rw [newsK_eq] at e; exact ⟨_, _, rfl, e⟩
                · split at e
                  · rw [setK_eq, newsK_eq, List.length_set] at e; exact ⟨_, _, rfl, e⟩
                  · cases e
            · cases e
          · cases e
        · cases e
      · cases e
    · cases e

theorem storeX_some {h : H} {n : Nat} {p x : V} {k : H → Option α} {r : α} (e : storeX h n p x k = some r) : ∃ h', store h n p x = some h' ∧ k h' = some r := by
  unfold storeX at e
  split at e
  · rw [nthK_eq] at e
    split at e
    · rename_i ob hob
      split at e
      · split at e
        · rw [lenK_eq, lenK_eq] at e
          split at e
          · rename_i hc
            simp only [Bool.and_eq_true, decide_eq_true_eq] at hc
            rw [spliceK_eq, setK_eq] at e
            refine ⟨_, ?_, e⟩
            simp only [store, hob, if_pos (And.intro hc.1.1 (And.intro hc.1.2 hc.2))]
          · cases e
        · cases e
      · cases e
    · cases e
  · cases e

theorem openX_eq {v : V} {k : V → Option α} : openX v k = k v := by
  unfold openX
  split
  · rw [appK_eq, List.append_nil]
  · rw [appK_eq, List.append_nil]
  · rfl

theorem frzLK_some {f : V → (V → List Nat → Option α) → Option α} {g : V → Option (V × List Nat)} (hfg : ∀ v k r, f v k = some r → ∃ y is, g v = some (y, is) ∧ k y is = some r) :
    ∀ (l : List V) {k : List V → List Nat → Option α} {r : α}, frzLK f l k = some r → ∃ ys is, frzL g l = some (ys, is) ∧ k ys is = some r
  | [], k, r, e => ⟨[], [], rfl, e⟩
  | x :: l, k, r, e => by
    unfold frzLK at e
    obtain ⟨ys, is, h1, e⟩ := frzLK_some hfg l e
    obtain ⟨y, js, h2, e⟩ := hfg _ _ _ e
    refine ⟨_, _, ?_, e⟩
    unfold frzL at h1 ⊢
    rw [List.foldr_cons, h1, h2]

theorem frzK_some {h : H} : ∀ (d : Nat) (v : V) (k : V → List Nat → Option α) (r : α), frzK h d v k = some r → ∃ y is, frz h d v = some (y, is) ∧ k y is = some r
  | 0, v, k, r, e => by simp [frzK] at e
  | d + 1, v, k, r, e => by
    have ih := frzLK_some (α := α) (fun v k r => frzK_some (h := h) d v k r)
    unfold frzK at e
    split at e
    · obtain ⟨ys, is, h1, e⟩ := ih _ e; exact ⟨_, _, by simp only [frz, h1, Option.map_some], e⟩
    · obtain ⟨ys, is, h1, e⟩ := ih _ e; exact ⟨_, _, by simp only [frz, h1, Option.map_some], e⟩
    · obtain ⟨ys, is, h1, e⟩ := ih _ e; exact ⟨_, _, by simp only [frz, h1, Option.map_some], e⟩
    · exact ⟨_, _, by simp only [frz], e⟩
    · rw [nthK_eq] at e
      split at e
      · rename_i ob hob
        split at e
        · rw [dropK_eq] at e
          obtain ⟨ys, is, h1, e⟩ := ih _ e; exact ⟨_, _, by simp only [frz, hob, h1, Option.map_some], e⟩
        · cases e
      · cases e
    · rw [nthK_eq] at e
      split at e
      · rename_i ob hob
        split at e
        · rw [lenK_eq] at e
          split at e
          · rename_i hl
            rw [dropK_eq, takeK_eq] at e
            obtain ⟨ys, is, h1, e⟩ := ih _ e; exact ⟨_, _, by simp only [frz, hob, if_pos hl, h1, Option.map_some], e⟩
          · cases e
        · cases e
      · cases e
    · rw [nthK_eq] at e
      split at e
      · rename_i ob hob
        split at e
        · obtain ⟨ys, is, h1, e⟩ := ih _ e
          obtain ⟨zs, js, h2, e⟩ := ih _ e
          exact ⟨_, _, by simp only [frz, hob, h1, h2], e⟩
        · cases e
      · cases e
    · rename_i h1 h2 h3 h4 h5 h6 h7
      refine ⟨v, [], ?_, e⟩
      cases v <;> first | rfl | exact absurd rfl (h1 _) | exact absurd rfl (h2 _) | exact absurd rfl (h3 _ _) | exact absurd rfl (h4 _ _ _) | exact absurd rfl (h5 _ _) | exact absurd rfl (h6 _ _ _ _ _ _) | exact absurd rfl (h7 _)

theorem markK_eq {h : H} {is : List Nat} {k : H → Option α} : markK h is k = k (mark h is) := by
  unfold markK
  split
  · rfl
  · rw [appK_eq, List.append_nil]

theorem refK_eq {t : T} {a : A} {q : Bool} {k : T → Option α} : refK t a q k = k (refA t a q) := by
  cases a with
  | t i => exact setK_eq
  | k v => rfl

theorem resK1_some {t : T} {h : H} {x : R} {k : V → Option α} {r : α} (e : resK1 t h x k = some r) : ∃ v, (match x with | .tmp i => some (t.getD i .und) | .cell i n => (rdc h (t.getD i .und)).bind (fst n)) = some v ∧ k v = some r := by
  unfold resK1 at e
  split at e
  · have e2 : evK t (.t _) k = some r := e
    rw [evK_eq] at e2
    exact ⟨_, rfl, e2⟩
  · rw [nthK_eq] at e
    split at e
    · rename_i x hx
      obtain ⟨cs, h1, e⟩ := rdcK_some e
      obtain ⟨v, h2, e⟩ := fstK_some e
      refine ⟨v, ?_, e⟩
      rw [getD_of, hx]
      simp only [h1, Option.bind_some, h2]
    · cases e

theorem ressK_some {t : T} {h : H} : ∀ (rs : List R) {k : List V → Option α} {r : α}, ressK t h rs k = some r →
    ∃ vs, rs.foldr (fun r acc => match (match r with | .tmp i => some (t.getD i .und) | .cell i n => (rdc h (t.getD i .und)).bind (fst n)), acc with | some v, some vs => some (v :: vs) | _, _ => none) (some []) = some vs ∧ k vs = some r
  | [], k, r, e => ⟨[], rfl, e⟩
  | x :: rs, k, r, e => by
    unfold ressK at e
    obtain ⟨v, h1, e⟩ := resK1_some e
    obtain ⟨vs, h2, e⟩ := ressK_some rs e
    exact ⟨_, by rw [List.foldr_cons, h2, h1], e⟩

theorem resK_some {t : T} {h : H} {rs : List R} {k : V → Option α} {r : α} (e : resK t h rs k = some r) : ∃ v, resE t h rs = some v ∧ k v = some r := by
  unfold resK at e
  split at e
  · obtain ⟨v, h1, e⟩ := resK1_some e
    exact ⟨v, h1, e⟩
  · rename_i hne
    obtain ⟨vs, h1, e⟩ := ressK_some rs e
    refine ⟨_, ?_, e⟩
    unfold resE
    split
    · exact absurd rfl (hne _)
    · exact congrArg (Option.map V.tup) h1

theorem runTr_some : ∀ (x : Tr) {k : V → Option α} {r : α}, runTr x k = some r → ∃ v, runTr x some = some v ∧ k v = some r
  | .is v, k, r, e => ⟨v, rfl, e⟩
  | .need b x, k, r, e => by
    cases b with
    | false => cases e
    | true => exact runTr_some x e
  | .br b x y, k, r, e => by
    cases b with
    | false => exact runTr_some y e
    | true => exact runTr_some x e
end

/-! ### What it says -/

def CallSound {α : Type} (E : Env) (call : CallX α) : Prop := ∀ f args h k r, call f args h k = some r → ∃ v h', callA E f args h v h' ∧ k v h' = some r

/-- A function answers so. -/
def Ans (E : Env) (f : FuncId) (as : List V) (v : V) : Prop := ∀ args h is, frzs h args = some (as, is) → callA E f args h v (mark h is)

def SpOK (E : Env) (sp : Sp) : Prop := ∀ f as r v, sp f as = some r → runTr r some = some v → E.inl f = false → Ans E f as v

section
variable {α : Type} {E : Env} {call : CallX α} {t : T} {h : H} {r : α}

theorem enumX_some {i : Int} {k : Nat → Option α} : ∀ {n j : Nat}, enumX i k j n = some r → ∃ j' : Nat, i = j' ∧ k j' = some r
  | 0, _, e => by simp [enumX] at e
  | n + 1, j, e => by
    unfold enumX at e
    split at e
    · rename_i hq; exact ⟨j, by simpa using hq, e⟩
    · exact enumX_some e

theorem concX_some {v : V} {n : Nat} {k : V → Option α} (e : concX v n k = some r) : k v = some r := by
  unfold concX at e
  split at e
  · obtain ⟨j, hj, e2⟩ := enumX_some e; subst hj; exact e2
  · cases e

theorem concO_some {v : Option V} {n : Nat} {k : Option V → Option α} (e : concO v n k = some r) : k v = some r := by
  unfold concO at e
  split at e
  · exact e
  · exact concX_some e

theorem thenX_some {o : Option (V × H)} {k : V → H → Option α} (e : thenX o k = some r) : ∃ v h', o = some (v, h') ∧ k v h' = some r := by
  unfold thenX at e
  split at e
  · exact ⟨_, _, rfl, e⟩
  · cases e

theorem set_self {s : Nat} {b : V} (e : t.getD s .und = b) (hb : b ≠ .und) : t.set s b = t := by
  by_cases hs : s < t.length
  · have : t[s] = b := by simpa [List.getD, List.getElem?_eq_getElem hs] using e
    subst this
    exact List.set_getElem_self hs
  · simp only [List.getD, List.getElem?_eq_none (Nat.le_of_not_lt hs), Option.getD_none] at e
    exact absurd e.symm hb

theorem refA_self {a : A} {q : Bool} (e : ev t a = .bool q) : refA t a q = t := by
  cases a with
  | t i => exact set_self e (by simp)
  | k v => rfl

theorem op_default {o : O} {k : V → H → Option α} (e : thenX (opE E.inl (fun _ _ _ => none) o t h) k = some r) (hc : ∀ f as, o ≠ .call f as) (hd : ∀ i x as, o ≠ .dyn i x as) : ∃ v h', (Evt fun m => opE E.inl (callE E m) o t h = some (v, h')) ∧ k v h' = some r := by
  obtain ⟨v, h', e1, e2⟩ := thenX_some e
  refine ⟨v, h', .of fun m => ?_, e2⟩
  cases o <;> first | exact absurd rfl (hc _ _) | exact absurd rfl (hd _ _ _) | exact e1 | (rename_i c x; cases c <;> exact e1)

theorem opX_some (hc : CallSound E call) {o : O} {k : V → H → Option α} (e : opX E.inl call o t h k = some r) : ∃ v h', (Evt fun m => opE E.inl (callE E m) o t h = some (v, h')) ∧ k v h' = some r := by
  unfold opX at e
  split at e
  · rw [evsK_eq] at e
    obtain ⟨v, h', a, b⟩ := hc _ _ _ _ _ e
    exact ⟨v, h', op_call a, b⟩
  · rename_i iso x as
    rw [evK_eq] at e
    split at e
    · rename_i f cap hx
      split at e
      · cases e
      · rename_i hi
        rw [evsK_eq, appK_eq] at e
        obtain ⟨v, h', a, b⟩ := hc _ _ _ _ _ e
        exact ⟨v, h', a.mono fun m a => by simp only [opE, hx, hi, Bool.false_eq_true, if_false, a], b⟩
    · cases e
  · rw [evK_eq] at e
    split at e
    · rename_i q hq
      split at e
      · rw [evK_eq] at e; exact ⟨_, _, .of fun m => by simp only [opE, hq, if_true], e⟩
      · rw [evK_eq] at e; exact ⟨_, _, .of fun m => by simp only [opE, hq, Bool.false_eq_true, if_false], e⟩
    · cases e
  · rw [evK_eq] at e
    exact ⟨_, _, .of fun m => rfl, e⟩
  · rw [newsK_eq] at e
    exact ⟨_, _, .of fun m => rfl, e⟩
  · rw [evK_eq] at e
    split at e
    · rename_i ha
      rw [newsK_eq] at e
      exact ⟨_, _, .of fun m => by simp only [opE, if_pos ha], e⟩
    · cases e
  · obtain ⟨cs, h1, e⟩ := fillK_some _ e
    exact ⟨_, _, .of fun m => by simp only [opE, h1, Option.map_some], e⟩
  · obtain ⟨cs, h1, e⟩ := fillK_some _ e
    rw [newsK_eq] at e
    exact ⟨_, _, .of fun m => by simp only [opE, h1, Option.map_some], e⟩
  · rw [evK_eq] at e
    obtain ⟨cs, h1, e⟩ := rdcK_some e
    obtain ⟨v, h2, e⟩ := fstK_some e
    exact ⟨_, _, .of fun m => by simp only [opE, h1, Option.bind_some, h2, Option.map_some], e⟩
  · rw [evK_eq, evK_eq] at e
    obtain ⟨h', h1, e⟩ := storeX_some e
    exact ⟨_, _, .of fun m => by simp only [opE, h1, Option.map_some], e⟩
  · rw [evK_eq, evK_eq] at e
    obtain ⟨v, h', h1, e⟩ := appX_some e
    exact ⟨_, _, .of fun m => by simp only [opE, h1], e⟩
  · rw [evK_eq] at e
    split at e
    · rename_i cs hx
      rw [dropK_eq] at e
      obtain ⟨v, h2, e⟩ := fstK_some e
      exact ⟨_, _, .of fun m => by simp only [opE, fld, hx, h2, Option.map_some], e⟩
    · cases e
  · rw [evK_eq, evK_eq] at e
    split at e
    · rename_i i a j b ha hb
      split at e
      · rename_i hij
        subst hij
        split at e
        · cases e
        · rename_i h0
          exact ⟨_, _, .of fun m => rule_rem ha hb (by simpa using h0), e⟩
      · cases e
    · rename_i i a j b ha hb
      split at e
      · rename_i hij
        subst hij
        split at e
        · cases e
        · rename_i h0
          exact ⟨_, _, .of fun m => rule_quo ha hb (by simpa using h0), e⟩
      · cases e
    · rename_i i a j b ha hb
      split at e
      · cases e
      · rename_i h0
        exact ⟨_, _, .of fun m => rule_shl ha hb (by simpa using h0), e⟩
    · rename_i a b ha hb
      split at e
      · rename_i h0
        exact ⟨_, _, .of fun m => by simp only [opE, ha, hb, Am.bin, binStr, if_pos (of_decide_eq_true h0), Option.map_some], e⟩
      · cases e
    · split at e
      · rename_i v hv
        exact ⟨v, h, .of fun m => by simp only [opE, hv, Option.map_some], e⟩
      · cases e
  · rw [evK_eq, evK_eq] at e
    split at e
    · rename_i b hb
      exact ⟨_, _, .of fun m => by simp only [opE, hb, Option.map_some], e⟩
    · cases e
  · rw [evK_eq] at e
    split at e
    · rename_i vs hx
      rw [nthK_eq] at e
      split at e
      · rename_i v hv
        exact ⟨_, _, .of fun m => by simp only [opE, hx, Am.ext, hv, Option.map_some], e⟩
      · cases e
    · cases e
  · rw [evsK_eq] at e
    exact ⟨_, _, .of fun m => rfl, e⟩
  · rw [evK_eq, evK_eq] at e
    have e := concX_some e
    split at e
    · rename_i v hv
      exact ⟨_, _, .of fun m => by simp only [opE, hv, Option.map_some], e⟩
    · cases e
  · rw [evK_eq, evK_eq] at e
    have e := concX_some e
    split at e
    · rename_i v hv
      exact ⟨_, _, .of fun m => by simp only [opE, hv, Option.map_some], e⟩
    · cases e
  · rw [evK_eq, evO_eq, evO_eq, evO_eq] at e
    have e := concO_some (concO_some (concO_some e))
    split at e
    · rename_i v hv
      rw [openX_eq] at e
      exact ⟨_, _, .of fun m => by simp only [opE, hv, Option.map_some], e⟩
    · cases e
  · rename_i h1 h2 _ _ _ _ _ _ _ _ _ _ _ _ _ _ _ _ _
    exact op_default e (fun f as hh => h1 _ _ hh) (fun i x as hh => h2 _ _ _ hh)

theorem regX_some (hc : CallSound E call) : ∀ (ops : List Op) {t : T} {h : H} {k : T → H → Option α}, regX E.inl call ops t h k = some r → wpR E ops t h fun t' h' => k t' h' = some r
  | [], t, h, k, e => wpR_nil e
  | ⟨d, g, o, ls⟩ :: ops, t, h, k, e => by
    unfold regX at e
    simp only [putK_eq, setK_eq, nthK_eq] at e
    split at e
    · obtain ⟨v, h', a, b⟩ := opX_some hc e
      exact wpR_opA a (regX_some hc ops b)
    · rename_i s want
      have hg : t.getD s .und = match t[s]? with
          | some x => x
          | none => .und := getD_of
      split at e
      · rename_i q hq
        rw [hq] at hg
        split at e
        · rename_i b
          split at e
          · rw [set_self hg (by simp)] at e
            split at e
            · obtain ⟨v, h', a, b⟩ := opX_some hc e
              exact wpR_on hg a (regX_some hc ops b)
            · exact wpR_off hg (by simp) (regX_some hc ops e)
          · rw [set_self hg (by simp)] at e
            split at e
            · obtain ⟨v, h', a, b⟩ := opX_some hc e
              exact wpR_on hg a (regX_some hc ops b)
            · exact wpR_off hg (by simp) (regX_some hc ops e)
        · exact wpR_und hg (regX_some hc ops e)
        · cases e
      · rename_i hq
        rw [hq] at hg
        exact wpR_und hg (regX_some hc ops e)

theorem regLX_some (hc : CallSound E call) : ∀ (ops : List Op) {fs : List (List Nat × List Nat)} {t : T} {h : H} {k : T → H → Option α}, regLX E.inl call ops fs t h k = some r → wpRL E ops fs t h fun t' h' => k t' h' = some r
  | [], fs, t, h, k, e => ⟨t, h, e, .of fun m => rfl⟩
  | ⟨d, g, o, ls⟩ :: ops, fs, t, h, k, e => by
    have go : ∀ (s : Option (Nat × Bool)) (hs : s = none ∨ ∃ i w, s = some (i, w) ∧ t.getD i .und = .bool w),
        (match ls.all fun i => apart (fs.getD i ([], [])) (fpE o t h) with
          | true => opX E.inl call o t h fun v h' => regLX E.inl call ops (fs ++ [fpE o t h]) (put t d v) h' k
          | false => none) = some r → wpRL E (⟨d, s, o, ls⟩ :: ops) fs t h fun t' h' => k t' h' = some r := by
      intro s hs e
      split at e
      · rename_i hall
        obtain ⟨v, h', a, b⟩ := opX_some hc e
        obtain ⟨t', h2, q, ev⟩ := regLX_some hc ops b
        refine ⟨t', h2, q, (ev.and a).mono fun m ⟨x, y⟩ => ?_⟩
        rcases hs with rfl | ⟨i, w, rfl, hw⟩
        · simp only [regLE, hall, if_true, y, x]
        · simp only [regLE, hw, hall, if_true, y, x]
      · cases e
    have off : ∀ (i : Nat) (w : Bool) (b : V) (hb : t.getD i .und = b) (hw : b = .und ∨ ∃ q, b = .bool q ∧ q ≠ w),
        regLX E.inl call ops (fs ++ [([], [])]) (put t d .und) h k = some r → wpRL E (⟨d, some (i, w), o, ls⟩ :: ops) fs t h fun t' h' => k t' h' = some r := by
      intro i w b hb hw e
      obtain ⟨t', h2, q, ev⟩ := regLX_some hc ops e
      refine ⟨t', h2, q, ev.mono fun m x => ?_⟩
      rcases hw with rfl | ⟨q, rfl, hq⟩
      · simp only [regLE, hb, x]
      · simp only [regLE, hb, if_neg hq, x]
    unfold regLX at e
    simp only [putK_eq, setK_eq, nthK_eq] at e
    split at e
    · exact go _ (.inl rfl) e
    · rename_i s want
      have hg : t.getD s .und = match t[s]? with
          | some x => x
          | none => .und := getD_of
      split at e
      · rename_i q hq
        rw [hq] at hg
        split at e
        · split at e
          · rw [set_self hg (by simp)] at e
            split at e
            · exact go _ (.inr ⟨_, _, rfl, hg⟩) e
            · exact off _ _ _ hg (.inr ⟨_, rfl, by simp⟩) e
          · rw [set_self hg (by simp)] at e
            split at e
            · exact go _ (.inr ⟨_, _, rfl, hg⟩) e
            · exact off _ _ _ hg (.inr ⟨_, rfl, by simp⟩) e
        · exact off _ _ _ hg (.inl rfl) e
        · cases e
      · rename_i hq
        rw [hq] at hg
        exact off _ _ _ hg (.inl rfl) e

theorem runX_some (hc : CallSound E call) (n : Nat) : ∀ (c : C) {t : T} {h : H} {k : X → T → H → Option α}, runX E.inl call n c t h k = some r → wpA E c t h fun x t' h' => k x t' h' = some r
  | .skip, t, h, k, e => wpA_skip e
  | .reg ops, t, h, k, e => wpA_reg (regX_some hc ops e)
  | .regL ops, t, h, k, e => wpA_regL (regLX_some hc ops e)
  | .seq a b, t, h, k, e => wpA_seq ((runX_some hc n a e).mono fun x t' h' q => by
      cases x with
      | nrm => exact runX_some hc n b q
      | exit id => exact q
      | ret => exact q)
  | .cond c a b, t, h, k, e => by
    unfold runX at e
    rw [evK_eq] at e
    split at e
    · rename_i q hq
      split at e
      · rw [refK_eq, refA_self hq] at e
        exact wpA_true hq (runX_some hc n a e)
      · rw [refK_eq, refA_self hq] at e
        exact wpA_false hq (runX_some hc n b e)
    · cases e
  | .block id c, t, h, k, e => wpA_block ((runX_some hc n c e).mono fun x t' h' q => by
      cases x with
      | nrm => exact q
      | exit j =>
        simp only at q ⊢
        split at q
        · rename_i hj; rw [if_pos hj]; exact q
        · rename_i hj; rw [if_neg hj]; exact q
      | ret => exact q)
  | .loop c, t, h, k, e => by
    have key : ∀ m {t : T} {h : H}, loopX (fun t h k => runX E.inl call n c t h k) m t h k = some r → wpL E c t h fun x t' h' => k x t' h' = some r := by
      intro m
      induction m with
      | zero => intro t h e; simp [loopX] at e
      | succ m ih =>
        intro t h e
        refine wpL_step ((runX_some hc n c e).mono fun x t' h' q => ?_)
        cases x with
        | nrm => exact ih q
        | exit id => exact q
        | ret => exact q
    exact wpA_loop (key n e)
  | .exit id, t, h, k, e => wpA_exit e
  | .ret, t, h, k, e => wpA_ret e

theorem bodyX_some (hc : CallSound E call) {n : Nat} {fn : Fn} {args : List V} {k : V → H → Option α} (e : bodyX E.inl call n fn args h k = some r) :
    ∃ v h', wpA E fn.body (args ++ List.replicate (fn.nt - args.length) .und) h (fun x t' h2 => (x = .nrm ∨ x = .ret) ∧ h2 = h' ∧ resE t' h2 fn.res = some v) ∧ k v h' = some r := by
  unfold bodyX at e
  rw [lenK_eq, appK_eq] at e
  obtain ⟨x, t', h', q, ev⟩ := runX_some hc n _ e
  cases x with
  | nrm =>
    obtain ⟨v, e1, e2⟩ := resK_some q
    exact ⟨v, h', ⟨_, _, _, ⟨.inl rfl, rfl, e1⟩, ev⟩, e2⟩
  | exit id => cases q
  | ret =>
    obtain ⟨v, e1, e2⟩ := resK_some q
    exact ⟨v, h', ⟨_, _, _, ⟨.inr rfl, rfl, e1⟩, ev⟩, e2⟩

theorem callX_sound {sp : Sp} (hs : SpOK E sp) (n : Nat) : CallSound (α := α) E (callX E sp n) := by
  induction n with
  | zero => intro f args h k r e; simp [callX] at e
  | succ n ih =>
    intro f args h k r e
    unfold callX at e
    split at e
    · rename_i hi
      split at e
      · cases e
      · rename_i he
        split at e
        · cases e
        · rename_i fn hf
          obtain ⟨v, h', w, q⟩ := bodyX_some ih e
          exact ⟨v, h', callA_inl he hf hi w, q⟩
    · rename_i hi
      obtain ⟨as, is, hf, e⟩ := frzLK_some (fun v k r => frzK_some 40 v k r) _ e
      rw [markK_eq] at e
      split at e
      · rename_i x hsp
        obtain ⟨v, h1, e⟩ := runTr_some x e
        exact ⟨v, _, hs f as x v hsp h1 hi args h is hf, e⟩
      · split at e
        · rename_i g hg
          split at e
          · rename_i v hv
            refine ⟨v, _, ⟨1, fun m hm => ?_⟩, e⟩
            obtain ⟨m', rfl⟩ : ∃ j, m = j + 1 := ⟨m - 1, by omega⟩
            have hf' : frzs h args = some (as, is) := hf
            simp only [callE, hg, hf', hv, Option.map_some]
          · cases e
        · rename_i hg
          split at e
          · cases e
          · rename_i fn hc
            obtain ⟨v, h', w, q⟩ := bodyX_some ih e
            obtain ⟨v', js, hz, q⟩ := frzK_some _ _ _ _ q
            refine ⟨v', _, callA_iso (js := js) hg hc hi hf (w.mono fun x t' h2 ⟨a, b, c⟩ => ⟨a, v, c, ?_⟩), q⟩
            rw [b]; exact hz

/-- A function that the symbolic run carries out answers so. -/
theorem fnX_ans {sp : Sp} (hs : SpOK E sp) {n : Nat} {f : FuncId} {fn : Fn} {as : List V} {v : V} (he : E.ext f = none) (hc : E.code f = some fn) (hi : E.inl f = false) (e : fnX E sp n fn as = some v) : Ans E f as v := by
  intro args h is hf
  obtain ⟨v1, h', w, q⟩ := bodyX_some (callX_sound hs n) e
  obtain ⟨v', js, hz, q⟩ := frzK_some _ _ _ _ q
  cases q
  exact callA_iso (js := js) he hc hi hf (w.mono fun x t' h2 ⟨a, b, c⟩ => ⟨a, v1, c, by rw [b]; exact hz⟩)

/-- Some functions alone. -/
def on (l : List FuncId) (sp : Sp) : Sp := fun f as => match l.contains f with
  | true => sp f as
  | false => none

theorem on_nil (sp : Sp) : SpOK E (on [] sp) := fun f as r v e => by simp [on] at e

theorem on_cons {l : List FuncId} {sp : Sp} (hl : SpOK E (on l sp)) {f : FuncId} (hf : ∀ as r v, sp f as = some r → runTr r some = some v → E.inl f = false → Ans E f as v) : SpOK E (on (f :: l) sp) := by
  intro g as r v e1 e2 e3
  unfold on at e1
  split at e1
  · rename_i hc
    rcases List.mem_cons.1 (List.contains_iff_mem.1 hc) with rfl | hm
    · exact hf as r v e1 e2 e3
    · refine hl g as r v ?_ e2 e3
      unfold on
      rw [List.contains_iff_mem.2 hm]
      exact e1
  · cases e1
end
end Go.Am
