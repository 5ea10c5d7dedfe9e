/-
  WHAT THE FUNCTIONS COMPUTE, on lists of entries. Conditions: none; definitions, and plain facts on them.
-/
import Derived.Test.YtnfhojipjhcjjaaGreatDoorEa1
import Derived.KernelRfl
namespace Go.Proofs
namespace Ea
open Go.Am
set_option autoImplicit false
set_option linter.unusedVariables false

/-- An entry: index, number, string. -/
abbrev Ent := Int × Int × List UInt8

def encC : List Ent → List V
  | [] => []
  | (a, b, s) :: r => .int .u64 a :: .int .u64 b :: .str s :: encC r

def decC : List V → List Ent
  | .int _ a :: .int _ b :: .str s :: r => (a, b, s) :: decC r
  | _ => []

theorem dec_enc (l : List Ent) : decC (encC l) = l := by
  induction l with
  | nil => rfl
  | cons e r ih => obtain ⟨a, b, s⟩ := e; unfold encC decC; rw [ih]

def decM : V → List Ent
  | .isl cs _ _ => decC cs
  | _ => []

/-- The row of an array. -/
def encM (l : List Ent) : V := match l with
  | [] => .nils
  | e :: r => .isl (encC (e :: r)) (r.length + 1) none

/-- Are the cells those of entries? -/
def shC : List V → Bool
  | [] => true
  | .int .u64 _ :: .int .u64 _ :: .str _ :: r => shC r
  | _ => false

/-- A row of entries, some or none. -/
def okM (n : Nat) : V → Bool
  | .nils => true
  | .isl cs len none => shC cs && len == (decC cs).length && Nat.ble len n
  | _ => false

theorem shC_enc (l : List Ent) : shC (encC l) = true := by
  induction l with
  | nil => rfl
  | cons e r ih => obtain ⟨a, b, s⟩ := e; unfold encC shC; exact ih

theorem shC_dec : ∀ {cs : List V}, shC cs = true → encC (decC cs) = cs := by
  intro cs
  induction cs using shC.induct with
  | case1 => intro _; rfl
  | case2 a b s r ih => intro h; unfold shC at h; unfold decC encC; rw [ih h]
  | case3 t h1 h2 =>
    intro h
    unfold shC at h
    split at h
    · rfl
    · exact absurd rfl (h2 _ _ _ _)
    · cases h

theorem okM_cases {n : Nat} {m : V} (h : okM n m = true) : m = .nils ∨ ∃ l, l.length ≤ n ∧ m = .isl (encC l) l.length none := by
  unfold okM at h
  split at h
  · exact .inl rfl
  · rename_i cs len
    simp only [Bool.and_eq_true, beq_iff_eq, Nat.ble_eq] at h
    refine .inr ⟨decC cs, by omega, ?_⟩
    rw [shC_dec h.1.1, ← h.1.2]
  · cases h

theorem okM_enc {n : Nat} {l : List Ent} (h : l.length ≤ n) : okM n (.isl (encC l) l.length none) = true := by
  show (shC (encC l) && l.length == (decC (encC l)).length && Nat.ble l.length n) = true
  rw [shC_enc, dec_enc]
  simpa using h

theorem okM_encM {n : Nat} {l : List Ent} (h : l.length ≤ n) : okM n (encM l) = true := by
  cases l with
  | nil => rfl
  | cons e r => exact okM_enc h

theorem decM_encM (l : List Ent) : decM (encM l) = l := by
  cases l with
  | nil => rfl
  | cons e r => exact dec_enc _

def around (n m : Int) : Int := (if n < 0 then IntKind.i64.wrap (0 - IntKind.i64.wrap (n + 1)) else n).tmod m

/-- Some bits of a number. -/
def bits (n b : Int) : Int :=
  let k := IntKind.u64.wrap (around n 1073741824)
  let k := if k.tmod 5 = 0 then IntKind.u64.wrap (18446744073709551615 - (IntKind.u64.wrap (k.tdiv 5)).tmod 3) else k
  if b < 64 then k.tmod (2 ^ b.toNat) else k

/-- An entry in front, unless it is 0. -/
def ins (ix u : Int) (s : List UInt8) (r : List Ent) : List Ent := if 0 < u then (ix, u, s) :: r else if 0 < (s.length : Int) then (ix, u, s) :: r else r

def putL (ix u : Int) (s : List UInt8) : List Ent → List Ent
  | [] => ins ix u s []
  | e :: r => if e.1 < ix then e :: putL ix u s r else ins ix u s (if e.1 = ix then r else e :: r)

def selL (ix : Int) : List Ent → Int × List UInt8
  | [] => (0, [])
  | e :: r => if e.1 = ix then e.2 else selL ix r

/-- A valid element. -/
def okE (K N : Int) (u : Int) (s : List UInt8) : Bool :=
  if K = 2 then decide (0 < u) && decide (u < 2 ^ N.toNat) && s.isEmpty else decide (u = 0) && !s.isEmpty && decide ((s.length : Int) ≤ N)

/-- A valid row, from some index on. -/
def vmB (K N I : Int) : Int → List Ent → Bool
  | _, [] => true
  | lo, e :: r => decide (lo ≤ e.1) && decide (e.1 < 2 ^ I.toNat) && okE K N e.2.1 e.2.2 && vmB K N I (e.1 + 1) r

/-- A valid sort. -/
def okS (K N I : Int) : Bool :=
  if K = 0 then decide (1 ≤ N) && decide (N ≤ 64) && decide (I = 0)
  else if K = 1 then decide (0 ≤ N) && decide (N ≤ 64) && decide (I = 0)
  else if K = 2 then decide (1 ≤ N) && decide (N ≤ 64) && decide (1 ≤ I) && decide (I ≤ 16)
  else decide (K = 3) && decide (0 ≤ N) && decide (N ≤ 64) && decide (1 ≤ I) && decide (I ≤ 16)

/-- A valid value. -/
def okV (K N I u : Int) (s : List UInt8) (m : V) : Bool :=
  okS K N I && okM 6 m &&
  (if K = 0 then decide (0 ≤ u) && decide (u < 2 ^ N.toNat) && s.isEmpty && (decM m).isEmpty
   else if K = 1 then decide (u = 0) && decide ((s.length : Int) ≤ N) && (decM m).isEmpty
   else decide (u = 0) && s.isEmpty && vmB K N I 0 (decM m))

def val (K N I u : Int) (s : List UInt8) (m : V) : V := .agg [.int .i64 K, .int .i64 N, .int .i64 I, .int .u64 u, .str s, m]

/-- The numbers of a row. -/
def decI : V → List Int
  | .isl cs _ _ => cs.map fun x => match x with
    | .int _ n => n
    | _ => 0
  | _ => []

def shI : List V → Bool
  | [] => true
  | .int .i64 _ :: r => shI r
  | _ => false

def okI : V → Bool
  | .nils => true
  | .isl cs len none => shI cs && len == cs.length
  | _ => false

def pick (l : V) (i m : Int) : Int := if i < 0 then 0 else if i ≥ (decI l).length then 0 else around ((decI l).getD i.toNat 0) m

open Classical in
/-- The string that the program makes of a number. -/
noncomputable def short (n most : Int) : List UInt8 := if h : ∃ s : List UInt8, (s.length : Int) ≤ most ∧ Ans E 37 [.int .i64 n, .int .i64 most] (.str s) then h.choose else []

/-- One element more. -/
noncomputable def ofStep (K N I : Int) (l : V) (j : Int) (m : List Ent) : List Ent :=
  if j < (decI l).length then putL (bits (IntKind.i64.wrap ((pick l j 1073741824).tdiv 7)) I) (if K = 2 then bits (pick l j 1073741824) N else 0) (if K = 2 then [] else short (pick l j 1073741824) N) m else m

noncomputable def ofL (K N I : Int) (l : V) : List Ent := ofStep K N I l 4 (ofStep K N I l 3 (ofStep K N I l 2 (ofStep K N I l 1 (ofStep K N I l 0 []))))

open Classical in
/-- The widths of the sort that the program makes of a number. -/
noncomputable def sortP (K n : Int) : Int × Int := if h : ∃ p : Int × Int, okS K p.1 p.2 = true ∧ Ans E 26 [.int .i64 n] (.agg [.int .i64 K, .int .i64 p.1, .int .i64 p.2]) then h.choose else (0, 0)

open Classical in
/-- The order of two values. -/
noncomputable def cmpV (x y : Int × Int × Int × Int × List UInt8 × V) : Int :=
  if h : ∃ c : Int, (c = 0 ↔ x.1 = y.1 ∧ x.2.1 = y.2.1 ∧ x.2.2.1 = y.2.2.1 ∧ x.2.2.2.1 = y.2.2.2.1 ∧ x.2.2.2.2.1 = y.2.2.2.2.1 ∧ decM x.2.2.2.2.2 = decM y.2.2.2.2.2) ∧
    Ans E 30 [val x.1 x.2.1 x.2.2.1 x.2.2.2.1 x.2.2.2.2.1 x.2.2.2.2.2, val y.1 y.2.1 y.2.2.1 y.2.2.2.1 y.2.2.2.2.1 y.2.2.2.2.2] (.int .i64 c) then h.choose else 0

def diffL : List Ent → List Ent → Int
  | [], [] => 0
  | [], e :: _ => e.1
  | e :: _, [] => e.1
  | e :: r, f :: q => if e = f then diffL r q else if f.1 < e.1 then f.1 else e.1

def cmpI (a b : Int) : Int := if a < b then -1 else if b < a then 1 else 0
def cmpS (a b : List UInt8) : Int := if Op.bytesLess a b = true then -1 else if a = b then 0 else 1

def orI : List Int → Int
  | [] => 0
  | c :: r => if c = 0 then orI r else c

theorem cmpI_lt (a b : Int) : (cmpI a b < 0) = (a < b) := by unfold cmpI; split <;> (try split) <;> simp <;> omega
theorem cmpI_eq (a b : Int) : (cmpI a b = 0) = (a = b) := by unfold cmpI; split <;> (try split) <;> simp <;> omega
theorem bne_t (b : Bool) : (b != true) = !b := by cases b <;> rfl
theorem bne_f (b : Bool) : (b != false) = b := by cases b <;> rfl

/-! ### The answers of the program's functions -/

def s59 : List V → Option Tr
  | [.isl [.int .i64 a, .int .i64 b, .int .i64 c] 3 none] => some (.is (.int .i64 (orI [a, b, c])))
  | [.isl [.int .i64 a, .int .i64 b, .int .i64 c, .int .i64 d, .int .i64 e] 5 none] => some (.is (.int .i64 (orI [a, b, c, d, e])))
  | _ => none

def s60 : List V → Option Tr
  | [.int .i64 n, .int .i64 m] => some (.is (.int .i64 (cmpI n m)))
  | _ => none

def s61 : List V → Option Tr
  | [.int .u64 n, .int .u64 m] => some (.is (.int .i64 (cmpI n m)))
  | _ => none

def s62 : List V → Option Tr
  | [.str n, .str m] => some (.is (.int .i64 (cmpS n m)))
  | _ => none

def s7 : List V → Option Tr
  | [.int .i64 n, .int .i64 m] => some (.need (m != 0) (.is (.int .i64 (around n m))))
  | _ => none

def s70 : List V → Option Tr
  | [.int .u64 u, .int .i64 n] => some (.need (decide (0 ≤ n) && decide (n ≤ 64)) (.is (.bool (n == 64 || decide (u < 2 ^ n.toNat)))))
  | _ => none

def s28 : List V → Option Tr
  | [.int .i64 n, .int .i64 b] => some (.need (decide (1 ≤ b) && decide (b ≤ 64)) (.is (.int .u64 (bits n b))))
  | _ => none

def s36 : List V → Option Tr
  | [l, .int .i64 i, .int .i64 m] => some (.need (okI l && m != 0) (.is (.int .i64 (pick l i m))))
  | _ => none

noncomputable def s37 : List V → Option Tr
  | [.int .i64 n, .int .i64 most] => some (.need (decide (0 ≤ most)) (.is (.str (short n most))))
  | _ => none

def s38 : List V → Option Tr
  | [.agg [.int .i64 k, .int .i64 N, .int .i64 I, .int .u64 u, .str s, m], .int .u64 ix, .int .u64 u', .str s'] =>
    some (.need (okM 4 m) (.br (putL ix u' s' (decM m)).isEmpty (.is (val k N I 0 [] .nils)) (.is (val k N I 0 [] (.isl (encC (putL ix u' s' (decM m))) (putL ix u' s' (decM m)).length none)))))
  | _ => none

noncomputable def s8 : List V → Option Tr
  | [.agg [.int .i64 k, .int .i64 N, .int .i64 I], l] =>
    if k = 0 then some (.need (okI l && decide (1 ≤ N) && decide (N ≤ 64)) (.is (val k N I (bits (pick l 0 1073741824) N) [] .nils)))
    else if k = 1 then some (.need (okI l && decide (0 ≤ N)) (.is (val k N I 0 (short (pick l 0 1073741824) N) .nils)))
    else some (.need (okI l && okS k N I) (.br (ofL k N I l).isEmpty (.is (val k N I 0 [] .nils)) (.is (val k N I 0 [] (.isl (encC (ofL k N I l)) (ofL k N I l).length none)))))
  | _ => none

noncomputable def s26 (K : Int) : List V → Option Tr
  | [.int .i64 n] => some (.need (decide ((around n 1048576).tmod 4 = K)) (.is (.agg [.int .i64 K, .int .i64 (sortP K n).1, .int .i64 (sortP K n).2])))
  | _ => none

def s27 : List V → Option Tr
  | [.agg [.int .i64 k, .int .i64 N, .int .i64 I, .int .u64 u, .str s, .nils]] => some (.is (val k N I u s .nils))
  | [.agg [.int .i64 k, .int .i64 N, .int .i64 I, .int .u64 u, .str s, .isl cs n none]] => some (.need (okM 5 (.isl cs n none) && decide (1 ≤ n)) (.is (val k N I u s (.isl cs n none))))
  | _ => none

def s39 : List V → Option Tr
  | [.agg [.int .i64 k, .int .i64 N, .int .i64 I, .int .u64 u, .str s, m]] => some (.need (okV k N I u s m) (.is (.int .i64 0)))
  | _ => none

noncomputable def s30 : List V → Option Tr
  | [.agg [.int .i64 k, .int .i64 N, .int .i64 I, .int .u64 u, .str s, m], .agg [.int .i64 k', .int .i64 N', .int .i64 I', .int .u64 u', .str s', m']] =>
    some (.need (okM 5 m && okM 5 m') (.is (.int .i64 (cmpV (k, N, I, u, s, m) (k', N', I', u', s', m')))))
  | _ => none

def s151 : List V → Option Tr
  | [.agg [.int .i64 k, .int .i64 N, .int .i64 I, .int .u64 u, .str s, m], .int .u64 ix] =>
    some (.need (okV k N I u s m && decide (2 ≤ k) && decide (0 ≤ ix) && decide (ix < 2 ^ I.toNat))
      (.is (.tup [val (if k = 2 then 0 else 1) N 0 (selL ix (decM m)).1 (selL ix (decM m)).2 .nils, .int .i64 0])))
  | _ => none

/-- Does an element fit an array? -/
def fitsB (k N vk vN : Int) : Bool := if k = 2 then decide (vk = 0) && decide (vN = N) else decide (vk = 1) && decide (vN ≤ N)

def s153 : List V → Option Tr
  | [.agg [.int .i64 k, .int .i64 N, .int .i64 I, .int .u64 u, .str s, .nils], .int .u64 ix, .agg [.int .i64 vk, .int .i64 vN, .int .i64 vI, .int .u64 vu, .str vs, .nils]] =>
    some (.need (okV k N I u s .nils && okV vk vN vI vu vs .nils && decide (2 ≤ k) && fitsB k N vk vN && decide (0 ≤ ix) && decide (ix < 2 ^ I.toNat))
      (.br (putL ix vu vs []).isEmpty (.is (.tup [val k N I 0 [] .nils, .int .i64 0])) (.is (.tup [val k N I 0 [] (.isl (encC (putL ix vu vs [])) (putL ix vu vs []).length none), .int .i64 0]))))
  | [.agg [.int .i64 k, .int .i64 N, .int .i64 I, .int .u64 u, .str s, .isl cs n none], .int .u64 ix, .agg [.int .i64 vk, .int .i64 vN, .int .i64 vI, .int .u64 vu, .str vs, .nils]] =>
    some (.need (okM 5 (.isl cs n none) && okV k N I u s (.isl cs n none) && okV vk vN vI vu vs .nils && decide (2 ≤ k) && fitsB k N vk vN && decide (0 ≤ ix) && decide (ix < 2 ^ I.toNat))
      (.is (.tup [val k N I 0 [] (.isl (encC (putL ix vu vs (decC cs))) (putL ix vu vs (decC cs)).length none), .int .i64 0])))
  | _ => none

def s155 : List V → Option Tr
  | [.agg [.int .i64 k, .int .i64 N, .int .i64 I, .int .u64 u, .str s, m], .agg [.int .i64 k', .int .i64 N', .int .i64 I', .int .u64 u', .str s', m']] =>
    some (.need (okM 5 m && okM 5 m' && okV k N I u s m && okV k' N' I' u' s' m' && decide (2 ≤ k) && decide (k' = k) && decide (N' = N) && decide (I' = I))
      (.is (.tup [.int .u64 (diffL (decM m) (decM m')), .int .i64 0])))
  | _ => none

def b2i (b : Bool) : Int := bif b then 1 else 0

/-- do: Select, Store, Diff, Eq. -/
noncomputable def s21 : List V → Option Tr
  | [.int .i64 op, .isl [.int .i64 k, .int .i64 N, .int .i64 I, .int .u64 u, .str s, m, .int .i64 k', .int .i64 N', .int .i64 I', .int .u64 u', .str s', m'] 2 none] =>
    if op = 24 then some (.need (okV k N I u s m && okV k' N' I' u' s' m' && decide (2 ≤ k) && decide (k' = 0) && decide (N' = I))
      (.is (.tup [val (if k = 2 then 0 else 1) N 0 (selL u' (decM m)).1 (selL u' (decM m)).2 .nils, .bool true])))
    else if op = 26 then some (.need (okM 5 m && okM 5 m' && okV k N I u s m && okV k' N' I' u' s' m' && decide (2 ≤ k) && decide (k' = k) && decide (N' = N) && decide (I' = I))
      (.is (.tup [val 0 I 0 (diffL (decM m) (decM m')) [] .nils, .bool true])))
    else if op = 18 then some (.need (okM 5 m && okM 5 m' && okV k N I u s m && okV k' N' I' u' s' m' && decide (2 ≤ k) && decide (k' = k) && decide (N' = N) && decide (I' = I))
      (.is (.tup [val 0 1 0 (b2i (cmpV (k, N, I, u, s, m) (k, N, I, u', s', m') == 0)) [] .nils, .bool true])))
    else none
  | [.int .i64 25, .isl [.int .i64 k, .int .i64 N, .int .i64 I, .int .u64 u, .str s, .nils, .int .i64 k', .int .i64 N', .int .i64 I', .int .u64 u', .str s', m', .int .i64 vk, .int .i64 vN, .int .i64 vI, .int .u64 vu, .str vs, .nils] 3 none] =>
    some (.need (okV k N I u s .nils && okV k' N' I' u' s' m' && okV vk vN vI vu vs .nils && decide (2 ≤ k) && fitsB k N vk vN && decide (k' = 0) && decide (N' = I))
      (.br (putL u' vu vs []).isEmpty (.is (.tup [val k N I 0 [] .nils, .bool true])) (.is (.tup [val k N I 0 [] (.isl (encC (putL u' vu vs [])) (putL u' vu vs []).length none), .bool true]))))
  | [.int .i64 25, .isl [.int .i64 k, .int .i64 N, .int .i64 I, .int .u64 u, .str s, .isl cs n none, .int .i64 k', .int .i64 N', .int .i64 I', .int .u64 u', .str s', m', .int .i64 vk, .int .i64 vN, .int .i64 vI, .int .u64 vu, .str vs, .nils] 3 none] =>
    some (.need (okM 5 (.isl cs n none) && okV k N I u s (.isl cs n none) && okV k' N' I' u' s' m' && okV vk vN vI vu vs .nils && decide (2 ≤ k) && fitsB k N vk vN && decide (k' = 0) && decide (N' = I))
      (.is (.tup [val k N I 0 [] (.isl (encC (putL u' vu vs (decC cs))) (putL u' vu vs (decC cs)).length none), .bool true])))
  | _ => none

/-- The meanings of the operations. -/
def meanV : V := (V.imap [V.int IntKind.i64 1, V.int IntKind.i64 2, V.int IntKind.i64 3, V.int IntKind.i64 4, V.int IntKind.i64 5, V.int IntKind.i64 6, V.int IntKind.i64 7, V.int IntKind.i64 8, V.int IntKind.i64 9, V.int IntKind.i64 10, V.int IntKind.i64 11, V.int IntKind.i64 12, V.int IntKind.i64 13, V.int IntKind.i64 14, V.int IntKind.i64 15, V.int IntKind.i64 16, V.int IntKind.i64 17, V.int IntKind.i64 18, V.int IntKind.i64 19, V.int IntKind.i64 20, V.int IntKind.i64 21, V.int IntKind.i64 22, V.int IntKind.i64 23, V.int IntKind.i64 24, V.int IntKind.i64 25, V.int IntKind.i64 26, V.int IntKind.i64 27, V.int IntKind.i64 28, V.int IntKind.i64 29, V.int IntKind.i64 30, V.int IntKind.i64 31, V.int IntKind.i64 32, V.int IntKind.i64 33, V.int IntKind.i64 34] [V.fn 198 [V.imm [V.fn 132 []]], V.fn 199 [V.imm [V.fn 134 []]], V.fn 135 [], V.fn 198 [V.imm [V.fn 136 [V.imm [V.int IntKind.i64 4]]]], V.fn 198 [V.imm [V.fn 136 [V.imm [V.int IntKind.i64 5]]]], V.fn 198 [V.imm [V.fn 138 [V.imm [V.int IntKind.i64 6]]]], V.fn 198 [V.imm [V.fn 138 [V.imm [V.int IntKind.i64 7]]]], V.fn 198 [V.imm [V.fn 138 [V.imm [V.int IntKind.i64 8]]]], V.fn 198 [V.imm [V.fn 138 [V.imm [V.int IntKind.i64 9]]]], V.fn 198 [V.imm [V.fn 138 [V.imm [V.int IntKind.i64 10]]]], V.fn 198 [V.imm [V.fn 138 [V.imm [V.int IntKind.i64 11]]]], V.fn 198 [V.imm [V.fn 138 [V.imm [V.int IntKind.i64 12]]]], V.fn 198 [V.imm [V.fn 138 [V.imm [V.int IntKind.i64 13]]]], V.fn 198 [V.imm [V.fn 138 [V.imm [V.int IntKind.i64 14]]]], V.fn 198 [V.imm [V.fn 138 [V.imm [V.int IntKind.i64 15]]]], V.fn 198 [V.imm [V.fn 138 [V.imm [V.int IntKind.i64 16]]]], V.fn 198 [V.imm [V.fn 138 [V.imm [V.int IntKind.i64 17]]]], V.fn 198 [V.imm [V.fn 140 []]], V.fn 142 [], V.fn 198 [V.imm [V.fn 144 []]], V.fn 198 [V.imm [V.fn 146 []]], V.fn 198 [V.imm [V.fn 148 [V.imm [V.int IntKind.i64 22]]]], V.fn 198 [V.imm [V.fn 148 [V.imm [V.int IntKind.i64 23]]]], V.fn 150 [], V.fn 152 [], V.fn 198 [V.imm [V.fn 154 []]], V.fn 198 [V.imm [V.fn 156 []]], V.fn 198 [V.imm [V.fn 157 []]], V.fn 199 [V.imm [V.fn 158 []]], V.fn 199 [V.imm [V.fn 159 []]], V.fn 198 [V.imm [V.fn 160 []]], V.fn 199 [V.imm [V.fn 162 []]], V.fn 198 [V.imm [V.fn 164 []]], V.fn 199 [V.imm [V.fn 165 []]]])

def s41 : List V → Option Tr
  | [] => some (.is meanV)
  | _ => none

def s18 : List V → Option Tr
  | [] => some (.is (.bool true))
  | _ => none

def lookS : List (FuncId × (List V → Option Tr)) → FuncId → List V → Option Tr
  | [], _, _ => none
  | (g, c) :: r, f, as => match f == g with
    | true => c as
    | false => lookS r f as

noncomputable def sp (K : Int) : Sp := lookS [(7, s7), (70, s70), (59, s59), (60, s60), (61, s61), (62, s62), (28, s28), (36, s36), (37, s37), (38, s38), (8, s8), (26, s26 K), (27, s27), (39, s39), (30, s30), (151, s151), (153, s153), (155, s155), (21, s21), (41, s41), (18, s18)]
end Ea
end Go.Proofs
