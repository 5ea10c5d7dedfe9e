/-
  THE LAW, as the program carries it out: a tree of answers. Conditions: none.
-/
import Derived.Test.YtnfhojipjhcjjaaGreatDoorEa16
import Derived.KernelRfl
namespace Go.Proofs
namespace Ea
open Go.Am
set_option autoImplicit false
set_option linter.unusedVariables false
set_option linter.unusedSimpArgs false
set_option maxRecDepth 100000
set_option maxHeartbeats 4000000

/-- The answers that the law leans on. -/
noncomputable def spL (K : Int) : Sp := lookS [(7, s7), (28, s28), (8, s8), (26, s26 K), (27, s27), (30, s30), (21, t21), (18, s18)]

noncomputable def callS (S : Sp) (f : FuncId) (as : List V) (k : V → Option V) : Option V := match S f as with
  | some tr => runTr tr k
  | none => none

/-- An array, made and copied. -/
noncomputable def arr (S : Sp) (s l : V) (k : V → Option V) : Option V := callS S 8 [s, l] fun v => callS S 27 [v] k

noncomputable def opS (S : Sp) (op : Int) (cells : List V) (n : Nat) (k : V → Option V) : Option V := callS S 21 [.int .i64 op, .isl cells n none] fun r => match r with
  | .tup [v, _] => k v
  | _ => none

noncomputable def cmpS30 (S : Sp) (x y : V) (k : Int → Option V) : Option V := callS S 30 [x, y] fun r => match r with
  | .int _ c => k c
  | _ => none

/-- The number in a value. -/
def uOf : V → Int
  | .agg [_, _, _, .int _ u, _, _] => u
  | _ => 0

/-- The law's second half: both arrays. -/
noncomputable def law2 (S : Sp) (a b : V) : Option V :=
  opS S 18 (a.cells ++ b.cells) 2 fun eq => opS S 26 (a.cells ++ b.cells) 2 fun at' => opS S 24 (a.cells ++ at'.cells) 2 fun u => opS S 24 (b.cells ++ at'.cells) 2 fun w =>
  cmpS30 S u w fun e3 => bif ((((uOf eq == 1 && true) != false) == ((e3 == 0 && true) != false)) && true) != false then
    cmpS30 S a b fun e4 => bif ((((uOf eq == 1 && true) != false) == ((e4 == 0 && true) != false)) && true) != false then callS S 18 [] fun r => some r else some (.bool false)
    else some (.bool false)

/-- The law behind the arrays. -/
noncomputable def law1 (S : Sp) (K N I i k n : Int) (a b : V) : Option V :=
  callS S 28 [.int .i64 i, .int .i64 I] fun xi => callS S 28 [.int .i64 k, .int .i64 I] fun yi =>
  arr S (.agg [.int .i64 (K - 2), .int .i64 N, .int .i64 0]) (.isl [.int .i64 n] 1 none) fun v =>
  opS S 25 (a.cells ++ ([.int .i64 0, .int .i64 I, .int .i64 0, xi, .str [], .nils] ++ v.cells)) 3 fun c =>
  opS S 24 (c.cells ++ [.int .i64 0, .int .i64 I, .int .i64 0, xi, .str [], .nils]) 2 fun d =>
  opS S 24 (c.cells ++ [.int .i64 0, .int .i64 I, .int .i64 0, yi, .str [], .nils]) 2 fun p =>
  opS S 24 (a.cells ++ [.int .i64 0, .int .i64 I, .int .i64 0, yi, .str [], .nils]) 2 fun q =>
  cmpS30 S d v fun e1 => bif (e1 == 0 && true) != true then some (.bool false) else
  match xi, yi with
  | .int _ x, .int _ y => bif (x == y && true) != true then
      cmpS30 S p q fun e2 => bif (e2 == 0 && true) != true then some (.bool false) else law2 S a b
      else law2 S a b
  | _, _ => none

/-- The number of the law's sort. -/
def sortN (sort n : Int) : Int := IntKind.i64.wrap (IntKind.i64.wrap (2 + IntKind.i64.wrap (4 * around sort 65536)) + around n 2)

noncomputable def lawT (S : Sp) (l m : V) (sort i k n : Int) : Option V :=
  callS S 26 [.int .i64 (sortN sort n)] fun s => match s with
  | .agg [.int _ K, .int _ N, .int _ I] =>
    arr S s l fun a => arr S s m fun b => bif (around n 5 == 0 && true) != false then arr S s l fun b => law1 S K N I i k n a b else law1 S K N I i k n a b
  | _ => none

theorem x5_2_nn (sort i k n : Int) : fnX E (spL 2) 40 c5 [.int .i64 sort, .nils, .nils, .int .i64 i, .int .i64 k, .int .i64 n] = lawT (spL 2) .nils .nils sort i k n := by kernel_rfl
theorem x5_3_nn (sort i k n : Int) : fnX E (spL 3) 40 c5 [.int .i64 sort, .nils, .nils, .int .i64 i, .int .i64 k, .int .i64 n] = lawT (spL 3) .nils .nils sort i k n := by kernel_rfl
theorem x5_2_ni (sort i k n : Int) (ds : List V) (len2 : Nat) : fnX E (spL 2) 40 c5 [.int .i64 sort, .nils, .isl ds len2 none, .int .i64 i, .int .i64 k, .int .i64 n] = lawT (spL 2) .nils (.isl ds len2 none) sort i k n := by kernel_rfl
theorem x5_3_ni (sort i k n : Int) (ds : List V) (len2 : Nat) : fnX E (spL 3) 40 c5 [.int .i64 sort, .nils, .isl ds len2 none, .int .i64 i, .int .i64 k, .int .i64 n] = lawT (spL 3) .nils (.isl ds len2 none) sort i k n := by kernel_rfl
theorem x5_2_in (sort i k n : Int) (cs : List V) (len : Nat) : fnX E (spL 2) 40 c5 [.int .i64 sort, .isl cs len none, .nils, .int .i64 i, .int .i64 k, .int .i64 n] = lawT (spL 2) (.isl cs len none) .nils sort i k n := by kernel_rfl
theorem x5_3_in (sort i k n : Int) (cs : List V) (len : Nat) : fnX E (spL 3) 40 c5 [.int .i64 sort, .isl cs len none, .nils, .int .i64 i, .int .i64 k, .int .i64 n] = lawT (spL 3) (.isl cs len none) .nils sort i k n := by kernel_rfl
theorem x5_2_ii (sort i k n : Int) (cs ds : List V) (len len2 : Nat) : fnX E (spL 2) 40 c5 [.int .i64 sort, .isl cs len none, .isl ds len2 none, .int .i64 i, .int .i64 k, .int .i64 n] = lawT (spL 2) (.isl cs len none) (.isl ds len2 none) sort i k n := by kernel_rfl
theorem x5_3_ii (sort i k n : Int) (cs ds : List V) (len len2 : Nat) : fnX E (spL 3) 40 c5 [.int .i64 sort, .isl cs len none, .isl ds len2 none, .int .i64 i, .int .i64 k, .int .i64 n] = lawT (spL 3) (.isl cs len none) (.isl ds len2 none) sort i k n := by kernel_rfl
end Ea
end Go.Proofs
