/-
  THE OPERATIONS, as the law calls them; the example of the section. Conditions: as each theorem names them.
-/
import Derived.Test.YtnfhojipjhcjjaaGreatDoorEa7
import Derived.Test.YtnfhojipjhcjjaaGreatDoorEa9
import Derived.Test.YtnfhojipjhcjjaaGreatDoorEa14
import Derived.Test.YtnfhojipjhcjjaaGreatDoorEa15
import Derived.KernelRfl
namespace Go.Proofs
namespace Ea
open Go.Am
set_option autoImplicit false
set_option linter.unusedVariables false
set_option linter.unusedSimpArgs false
set_option maxRecDepth 100000
set_option maxHeartbeats 4000000

theorem x21_24_2_n (N I u I2 u2 : Int) (s s2 : List UInt8) (cs : List V) (len : Nat) : fnX E (on [39, 41, 151, 153, 155, 30] (sp 0)) 30 c21 [.int .i64 24, .isl [.int .i64 2, .int .i64 N, .int .i64 I, .int .u64 u, .str s, .nils, .int .i64 0, .int .i64 I, .int .i64 I2, .int .u64 u2, .str s2, .nils] 2 none] = bif okV 2 N I u s .nils then bif okV 0 I I2 u2 s2 .nils then bif !(true && (I == I && (I2 == 0 && true))) != false then some (.tup [.agg [.int .i64 0, .int .i64 0, .int .i64 0, .int .u64 0, .str [], .nils], .bool false]) else bif okV 2 N I u s .nils && true && decide (0 ≤ u2) && decide (u2 < 2 ^ I.toNat) then some (.tup [.agg [.int .i64 0, .int .i64 N, .int .i64 0, .int .u64 (selL u2 (decM .nils)).fst, .str [], .nils], .bool true]) else none else none else none := by kernel_rfl

theorem x21_24_2_i (N I u I2 u2 : Int) (s s2 : List UInt8) (cs : List V) (len : Nat) : fnX E (on [39, 41, 151, 153, 155, 30] (sp 0)) 30 c21 [.int .i64 24, .isl [.int .i64 2, .int .i64 N, .int .i64 I, .int .u64 u, .str s, .isl cs len none, .int .i64 0, .int .i64 I, .int .i64 I2, .int .u64 u2, .str s2, .nils] 2 none] = bif okV 2 N I u s (.isl cs len none) then bif okV 0 I I2 u2 s2 .nils then bif !(true && (I == I && (I2 == 0 && true))) != false then some (.tup [.agg [.int .i64 0, .int .i64 0, .int .i64 0, .int .u64 0, .str [], .nils], .bool false]) else bif okV 2 N I u s (.isl cs len none) && true && decide (0 ≤ u2) && decide (u2 < 2 ^ I.toNat) then some (.tup [.agg [.int .i64 0, .int .i64 N, .int .i64 0, .int .u64 (selL u2 (decM (.isl cs len none))).fst, .str (selL u2 (decM (.isl cs len none))).2, .nils], .bool true]) else none else none else none := by kernel_rfl

theorem x21_26_2_n_n (N I u u2 : Int) (s s2 : List UInt8) (cs cs2 : List V) (len len2 : Nat) : fnX E (on [39, 41, 151, 153, 155, 30] (sp 0)) 30 c21 [.int .i64 26, .isl [.int .i64 2, .int .i64 N, .int .i64 I, .int .u64 u, .str s, .nils, .int .i64 2, .int .i64 N, .int .i64 I, .int .u64 u2, .str s2, .nils] 2 none] = bif okV 2 N I u s .nils then bif okV 2 N I u2 s2 .nils then bif !(true && (N == N && (I == I && true))) != false then some (.tup [.agg [.int .i64 0, .int .i64 0, .int .i64 0, .int .u64 0, .str [], .nils], .bool false]) else bif true && okV 2 N I u s .nils && okV 2 N I u2 s2 .nils && true && true && decide (N = N) && decide (I = I) then some (.tup [.agg [.int .i64 0, .int .i64 I, .int .i64 0, .int .u64 0, .str [], .nils], .bool true]) else none else none else none := by kernel_rfl

theorem x21_18_2_n_n (N I u u2 : Int) (s s2 : List UInt8) (cs cs2 : List V) (len len2 : Nat) : fnX E (on [39, 41, 151, 153, 155, 30] (sp 0)) 30 c21 [.int .i64 18, .isl [.int .i64 2, .int .i64 N, .int .i64 I, .int .u64 u, .str s, .nils, .int .i64 2, .int .i64 N, .int .i64 I, .int .u64 u2, .str s2, .nils] 2 none] = bif okV 2 N I u s .nils then bif okV 2 N I u2 s2 .nils then bif (true && (N == N && (I == I && true))) != false then bif (cmpV (2, N, I, u, s, .nils) (2, N, I, u2, s2, .nils) == 0 && true) != false then some (.tup [.agg [.int .i64 0, .int .i64 1, .int .i64 0, .int .u64 1, .str [], .nils], .bool true]) else some (.tup [.agg [.int .i64 0, .int .i64 1, .int .i64 0, .int .u64 0, .str [], .nils], .bool true]) else some (.tup [.agg [.int .i64 0, .int .i64 0, .int .i64 0, .int .u64 0, .str [], .nils], .bool false]) else none else none := by kernel_rfl

theorem x21_26_2_n_i (N I u u2 : Int) (s s2 : List UInt8) (cs cs2 : List V) (len len2 : Nat) : fnX E (on [39, 41, 151, 153, 155, 30] (sp 0)) 30 c21 [.int .i64 26, .isl [.int .i64 2, .int .i64 N, .int .i64 I, .int .u64 u, .str s, .nils, .int .i64 2, .int .i64 N, .int .i64 I, .int .u64 u2, .str s2, .isl cs2 len2 none] 2 none] = bif okV 2 N I u s .nils then bif okV 2 N I u2 s2 (.isl cs2 len2 none) then bif !(true && (N == N && (I == I && true))) != false then some (.tup [.agg [.int .i64 0, .int .i64 0, .int .i64 0, .int .u64 0, .str [], .nils], .bool false]) else bif true && okM 5 (.isl cs2 len2 none) && okV 2 N I u s .nils && okV 2 N I u2 s2 (.isl cs2 len2 none) && true && true && decide (N = N) && decide (I = I) then some (.tup [.agg [.int .i64 0, .int .i64 I, .int .i64 0, .int .u64 (diffL (decM .nils) (decM (.isl cs2 len2 none))), .str [], .nils], .bool true]) else none else none else none := by kernel_rfl

theorem x21_18_2_n_i (N I u u2 : Int) (s s2 : List UInt8) (cs cs2 : List V) (len len2 : Nat) : fnX E (on [39, 41, 151, 153, 155, 30] (sp 0)) 30 c21 [.int .i64 18, .isl [.int .i64 2, .int .i64 N, .int .i64 I, .int .u64 u, .str s, .nils, .int .i64 2, .int .i64 N, .int .i64 I, .int .u64 u2, .str s2, .isl cs2 len2 none] 2 none] = bif okV 2 N I u s .nils then bif okV 2 N I u2 s2 (.isl cs2 len2 none) then bif (true && (N == N && (I == I && true))) != false then bif true && okM 5 (.isl cs2 len2 none) then bif (cmpV (2, N, I, u, s, .nils) (2, N, I, u2, s2, .isl cs2 len2 none) == 0 && true) != false then some (.tup [.agg [.int .i64 0, .int .i64 1, .int .i64 0, .int .u64 1, .str [], .nils], .bool true]) else some (.tup [.agg [.int .i64 0, .int .i64 1, .int .i64 0, .int .u64 0, .str [], .nils], .bool true]) else none else some (.tup [.agg [.int .i64 0, .int .i64 0, .int .i64 0, .int .u64 0, .str [], .nils], .bool false]) else none else none := by kernel_rfl

theorem x21_26_2_i_n (N I u u2 : Int) (s s2 : List UInt8) (cs cs2 : List V) (len len2 : Nat) : fnX E (on [39, 41, 151, 153, 155, 30] (sp 0)) 30 c21 [.int .i64 26, .isl [.int .i64 2, .int .i64 N, .int .i64 I, .int .u64 u, .str s, .isl cs len none, .int .i64 2, .int .i64 N, .int .i64 I, .int .u64 u2, .str s2, .nils] 2 none] = bif okV 2 N I u s (.isl cs len none) then bif okV 2 N I u2 s2 .nils then bif !(true && (N == N && (I == I && true))) != false then some (.tup [.agg [.int .i64 0, .int .i64 0, .int .i64 0, .int .u64 0, .str [], .nils], .bool false]) else bif okM 5 (.isl cs len none) && true && okV 2 N I u s (.isl cs len none) && okV 2 N I u2 s2 .nils && true && true && decide (N = N) && decide (I = I) then some (.tup [.agg [.int .i64 0, .int .i64 I, .int .i64 0, .int .u64 (diffL (decM (.isl cs len none)) (decM .nils)), .str [], .nils], .bool true]) else none else none else none := by kernel_rfl

theorem x21_18_2_i_n (N I u u2 : Int) (s s2 : List UInt8) (cs cs2 : List V) (len len2 : Nat) : fnX E (on [39, 41, 151, 153, 155, 30] (sp 0)) 30 c21 [.int .i64 18, .isl [.int .i64 2, .int .i64 N, .int .i64 I, .int .u64 u, .str s, .isl cs len none, .int .i64 2, .int .i64 N, .int .i64 I, .int .u64 u2, .str s2, .nils] 2 none] = bif okV 2 N I u s (.isl cs len none) then bif okV 2 N I u2 s2 .nils then bif (true && (N == N && (I == I && true))) != false then bif okM 5 (.isl cs len none) && true then bif (cmpV (2, N, I, u, s, .isl cs len none) (2, N, I, u2, s2, .nils) == 0 && true) != false then some (.tup [.agg [.int .i64 0, .int .i64 1, .int .i64 0, .int .u64 1, .str [], .nils], .bool true]) else some (.tup [.agg [.int .i64 0, .int .i64 1, .int .i64 0, .int .u64 0, .str [], .nils], .bool true]) else none else some (.tup [.agg [.int .i64 0, .int .i64 0, .int .i64 0, .int .u64 0, .str [], .nils], .bool false]) else none else none := by kernel_rfl

theorem x21_26_2_i_i (N I u u2 : Int) (s s2 : List UInt8) (cs cs2 : List V) (len len2 : Nat) : fnX E (on [39, 41, 151, 153, 155, 30] (sp 0)) 30 c21 [.int .i64 26, .isl [.int .i64 2, .int .i64 N, .int .i64 I, .int .u64 u, .str s, .isl cs len none, .int .i64 2, .int .i64 N, .int .i64 I, .int .u64 u2, .str s2, .isl cs2 len2 none] 2 none] = bif okV 2 N I u s (.isl cs len none) then bif okV 2 N I u2 s2 (.isl cs2 len2 none) then bif !(true && (N == N && (I == I && true))) != false then some (.tup [.agg [.int .i64 0, .int .i64 0, .int .i64 0, .int .u64 0, .str [], .nils], .bool false]) else bif okM 5 (.isl cs len none) && okM 5 (.isl cs2 len2 none) && okV 2 N I u s (.isl cs len none) && okV 2 N I u2 s2 (.isl cs2 len2 none) && true && true && decide (N = N) && decide (I = I) then some (.tup [.agg [.int .i64 0, .int .i64 I, .int .i64 0, .int .u64 (diffL (decM (.isl cs len none)) (decM (.isl cs2 len2 none))), .str [], .nils], .bool true]) else none else none else none := by kernel_rfl

theorem x21_18_2_i_i (N I u u2 : Int) (s s2 : List UInt8) (cs cs2 : List V) (len len2 : Nat) : fnX E (on [39, 41, 151, 153, 155, 30] (sp 0)) 30 c21 [.int .i64 18, .isl [.int .i64 2, .int .i64 N, .int .i64 I, .int .u64 u, .str s, .isl cs len none, .int .i64 2, .int .i64 N, .int .i64 I, .int .u64 u2, .str s2, .isl cs2 len2 none] 2 none] = bif okV 2 N I u s (.isl cs len none) then bif okV 2 N I u2 s2 (.isl cs2 len2 none) then bif (true && (N == N && (I == I && true))) != false then bif okM 5 (.isl cs len none) && okM 5 (.isl cs2 len2 none) then bif (cmpV (2, N, I, u, s, .isl cs len none) (2, N, I, u2, s2, .isl cs2 len2 none) == 0 && true) != false then some (.tup [.agg [.int .i64 0, .int .i64 1, .int .i64 0, .int .u64 1, .str [], .nils], .bool true]) else some (.tup [.agg [.int .i64 0, .int .i64 1, .int .i64 0, .int .u64 0, .str [], .nils], .bool true]) else none else some (.tup [.agg [.int .i64 0, .int .i64 0, .int .i64 0, .int .u64 0, .str [], .nils], .bool false]) else none else none := by kernel_rfl

theorem x21_25_2_n (N I u I2 u2 vN vI vu : Int) (s s2 vs : List UInt8) (cs : List V) (len : Nat) : fnX E (on [39, 41, 151, 153, 155, 30] (sp 0)) 30 c21 [.int .i64 25, .isl [.int .i64 2, .int .i64 N, .int .i64 I, .int .u64 u, .str s, .nils, .int .i64 0, .int .i64 I, .int .i64 I2, .int .u64 u2, .str s2, .nils, .int .i64 0, .int .i64 N, .int .i64 vI, .int .u64 vu, .str vs, .nils] 3 none] = bif okV 2 N I u s .nils then bif okV 0 I I2 u2 s2 .nils then bif okV 0 N vI vu vs .nils then bif (true && (I == I && (I2 == 0 && true))) != false then bif !(true && (N == N && (vI == 0 && true))) != false then some (.tup [.agg [.int .i64 0, .int .i64 0, .int .i64 0, .int .u64 0, .str [], .nils], .bool false]) else bif okV 2 N I u s .nils && okV 0 N vI vu vs .nils && true && fitsB 2 N 0 N && decide (0 ≤ u2) && decide (u2 < 2 ^ I.toNat) then bif (putL u2 vu vs []).isEmpty then some (.tup [.agg [.int .i64 2, .int .i64 N, .int .i64 I, .int .u64 0, .str [], .nils], .bool true]) else some (.tup [.agg [.int .i64 2, .int .i64 N, .int .i64 I, .int .u64 0, .str [], V.isl (encC (putL u2 vu vs [])) (putL u2 vu vs []).length none], .bool true]) else none else some (.tup [.agg [.int .i64 0, .int .i64 0, .int .i64 0, .int .u64 0, .str [], .nils], .bool false]) else none else none else none := by kernel_rfl

theorem x21_25_2_i (N I u I2 u2 vN vI vu : Int) (s s2 vs : List UInt8) (cs : List V) (len : Nat) : fnX E (on [39, 41, 151, 153, 155, 30] (sp 0)) 30 c21 [.int .i64 25, .isl [.int .i64 2, .int .i64 N, .int .i64 I, .int .u64 u, .str s, .isl cs len none, .int .i64 0, .int .i64 I, .int .i64 I2, .int .u64 u2, .str s2, .nils, .int .i64 0, .int .i64 N, .int .i64 vI, .int .u64 vu, .str vs, .nils] 3 none] = bif okV 2 N I u s (.isl cs len none) then bif okV 0 I I2 u2 s2 .nils then bif okV 0 N vI vu vs .nils then bif (true && (I == I && (I2 == 0 && true))) != false then bif !(true && (N == N && (vI == 0 && true))) != false then some (.tup [.agg [.int .i64 0, .int .i64 0, .int .i64 0, .int .u64 0, .str [], .nils], .bool false]) else bif okM 5 (.isl cs len none) && okV 2 N I u s (.isl cs len none) && okV 0 N vI vu vs .nils && true && fitsB 2 N 0 N && decide (0 ≤ u2) && decide (u2 < 2 ^ I.toNat) then some (.tup [.agg [.int .i64 2, .int .i64 N, .int .i64 I, .int .u64 0, .str [], V.isl (encC (putL u2 vu vs (decC cs))) (putL u2 vu vs (decC cs)).length none], .bool true]) else none else some (.tup [.agg [.int .i64 0, .int .i64 0, .int .i64 0, .int .u64 0, .str [], .nils], .bool false]) else none else none else none := by kernel_rfl

theorem x21_24_3_n (N I u I2 u2 : Int) (s s2 : List UInt8) (cs : List V) (len : Nat) : fnX E (on [39, 41, 151, 153, 155, 30] (sp 0)) 30 c21 [.int .i64 24, .isl [.int .i64 3, .int .i64 N, .int .i64 I, .int .u64 u, .str s, .nils, .int .i64 0, .int .i64 I, .int .i64 I2, .int .u64 u2, .str s2, .nils] 2 none] = bif okV 3 N I u s .nils then bif okV 0 I I2 u2 s2 .nils then bif !(true && (I == I && (I2 == 0 && true))) != false then some (.tup [.agg [.int .i64 0, .int .i64 0, .int .i64 0, .int .u64 0, .str [], .nils], .bool false]) else bif okV 3 N I u s .nils && true && decide (0 ≤ u2) && decide (u2 < 2 ^ I.toNat) then some (.tup [.agg [.int .i64 1, .int .i64 N, .int .i64 0, .int .u64 (selL u2 (decM .nils)).fst, .str [], .nils], .bool true]) else none else none else none := by kernel_rfl

theorem x21_24_3_i (N I u I2 u2 : Int) (s s2 : List UInt8) (cs : List V) (len : Nat) : fnX E (on [39, 41, 151, 153, 155, 30] (sp 0)) 30 c21 [.int .i64 24, .isl [.int .i64 3, .int .i64 N, .int .i64 I, .int .u64 u, .str s, .isl cs len none, .int .i64 0, .int .i64 I, .int .i64 I2, .int .u64 u2, .str s2, .nils] 2 none] = bif okV 3 N I u s (.isl cs len none) then bif okV 0 I I2 u2 s2 .nils then bif !(true && (I == I && (I2 == 0 && true))) != false then some (.tup [.agg [.int .i64 0, .int .i64 0, .int .i64 0, .int .u64 0, .str [], .nils], .bool false]) else bif okV 3 N I u s (.isl cs len none) && true && decide (0 ≤ u2) && decide (u2 < 2 ^ I.toNat) then some (.tup [.agg [.int .i64 1, .int .i64 N, .int .i64 0, .int .u64 (selL u2 (decM (.isl cs len none))).fst, .str (selL u2 (decM (.isl cs len none))).2, .nils], .bool true]) else none else none else none := by kernel_rfl

theorem x21_26_3_n_n (N I u u2 : Int) (s s2 : List UInt8) (cs cs2 : List V) (len len2 : Nat) : fnX E (on [39, 41, 151, 153, 155, 30] (sp 0)) 30 c21 [.int .i64 26, .isl [.int .i64 3, .int .i64 N, .int .i64 I, .int .u64 u, .str s, .nils, .int .i64 3, .int .i64 N, .int .i64 I, .int .u64 u2, .str s2, .nils] 2 none] = bif okV 3 N I u s .nils then bif okV 3 N I u2 s2 .nils then bif !(true && (N == N && (I == I && true))) != false then some (.tup [.agg [.int .i64 0, .int .i64 0, .int .i64 0, .int .u64 0, .str [], .nils], .bool false]) else bif true && okV 3 N I u s .nils && okV 3 N I u2 s2 .nils && true && true && decide (N = N) && decide (I = I) then some (.tup [.agg [.int .i64 0, .int .i64 I, .int .i64 0, .int .u64 0, .str [], .nils], .bool true]) else none else none else none := by kernel_rfl

theorem x21_18_3_n_n (N I u u2 : Int) (s s2 : List UInt8) (cs cs2 : List V) (len len2 : Nat) : fnX E (on [39, 41, 151, 153, 155, 30] (sp 0)) 30 c21 [.int .i64 18, .isl [.int .i64 3, .int .i64 N, .int .i64 I, .int .u64 u, .str s, .nils, .int .i64 3, .int .i64 N, .int .i64 I, .int .u64 u2, .str s2, .nils] 2 none] = bif okV 3 N I u s .nils then bif okV 3 N I u2 s2 .nils then bif (true && (N == N && (I == I && true))) != false then bif (cmpV (3, N, I, u, s, .nils) (3, N, I, u2, s2, .nils) == 0 && true) != false then some (.tup [.agg [.int .i64 0, .int .i64 1, .int .i64 0, .int .u64 1, .str [], .nils], .bool true]) else some (.tup [.agg [.int .i64 0, .int .i64 1, .int .i64 0, .int .u64 0, .str [], .nils], .bool true]) else some (.tup [.agg [.int .i64 0, .int .i64 0, .int .i64 0, .int .u64 0, .str [], .nils], .bool false]) else none else none := by kernel_rfl

theorem x21_26_3_n_i (N I u u2 : Int) (s s2 : List UInt8) (cs cs2 : List V) (len len2 : Nat) : fnX E (on [39, 41, 151, 153, 155, 30] (sp 0)) 30 c21 [.int .i64 26, .isl [.int .i64 3, .int .i64 N, .int .i64 I, .int .u64 u, .str s, .nils, .int .i64 3, .int .i64 N, .int .i64 I, .int .u64 u2, .str s2, .isl cs2 len2 none] 2 none] = bif okV 3 N I u s .nils then bif okV 3 N I u2 s2 (.isl cs2 len2 none) then bif !(true && (N == N && (I == I && true))) != false then some (.tup [.agg [.int .i64 0, .int .i64 0, .int .i64 0, .int .u64 0, .str [], .nils], .bool false]) else bif true && okM 5 (.isl cs2 len2 none) && okV 3 N I u s .nils && okV 3 N I u2 s2 (.isl cs2 len2 none) && true && true && decide (N = N) && decide (I = I) then some (.tup [.agg [.int .i64 0, .int .i64 I, .int .i64 0, .int .u64 (diffL (decM .nils) (decM (.isl cs2 len2 none))), .str [], .nils], .bool true]) else none else none else none := by kernel_rfl

theorem x21_18_3_n_i (N I u u2 : Int) (s s2 : List UInt8) (cs cs2 : List V) (len len2 : Nat) : fnX E (on [39, 41, 151, 153, 155, 30] (sp 0)) 30 c21 [.int .i64 18, .isl [.int .i64 3, .int .i64 N, .int .i64 I, .int .u64 u, .str s, .nils, .int .i64 3, .int .i64 N, .int .i64 I, .int .u64 u2, .str s2, .isl cs2 len2 none] 2 none] = bif okV 3 N I u s .nils then bif okV 3 N I u2 s2 (.isl cs2 len2 none) then bif (true && (N == N && (I == I && true))) != false then bif true && okM 5 (.isl cs2 len2 none) then bif (cmpV (3, N, I, u, s, .nils) (3, N, I, u2, s2, .isl cs2 len2 none) == 0 && true) != false then some (.tup [.agg [.int .i64 0, .int .i64 1, .int .i64 0, .int .u64 1, .str [], .nils], .bool true]) else some (.tup [.agg [.int .i64 0, .int .i64 1, .int .i64 0, .int .u64 0, .str [], .nils], .bool true]) else none else some (.tup [.agg [.int .i64 0, .int .i64 0, .int .i64 0, .int .u64 0, .str [], .nils], .bool false]) else none else none := by kernel_rfl

theorem x21_26_3_i_n (N I u u2 : Int) (s s2 : List UInt8) (cs cs2 : List V) (len len2 : Nat) : fnX E (on [39, 41, 151, 153, 155, 30] (sp 0)) 30 c21 [.int .i64 26, .isl [.int .i64 3, .int .i64 N, .int .i64 I, .int .u64 u, .str s, .isl cs len none, .int .i64 3, .int .i64 N, .int .i64 I, .int .u64 u2, .str s2, .nils] 2 none] = bif okV 3 N I u s (.isl cs len none) then bif okV 3 N I u2 s2 .nils then bif !(true && (N == N && (I == I && true))) != false then some (.tup [.agg [.int .i64 0, .int .i64 0, .int .i64 0, .int .u64 0, .str [], .nils], .bool false]) else bif okM 5 (.isl cs len none) && true && okV 3 N I u s (.isl cs len none) && okV 3 N I u2 s2 .nils && true && true && decide (N = N) && decide (I = I) then some (.tup [.agg [.int .i64 0, .int .i64 I, .int .i64 0, .int .u64 (diffL (decM (.isl cs len none)) (decM .nils)), .str [], .nils], .bool true]) else none else none else none := by kernel_rfl

theorem x21_18_3_i_n (N I u u2 : Int) (s s2 : List UInt8) (cs cs2 : List V) (len len2 : Nat) : fnX E (on [39, 41, 151, 153, 155, 30] (sp 0)) 30 c21 [.int .i64 18, .isl [.int .i64 3, .int .i64 N, .int .i64 I, .int .u64 u, .str s, .isl cs len none, .int .i64 3, .int .i64 N, .int .i64 I, .int .u64 u2, .str s2, .nils] 2 none] = bif okV 3 N I u s (.isl cs len none) then bif okV 3 N I u2 s2 .nils then bif (true && (N == N && (I == I && true))) != false then bif okM 5 (.isl cs len none) && true then bif (cmpV (3, N, I, u, s, .isl cs len none) (3, N, I, u2, s2, .nils) == 0 && true) != false then some (.tup [.agg [.int .i64 0, .int .i64 1, .int .i64 0, .int .u64 1, .str [], .nils], .bool true]) else some (.tup [.agg [.int .i64 0, .int .i64 1, .int .i64 0, .int .u64 0, .str [], .nils], .bool true]) else none else some (.tup [.agg [.int .i64 0, .int .i64 0, .int .i64 0, .int .u64 0, .str [], .nils], .bool false]) else none else none := by kernel_rfl

theorem x21_26_3_i_i (N I u u2 : Int) (s s2 : List UInt8) (cs cs2 : List V) (len len2 : Nat) : fnX E (on [39, 41, 151, 153, 155, 30] (sp 0)) 30 c21 [.int .i64 26, .isl [.int .i64 3, .int .i64 N, .int .i64 I, .int .u64 u, .str s, .isl cs len none, .int .i64 3, .int .i64 N, .int .i64 I, .int .u64 u2, .str s2, .isl cs2 len2 none] 2 none] = bif okV 3 N I u s (.isl cs len none) then bif okV 3 N I u2 s2 (.isl cs2 len2 none) then bif !(true && (N == N && (I == I && true))) != false then some (.tup [.agg [.int .i64 0, .int .i64 0, .int .i64 0, .int .u64 0, .str [], .nils], .bool false]) else bif okM 5 (.isl cs len none) && okM 5 (.isl cs2 len2 none) && okV 3 N I u s (.isl cs len none) && okV 3 N I u2 s2 (.isl cs2 len2 none) && true && true && decide (N = N) && decide (I = I) then some (.tup [.agg [.int .i64 0, .int .i64 I, .int .i64 0, .int .u64 (diffL (decM (.isl cs len none)) (decM (.isl cs2 len2 none))), .str [], .nils], .bool true]) else none else none else none := by kernel_rfl

theorem x21_18_3_i_i (N I u u2 : Int) (s s2 : List UInt8) (cs cs2 : List V) (len len2 : Nat) : fnX E (on [39, 41, 151, 153, 155, 30] (sp 0)) 30 c21 [.int .i64 18, .isl [.int .i64 3, .int .i64 N, .int .i64 I, .int .u64 u, .str s, .isl cs len none, .int .i64 3, .int .i64 N, .int .i64 I, .int .u64 u2, .str s2, .isl cs2 len2 none] 2 none] = bif okV 3 N I u s (.isl cs len none) then bif okV 3 N I u2 s2 (.isl cs2 len2 none) then bif (true && (N == N && (I == I && true))) != false then bif okM 5 (.isl cs len none) && okM 5 (.isl cs2 len2 none) then bif (cmpV (3, N, I, u, s, .isl cs len none) (3, N, I, u2, s2, .isl cs2 len2 none) == 0 && true) != false then some (.tup [.agg [.int .i64 0, .int .i64 1, .int .i64 0, .int .u64 1, .str [], .nils], .bool true]) else some (.tup [.agg [.int .i64 0, .int .i64 1, .int .i64 0, .int .u64 0, .str [], .nils], .bool true]) else none else some (.tup [.agg [.int .i64 0, .int .i64 0, .int .i64 0, .int .u64 0, .str [], .nils], .bool false]) else none else none := by kernel_rfl

theorem x21_25_3_n (N I u I2 u2 vN vI vu : Int) (s s2 vs : List UInt8) (cs : List V) (len : Nat) : fnX E (on [39, 41, 151, 153, 155, 30] (sp 0)) 30 c21 [.int .i64 25, .isl [.int .i64 3, .int .i64 N, .int .i64 I, .int .u64 u, .str s, .nils, .int .i64 0, .int .i64 I, .int .i64 I2, .int .u64 u2, .str s2, .nils, .int .i64 1, .int .i64 vN, .int .i64 vI, .int .u64 vu, .str vs, .nils] 3 none] = bif okV 3 N I u s .nils then bif okV 0 I I2 u2 s2 .nils then bif okV 1 vN vI vu vs .nils then bif (true && (I == I && (I2 == 0 && true))) != false then bif !decide (vN ≤ N) then some (.tup [.agg [.int .i64 0, .int .i64 0, .int .i64 0, .int .u64 0, .str [], .nils], .bool false]) else bif okV 3 N I u s .nils && okV 1 vN vI vu vs .nils && true && fitsB 3 N 1 vN && decide (0 ≤ u2) && decide (u2 < 2 ^ I.toNat) then bif (putL u2 vu vs []).isEmpty then some (.tup [.agg [.int .i64 3, .int .i64 N, .int .i64 I, .int .u64 0, .str [], .nils], .bool true]) else some (.tup [.agg [.int .i64 3, .int .i64 N, .int .i64 I, .int .u64 0, .str [], V.isl (encC (putL u2 vu vs [])) (putL u2 vu vs []).length none], .bool true]) else none else some (.tup [.agg [.int .i64 0, .int .i64 0, .int .i64 0, .int .u64 0, .str [], .nils], .bool false]) else none else none else none := by kernel_rfl

theorem x21_25_3_i (N I u I2 u2 vN vI vu : Int) (s s2 vs : List UInt8) (cs : List V) (len : Nat) : fnX E (on [39, 41, 151, 153, 155, 30] (sp 0)) 30 c21 [.int .i64 25, .isl [.int .i64 3, .int .i64 N, .int .i64 I, .int .u64 u, .str s, .isl cs len none, .int .i64 0, .int .i64 I, .int .i64 I2, .int .u64 u2, .str s2, .nils, .int .i64 1, .int .i64 vN, .int .i64 vI, .int .u64 vu, .str vs, .nils] 3 none] = bif okV 3 N I u s (.isl cs len none) then bif okV 0 I I2 u2 s2 .nils then bif okV 1 vN vI vu vs .nils then bif (true && (I == I && (I2 == 0 && true))) != false then bif !decide (vN ≤ N) then some (.tup [.agg [.int .i64 0, .int .i64 0, .int .i64 0, .int .u64 0, .str [], .nils], .bool false]) else bif okM 5 (.isl cs len none) && okV 3 N I u s (.isl cs len none) && okV 1 vN vI vu vs .nils && true && fitsB 3 N 1 vN && decide (0 ≤ u2) && decide (u2 < 2 ^ I.toNat) then some (.tup [.agg [.int .i64 3, .int .i64 N, .int .i64 I, .int .u64 0, .str [], V.isl (encC (putL u2 vu vs (decC cs))) (putL u2 vu vs (decC cs)).length none], .bool true]) else none else some (.tup [.agg [.int .i64 0, .int .i64 0, .int .i64 0, .int .u64 0, .str [], .nils], .bool false]) else none else none else none := by kernel_rfl


theorem ok21 (K : Int) : SpOK E (on [39, 41, 151, 153, 155, 30] (sp K)) := on_cons (on_cons (on_cons (on_cons (on_cons (on_cons (on_nil _) (fun as r v e q _ => a30 as r v e q)) (fun as r v e q _ => a155 as r v e q)) (fun as r v e q _ => a153 as r v e q)) (fun as r v e q _ => a151 as r v e q)) (fun as r v e q _ => a41 as r v e q)) (fun as r v e q _ => a39 as r v e q)

theorem okM_form {n : Nat} {m : V} (h : okM n m = true) : m = .nils ∨ ∃ cs len, m = .isl cs len none := by
  rcases okM_cases h with h | ⟨l, _, h⟩
  · exact .inl h
  · exact .inr ⟨_, _, h⟩

/-- do, as the law calls it. -/
noncomputable def t21 : List V → Option Tr
  | [.int .i64 24, .isl [.int .i64 k, .int .i64 N, .int .i64 I, .int .u64 u, .str s, m, .int .i64 k', .int .i64 N', .int .i64 I', .int .u64 u', .str s', .nils] 2 none] =>
    some (.need (okV k N I u s m && okV k' N' I' u' s' .nils && decide (2 ≤ k) && decide (k' = 0) && decide (N' = I))
      (.is (.tup [val (k - 2) N 0 (selL u' (decM m)).1 (selL u' (decM m)).2 .nils, .bool true])))
  | [.int .i64 26, .isl [.int .i64 k, .int .i64 N, .int .i64 I, .int .u64 u, .str s, m, .int .i64 k', .int .i64 N', .int .i64 I', .int .u64 u', .str s', m'] 2 none] =>
    some (.need (okM 5 m && okM 5 m' && okV k N I u s m && okV k' N' I' u' s' m' && decide (2 ≤ k) && decide (k' = k) && decide (N' = N) && decide (I' = I))
      (.is (.tup [val 0 I 0 (diffL (decM m) (decM m')) [] .nils, .bool true])))
  | [.int .i64 18, .isl [.int .i64 k, .int .i64 N, .int .i64 I, .int .u64 u, .str s, m, .int .i64 k', .int .i64 N', .int .i64 I', .int .u64 u', .str s', m'] 2 none] =>
    some (.need (okM 5 m && okM 5 m' && okV k N I u s m && okV k' N' I' u' s' m' && decide (2 ≤ k) && decide (k' = k) && decide (N' = N) && decide (I' = I))
      (.is (.tup [val 0 1 0 (b2i (cmpV (k, N, I, u, s, m) (k, N, I, u', s', m') == 0)) [] .nils, .bool true])))
  | [.int .i64 25, .isl [.int .i64 k, .int .i64 N, .int .i64 I, .int .u64 u, .str s, .nils, .int .i64 k', .int .i64 N', .int .i64 I', .int .u64 u', .str s', .nils, .int .i64 vk, .int .i64 vN, .int .i64 vI, .int .u64 vu, .str vs, .nils] 3 none] =>
    some (.need (okV k N I u s .nils && okV k' N' I' u' s' .nils && okV vk vN vI vu vs .nils && decide (2 ≤ k) && fitsB k N vk vN && decide (k' = 0) && decide (N' = I))
      (.br (putL u' vu vs []).isEmpty (.is (.tup [val k N I 0 [] .nils, .bool true])) (.is (.tup [val k N I 0 [] (.isl (encC (putL u' vu vs [])) (putL u' vu vs []).length none), .bool true]))))
  | [.int .i64 25, .isl [.int .i64 k, .int .i64 N, .int .i64 I, .int .u64 u, .str s, .isl cs n none, .int .i64 k', .int .i64 N', .int .i64 I', .int .u64 u', .str s', .nils, .int .i64 vk, .int .i64 vN, .int .i64 vI, .int .u64 vu, .str vs, .nils] 3 none] =>
    some (.need (okM 5 (.isl cs n none) && okV k N I u s (.isl cs n none) && okV k' N' I' u' s' .nils && okV vk vN vI vu vs .nils && decide (2 ≤ k) && fitsB k N vk vN && decide (k' = 0) && decide (N' = I))
      (.is (.tup [val k N I 0 [] (.isl (encC (putL u' vu vs (decC cs))) (putL u' vu vs (decC cs)).length none), .bool true])))
  | _ => none

theorem p21_24_2 {N I u I2 u2 : Int} {s s2 : List UInt8} {m : V} (h : okV 2 N I u s m = true) (h' : okV 0 I I2 u2 s2 .nils = true) : fnX E (on [39, 41, 151, 153, 155, 30] (sp 0)) 30 c21 [.int .i64 24, .isl [.int .i64 2, .int .i64 N, .int .i64 I, .int .u64 u, .str s, m, .int .i64 0, .int .i64 I, .int .i64 I2, .int .u64 u2, .str s2, .nils] 2 none] = some (.tup [val 0 N 0 (selL u2 (decM m)).1 (selL u2 (decM m)).2 .nils, .bool true]) := by
  obtain ⟨w1, w2, w3, w4, w5, w6, w7⟩ := okV_0 h'
  subst w3
  rcases okM_form (okV_arr h (by decide)).2.2.2 with rfl | ⟨cs, len, rfl⟩
  · rw [x21_24_2_n (cs := []) (len := 0), h, h', decide_eq_true w4, decide_eq_true w5]
    simp only [beq_self_eq_true, Bool.and_self, Bool.and_true, Bool.true_and, Bool.not_true, Bool.not_false, bne_f, bne_t, cond_true, cond_false, decide_true]
    rfl
  · rw [x21_24_2_i, h, h', decide_eq_true w4, decide_eq_true w5]
    simp only [beq_self_eq_true, Bool.and_self, Bool.and_true, Bool.true_and, Bool.not_true, Bool.not_false, bne_f, bne_t, cond_true, cond_false, decide_true]
    rfl

theorem p21_26_2 {N I u u2 : Int} {s s2 : List UInt8} {m m' : V} (o : okM 5 m = true) (o' : okM 5 m' = true) (h : okV 2 N I u s m = true) (h' : okV 2 N I u2 s2 m' = true) : fnX E (on [39, 41, 151, 153, 155, 30] (sp 0)) 30 c21 [.int .i64 26, .isl [.int .i64 2, .int .i64 N, .int .i64 I, .int .u64 u, .str s, m, .int .i64 2, .int .i64 N, .int .i64 I, .int .u64 u2, .str s2, m'] 2 none] = some (.tup [val 0 I 0 (diffL (decM m) (decM m')) [] .nils, .bool true]) := by
  rcases okM_form o with rfl | ⟨cs, len, rfl⟩
  · rcases okM_form o' with rfl | ⟨cs2, len2, rfl⟩
    · rw [x21_26_2_n_n (cs := []) (len := 0) (cs2 := []) (len2 := 0), h, h']
      simp only [beq_self_eq_true, Bool.and_self, Bool.and_true, Bool.true_and, Bool.not_true, Bool.not_false, bne_f, bne_t, cond_true, cond_false, decide_true]
      rfl
    · rw [x21_26_2_n_i (cs := []) (len := 0), h, h', o']
      simp only [beq_self_eq_true, Bool.and_self, Bool.and_true, Bool.true_and, Bool.not_true, Bool.not_false, bne_f, bne_t, cond_true, cond_false, decide_true]
      rfl
  · rcases okM_form o' with rfl | ⟨cs2, len2, rfl⟩
    · rw [x21_26_2_i_n (cs2 := []) (len2 := 0), h, h', o]
      simp only [beq_self_eq_true, Bool.and_self, Bool.and_true, Bool.true_and, Bool.not_true, Bool.not_false, bne_f, bne_t, cond_true, cond_false, decide_true]
      rfl
    · rw [x21_26_2_i_i, h, h', o, o']
      simp only [beq_self_eq_true, Bool.and_self, Bool.and_true, Bool.true_and, Bool.not_true, Bool.not_false, bne_f, bne_t, cond_true, cond_false, decide_true]
      rfl

theorem p21_18_2 {N I u u2 : Int} {s s2 : List UInt8} {m m' : V} (o : okM 5 m = true) (o' : okM 5 m' = true) (h : okV 2 N I u s m = true) (h' : okV 2 N I u2 s2 m' = true) : fnX E (on [39, 41, 151, 153, 155, 30] (sp 0)) 30 c21 [.int .i64 18, .isl [.int .i64 2, .int .i64 N, .int .i64 I, .int .u64 u, .str s, m, .int .i64 2, .int .i64 N, .int .i64 I, .int .u64 u2, .str s2, m'] 2 none] = some (.tup [val 0 1 0 (b2i (cmpV (2, N, I, u, s, m) (2, N, I, u2, s2, m') == 0)) [] .nils, .bool true]) := by
  rcases okM_form o with rfl | ⟨cs, len, rfl⟩
  · rcases okM_form o' with rfl | ⟨cs2, len2, rfl⟩
    · rw [x21_18_2_n_n (cs := []) (len := 0) (cs2 := []) (len2 := 0), h, h']
      simp only [beq_self_eq_true, Bool.and_self, Bool.and_true, Bool.true_and, Bool.not_true, Bool.not_false, bne_f, bne_t, cond_true, cond_false, decide_true]
      generalize (cmpV _ _ == 0) = q
      cases q <;> rfl
    · rw [x21_18_2_n_i (cs := []) (len := 0), h, h', o']
      simp only [beq_self_eq_true, Bool.and_self, Bool.and_true, Bool.true_and, Bool.not_true, Bool.not_false, bne_f, bne_t, cond_true, cond_false, decide_true]
      generalize (cmpV _ _ == 0) = q
      cases q <;> rfl
  · rcases okM_form o' with rfl | ⟨cs2, len2, rfl⟩
    · rw [x21_18_2_i_n (cs2 := []) (len2 := 0), h, h', o]
      simp only [beq_self_eq_true, Bool.and_self, Bool.and_true, Bool.true_and, Bool.not_true, Bool.not_false, bne_f, bne_t, cond_true, cond_false, decide_true]
      generalize (cmpV _ _ == 0) = q
      cases q <;> rfl
    · rw [x21_18_2_i_i, h, h', o, o']
      simp only [beq_self_eq_true, Bool.and_self, Bool.and_true, Bool.true_and, Bool.not_true, Bool.not_false, bne_f, bne_t, cond_true, cond_false, decide_true]
      generalize (cmpV _ _ == 0) = q
      cases q <;> rfl

theorem p21_25_2_n {N I u I2 u2 vI vu : Int} {s s2 vs : List UInt8} {cs : List V} {len : Nat} (h : okV 2 N I u s (.nils) = true) (h' : okV 0 I I2 u2 s2 .nils = true) (hv : okV 0 N vI vu vs .nils = true) : fnX E (on [39, 41, 151, 153, 155, 30] (sp 0)) 30 c21 [.int .i64 25, .isl [.int .i64 2, .int .i64 N, .int .i64 I, .int .u64 u, .str s, .nils, .int .i64 0, .int .i64 I, .int .i64 I2, .int .u64 u2, .str s2, .nils, .int .i64 0, .int .i64 N, .int .i64 vI, .int .u64 vu, .str vs, .nils] 3 none] = some (.tup [val 2 N I 0 [] (encM (putL u2 vu vs [])), .bool true]) := by
  obtain ⟨w1, w2, w3, w4, w5, w6, w7⟩ := okV_0 h'
  subst w3
  have hf : fitsB 2 N 0 N = true := by unfold fitsB; simp
  have hvi := (okV_0 hv).2.2.1
  subst hvi
  rw [x21_25_2_n (vN := 0) (cs := []) (len := 0), h, h', hv, hf, decide_eq_true w4, decide_eq_true w5]
  simp only [beq_self_eq_true, Bool.and_self, Bool.and_true, Bool.true_and, Bool.not_true, Bool.not_false, bne_f, bne_t, cond_true, cond_false, decide_true]
  cases putL u2 vu vs [] <;> rfl

theorem p21_25_2_i {N I u I2 u2 vI vu : Int} {s s2 vs : List UInt8} {cs : List V} {len : Nat} (o : okM 5 (.isl cs len none) = true) (h : okV 2 N I u s (.isl cs len none) = true) (h' : okV 0 I I2 u2 s2 .nils = true) (hv : okV 0 N vI vu vs .nils = true) : fnX E (on [39, 41, 151, 153, 155, 30] (sp 0)) 30 c21 [.int .i64 25, .isl [.int .i64 2, .int .i64 N, .int .i64 I, .int .u64 u, .str s, .isl cs len none, .int .i64 0, .int .i64 I, .int .i64 I2, .int .u64 u2, .str s2, .nils, .int .i64 0, .int .i64 N, .int .i64 vI, .int .u64 vu, .str vs, .nils] 3 none] = some (.tup [val 2 N I 0 [] (.isl (encC (putL u2 vu vs (decC cs))) (putL u2 vu vs (decC cs)).length none), .bool true]) := by
  obtain ⟨w1, w2, w3, w4, w5, w6, w7⟩ := okV_0 h'
  subst w3
  have hf : fitsB 2 N 0 N = true := by unfold fitsB; simp
  have hvi := (okV_0 hv).2.2.1
  subst hvi
  rw [x21_25_2_i (vN := 0), h, h', hv, hf, decide_eq_true w4, decide_eq_true w5, o]
  simp only [beq_self_eq_true, Bool.and_self, Bool.and_true, Bool.true_and, Bool.not_true, Bool.not_false, bne_f, bne_t, cond_true, cond_false, decide_true]
  rfl

theorem p21_24_3 {N I u I2 u2 : Int} {s s2 : List UInt8} {m : V} (h : okV 3 N I u s m = true) (h' : okV 0 I I2 u2 s2 .nils = true) : fnX E (on [39, 41, 151, 153, 155, 30] (sp 0)) 30 c21 [.int .i64 24, .isl [.int .i64 3, .int .i64 N, .int .i64 I, .int .u64 u, .str s, m, .int .i64 0, .int .i64 I, .int .i64 I2, .int .u64 u2, .str s2, .nils] 2 none] = some (.tup [val 1 N 0 (selL u2 (decM m)).1 (selL u2 (decM m)).2 .nils, .bool true]) := by
  obtain ⟨w1, w2, w3, w4, w5, w6, w7⟩ := okV_0 h'
  subst w3
  rcases okM_form (okV_arr h (by decide)).2.2.2 with rfl | ⟨cs, len, rfl⟩
  · rw [x21_24_3_n (cs := []) (len := 0), h, h', decide_eq_true w4, decide_eq_true w5]
    simp only [beq_self_eq_true, Bool.and_self, Bool.and_true, Bool.true_and, Bool.not_true, Bool.not_false, bne_f, bne_t, cond_true, cond_false, decide_true]
    rfl
  · rw [x21_24_3_i, h, h', decide_eq_true w4, decide_eq_true w5]
    simp only [beq_self_eq_true, Bool.and_self, Bool.and_true, Bool.true_and, Bool.not_true, Bool.not_false, bne_f, bne_t, cond_true, cond_false, decide_true]
    rfl

theorem p21_26_3 {N I u u2 : Int} {s s2 : List UInt8} {m m' : V} (o : okM 5 m = true) (o' : okM 5 m' = true) (h : okV 3 N I u s m = true) (h' : okV 3 N I u2 s2 m' = true) : fnX E (on [39, 41, 151, 153, 155, 30] (sp 0)) 30 c21 [.int .i64 26, .isl [.int .i64 3, .int .i64 N, .int .i64 I, .int .u64 u, .str s, m, .int .i64 3, .int .i64 N, .int .i64 I, .int .u64 u2, .str s2, m'] 2 none] = some (.tup [val 0 I 0 (diffL (decM m) (decM m')) [] .nils, .bool true]) := by
  rcases okM_form o with rfl | ⟨cs, len, rfl⟩
  · rcases okM_form o' with rfl | ⟨cs2, len2, rfl⟩
    · rw [x21_26_3_n_n (cs := []) (len := 0) (cs2 := []) (len2 := 0), h, h']
      simp only [beq_self_eq_true, Bool.and_self, Bool.and_true, Bool.true_and, Bool.not_true, Bool.not_false, bne_f, bne_t, cond_true, cond_false, decide_true]
      rfl
    · rw [x21_26_3_n_i (cs := []) (len := 0), h, h', o']
      simp only [beq_self_eq_true, Bool.and_self, Bool.and_true, Bool.true_and, Bool.not_true, Bool.not_false, bne_f, bne_t, cond_true, cond_false, decide_true]
      rfl
  · rcases okM_form o' with rfl | ⟨cs2, len2, rfl⟩
    · rw [x21_26_3_i_n (cs2 := []) (len2 := 0), h, h', o]
      simp only [beq_self_eq_true, Bool.and_self, Bool.and_true, Bool.true_and, Bool.not_true, Bool.not_false, bne_f, bne_t, cond_true, cond_false, decide_true]
      rfl
    · rw [x21_26_3_i_i, h, h', o, o']
      simp only [beq_self_eq_true, Bool.and_self, Bool.and_true, Bool.true_and, Bool.not_true, Bool.not_false, bne_f, bne_t, cond_true, cond_false, decide_true]
      rfl

theorem p21_18_3 {N I u u2 : Int} {s s2 : List UInt8} {m m' : V} (o : okM 5 m = true) (o' : okM 5 m' = true) (h : okV 3 N I u s m = true) (h' : okV 3 N I u2 s2 m' = true) : fnX E (on [39, 41, 151, 153, 155, 30] (sp 0)) 30 c21 [.int .i64 18, .isl [.int .i64 3, .int .i64 N, .int .i64 I, .int .u64 u, .str s, m, .int .i64 3, .int .i64 N, .int .i64 I, .int .u64 u2, .str s2, m'] 2 none] = some (.tup [val 0 1 0 (b2i (cmpV (3, N, I, u, s, m) (3, N, I, u2, s2, m') == 0)) [] .nils, .bool true]) := by
  rcases okM_form o with rfl | ⟨cs, len, rfl⟩
  · rcases okM_form o' with rfl | ⟨cs2, len2, rfl⟩
    · rw [x21_18_3_n_n (cs := []) (len := 0) (cs2 := []) (len2 := 0), h, h']
      simp only [beq_self_eq_true, Bool.and_self, Bool.and_true, Bool.true_and, Bool.not_true, Bool.not_false, bne_f, bne_t, cond_true, cond_false, decide_true]
      generalize (cmpV _ _ == 0) = q
      cases q <;> rfl
    · rw [x21_18_3_n_i (cs := []) (len := 0), h, h', o']
      simp only [beq_self_eq_true, Bool.and_self, Bool.and_true, Bool.true_and, Bool.not_true, Bool.not_false, bne_f, bne_t, cond_true, cond_false, decide_true]
      generalize (cmpV _ _ == 0) = q
      cases q <;> rfl
  · rcases okM_form o' with rfl | ⟨cs2, len2, rfl⟩
    · rw [x21_18_3_i_n (cs2 := []) (len2 := 0), h, h', o]
      simp only [beq_self_eq_true, Bool.and_self, Bool.and_true, Bool.true_and, Bool.not_true, Bool.not_false, bne_f, bne_t, cond_true, cond_false, decide_true]
      generalize (cmpV _ _ == 0) = q
      cases q <;> rfl
    · rw [x21_18_3_i_i, h, h', o, o']
      simp only [beq_self_eq_true, Bool.and_self, Bool.and_true, Bool.true_and, Bool.not_true, Bool.not_false, bne_f, bne_t, cond_true, cond_false, decide_true]
      generalize (cmpV _ _ == 0) = q
      cases q <;> rfl

theorem p21_25_3_n {N I u I2 u2 vN vI vu : Int} {s s2 vs : List UInt8} {cs : List V} {len : Nat} (h : okV 3 N I u s (.nils) = true) (h' : okV 0 I I2 u2 s2 .nils = true) (hv : okV 1 vN vI vu vs .nils = true) (hN : vN ≤ N) : fnX E (on [39, 41, 151, 153, 155, 30] (sp 0)) 30 c21 [.int .i64 25, .isl [.int .i64 3, .int .i64 N, .int .i64 I, .int .u64 u, .str s, .nils, .int .i64 0, .int .i64 I, .int .i64 I2, .int .u64 u2, .str s2, .nils, .int .i64 1, .int .i64 vN, .int .i64 vI, .int .u64 vu, .str vs, .nils] 3 none] = some (.tup [val 3 N I 0 [] (encM (putL u2 vu vs [])), .bool true]) := by
  obtain ⟨w1, w2, w3, w4, w5, w6, w7⟩ := okV_0 h'
  subst w3
  have hf : fitsB 3 N 1 vN = true := by unfold fitsB; simpa using hN
  have hvi := (okV_1 hv).2.2.1
  subst hvi
  rw [x21_25_3_n (cs := []) (len := 0), h, h', hv, hf, decide_eq_true w4, decide_eq_true w5, decide_eq_true hN]
  simp only [beq_self_eq_true, Bool.and_self, Bool.and_true, Bool.true_and, Bool.not_true, Bool.not_false, bne_f, bne_t, cond_true, cond_false, decide_true]
  cases putL u2 vu vs [] <;> rfl

theorem p21_25_3_i {N I u I2 u2 vN vI vu : Int} {s s2 vs : List UInt8} {cs : List V} {len : Nat} (o : okM 5 (.isl cs len none) = true) (h : okV 3 N I u s (.isl cs len none) = true) (h' : okV 0 I I2 u2 s2 .nils = true) (hv : okV 1 vN vI vu vs .nils = true) (hN : vN ≤ N) : fnX E (on [39, 41, 151, 153, 155, 30] (sp 0)) 30 c21 [.int .i64 25, .isl [.int .i64 3, .int .i64 N, .int .i64 I, .int .u64 u, .str s, .isl cs len none, .int .i64 0, .int .i64 I, .int .i64 I2, .int .u64 u2, .str s2, .nils, .int .i64 1, .int .i64 vN, .int .i64 vI, .int .u64 vu, .str vs, .nils] 3 none] = some (.tup [val 3 N I 0 [] (.isl (encC (putL u2 vu vs (decC cs))) (putL u2 vu vs (decC cs)).length none), .bool true]) := by
  obtain ⟨w1, w2, w3, w4, w5, w6, w7⟩ := okV_0 h'
  subst w3
  have hf : fitsB 3 N 1 vN = true := by unfold fitsB; simpa using hN
  have hvi := (okV_1 hv).2.2.1
  subst hvi
  rw [x21_25_3_i, h, h', hv, hf, decide_eq_true w4, decide_eq_true w5, decide_eq_true hN, o]
  simp only [beq_self_eq_true, Bool.and_self, Bool.and_true, Bool.true_and, Bool.not_true, Bool.not_false, bne_f, bne_t, cond_true, cond_false, decide_true]
  rfl

theorem a21 (as : List V) (r : Tr) (v : V) (e : t21 as = some r) (q : runTr r some = some v) : Ans E 21 as v := by
  unfold t21 at e
  split at e
  · cases e
    obtain ⟨h, q⟩ := need_some q
    cases is_some q
    simp only [Bool.and_eq_true, decide_eq_true_eq] at h
    obtain ⟨⟨⟨⟨h1, h2⟩, h3⟩, rfl⟩, rfl⟩ := h
    refine fnX_ans (ok21 0) rfl (by kernel_rfl) rfl (n := 30) (fn := c21) ?_
    rcases (okV_arr h1 h3).1 with rfl | rfl
    · exact p21_24_2 h1 h2
    · exact p21_24_3 h1 h2
  · cases e
    obtain ⟨h, q⟩ := need_some q
    cases is_some q
    simp only [Bool.and_eq_true, decide_eq_true_eq] at h
    obtain ⟨⟨⟨⟨⟨⟨⟨o, o'⟩, h1⟩, h2⟩, h3⟩, rfl⟩, rfl⟩, rfl⟩ := h
    refine fnX_ans (ok21 0) rfl (by kernel_rfl) rfl (n := 30) (fn := c21) ?_
    rcases (okV_arr h1 h3).1 with rfl | rfl
    · exact p21_26_2 o o' h1 h2
    · exact p21_26_3 o o' h1 h2
  · cases e
    obtain ⟨h, q⟩ := need_some q
    cases is_some q
    simp only [Bool.and_eq_true, decide_eq_true_eq] at h
    obtain ⟨⟨⟨⟨⟨⟨⟨o, o'⟩, h1⟩, h2⟩, h3⟩, rfl⟩, rfl⟩, rfl⟩ := h
    refine fnX_ans (ok21 0) rfl (by kernel_rfl) rfl (n := 30) (fn := c21) ?_
    rcases (okV_arr h1 h3).1 with rfl | rfl
    · exact p21_18_2 o o' h1 h2
    · exact p21_18_3 o o' h1 h2
  · cases e
    obtain ⟨h, q⟩ := need_some q
    rw [encM_brt] at q
    cases q
    simp only [Bool.and_eq_true, decide_eq_true_eq] at h
    obtain ⟨⟨⟨⟨⟨⟨h1, h2⟩, hv⟩, h3⟩, hf⟩, rfl⟩, rfl⟩ := h
    refine fnX_ans (ok21 0) rfl (by kernel_rfl) rfl (n := 30) (fn := c21) ?_
    rcases (okV_arr h1 h3).1 with rfl | rfl
    · obtain ⟨rfl, rfl⟩ := fits_2 hf
      exact p21_25_2_n (cs := []) (len := 0) h1 h2 hv
    · obtain ⟨rfl, hN⟩ := fits_3 hf
      exact p21_25_3_n (cs := []) (len := 0) h1 h2 hv hN
  · cases e
    obtain ⟨h, q⟩ := need_some q
    cases is_some q
    simp only [Bool.and_eq_true, decide_eq_true_eq] at h
    obtain ⟨⟨⟨⟨⟨⟨⟨o, h1⟩, h2⟩, hv⟩, h3⟩, hf⟩, rfl⟩, rfl⟩ := h
    refine fnX_ans (ok21 0) rfl (by kernel_rfl) rfl (n := 30) (fn := c21) ?_
    rcases (okV_arr h1 h3).1 with rfl | rfl
    · obtain ⟨rfl, rfl⟩ := fits_2 hf
      exact p21_25_2_i o h1 h2 hv
    · obtain ⟨rfl, hN⟩ := fits_3 hf
      exact p21_25_3_i o h1 h2 hv hN
  · cases e

theorem x18 : fnX E (on [] (sp 0)) 100 c18 [] = some (.bool true) := by kernel_rfl

theorem a18 (as : List V) (r : Tr) (v : V) (e : s18 as = some r) (q : runTr r some = some v) : Ans E 18 as v := by
  unfold s18 at e
  split at e
  · cases e
    cases is_some q
    exact fnX_ans (on_nil (sp 0)) rfl (by kernel_rfl) rfl x18
  · cases e

end Ea
end Go.Proofs
