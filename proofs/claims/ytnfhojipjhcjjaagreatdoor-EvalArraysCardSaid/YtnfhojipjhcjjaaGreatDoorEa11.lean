/-
  SHORT. Conditions: as each theorem names them.
-/
import Derived.Test.YtnfhojipjhcjjaaGreatDoorEa10
import Derived.KernelRfl
namespace Go.Proofs
namespace Ea
open Go.Am
set_option autoImplicit false
set_option linter.unusedVariables false
set_option linter.unusedSimpArgs false
set_option maxRecDepth 100000
set_option maxHeartbeats 4000000

theorem x37_0 (n most k a : Int) (s : List UInt8) (d10 d11 d12 d13 d14 d15 d16 d17 d18 d19 d20 d21 d22 d23 d24 d25 d26 d27 d28 d29 d30 d31 : V) : runX E.inl (callX E (on [] (sp 0)) 20) 20 b37 [.int .i64 n, .int .i64 most, .und, .und, .str [], .int .i64 k, .str s, .int .i64 0, .int .i64 n, .int .i64 a, d10, d11, d12, d13, d14, d15, d16, d17, d18, d19, d20, d21, d22, d23, d24, d25, d26, d27, d28, d29, d30, d31, .und] [] (fun x t h => some (x, t, h)) = bif decide (0 < k.tmod 4) then bif decide (0 < most) then bif (IntKind.i64.wrap (k.tdiv 4)).tmod 5 == 0 then bif decide (s.length + 1 ≤ 9223372036854775807) then some (X.nrm, [.int .i64 n, .int .i64 most, V.und, V.und, .str [], .int .i64 (IntKind.i64.wrap (k.tdiv 5)), .str (s.append (List.take 1 (List.drop 0 [97]))), .int .i64 1, .int .i64 n, .int .i64 a, .int .i64 0, .int .i64 k, .int .i64 (k.tmod 4), V.bool (decide (0 < k.tmod 4)), .bool true, .int .i64 0, .int .i64 most, V.bool (decide (0 < most)), .bool true, .int .i64 0, .int .i64 1, .str s, V.osl 0 0 5 1 5 true, .int .i64 k, .int .i64 (IntKind.i64.wrap (k.tdiv 4)), .int .i64 ((IntKind.i64.wrap (k.tdiv 4)).tmod 5), V.own 0 0, .str [97], .str [97], .str (s.append (List.take 1 (List.drop 0 [97]))), .int .i64 k, .int .i64 (IntKind.i64.wrap (k.tdiv 5)), V.und], [Ob.blk true [.str [97], .str [98], .str [97, 98], .str [0], .str [255]]]) else none else bif (IntKind.i64.wrap (k.tdiv 4)).tmod 5 == 1 then bif decide (s.length + 1 ≤ 9223372036854775807) then some (X.nrm, [.int .i64 n, .int .i64 most, V.und, V.und, .str [], .int .i64 (IntKind.i64.wrap (k.tdiv 5)), .str (s.append (List.take 1 (List.drop 0 [98]))), .int .i64 1, .int .i64 n, .int .i64 a, .int .i64 0, .int .i64 k, .int .i64 (k.tmod 4), V.bool (decide (0 < k.tmod 4)), .bool true, .int .i64 0, .int .i64 most, V.bool (decide (0 < most)), .bool true, .int .i64 0, .int .i64 1, .str s, V.osl 0 0 5 1 5 true, .int .i64 k, .int .i64 (IntKind.i64.wrap (k.tdiv 4)), .int .i64 ((IntKind.i64.wrap (k.tdiv 4)).tmod 5), V.own 0 1, .str [98], .str [98], .str (s.append (List.take 1 (List.drop 0 [98]))), .int .i64 k, .int .i64 (IntKind.i64.wrap (k.tdiv 5)), V.und], [Ob.blk true [.str [97], .str [98], .str [97, 98], .str [0], .str [255]]]) else none else bif (IntKind.i64.wrap (k.tdiv 4)).tmod 5 == 2 then bif decide (s.length + 1 ≤ 9223372036854775807) then some (X.nrm, [.int .i64 n, .int .i64 most, V.und, V.und, .str [], .int .i64 (IntKind.i64.wrap (k.tdiv 5)), .str (s.append (List.take 1 (List.drop 0 [97, 98]))), .int .i64 1, .int .i64 n, .int .i64 a, .int .i64 0, .int .i64 k, .int .i64 (k.tmod 4), V.bool (decide (0 < k.tmod 4)), .bool true, .int .i64 0, .int .i64 most, V.bool (decide (0 < most)), .bool true, .int .i64 0, .int .i64 1, .str s, V.osl 0 0 5 1 5 true, .int .i64 k, .int .i64 (IntKind.i64.wrap (k.tdiv 4)), .int .i64 ((IntKind.i64.wrap (k.tdiv 4)).tmod 5), V.own 0 2, .str [97, 98], .str [97], .str (s.append (List.take 1 (List.drop 0 [97, 98]))), .int .i64 k, .int .i64 (IntKind.i64.wrap (k.tdiv 5)), V.und], [Ob.blk true [.str [97], .str [98], .str [97, 98], .str [0], .str [255]]]) else none else bif (IntKind.i64.wrap (k.tdiv 4)).tmod 5 == 3 then bif decide (s.length + 1 ≤ 9223372036854775807) then some (X.nrm, [.int .i64 n, .int .i64 most, V.und, V.und, .str [], .int .i64 (IntKind.i64.wrap (k.tdiv 5)), .str (s.append (List.take 1 (List.drop 0 [0]))), .int .i64 1, .int .i64 n, .int .i64 a, .int .i64 0, .int .i64 k, .int .i64 (k.tmod 4), V.bool (decide (0 < k.tmod 4)), .bool true, .int .i64 0, .int .i64 most, V.bool (decide (0 < most)), .bool true, .int .i64 0, .int .i64 1, .str s, V.osl 0 0 5 1 5 true, .int .i64 k, .int .i64 (IntKind.i64.wrap (k.tdiv 4)), .int .i64 ((IntKind.i64.wrap (k.tdiv 4)).tmod 5), V.own 0 3, .str [0], .str [0], .str (s.append (List.take 1 (List.drop 0 [0]))), .int .i64 k, .int .i64 (IntKind.i64.wrap (k.tdiv 5)), V.und], [Ob.blk true [.str [97], .str [98], .str [97, 98], .str [0], .str [255]]]) else none else bif (IntKind.i64.wrap (k.tdiv 4)).tmod 5 == 4 then bif decide (s.length + 1 ≤ 9223372036854775807) then some (X.nrm, [.int .i64 n, .int .i64 most, V.und, V.und, .str [], .int .i64 (IntKind.i64.wrap (k.tdiv 5)), .str (s.append (List.take 1 (List.drop 0 [255]))), .int .i64 1, .int .i64 n, .int .i64 a, .int .i64 0, .int .i64 k, .int .i64 (k.tmod 4), V.bool (decide (0 < k.tmod 4)), .bool true, .int .i64 0, .int .i64 most, V.bool (decide (0 < most)), .bool true, .int .i64 0, .int .i64 1, .str s, V.osl 0 0 5 1 5 true, .int .i64 k, .int .i64 (IntKind.i64.wrap (k.tdiv 4)), .int .i64 ((IntKind.i64.wrap (k.tdiv 4)).tmod 5), V.own 0 4, .str [255], .str [255], .str (s.append (List.take 1 (List.drop 0 [255]))), .int .i64 k, .int .i64 (IntKind.i64.wrap (k.tdiv 5)), V.und], [Ob.blk true [.str [97], .str [98], .str [97, 98], .str [0], .str [255]]]) else none else bif (IntKind.i64.wrap (k.tdiv 4)).tmod 5 == 5 then none else none else some (X.exit 0, [.int .i64 n, .int .i64 most, V.und, V.und, .str [], .int .i64 k, .str s, .int .i64 0, .int .i64 n, .int .i64 a, .int .i64 0, .int .i64 k, .int .i64 (k.tmod 4), V.bool (decide (0 < k.tmod 4)), .bool true, .int .i64 0, .int .i64 most, V.bool (decide (0 < most)), .bool false, d19, d20, d21, d22, d23, d24, d25, d26, d27, d28, d29, d30, d31, V.und], []) else some (X.exit 0, [.int .i64 n, .int .i64 most, V.und, V.und, .str [], .int .i64 k, .str s, .int .i64 0, .int .i64 n, .int .i64 a, .int .i64 0, .int .i64 k, .int .i64 (k.tmod 4), V.bool (decide (0 < k.tmod 4)), .bool false, V.und, V.und, V.und, .bool false, d19, d20, d21, d22, d23, d24, d25, d26, d27, d28, d29, d30, d31, V.und], []) := by kernel_rfl

theorem x37_1 (n most k a : Int) (s : List UInt8) (d10 d11 d12 d13 d14 d15 d16 d17 d18 d19 d20 d21 d22 d23 d24 d25 d26 d27 d28 d29 d30 d31 : V) : runX E.inl (callX E (on [] (sp 0)) 20) 20 b37 [.int .i64 n, .int .i64 most, .und, .und, .str [], .int .i64 k, .str s, .int .i64 1, .int .i64 n, .int .i64 a, d10, d11, d12, d13, d14, d15, d16, d17, d18, d19, d20, d21, d22, d23, d24, d25, d26, d27, d28, d29, d30, d31, .und] [.blk true [.str [97], .str [98], .str [97, 98], .str [0], .str [255]]] (fun x t h => some (x, t, h)) = bif decide (1 < k.tmod 4) then bif decide (1 < most) then bif (IntKind.i64.wrap (k.tdiv 4)).tmod 5 == 0 then bif decide (s.length + 1 ≤ 9223372036854775807) then some (X.nrm, [.int .i64 n, .int .i64 most, V.und, V.und, .str [], .int .i64 (IntKind.i64.wrap (k.tdiv 5)), .str (s.append (List.take 1 (List.drop 0 [97]))), .int .i64 2, .int .i64 n, .int .i64 a, .int .i64 1, .int .i64 k, .int .i64 (k.tmod 4), V.bool (decide (1 < k.tmod 4)), .bool true, .int .i64 1, .int .i64 most, V.bool (decide (1 < most)), .bool true, .int .i64 1, .int .i64 2, .str s, V.osl 1 0 5 1 5 true, .int .i64 k, .int .i64 (IntKind.i64.wrap (k.tdiv 4)), .int .i64 ((IntKind.i64.wrap (k.tdiv 4)).tmod 5), V.own 1 0, .str [97], .str [97], .str (s.append (List.take 1 (List.drop 0 [97]))), .int .i64 k, .int .i64 (IntKind.i64.wrap (k.tdiv 5)), V.und], [Ob.blk true [.str [97], .str [98], .str [97, 98], .str [0], .str [255]], Ob.blk true [.str [97], .str [98], .str [97, 98], .str [0], .str [255]]]) else none else bif (IntKind.i64.wrap (k.tdiv 4)).tmod 5 == 1 then bif decide (s.length + 1 ≤ 9223372036854775807) then some (X.nrm, [.int .i64 n, .int .i64 most, V.und, V.und, .str [], .int .i64 (IntKind.i64.wrap (k.tdiv 5)), .str (s.append (List.take 1 (List.drop 0 [98]))), .int .i64 2, .int .i64 n, .int .i64 a, .int .i64 1, .int .i64 k, .int .i64 (k.tmod 4), V.bool (decide (1 < k.tmod 4)), .bool true, .int .i64 1, .int .i64 most, V.bool (decide (1 < most)), .bool true, .int .i64 1, .int .i64 2, .str s, V.osl 1 0 5 1 5 true, .int .i64 k, .int .i64 (IntKind.i64.wrap (k.tdiv 4)), .int .i64 ((IntKind.i64.wrap (k.tdiv 4)).tmod 5), V.own 1 1, .str [98], .str [98], .str (s.append (List.take 1 (List.drop 0 [98]))), .int .i64 k, .int .i64 (IntKind.i64.wrap (k.tdiv 5)), V.und], [Ob.blk true [.str [97], .str [98], .str [97, 98], .str [0], .str [255]], Ob.blk true [.str [97], .str [98], .str [97, 98], .str [0], .str [255]]]) else none else bif (IntKind.i64.wrap (k.tdiv 4)).tmod 5 == 2 then bif decide (s.length + 1 ≤ 9223372036854775807) then some (X.nrm, [.int .i64 n, .int .i64 most, V.und, V.und, .str [], .int .i64 (IntKind.i64.wrap (k.tdiv 5)), .str (s.append (List.take 1 (List.drop 0 [97, 98]))), .int .i64 2, .int .i64 n, .int .i64 a, .int .i64 1, .int .i64 k, .int .i64 (k.tmod 4), V.bool (decide (1 < k.tmod 4)), .bool true, .int .i64 1, .int .i64 most, V.bool (decide (1 < most)), .bool true, .int .i64 1, .int .i64 2, .str s, V.osl 1 0 5 1 5 true, .int .i64 k, .int .i64 (IntKind.i64.wrap (k.tdiv 4)), .int .i64 ((IntKind.i64.wrap (k.tdiv 4)).tmod 5), V.own 1 2, .str [97, 98], .str [97], .str (s.append (List.take 1 (List.drop 0 [97, 98]))), .int .i64 k, .int .i64 (IntKind.i64.wrap (k.tdiv 5)), V.und], [Ob.blk true [.str [97], .str [98], .str [97, 98], .str [0], .str [255]], Ob.blk true [.str [97], .str [98], .str [97, 98], .str [0], .str [255]]]) else none else bif (IntKind.i64.wrap (k.tdiv 4)).tmod 5 == 3 then bif decide (s.length + 1 ≤ 9223372036854775807) then some (X.nrm, [.int .i64 n, .int .i64 most, V.und, V.und, .str [], .int .i64 (IntKind.i64.wrap (k.tdiv 5)), .str (s.append (List.take 1 (List.drop 0 [0]))), .int .i64 2, .int .i64 n, .int .i64 a, .int .i64 1, .int .i64 k, .int .i64 (k.tmod 4), V.bool (decide (1 < k.tmod 4)), .bool true, .int .i64 1, .int .i64 most, V.bool (decide (1 < most)), .bool true, .int .i64 1, .int .i64 2, .str s, V.osl 1 0 5 1 5 true, .int .i64 k, .int .i64 (IntKind.i64.wrap (k.tdiv 4)), .int .i64 ((IntKind.i64.wrap (k.tdiv 4)).tmod 5), V.own 1 3, .str [0], .str [0], .str (s.append (List.take 1 (List.drop 0 [0]))), .int .i64 k, .int .i64 (IntKind.i64.wrap (k.tdiv 5)), V.und], [Ob.blk true [.str [97], .str [98], .str [97, 98], .str [0], .str [255]], Ob.blk true [.str [97], .str [98], .str [97, 98], .str [0], .str [255]]]) else none else bif (IntKind.i64.wrap (k.tdiv 4)).tmod 5 == 4 then bif decide (s.length + 1 ≤ 9223372036854775807) then some (X.nrm, [.int .i64 n, .int .i64 most, V.und, V.und, .str [], .int .i64 (IntKind.i64.wrap (k.tdiv 5)), .str (s.append (List.take 1 (List.drop 0 [255]))), .int .i64 2, .int .i64 n, .int .i64 a, .int .i64 1, .int .i64 k, .int .i64 (k.tmod 4), V.bool (decide (1 < k.tmod 4)), .bool true, .int .i64 1, .int .i64 most, V.bool (decide (1 < most)), .bool true, .int .i64 1, .int .i64 2, .str s, V.osl 1 0 5 1 5 true, .int .i64 k, .int .i64 (IntKind.i64.wrap (k.tdiv 4)), .int .i64 ((IntKind.i64.wrap (k.tdiv 4)).tmod 5), V.own 1 4, .str [255], .str [255], .str (s.append (List.take 1 (List.drop 0 [255]))), .int .i64 k, .int .i64 (IntKind.i64.wrap (k.tdiv 5)), V.und], [Ob.blk true [.str [97], .str [98], .str [97, 98], .str [0], .str [255]], Ob.blk true [.str [97], .str [98], .str [97, 98], .str [0], .str [255]]]) else none else bif (IntKind.i64.wrap (k.tdiv 4)).tmod 5 == 5 then none else none else some (X.exit 0, [.int .i64 n, .int .i64 most, V.und, V.und, .str [], .int .i64 k, .str s, .int .i64 1, .int .i64 n, .int .i64 a, .int .i64 1, .int .i64 k, .int .i64 (k.tmod 4), V.bool (decide (1 < k.tmod 4)), .bool true, .int .i64 1, .int .i64 most, V.bool (decide (1 < most)), .bool false, d19, d20, d21, d22, d23, d24, d25, d26, d27, d28, d29, d30, d31, V.und], [Ob.blk true [.str [97], .str [98], .str [97, 98], .str [0], .str [255]]]) else some (X.exit 0, [.int .i64 n, .int .i64 most, V.und, V.und, .str [], .int .i64 k, .str s, .int .i64 1, .int .i64 n, .int .i64 a, .int .i64 1, .int .i64 k, .int .i64 (k.tmod 4), V.bool (decide (1 < k.tmod 4)), .bool false, V.und, V.und, V.und, .bool false, d19, d20, d21, d22, d23, d24, d25, d26, d27, d28, d29, d30, d31, V.und], [Ob.blk true [.str [97], .str [98], .str [97, 98], .str [0], .str [255]]]) := by kernel_rfl

theorem x37_2 (n most k a : Int) (s : List UInt8) (d10 d11 d12 d13 d14 d15 d16 d17 d18 d19 d20 d21 d22 d23 d24 d25 d26 d27 d28 d29 d30 d31 : V) : runX E.inl (callX E (on [] (sp 0)) 20) 20 b37 [.int .i64 n, .int .i64 most, .und, .und, .str [], .int .i64 k, .str s, .int .i64 2, .int .i64 n, .int .i64 a, d10, d11, d12, d13, d14, d15, d16, d17, d18, d19, d20, d21, d22, d23, d24, d25, d26, d27, d28, d29, d30, d31, .und] [.blk true [.str [97], .str [98], .str [97, 98], .str [0], .str [255]], .blk true [.str [97], .str [98], .str [97, 98], .str [0], .str [255]]] (fun x t h => some (x, t, h)) = bif decide (2 < k.tmod 4) then bif decide (2 < most) then bif (IntKind.i64.wrap (k.tdiv 4)).tmod 5 == 0 then bif decide (s.length + 1 ≤ 9223372036854775807) then some (X.nrm, [.int .i64 n, .int .i64 most, V.und, V.und, .str [], .int .i64 (IntKind.i64.wrap (k.tdiv 5)), .str (s.append (List.take 1 (List.drop 0 [97]))), .int .i64 3, .int .i64 n, .int .i64 a, .int .i64 2, .int .i64 k, .int .i64 (k.tmod 4), V.bool (decide (2 < k.tmod 4)), .bool true, .int .i64 2, .int .i64 most, V.bool (decide (2 < most)), .bool true, .int .i64 2, .int .i64 3, .str s, V.osl 2 0 5 1 5 true, .int .i64 k, .int .i64 (IntKind.i64.wrap (k.tdiv 4)), .int .i64 ((IntKind.i64.wrap (k.tdiv 4)).tmod 5), V.own 2 0, .str [97], .str [97], .str (s.append (List.take 1 (List.drop 0 [97]))), .int .i64 k, .int .i64 (IntKind.i64.wrap (k.tdiv 5)), V.und], [Ob.blk true [.str [97], .str [98], .str [97, 98], .str [0], .str [255]], Ob.blk true [.str [97], .str [98], .str [97, 98], .str [0], .str [255]], Ob.blk true [.str [97], .str [98], .str [97, 98], .str [0], .str [255]]]) else none else bif (IntKind.i64.wrap (k.tdiv 4)).tmod 5 == 1 then bif decide (s.length + 1 ≤ 9223372036854775807) then some (X.nrm, [.int .i64 n, .int .i64 most, V.und, V.und, .str [], .int .i64 (IntKind.i64.wrap (k.tdiv 5)), .str (s.append (List.take 1 (List.drop 0 [98]))), .int .i64 3, .int .i64 n, .int .i64 a, .int .i64 2, .int .i64 k, .int .i64 (k.tmod 4), V.bool (decide (2 < k.tmod 4)), .bool true, .int .i64 2, .int .i64 most, V.bool (decide (2 < most)), .bool true, .int .i64 2, .int .i64 3, .str s, V.osl 2 0 5 1 5 true, .int .i64 k, .int .i64 (IntKind.i64.wrap (k.tdiv 4)), .int .i64 ((IntKind.i64.wrap (k.tdiv 4)).tmod 5), V.own 2 1, .str [98], .str [98], .str (s.append (List.take 1 (List.drop 0 [98]))), .int .i64 k, .int .i64 (IntKind.i64.wrap (k.tdiv 5)), V.und], [Ob.blk true [.str [97], .str [98], .str [97, 98], .str [0], .str [255]], Ob.blk true [.str [97], .str [98], .str [97, 98], .str [0], .str [255]], Ob.blk true [.str [97], .str [98], .str [97, 98], .str [0], .str [255]]]) else none else bif (IntKind.i64.wrap (k.tdiv 4)).tmod 5 == 2 then bif decide (s.length + 1 ≤ 9223372036854775807) then some (X.nrm, [.int .i64 n, .int .i64 most, V.und, V.und, .str [], .int .i64 (IntKind.i64.wrap (k.tdiv 5)), .str (s.append (List.take 1 (List.drop 0 [97, 98]))), .int .i64 3, .int .i64 n, .int .i64 a, .int .i64 2, .int .i64 k, .int .i64 (k.tmod 4), V.bool (decide (2 < k.tmod 4)), .bool true, .int .i64 2, .int .i64 most, V.bool (decide (2 < most)), .bool true, .int .i64 2, .int .i64 3, .str s, V.osl 2 0 5 1 5 true, .int .i64 k, .int .i64 (IntKind.i64.wrap (k.tdiv 4)), .int .i64 ((IntKind.i64.wrap (k.tdiv 4)).tmod 5), V.own 2 2, .str [97, 98], .str [97], .str (s.append (List.take 1 (List.drop 0 [97, 98]))), .int .i64 k, .int .i64 (IntKind.i64.wrap (k.tdiv 5)), V.und], [Ob.blk true [.str [97], .str [98], .str [97, 98], .str [0], .str [255]], Ob.blk true [.str [97], .str [98], .str [97, 98], .str [0], .str [255]], Ob.blk true [.str [97], .str [98], .str [97, 98], .str [0], .str [255]]]) else none else bif (IntKind.i64.wrap (k.tdiv 4)).tmod 5 == 3 then bif decide (s.length + 1 ≤ 9223372036854775807) then some (X.nrm, [.int .i64 n, .int .i64 most, V.und, V.und, .str [], .int .i64 (IntKind.i64.wrap (k.tdiv 5)), .str (s.append (List.take 1 (List.drop 0 [0]))), .int .i64 3, .int .i64 n, .int .i64 a, .int .i64 2, .int .i64 k, .int .i64 (k.tmod 4), V.bool (decide (2 < k.tmod 4)), .bool true, .int .i64 2, .int .i64 most, V.bool (decide (2 < most)), .bool true, .int .i64 2, .int .i64 3, .str s, V.osl 2 0 5 1 5 true, .int .i64 k, .int .i64 (IntKind.i64.wrap (k.tdiv 4)), .int .i64 ((IntKind.i64.wrap (k.tdiv 4)).tmod 5), V.own 2 3, .str [0], .str [0], .str (s.append (List.take 1 (List.drop 0 [0]))), .int .i64 k, .int .i64 (IntKind.i64.wrap (k.tdiv 5)), V.und], [Ob.blk true [.str [97], .str [98], .str [97, 98], .str [0], .str [255]], Ob.blk true [.str [97], .str [98], .str [97, 98], .str [0], .str [255]], Ob.blk true [.str [97], .str [98], .str [97, 98], .str [0], .str [255]]]) else none else bif (IntKind.i64.wrap (k.tdiv 4)).tmod 5 == 4 then bif decide (s.length + 1 ≤ 9223372036854775807) then some (X.nrm, [.int .i64 n, .int .i64 most, V.und, V.und, .str [], .int .i64 (IntKind.i64.wrap (k.tdiv 5)), .str (s.append (List.take 1 (List.drop 0 [255]))), .int .i64 3, .int .i64 n, .int .i64 a, .int .i64 2, .int .i64 k, .int .i64 (k.tmod 4), V.bool (decide (2 < k.tmod 4)), .bool true, .int .i64 2, .int .i64 most, V.bool (decide (2 < most)), .bool true, .int .i64 2, .int .i64 3, .str s, V.osl 2 0 5 1 5 true, .int .i64 k, .int .i64 (IntKind.i64.wrap (k.tdiv 4)), .int .i64 ((IntKind.i64.wrap (k.tdiv 4)).tmod 5), V.own 2 4, .str [255], .str [255], .str (s.append (List.take 1 (List.drop 0 [255]))), .int .i64 k, .int .i64 (IntKind.i64.wrap (k.tdiv 5)), V.und], [Ob.blk true [.str [97], .str [98], .str [97, 98], .str [0], .str [255]], Ob.blk true [.str [97], .str [98], .str [97, 98], .str [0], .str [255]], Ob.blk true [.str [97], .str [98], .str [97, 98], .str [0], .str [255]]]) else none else bif (IntKind.i64.wrap (k.tdiv 4)).tmod 5 == 5 then none else none else some (X.exit 0, [.int .i64 n, .int .i64 most, V.und, V.und, .str [], .int .i64 k, .str s, .int .i64 2, .int .i64 n, .int .i64 a, .int .i64 2, .int .i64 k, .int .i64 (k.tmod 4), V.bool (decide (2 < k.tmod 4)), .bool true, .int .i64 2, .int .i64 most, V.bool (decide (2 < most)), .bool false, d19, d20, d21, d22, d23, d24, d25, d26, d27, d28, d29, d30, d31, V.und], [Ob.blk true [.str [97], .str [98], .str [97, 98], .str [0], .str [255]], Ob.blk true [.str [97], .str [98], .str [97, 98], .str [0], .str [255]]]) else some (X.exit 0, [.int .i64 n, .int .i64 most, V.und, V.und, .str [], .int .i64 k, .str s, .int .i64 2, .int .i64 n, .int .i64 a, .int .i64 2, .int .i64 k, .int .i64 (k.tmod 4), V.bool (decide (2 < k.tmod 4)), .bool false, V.und, V.und, V.und, .bool false, d19, d20, d21, d22, d23, d24, d25, d26, d27, d28, d29, d30, d31, V.und], [Ob.blk true [.str [97], .str [98], .str [97, 98], .str [0], .str [255]], Ob.blk true [.str [97], .str [98], .str [97, 98], .str [0], .str [255]]]) := by kernel_rfl

theorem x37_3 (n most k a : Int) (s : List UInt8) (d10 d11 d12 d13 d14 d15 d16 d17 d18 d19 d20 d21 d22 d23 d24 d25 d26 d27 d28 d29 d30 d31 : V) : runX E.inl (callX E (on [] (sp 0)) 20) 20 b37 [.int .i64 n, .int .i64 most, .und, .und, .str [], .int .i64 k, .str s, .int .i64 3, .int .i64 n, .int .i64 a, d10, d11, d12, d13, d14, d15, d16, d17, d18, d19, d20, d21, d22, d23, d24, d25, d26, d27, d28, d29, d30, d31, .und] [.blk true [.str [97], .str [98], .str [97, 98], .str [0], .str [255]], .blk true [.str [97], .str [98], .str [97, 98], .str [0], .str [255]], .blk true [.str [97], .str [98], .str [97, 98], .str [0], .str [255]]] (fun x t h => some (x, t, h)) = bif decide (3 < k.tmod 4) then bif decide (3 < most) then bif (IntKind.i64.wrap (k.tdiv 4)).tmod 5 == 0 then bif decide (s.length + 1 ≤ 9223372036854775807) then some (X.nrm, [.int .i64 n, .int .i64 most, V.und, V.und, .str [], .int .i64 (IntKind.i64.wrap (k.tdiv 5)), .str (s.append (List.take 1 (List.drop 0 [97]))), .int .i64 4, .int .i64 n, .int .i64 a, .int .i64 3, .int .i64 k, .int .i64 (k.tmod 4), V.bool (decide (3 < k.tmod 4)), .bool true, .int .i64 3, .int .i64 most, V.bool (decide (3 < most)), .bool true, .int .i64 3, .int .i64 4, .str s, V.osl 3 0 5 1 5 true, .int .i64 k, .int .i64 (IntKind.i64.wrap (k.tdiv 4)), .int .i64 ((IntKind.i64.wrap (k.tdiv 4)).tmod 5), V.own 3 0, .str [97], .str [97], .str (s.append (List.take 1 (List.drop 0 [97]))), .int .i64 k, .int .i64 (IntKind.i64.wrap (k.tdiv 5)), V.und], [Ob.blk true [.str [97], .str [98], .str [97, 98], .str [0], .str [255]], Ob.blk true [.str [97], .str [98], .str [97, 98], .str [0], .str [255]], Ob.blk true [.str [97], .str [98], .str [97, 98], .str [0], .str [255]], Ob.blk true [.str [97], .str [98], .str [97, 98], .str [0], .str [255]]]) else none else bif (IntKind.i64.wrap (k.tdiv 4)).tmod 5 == 1 then bif decide (s.length + 1 ≤ 9223372036854775807) then some (X.nrm, [.int .i64 n, .int .i64 most, V.und, V.und, .str [], .int .i64 (IntKind.i64.wrap (k.tdiv 5)), .str (s.append (List.take 1 (List.drop 0 [98]))), .int .i64 4, .int .i64 n, .int .i64 a, .int .i64 3, .int .i64 k, .int .i64 (k.tmod 4), V.bool (decide (3 < k.tmod 4)), .bool true, .int .i64 3, .int .i64 most, V.bool (decide (3 < most)), .bool true, .int .i64 3, .int .i64 4, .str s, V.osl 3 0 5 1 5 true, .int .i64 k, .int .i64 (IntKind.i64.wrap (k.tdiv 4)), .int .i64 ((IntKind.i64.wrap (k.tdiv 4)).tmod 5), V.own 3 1, .str [98], .str [98], .str (s.append (List.take 1 (List.drop 0 [98]))), .int .i64 k, .int .i64 (IntKind.i64.wrap (k.tdiv 5)), V.und], [Ob.blk true [.str [97], .str [98], .str [97, 98], .str [0], .str [255]], Ob.blk true [.str [97], .str [98], .str [97, 98], .str [0], .str [255]], Ob.blk true [.str [97], .str [98], .str [97, 98], .str [0], .str [255]], Ob.blk true [.str [97], .str [98], .str [97, 98], .str [0], .str [255]]]) else none else bif (IntKind.i64.wrap (k.tdiv 4)).tmod 5 == 2 then bif decide (s.length + 1 ≤ 9223372036854775807) then some (X.nrm, [.int .i64 n, .int .i64 most, V.und, V.und, .str [], .int .i64 (IntKind.i64.wrap (k.tdiv 5)), .str (s.append (List.take 1 (List.drop 0 [97, 98]))), .int .i64 4, .int .i64 n, .int .i64 a, .int .i64 3, .int .i64 k, .int .i64 (k.tmod 4), V.bool (decide (3 < k.tmod 4)), .bool true, .int .i64 3, .int .i64 most, V.bool (decide (3 < most)), .bool true, .int .i64 3, .int .i64 4, .str s, V.osl 3 0 5 1 5 true, .int .i64 k, .int .i64 (IntKind.i64.wrap (k.tdiv 4)), .int .i64 ((IntKind.i64.wrap (k.tdiv 4)).tmod 5), V.own 3 2, .str [97, 98], .str [97], .str (s.append (List.take 1 (List.drop 0 [97, 98]))), .int .i64 k, .int .i64 (IntKind.i64.wrap (k.tdiv 5)), V.und], [Ob.blk true [.str [97], .str [98], .str [97, 98], .str [0], .str [255]], Ob.blk true [.str [97], .str [98], .str [97, 98], .str [0], .str [255]], Ob.blk true [.str [97], .str [98], .str [97, 98], .str [0], .str [255]], Ob.blk true [.str [97], .str [98], .str [97, 98], .str [0], .str [255]]]) else none else bif (IntKind.i64.wrap (k.tdiv 4)).tmod 5 == 3 then bif decide (s.length + 1 ≤ 9223372036854775807) then some (X.nrm, [.int .i64 n, .int .i64 most, V.und, V.und, .str [], .int .i64 (IntKind.i64.wrap (k.tdiv 5)), .str (s.append (List.take 1 (List.drop 0 [0]))), .int .i64 4, .int .i64 n, .int .i64 a, .int .i64 3, .int .i64 k, .int .i64 (k.tmod 4), V.bool (decide (3 < k.tmod 4)), .bool true, .int .i64 3, .int .i64 most, V.bool (decide (3 < most)), .bool true, .int .i64 3, .int .i64 4, .str s, V.osl 3 0 5 1 5 true, .int .i64 k, .int .i64 (IntKind.i64.wrap (k.tdiv 4)), .int .i64 ((IntKind.i64.wrap (k.tdiv 4)).tmod 5), V.own 3 3, .str [0], .str [0], .str (s.append (List.take 1 (List.drop 0 [0]))), .int .i64 k, .int .i64 (IntKind.i64.wrap (k.tdiv 5)), V.und], [Ob.blk true [.str [97], .str [98], .str [97, 98], .str [0], .str [255]], Ob.blk true [.str [97], .str [98], .str [97, 98], .str [0], .str [255]], Ob.blk true [.str [97], .str [98], .str [97, 98], .str [0], .str [255]], Ob.blk true [.str [97], .str [98], .str [97, 98], .str [0], .str [255]]]) else none else bif (IntKind.i64.wrap (k.tdiv 4)).tmod 5 == 4 then bif decide (s.length + 1 ≤ 9223372036854775807) then some (X.nrm, [.int .i64 n, .int .i64 most, V.und, V.und, .str [], .int .i64 (IntKind.i64.wrap (k.tdiv 5)), .str (s.append (List.take 1 (List.drop 0 [255]))), .int .i64 4, .int .i64 n, .int .i64 a, .int .i64 3, .int .i64 k, .int .i64 (k.tmod 4), V.bool (decide (3 < k.tmod 4)), .bool true, .int .i64 3, .int .i64 most, V.bool (decide (3 < most)), .bool true, .int .i64 3, .int .i64 4, .str s, V.osl 3 0 5 1 5 true, .int .i64 k, .int .i64 (IntKind.i64.wrap (k.tdiv 4)), .int .i64 ((IntKind.i64.wrap (k.tdiv 4)).tmod 5), V.own 3 4, .str [255], .str [255], .str (s.append (List.take 1 (List.drop 0 [255]))), .int .i64 k, .int .i64 (IntKind.i64.wrap (k.tdiv 5)), V.und], [Ob.blk true [.str [97], .str [98], .str [97, 98], .str [0], .str [255]], Ob.blk true [.str [97], .str [98], .str [97, 98], .str [0], .str [255]], Ob.blk true [.str [97], .str [98], .str [97, 98], .str [0], .str [255]], Ob.blk true [.str [97], .str [98], .str [97, 98], .str [0], .str [255]]]) else none else bif (IntKind.i64.wrap (k.tdiv 4)).tmod 5 == 5 then none else none else some (X.exit 0, [.int .i64 n, .int .i64 most, V.und, V.und, .str [], .int .i64 k, .str s, .int .i64 3, .int .i64 n, .int .i64 a, .int .i64 3, .int .i64 k, .int .i64 (k.tmod 4), V.bool (decide (3 < k.tmod 4)), .bool true, .int .i64 3, .int .i64 most, V.bool (decide (3 < most)), .bool false, d19, d20, d21, d22, d23, d24, d25, d26, d27, d28, d29, d30, d31, V.und], [Ob.blk true [.str [97], .str [98], .str [97, 98], .str [0], .str [255]], Ob.blk true [.str [97], .str [98], .str [97, 98], .str [0], .str [255]], Ob.blk true [.str [97], .str [98], .str [97, 98], .str [0], .str [255]]]) else some (X.exit 0, [.int .i64 n, .int .i64 most, V.und, V.und, .str [], .int .i64 k, .str s, .int .i64 3, .int .i64 n, .int .i64 a, .int .i64 3, .int .i64 k, .int .i64 (k.tmod 4), V.bool (decide (3 < k.tmod 4)), .bool false, V.und, V.und, V.und, .bool false, d19, d20, d21, d22, d23, d24, d25, d26, d27, d28, d29, d30, d31, V.und], [Ob.blk true [.str [97], .str [98], .str [97, 98], .str [0], .str [255]], Ob.blk true [.str [97], .str [98], .str [97, 98], .str [0], .str [255]], Ob.blk true [.str [97], .str [98], .str [97, 98], .str [0], .str [255]]]) := by kernel_rfl

theorem x37_s (n most : Int) : runX E.inl (callX E (on [7] (sp 0)) 20) 20 p37a ([.int .i64 n, .int .i64 most] ++ List.replicate 31 .und) [] (fun x t h => some (x, t, h)) = some (X.nrm, [.int .i64 n, .int .i64 most, V.und, V.und, .str [], .int .i64 (around n 1073741824), .str [], .int .i64 0, .int .i64 n, .int .i64 (around n 1073741824), V.und, V.und, V.und, V.und, V.und, V.und, V.und, V.und, V.und, V.und, V.und, V.und, V.und, V.und, V.und, V.und, V.und, V.und, V.und, V.und, V.und, V.und, V.und], []) := by kernel_rfl


/-- How Short's loop ends. -/
def Q37 (most : Int) (x : X) (t : T) (h : H) : Prop := x = .exit 0 ∧ ∃ s : List UInt8, (s.length : Int) ≤ most ∧ t.getD 6 .und = .str s ∧ t.length = 33

theorem wpA_re5 {E : Env} {a b c d L R : C} {t : T} {h : H} {Q : X → T → H → Prop} (k : wpA E (.seq (.seq a (.seq b (.seq c d))) (.seq L R)) t h Q) : wpA E (.seq a (.seq b (.seq c (.seq (.seq d L) R)))) t h Q := by
  obtain ⟨x, t', h', q, e⟩ := k
  refine ⟨x, t', h', q, e.mono fun m k => ?_⟩
  rw [← k]
  simp only [runC]
  rcases runC E.inl (callE E m) m a t h with _ | ⟨_ | _ | _, t1, h1⟩
  · rfl
  · simp only
    rcases runC E.inl (callE E m) m b t1 h1 with _ | ⟨_ | _ | _, t1, h1⟩
    · rfl
    · simp only
      rcases runC E.inl (callE E m) m c t1 h1 with _ | ⟨_ | _ | _, t1, h1⟩
      · rfl
      · simp only
        rcases runC E.inl (callE E m) m d t1 h1 with _ | ⟨_ | _ | _, t1, h1⟩ <;> rfl
      · rfl
      · rfl
    · rfl
    · rfl
  · rfl
  · rfl

theorem tmod5 {k : Int} (hk : 0 < k) (hl : k < 1073741824) : (IntKind.i64.wrap (k.tdiv 4)).tmod 5 = 0 ∨ (IntKind.i64.wrap (k.tdiv 4)).tmod 5 = 1 ∨ (IntKind.i64.wrap (k.tdiv 4)).tmod 5 = 2 ∨ (IntKind.i64.wrap (k.tdiv 4)).tmod 5 = 3 ∨ (IntKind.i64.wrap (k.tdiv 4)).tmod 5 = 4 := by
  have h1 := Int.tdiv_nonneg (show 0 ≤ k by omega) (show (0 : Int) ≤ 4 by decide)
  have h2 := Int.tdiv_le_self 4 (show 0 ≤ k by omega)
  have w : IntKind.i64.wrap (k.tdiv 4) = k.tdiv 4 := by
    unfold IntKind.wrap IntKind.signed IntKind.bits
    simp only [Bool.true_and, ge_iff_le, decide_eq_true_eq]
    split <;> omega
  rw [w]
  have h3 := Int.tmod_lt_of_pos (k.tdiv 4) (show (0 : Int) < 5 by decide)
  have h4 := Int.tmod_nonneg 5 h1
  omega

theorem tmod4_pos {k j : Int} (hj : 0 ≤ j) (h : j < k.tmod 4) : 0 < k := by
  rcases Int.lt_or_le 0 k with h1 | h1
  · exact h1
  · have h2 := Int.tmod_nonneg 4 (show 0 ≤ -k by omega)
    rw [Int.neg_tmod] at h2
    omega

theorem wrap5 {k : Int} (h0 : 0 < k) (hk : k < 1073741824) : IntKind.i64.wrap (k.tdiv 5) < 1073741824 := by
  have h2 := Int.tdiv_le_self 5 (show 0 ≤ k by omega)
  have h1 := Int.tdiv_nonneg (show 0 ≤ k by omega) (show (0 : Int) ≤ 5 by decide)
  unfold IntKind.wrap IntKind.signed IntKind.bits
  simp only [Bool.true_and, ge_iff_le, decide_eq_true_eq]
  split <;> omega

theorem s37_3 {n most k a : Int} {s : List UInt8} {d10 d11 d12 d13 d14 d15 d16 d17 d18 d19 d20 d21 d22 d23 d24 d25 d26 d27 d28 d29 d30 d31 : V} (hk : k < 1073741824) (hs : (s.length : Int) = 3) (hm : 3 ≤ most) : wpL E b37 [.int .i64 n, .int .i64 most, .und, .und, .str [], .int .i64 k, .str s, .int .i64 3, .int .i64 n, .int .i64 a, d10, d11, d12, d13, d14, d15, d16, d17, d18, d19, d20, d21, d22, d23, d24, d25, d26, d27, d28, d29, d30, d31, .und] [.blk true [.str [97], .str [98], .str [97, 98], .str [0], .str [255]], .blk true [.str [97], .str [98], .str [97, 98], .str [0], .str [255]], .blk true [.str [97], .str [98], .str [97, 98], .str [0], .str [255]]] (Q37 most) := by
  have e := x37_3 n most k a s d10 d11 d12 d13 d14 d15 d16 d17 d18 d19 d20 d21 d22 d23 d24 d25 d26 d27 d28 d29 d30 d31
  have h3 : ¬ 3 < k.tmod 4 := by have := Int.tmod_lt_of_pos k (show (0 : Int) < 4 by decide); omega
  rw [decide_eq_false h3] at e
  exact wpL_step (wpA_run (on_nil _) e ⟨rfl, s, by omega, rfl, rfl⟩)

theorem s37_2 {n most k a : Int} {s : List UInt8} {d10 d11 d12 d13 d14 d15 d16 d17 d18 d19 d20 d21 d22 d23 d24 d25 d26 d27 d28 d29 d30 d31 : V} (hk : k < 1073741824) (hs : (s.length : Int) = 2) (hm : 2 ≤ most) : wpL E b37 [.int .i64 n, .int .i64 most, .und, .und, .str [], .int .i64 k, .str s, .int .i64 2, .int .i64 n, .int .i64 a, d10, d11, d12, d13, d14, d15, d16, d17, d18, d19, d20, d21, d22, d23, d24, d25, d26, d27, d28, d29, d30, d31, .und] [.blk true [.str [97], .str [98], .str [97, 98], .str [0], .str [255]], .blk true [.str [97], .str [98], .str [97, 98], .str [0], .str [255]]] (Q37 most) := by
  have e := x37_2 n most k a s d10 d11 d12 d13 d14 d15 d16 d17 d18 d19 d20 d21 d22 d23 d24 d25 d26 d27 d28 d29 d30 d31
  by_cases h3 : 2 < k.tmod 4
  · by_cases h4 : 2 < most
    · rw [decide_eq_true h3, decide_eq_true h4] at e
      have hp := tmod4_pos (by decide) h3
      have hw := wrap5 hp hk
      have hl : s.length + 1 ≤ 9223372036854775807 := by omega
      rcases tmod5 hp hk with hx | hx | hx | hx | hx
      all_goals
        simp only [hx, Int.reduceBEq, cond_true, cond_false, decide_eq_true hl] at e
        refine wpL_step (wpA_run (on_nil _) e (s37_3 hw ?_ (by omega)))
        show (((s ++ _ : List UInt8).length : Nat) : Int) = _
        rw [List.length_append]
        simp
        omega
    · rw [decide_eq_true h3, decide_eq_false h4] at e
      exact wpL_step (wpA_run (on_nil _) e ⟨rfl, s, by omega, rfl, rfl⟩)
  · rw [decide_eq_false h3] at e
    exact wpL_step (wpA_run (on_nil _) e ⟨rfl, s, by omega, rfl, rfl⟩)

theorem s37_1 {n most k a : Int} {s : List UInt8} {d10 d11 d12 d13 d14 d15 d16 d17 d18 d19 d20 d21 d22 d23 d24 d25 d26 d27 d28 d29 d30 d31 : V} (hk : k < 1073741824) (hs : (s.length : Int) = 1) (hm : 1 ≤ most) : wpL E b37 [.int .i64 n, .int .i64 most, .und, .und, .str [], .int .i64 k, .str s, .int .i64 1, .int .i64 n, .int .i64 a, d10, d11, d12, d13, d14, d15, d16, d17, d18, d19, d20, d21, d22, d23, d24, d25, d26, d27, d28, d29, d30, d31, .und] [.blk true [.str [97], .str [98], .str [97, 98], .str [0], .str [255]]] (Q37 most) := by
  have e := x37_1 n most k a s d10 d11 d12 d13 d14 d15 d16 d17 d18 d19 d20 d21 d22 d23 d24 d25 d26 d27 d28 d29 d30 d31
  by_cases h3 : 1 < k.tmod 4
  · by_cases h4 : 1 < most
    · rw [decide_eq_true h3, decide_eq_true h4] at e
      have hp := tmod4_pos (by decide) h3
      have hw := wrap5 hp hk
      have hl : s.length + 1 ≤ 9223372036854775807 := by omega
      rcases tmod5 hp hk with hx | hx | hx | hx | hx
      all_goals
        simp only [hx, Int.reduceBEq, cond_true, cond_false, decide_eq_true hl] at e
        refine wpL_step (wpA_run (on_nil _) e (s37_2 hw ?_ (by omega)))
        show (((s ++ _ : List UInt8).length : Nat) : Int) = _
        rw [List.length_append]
        simp
        omega
    · rw [decide_eq_true h3, decide_eq_false h4] at e
      exact wpL_step (wpA_run (on_nil _) e ⟨rfl, s, by omega, rfl, rfl⟩)
  · rw [decide_eq_false h3] at e
    exact wpL_step (wpA_run (on_nil _) e ⟨rfl, s, by omega, rfl, rfl⟩)

theorem s37_0 {n most k a : Int} {s : List UInt8} {d10 d11 d12 d13 d14 d15 d16 d17 d18 d19 d20 d21 d22 d23 d24 d25 d26 d27 d28 d29 d30 d31 : V} (hk : k < 1073741824) (hs : (s.length : Int) = 0) (hm : 0 ≤ most) : wpL E b37 [.int .i64 n, .int .i64 most, .und, .und, .str [], .int .i64 k, .str s, .int .i64 0, .int .i64 n, .int .i64 a, d10, d11, d12, d13, d14, d15, d16, d17, d18, d19, d20, d21, d22, d23, d24, d25, d26, d27, d28, d29, d30, d31, .und] [] (Q37 most) := by
  have e := x37_0 n most k a s d10 d11 d12 d13 d14 d15 d16 d17 d18 d19 d20 d21 d22 d23 d24 d25 d26 d27 d28 d29 d30 d31
  by_cases h3 : 0 < k.tmod 4
  · by_cases h4 : 0 < most
    · rw [decide_eq_true h3, decide_eq_true h4] at e
      have hp := tmod4_pos (by decide) h3
      have hw := wrap5 hp hk
      have hl : s.length + 1 ≤ 9223372036854775807 := by omega
      rcases tmod5 hp hk with hx | hx | hx | hx | hx
      all_goals
        simp only [hx, Int.reduceBEq, cond_true, cond_false, decide_eq_true hl] at e
        refine wpL_step (wpA_run (on_nil _) e (s37_1 hw ?_ (by omega)))
        show (((s ++ _ : List UInt8).length : Nat) : Int) = _
        rw [List.length_append]
        simp
        omega
    · rw [decide_eq_true h3, decide_eq_false h4] at e
      exact wpL_step (wpA_run (on_nil _) e ⟨rfl, s, by omega, rfl, rfl⟩)
  · rw [decide_eq_false h3] at e
    exact wpL_step (wpA_run (on_nil _) e ⟨rfl, s, by omega, rfl, rfl⟩)

theorem around_lt (n : Int) {m : Int} (hm : 0 < m) : around n m < m := Int.tmod_lt_of_pos _ hm

theorem getD_set {t : T} {i n : Nat} {v : V} (h : t.length = n) (hi : i < n) : (t.set i v).getD i .und = v := by
  rw [List.getD_eq_getElem?_getD, List.getElem?_set_self (by omega)]
  rfl

theorem p37 {n most : Int} (hm : 0 ≤ most) : ∃ s : List UInt8, (s.length : Int) ≤ most ∧ Ans E 37 [.int .i64 n, .int .i64 most] (.str s) := by
  have key : wpA E c37.body ([.int .i64 n, .int .i64 most] ++ List.replicate 31 .und) [] fun x t h => (x = .nrm ∨ x = .ret) ∧ ∃ s : List UInt8, (s.length : Int) ≤ most ∧ resE t h c37.res = some (.str s) := by
    show wpA E (.seq (cl c37.body) (.seq (cl (cr c37.body)) (.seq (cl (cr (cr c37.body))) (.seq (.seq (cl (cl (cr (cr (cr c37.body))))) (.block 0 (.loop b37))) (cr (cr (cr (cr c37.body)))))))) _ _ _
    refine wpA_re5 (wpA_seq (wpA_run (ok7 0) (x37_s n most) ?_))
    refine wpA_seq (wpA_block (wpA_loop ?_))
    obtain ⟨x, t', h', ⟨rfl, s, hs, ht, hl⟩, ev⟩ := s37_0 (n := n) (most := most) (k := around n 1073741824) (a := around n 1073741824) (s := []) (d10 := .und) (d11 := .und) (d12 := .und) (d13 := .und) (d14 := .und) (d15 := .und) (d16 := .und) (d17 := .und) (d18 := .und) (d19 := .und) (d20 := .und) (d21 := .und) (d22 := .und) (d23 := .und) (d24 := .und) (d25 := .und) (d26 := .und) (d27 := .und) (d28 := .und) (d29 := .und) (d30 := .und) (d31 := .und) (around_lt n (by decide)) rfl hm
    refine ⟨.exit 0, t', h', ?_, ev⟩
    show wpA E _ t' h' _
    refine wpA_seq (wpA_reg (wpR_op (v := .str s) (h1 := h') (fun _ => ?_) (wpR_op (v := .str s) (h1 := h') (fun _ => ?_) (wpR_nil ?_))))
    · show some (t'.getD 6 .und, h') = _
      rw [ht]
    · show some ((t'.set 32 (.str s)).getD 32 .und, h') = _
      rw [getD_set hl (by decide)]
    · refine wpA_ret ⟨.inr rfl, s, hs, ?_⟩
      show some (((t'.set 32 (.str s)).set 4 (.str s)).getD 4 .und) = _
      rw [getD_set (n := 33) (by rw [List.length_set, hl]) (by decide)]
  obtain ⟨x, t', h', ⟨hx, s, hs, hr⟩, ev⟩ := key
  exact ⟨s, hs, fun args h is hf => callA_iso (fn := c37) (js := []) rfl (by kernel_rfl) rfl hf ⟨x, t', h', ⟨hx, .str s, hr, frz_str _ _⟩, ev⟩⟩

theorem short_len {n most : Int} (hm : 0 ≤ most) : ((short n most).length : Int) ≤ most := by
  have key := p37 (n := n) hm
  unfold short
  rw [dif_pos key]
  exact key.choose_spec.1

theorem a37 (as : List V) (r : Tr) (v : V) (e : s37 as = some r) (q : runTr r some = some v) : Ans E 37 as v := by
  unfold s37 at e
  split at e
  · rename_i n most
    cases e
    obtain ⟨h, q⟩ := need_some q
    cases is_some q
    have key := p37 (n := n) (of_decide_eq_true h)
    unfold short
    rw [dif_pos key]
    exact key.choose_spec.2
  · cases e

end Ea
end Go.Proofs
