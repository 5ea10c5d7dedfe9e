/-
  THE CODES of the functions that the law reaches, as the evaluator reads them, and its environment. Conditions: none; definitions alone.
-/
import Derived.Test.YtnfhojipjhcjjaaGreatDoorAm28
namespace Go.Proofs
namespace Ea
open Go.Am
set_option autoImplicit false
set_option linter.unusedVariables false
set_option maxRecDepth 100000

def kid : List V := [0,0,0,0,1,1,2,2,2,2,2,2,2,2,2,2,2,2,2,3,2,1,1,1,2,3,2,1,1,2,3,2,3,1,1].map (V.int .i64)
def kidV : V := .imm kid
def inl (f : FuncId) : Bool := f == 74 || f == 75 || f == 76 || f == 77 || f == 203
def gl (m : Int) (g : Nat) : Option (List V) := if g = 0 then some kid else if g = 1 then some [.int .i64 m] else none
/-- enthymeme/enthymemelaw08.EvalArrays -/
def c5 : Am.Fn := ⟨201, [.tmp 12],
 (.seq (.reg [⟨(some 12), none, .mv (.k (.bool false)), []⟩])
 (.seq (.reg [⟨(some 35), none, .mv (.t 0), []⟩,
 ⟨(some 36), none, .call 7 [(.t 35), (.k (.int .i64 65536))], []⟩,
 ⟨(some 37), none, .bin .mul (.k (.int .i64 4)) (.t 36), []⟩,
 ⟨(some 38), none, .bin .add (.k (.int .i64 2)) (.t 37), []⟩,
 ⟨(some 39), none, .mv (.t 5), []⟩,
 ⟨(some 40), none, .call 7 [(.t 39), (.k (.int .i64 2))], []⟩,
 ⟨(some 41), none, .bin .add (.t 38) (.t 40), []⟩,
 ⟨(some 42), none, .call 26 [(.t 41)], []⟩,
 ⟨(some 13), none, .alloc [(.int .i64 0), (.int .i64 0), (.int .i64 0)], []⟩,
 ⟨none, none, .store 3 (.t 13) (.t 42), []⟩])
 (.seq (.reg [⟨(some 43), none, .load (some 3) (.t 13), []⟩,
 ⟨(some 44), none, .mv (.t 1), []⟩,
 ⟨(some 45), none, .call 8 [(.t 43), (.t 44)], []⟩,
 ⟨(some 46), none, .call 27 [(.t 45)], []⟩,
 ⟨(some 14), none, .alloc [(.int .i64 0), (.int .i64 0), (.int .i64 0), (.int .u64 0), (.str []), .nils], []⟩,
 ⟨none, none, .store 6 (.t 14) (.t 46), []⟩])
 (.seq (.reg [⟨(some 47), none, .load (some 3) (.t 13), []⟩,
 ⟨(some 48), none, .mv (.t 2), []⟩,
 ⟨(some 49), none, .call 8 [(.t 47), (.t 48)], []⟩,
 ⟨(some 50), none, .call 27 [(.t 49)], []⟩,
 ⟨(some 15), none, .alloc [(.int .i64 0), (.int .i64 0), (.int .i64 0), (.int .u64 0), (.str []), .nils], []⟩,
 ⟨none, none, .store 6 (.t 15) (.t 50), []⟩])
 (.seq (.seq (.reg [⟨(some 51), none, .mv (.t 5), []⟩,
 ⟨(some 52), none, .call 7 [(.t 51), (.k (.int .i64 5))], []⟩,
 ⟨(some 53), none, .eq false (.sc [.int .i64] false) (.t 52) (.k (.int .i64 0)), []⟩])
 (.cond (.t 53)
 (.reg [⟨(some 54), none, .load (some 3) (.t 13), []⟩,
 ⟨(some 55), none, .mv (.t 1), []⟩,
 ⟨(some 56), none, .call 8 [(.t 54), (.t 55)], []⟩,
 ⟨(some 57), none, .call 27 [(.t 56)], []⟩,
 ⟨none, none, .store 6 (.t 15) (.t 57), []⟩])
 .skip))
 (.seq (.reg [⟨(some 58), none, .mv (.t 3), []⟩,
 ⟨(some 59), none, .fa 2 (.t 13), []⟩,
 ⟨(some 60), none, .load none (.t 59), []⟩,
 ⟨(some 61), none, .call 28 [(.t 58), (.t 60)], []⟩,
 ⟨(some 62), none, .fa 2 (.t 13), []⟩,
 ⟨(some 63), none, .load none (.t 62), []⟩,
 ⟨(some 64), none, .call 22 [(.t 61), (.t 63)], []⟩,
 ⟨(some 16), none, .alloc [(.int .i64 0), (.int .i64 0), (.int .i64 0), (.int .u64 0), (.str []), .nils], []⟩,
 ⟨none, none, .store 6 (.t 16) (.t 64), []⟩])
 (.seq (.reg [⟨(some 65), none, .mv (.t 4), []⟩,
 ⟨(some 66), none, .fa 2 (.t 13), []⟩,
 ⟨(some 67), none, .load none (.t 66), []⟩,
 ⟨(some 68), none, .call 28 [(.t 65), (.t 67)], []⟩,
 ⟨(some 69), none, .fa 2 (.t 13), []⟩,
 ⟨(some 70), none, .load none (.t 69), []⟩,
 ⟨(some 71), none, .call 22 [(.t 68), (.t 70)], []⟩,
 ⟨(some 17), none, .alloc [(.int .i64 0), (.int .i64 0), (.int .i64 0), (.int .u64 0), (.str []), .nils], []⟩,
 ⟨none, none, .store 6 (.t 17) (.t 71), []⟩])
 (.seq (.reg [⟨(some 72), none, .load (some 3) (.t 13), []⟩,
 ⟨(some 73), none, .call 29 [(.t 72)], []⟩,
 ⟨(some 74), none, .mv (.t 5), []⟩,
 ⟨(some 75), none, .bsl 1 1 [(.int .i64 0)] [(0, 1, (.t 74))], []⟩,
 ⟨(some 76), none, .call 8 [(.t 73), (.t 75)], []⟩,
 ⟨(some 77), none, .call 27 [(.t 76)], []⟩,
 ⟨(some 18), none, .alloc [(.int .i64 0), (.int .i64 0), (.int .i64 0), (.int .u64 0), (.str []), .nils], []⟩,
 ⟨none, none, .store 6 (.t 18) (.t 77), []⟩])
 (.seq (.reg [⟨(some 79), none, .load (some 6) (.t 14), []⟩,
 ⟨(some 80), none, .load (some 6) (.t 16), []⟩,
 ⟨(some 81), none, .load (some 6) (.t 18), []⟩,
 ⟨(some 82), none, .bsl 3 6 [(.int .i64 0), (.int .i64 0), (.int .i64 0), (.int .u64 0), (.str []), .nils] [(0, 6, (.t 79)), (6, 6, (.t 80)), (12, 6, (.t 81))], []⟩,
 ⟨(some 83), none, .call 21 [(.k (.int .i64 25)), (.t 82)], []⟩,
 ⟨(some 78), none, .mv (.t 83), []⟩,
 ⟨(some 84), none, .ext (.t 78) 0, []⟩,
 ⟨(some 85), none, .ext (.t 78) 1, []⟩,
 ⟨(some 19), none, .alloc [(.int .i64 0), (.int .i64 0), (.int .i64 0), (.int .u64 0), (.str []), .nils], []⟩,
 ⟨none, none, .store 6 (.t 19) (.t 84), []⟩,
 ⟨(some 20), none, .mv (.t 85), []⟩])
 (.seq (.reg [⟨(some 87), none, .load (some 6) (.t 19), []⟩,
 ⟨(some 88), none, .load (some 6) (.t 16), []⟩,
 ⟨(some 89), none, .bsl 2 6 [(.int .i64 0), (.int .i64 0), (.int .i64 0), (.int .u64 0), (.str []), .nils] [(0, 6, (.t 87)), (6, 6, (.t 88))], []⟩,
 ⟨(some 90), none, .call 21 [(.k (.int .i64 24)), (.t 89)], []⟩,
 ⟨(some 86), none, .mv (.t 90), []⟩,
 ⟨(some 91), none, .ext (.t 86) 0, []⟩,
 ⟨(some 92), none, .ext (.t 86) 1, []⟩,
 ⟨(some 21), none, .alloc [(.int .i64 0), (.int .i64 0), (.int .i64 0), (.int .u64 0), (.str []), .nils], []⟩,
 ⟨none, none, .store 6 (.t 21) (.t 91), []⟩,
 ⟨(some 22), none, .mv (.t 92), []⟩])
 (.seq (.reg [⟨(some 94), none, .load (some 6) (.t 19), []⟩,
 ⟨(some 95), none, .load (some 6) (.t 17), []⟩,
 ⟨(some 96), none, .bsl 2 6 [(.int .i64 0), (.int .i64 0), (.int .i64 0), (.int .u64 0), (.str []), .nils] [(0, 6, (.t 94)), (6, 6, (.t 95))], []⟩,
 ⟨(some 97), none, .call 21 [(.k (.int .i64 24)), (.t 96)], []⟩,
 ⟨(some 93), none, .mv (.t 97), []⟩,
 ⟨(some 98), none, .ext (.t 93) 0, []⟩,
 ⟨(some 99), none, .ext (.t 93) 1, []⟩,
 ⟨(some 23), none, .alloc [(.int .i64 0), (.int .i64 0), (.int .i64 0), (.int .u64 0), (.str []), .nils], []⟩,
 ⟨none, none, .store 6 (.t 23) (.t 98), []⟩,
 ⟨(some 24), none, .mv (.t 99), []⟩])
 (.seq (.reg [⟨(some 101), none, .load (some 6) (.t 14), []⟩,
 ⟨(some 102), none, .load (some 6) (.t 17), []⟩,
 ⟨(some 103), none, .bsl 2 6 [(.int .i64 0), (.int .i64 0), (.int .i64 0), (.int .u64 0), (.str []), .nils] [(0, 6, (.t 101)), (6, 6, (.t 102))], []⟩,
 ⟨(some 104), none, .call 21 [(.k (.int .i64 24)), (.t 103)], []⟩,
 ⟨(some 100), none, .mv (.t 104), []⟩,
 ⟨(some 105), none, .ext (.t 100) 0, []⟩,
 ⟨(some 106), none, .ext (.t 100) 1, []⟩,
 ⟨(some 25), none, .alloc [(.int .i64 0), (.int .i64 0), (.int .i64 0), (.int .u64 0), (.str []), .nils], []⟩,
 ⟨none, none, .store 6 (.t 25) (.t 105), []⟩,
 ⟨(some 26), none, .mv (.t 106), []⟩])
 (.seq (.seq (.reg [⟨(some 107), none, .mv (.t 20), []⟩,
 ⟨(some 108), none, .un .not (.t 107), []⟩,
 ⟨(some 109), none, .mv (.t 108), []⟩,
 ⟨(some 110), (some (109, false)), .mv (.t 22), []⟩,
 ⟨(some 111), (some (109, false)), .un .not (.t 110), []⟩,
 ⟨(some 112), none, .pick (.t 109) (.k (.bool true)) (.t 111), []⟩,
 ⟨(some 113), none, .mv (.t 112), []⟩,
 ⟨(some 114), (some (113, false)), .mv (.t 24), []⟩,
 ⟨(some 115), (some (113, false)), .un .not (.t 114), []⟩,
 ⟨(some 116), none, .pick (.t 113) (.k (.bool true)) (.t 115), []⟩,
 ⟨(some 117), none, .mv (.t 116), []⟩,
 ⟨(some 118), (some (117, false)), .mv (.t 26), []⟩,
 ⟨(some 119), (some (117, false)), .un .not (.t 118), []⟩,
 ⟨(some 120), none, .pick (.t 117) (.k (.bool true)) (.t 119), []⟩,
 ⟨(some 121), none, .mv (.t 120), []⟩,
 ⟨(some 122), (some (121, false)), .load (some 6) (.t 21), []⟩,
 ⟨(some 123), (some (121, false)), .load (some 6) (.t 18), []⟩,
 ⟨(some 124), (some (121, false)), .call 30 [(.t 122), (.t 123)], []⟩,
 ⟨(some 125), (some (121, false)), .eq true (.sc [.int .i64] false) (.t 124) (.k (.int .i64 0)), []⟩,
 ⟨(some 126), none, .pick (.t 121) (.k (.bool true)) (.t 125), []⟩,
 ⟨(some 127), none, .mv (.t 126), []⟩,
 ⟨(some 128), (some (127, false)), .fa 3 (.t 16), []⟩,
 ⟨(some 129), (some (127, false)), .load none (.t 128), []⟩,
 ⟨(some 130), (some (127, false)), .fa 3 (.t 17), []⟩,
 ⟨(some 131), (some (127, false)), .load none (.t 130), []⟩,
 ⟨(some 132), (some (127, false)), .eq true (.sc [.int .u64] false) (.t 129) (.t 131), []⟩,
 ⟨(some 133), (some (127, false)), .mv (.t 132), []⟩,
 ⟨(some 134), (some (133, true)), .load (some 6) (.t 23), []⟩,
 ⟨(some 135), (some (133, true)), .load (some 6) (.t 25), []⟩,
 ⟨(some 136), (some (133, true)), .call 30 [(.t 134), (.t 135)], []⟩,
 ⟨(some 137), (some (133, true)), .eq true (.sc [.int .i64] false) (.t 136) (.k (.int .i64 0)), []⟩,
 ⟨(some 138), (some (127, false)), .pick (.t 133) (.t 137) (.k (.bool false)), []⟩,
 ⟨(some 139), none, .pick (.t 127) (.k (.bool true)) (.t 138), []⟩])
 (.cond (.t 139)
 (.seq (.reg [⟨(some 12), none, .mv (.k (.bool false)), []⟩])
 .ret)
 .skip))
 (.seq (.reg [⟨(some 141), none, .load (some 6) (.t 14), []⟩,
 ⟨(some 142), none, .load (some 6) (.t 15), []⟩,
 ⟨(some 143), none, .bsl 2 6 [(.int .i64 0), (.int .i64 0), (.int .i64 0), (.int .u64 0), (.str []), .nils] [(0, 6, (.t 141)), (6, 6, (.t 142))], []⟩,
 ⟨(some 144), none, .call 21 [(.k (.int .i64 18)), (.t 143)], []⟩,
 ⟨(some 140), none, .mv (.t 144), []⟩,
 ⟨(some 145), none, .ext (.t 140) 0, []⟩,
 ⟨(some 146), none, .ext (.t 140) 1, []⟩,
 ⟨(some 27), none, .alloc [(.int .i64 0), (.int .i64 0), (.int .i64 0), (.int .u64 0), (.str []), .nils], []⟩,
 ⟨none, none, .store 6 (.t 27) (.t 145), []⟩,
 ⟨(some 28), none, .mv (.t 146), []⟩])
 (.seq (.reg [⟨(some 148), none, .load (some 6) (.t 14), []⟩,
 ⟨(some 149), none, .load (some 6) (.t 15), []⟩,
 ⟨(some 150), none, .bsl 2 6 [(.int .i64 0), (.int .i64 0), (.int .i64 0), (.int .u64 0), (.str []), .nils] [(0, 6, (.t 148)), (6, 6, (.t 149))], []⟩,
 ⟨(some 151), none, .call 21 [(.k (.int .i64 26)), (.t 150)], []⟩,
 ⟨(some 147), none, .mv (.t 151), []⟩,
 ⟨(some 152), none, .ext (.t 147) 0, []⟩,
 ⟨(some 153), none, .ext (.t 147) 1, []⟩,
 ⟨(some 29), none, .alloc [(.int .i64 0), (.int .i64 0), (.int .i64 0), (.int .u64 0), (.str []), .nils], []⟩,
 ⟨none, none, .store 6 (.t 29) (.t 152), []⟩,
 ⟨(some 30), none, .mv (.t 153), []⟩])
 (.seq (.reg [⟨(some 155), none, .load (some 6) (.t 14), []⟩,
 ⟨(some 156), none, .load (some 6) (.t 29), []⟩,
 ⟨(some 157), none, .bsl 2 6 [(.int .i64 0), (.int .i64 0), (.int .i64 0), (.int .u64 0), (.str []), .nils] [(0, 6, (.t 155)), (6, 6, (.t 156))], []⟩,
 ⟨(some 158), none, .call 21 [(.k (.int .i64 24)), (.t 157)], []⟩,
 ⟨(some 154), none, .mv (.t 158), []⟩,
 ⟨(some 159), none, .ext (.t 154) 0, []⟩,
 ⟨(some 160), none, .ext (.t 154) 1, []⟩,
 ⟨(some 31), none, .alloc [(.int .i64 0), (.int .i64 0), (.int .i64 0), (.int .u64 0), (.str []), .nils], []⟩,
 ⟨none, none, .store 6 (.t 31) (.t 159), []⟩,
 ⟨(some 32), none, .mv (.t 160), []⟩])
 (.seq (.reg [⟨(some 162), none, .load (some 6) (.t 15), []⟩,
 ⟨(some 163), none, .load (some 6) (.t 29), []⟩,
 ⟨(some 164), none, .bsl 2 6 [(.int .i64 0), (.int .i64 0), (.int .i64 0), (.int .u64 0), (.str []), .nils] [(0, 6, (.t 162)), (6, 6, (.t 163))], []⟩,
 ⟨(some 165), none, .call 21 [(.k (.int .i64 24)), (.t 164)], []⟩,
 ⟨(some 161), none, .mv (.t 165), []⟩,
 ⟨(some 166), none, .ext (.t 161) 0, []⟩,
 ⟨(some 167), none, .ext (.t 161) 1, []⟩,
 ⟨(some 33), none, .alloc [(.int .i64 0), (.int .i64 0), (.int .i64 0), (.int .u64 0), (.str []), .nils], []⟩,
 ⟨none, none, .store 6 (.t 33) (.t 166), []⟩,
 ⟨(some 34), none, .mv (.t 167), []⟩])
 (.seq (.reg [⟨(some 168), none, .mv (.t 28), []⟩,
 ⟨(some 169), none, .mv (.t 168), []⟩,
 ⟨(some 170), (some (169, true)), .mv (.t 30), []⟩,
 ⟨(some 171), none, .pick (.t 169) (.t 170) (.k (.bool false)), []⟩,
 ⟨(some 172), none, .mv (.t 171), []⟩,
 ⟨(some 173), (some (172, true)), .mv (.t 32), []⟩,
 ⟨(some 174), none, .pick (.t 172) (.t 173) (.k (.bool false)), []⟩,
 ⟨(some 175), none, .mv (.t 174), []⟩,
 ⟨(some 176), (some (175, true)), .mv (.t 34), []⟩,
 ⟨(some 177), none, .pick (.t 175) (.t 176) (.k (.bool false)), []⟩,
 ⟨(some 178), none, .mv (.t 177), []⟩,
 ⟨(some 179), (some (178, true)), .fa 3 (.t 27), []⟩,
 ⟨(some 180), (some (178, true)), .load none (.t 179), []⟩,
 ⟨(some 181), (some (178, true)), .eq false (.sc [.int .u64] false) (.t 180) (.k (.int .u64 1)), []⟩,
 ⟨(some 182), (some (178, true)), .load (some 6) (.t 31), []⟩,
 ⟨(some 183), (some (178, true)), .load (some 6) (.t 33), []⟩,
 ⟨(some 184), (some (178, true)), .call 30 [(.t 182), (.t 183)], []⟩,
 ⟨(some 185), (some (178, true)), .eq false (.sc [.int .i64] false) (.t 184) (.k (.int .i64 0)), []⟩,
 ⟨(some 186), (some (178, true)), .eq false (.sc [.bool] false) (.t 181) (.t 185), []⟩,
 ⟨(some 187), none, .pick (.t 178) (.t 186) (.k (.bool false)), []⟩,
 ⟨(some 188), none, .mv (.t 187), []⟩,
 ⟨(some 189), (some (188, true)), .fa 3 (.t 27), []⟩,
 ⟨(some 190), (some (188, true)), .load none (.t 189), []⟩,
 ⟨(some 191), (some (188, true)), .eq false (.sc [.int .u64] false) (.t 190) (.k (.int .u64 1)), []⟩,
 ⟨(some 192), (some (188, true)), .load (some 6) (.t 14), []⟩,
 ⟨(some 193), (some (188, true)), .load (some 6) (.t 15), []⟩,
 ⟨(some 194), (some (188, true)), .call 30 [(.t 192), (.t 193)], []⟩,
 ⟨(some 195), (some (188, true)), .eq false (.sc [.int .i64] false) (.t 194) (.k (.int .i64 0)), []⟩,
 ⟨(some 196), (some (188, true)), .eq false (.sc [.bool] false) (.t 191) (.t 195), []⟩,
 ⟨(some 197), none, .pick (.t 188) (.t 196) (.k (.bool false)), []⟩,
 ⟨(some 198), none, .mv (.t 197), []⟩,
 ⟨(some 199), (some (198, true)), .call 18 [], []⟩,
 ⟨(some 200), none, .pick (.t 198) (.t 199) (.k (.bool false)), []⟩,
 ⟨(some 12), none, .mv (.t 200), []⟩])
 .ret))))))))))))))))))⟩

/-- enthymeme/enthymemeref01.Around -/
def c7 : Am.Fn := ⟨13, [.tmp 4],
 (.seq (.reg [⟨(some 4), none, .mv (.k (.int .i64 0)), []⟩])
 (.seq (.seq (.reg [⟨(some 5), none, .mv (.t 0), []⟩,
 ⟨(some 6), none, .bin .lss (.t 5) (.k (.int .i64 0)), []⟩])
 (.cond (.t 6)
 (.reg [⟨(some 7), none, .mv (.t 0), []⟩,
 ⟨(some 8), none, .bin .add (.t 7) (.k (.int .i64 1)), []⟩,
 ⟨(some 9), none, .un .neg (.t 8), []⟩,
 ⟨(some 0), none, .mv (.t 9), []⟩])
 .skip))
 (.seq (.reg [⟨(some 10), none, .mv (.t 0), []⟩,
 ⟨(some 11), none, .mv (.t 1), []⟩,
 ⟨(some 12), none, .bin .rem (.t 10) (.t 11), []⟩,
 ⟨(some 4), none, .mv (.t 12), []⟩])
 .ret)))⟩

/-- enthymeme/enthymemeref06.Of -/
def c8 : Am.Fn := ⟨65, [.cell 4 (some 6)],
 (.seq (.reg [⟨(some 2), none, .box (.t 0), []⟩,
 ⟨(some 4), none, .alloc [(.int .i64 0), (.int .i64 0), (.int .i64 0), (.int .u64 0), (.str []), .nils], []⟩])
 (.seq (.reg [⟨(some 9), none, .load (some 3) (.t 2), []⟩,
 ⟨(some 10), none, .build [(.int .i64 0), (.int .i64 0), (.int .i64 0), (.int .u64 0), (.str []), .nils] [(0, 3, (.t 9))], []⟩,
 ⟨(some 5), none, .alloc [(.int .i64 0), (.int .i64 0), (.int .i64 0), (.int .u64 0), (.str []), .nils], []⟩,
 ⟨none, none, .store 6 (.t 5) (.t 10), []⟩])
 (.seq (.seq (.reg [⟨(some 11), none, .fa 0 (.t 2), []⟩,
 ⟨(some 12), none, .load none (.t 11), []⟩])
 (.block 0
 (.seq (.reg [⟨(some 49), none, .eq false (.sc [.int .i64] false) (.t 12) (.k (.int .i64 0)), []⟩,
 ⟨(some 48), none, .mv (.t 49), []⟩])
 (.cond (.t 48)
 (.reg [⟨(some 50), none, .mv (.t 1), []⟩,
 ⟨(some 51), none, .call 36 [(.t 50), (.k (.int .i64 0)), (.k (.int .i64 1073741824))], []⟩,
 ⟨(some 52), none, .fa 1 (.t 2), []⟩,
 ⟨(some 53), none, .load none (.t 52), []⟩,
 ⟨(some 54), none, .call 28 [(.t 51), (.t 53)], []⟩,
 ⟨(some 55), none, .fa 3 (.t 5), []⟩,
 ⟨none, none, .store 1 (.t 55) (.t 54), []⟩])
 (.seq (.reg [⟨(some 57), none, .eq false (.sc [.int .i64] false) (.t 12) (.k (.int .i64 1)), []⟩,
 ⟨(some 56), none, .mv (.t 57), []⟩])
 (.cond (.t 56)
 (.reg [⟨(some 58), none, .mv (.t 1), []⟩,
 ⟨(some 59), none, .call 36 [(.t 58), (.k (.int .i64 0)), (.k (.int .i64 1073741824))], []⟩,
 ⟨(some 60), none, .fa 1 (.t 2), []⟩,
 ⟨(some 61), none, .load none (.t 60), []⟩,
 ⟨(some 62), none, .call 37 [(.t 59), (.t 61)], []⟩,
 ⟨(some 63), none, .fa 4 (.t 5), []⟩,
 ⟨none, none, .store 1 (.t 63) (.t 62), []⟩])
 (.seq (.reg [⟨(some 6), none, .mv (.k (.int .i64 0)), []⟩])
 (.block 1
 (.loop
 (.seq (.seq (.reg [⟨(some 13), none, .mv (.t 6), []⟩,
 ⟨(some 14), none, .mv (.t 1), []⟩,
 ⟨(some 15), none, .len (.t 14), []⟩,
 ⟨(some 16), none, .bin .lss (.t 13) (.t 15), []⟩,
 ⟨(some 17), none, .mv (.t 16), []⟩,
 ⟨(some 18), (some (17, true)), .mv (.t 6), []⟩,
 ⟨(some 19), (some (17, true)), .bin .lss (.t 18) (.k (.int .i64 5)), []⟩,
 ⟨(some 20), none, .pick (.t 17) (.t 19) (.k (.bool false)), []⟩])
 (.cond (.t 20)
 .skip
 (.exit 1)))
 (.seq (.block 2
 (.seq (.reg [⟨(some 23), none, .mv (.t 1), []⟩,
 ⟨(some 24), none, .mv (.t 6), []⟩,
 ⟨(some 25), none, .call 36 [(.t 23), (.t 24), (.k (.int .i64 1073741824))], []⟩,
 ⟨(some 7), none, .mv (.t 25), []⟩])
 (.seq (.reg [⟨(some 26), none, .mv (.t 7), []⟩,
 ⟨(some 27), none, .bin .quo (.t 26) (.k (.int .i64 7)), []⟩,
 ⟨(some 28), none, .fa 2 (.t 2), []⟩,
 ⟨(some 29), none, .load none (.t 28), []⟩,
 ⟨(some 30), none, .call 28 [(.t 27), (.t 29)], []⟩,
 ⟨(some 8), none, .mv (.t 30), []⟩])
 (.seq (.reg [⟨(some 31), none, .fa 0 (.t 2), []⟩,
 ⟨(some 32), none, .load none (.t 31), []⟩,
 ⟨(some 33), none, .eq false (.sc [.int .i64] false) (.t 32) (.k (.int .i64 2)), []⟩])
 (.cond (.t 33)
 (.reg [⟨(some 34), none, .load (some 6) (.t 5), []⟩,
 ⟨(some 35), none, .mv (.t 8), []⟩,
 ⟨(some 36), none, .mv (.t 7), []⟩,
 ⟨(some 37), none, .fa 1 (.t 2), []⟩,
 ⟨(some 38), none, .load none (.t 37), []⟩,
 ⟨(some 39), none, .call 28 [(.t 36), (.t 38)], []⟩,
 ⟨(some 40), none, .call 38 [(.t 34), (.t 35), (.t 39), (.k (.str []))], []⟩,
 ⟨none, none, .store 6 (.t 5) (.t 40), []⟩])
 (.reg [⟨(some 41), none, .load (some 6) (.t 5), []⟩,
 ⟨(some 42), none, .mv (.t 8), []⟩,
 ⟨(some 43), none, .mv (.t 7), []⟩,
 ⟨(some 44), none, .fa 1 (.t 2), []⟩,
 ⟨(some 45), none, .load none (.t 44), []⟩,
 ⟨(some 46), none, .call 37 [(.t 43), (.t 45)], []⟩,
 ⟨(some 47), none, .call 38 [(.t 41), (.t 42), (.k (.int .u64 0)), (.t 46)], []⟩,
 ⟨none, none, .store 6 (.t 5) (.t 47), []⟩]))))))
 (.reg [⟨(some 21), none, .mv (.t 6), []⟩,
 ⟨(some 22), none, .bin .add (.t 21) (.k (.int .i64 1)), []⟩,
 ⟨(some 6), none, .mv (.t 22), []⟩]))))))))))))
 (.seq (.reg [⟨(some 64), none, .load (some 6) (.t 5), []⟩,
 ⟨none, none, .store 6 (.t 4) (.t 64), []⟩])
 .ret))))⟩

/-- enthymeme/eval.Node -/
def c12 : Am.Fn := ⟨81, [.cell 4 (some 6), .tmp 5],
 (.seq (.reg [⟨(some 2), none, .box (.t 0), []⟩,
 ⟨(some 4), none, .alloc [(.int .i64 0), (.int .i64 0), (.int .i64 0), (.int .u64 0), (.str []), .nils], []⟩,
 ⟨(some 5), none, .mv (.k (.int .i64 0)), []⟩])
 (.seq (.seq (.reg [⟨(some 14), none, .mv (.t 1), []⟩,
 ⟨(some 15), none, .len (.t 14), []⟩,
 ⟨(some 16), none, .mv (.k (.int .i64 0)), []⟩])
 (.block 0
 (.loop
 (.seq (.reg [⟨(some 17), none, .bin .lss (.t 16) (.t 15), []⟩])
 (.seq (.cond (.t 17)
 .skip
 (.exit 0))
 (.seq (.block 1
 (.seq (.reg [⟨(some 18), none, .ia 6 (.t 14) (.t 16), []⟩,
 ⟨(some 19), none, .load (some 6) (.t 18), []⟩,
 ⟨(some 7), none, .alloc [(.int .i64 0), (.int .i64 0), (.int .i64 0), (.int .u64 0), (.str []), .nils], []⟩,
 ⟨none, none, .store 6 (.t 7) (.t 19), []⟩])
 (.seq (.reg [⟨(some 20), none, .load (some 6) (.t 7), []⟩,
 ⟨(some 21), none, .call 39 [(.t 20)], []⟩,
 ⟨(some 8), none, .mv (.t 21), []⟩])
 (.seq (.reg [⟨(some 22), none, .mv (.t 8), []⟩,
 ⟨(some 23), none, .eq true (.sc [.int .i64] false) (.t 22) (.k (.int .i64 0)), []⟩])
 (.cond (.t 23)
 (.seq (.reg [⟨(some 24), none, .build [(.int .i64 0), (.int .i64 0), (.int .i64 0), (.int .u64 0), (.str []), .nils] [], []⟩,
 ⟨(some 25), none, .mv (.t 8), []⟩,
 ⟨none, none, .store 6 (.t 4) (.t 24), []⟩,
 ⟨(some 5), none, .mv (.t 25), []⟩])
 .ret)
 .skip)))))
 (.reg [⟨(some 26), none, .bin .add (.t 16) (.k (.int .i64 1)), []⟩,
 ⟨(some 16), none, .mv (.t 26), []⟩])))))))
 (.seq (.seq (.reg [⟨(some 27), none, .fa 0 (.t 2), []⟩,
 ⟨(some 28), none, .load none (.t 27), []⟩,
 ⟨(some 29), none, .eq false (.sc [.int .i64] false) (.t 28) (.k (.int .i64 0)), []⟩,
 ⟨(some 30), none, .mv (.t 29), []⟩,
 ⟨(some 31), (some (30, false)), .mv (.t 1), []⟩,
 ⟨(some 32), (some (30, false)), .len (.t 31), []⟩,
 ⟨(some 33), (some (30, false)), .bin .gtr (.t 32) (.k (.int .i64 3)), []⟩,
 ⟨(some 34), none, .pick (.t 30) (.k (.bool true)) (.t 33), []⟩])
 (.cond (.t 34)
 (.seq (.reg [⟨(some 35), none, .build [(.int .i64 0), (.int .i64 0), (.int .i64 0), (.int .u64 0), (.str []), .nils] [], []⟩,
 ⟨none, none, .store 6 (.t 4) (.t 35), []⟩,
 ⟨(some 5), none, .mv (.k (.int .i64 1)), []⟩])
 .ret)
 .skip))
 (.seq (.reg [⟨(some 9), none, .alloc [.nils], []⟩])
 (.seq (.reg [⟨(some 36), none, .fa 1 (.t 2), []⟩,
 ⟨none, none, .store 1 (.t 36) (.k .nils), []⟩])
 (.seq (.seq (.reg [⟨(some 37), none, .mv (.t 1), []⟩,
 ⟨(some 38), none, .len (.t 37), []⟩,
 ⟨(some 39), none, .mv (.k (.int .i64 0)), []⟩])
 (.block 2
 (.loop
 (.seq (.reg [⟨(some 40), none, .bin .lss (.t 39) (.t 38), []⟩])
 (.seq (.cond (.t 40)
 .skip
 (.exit 2))
 (.seq (.block 3
 (.seq (.reg [⟨(some 41), none, .mv (.t 39), []⟩,
 ⟨(some 42), none, .ia 6 (.t 37) (.t 39), []⟩,
 ⟨(some 43), none, .load (some 6) (.t 42), []⟩,
 ⟨(some 11), none, .alloc [(.int .i64 0), (.int .i64 0), (.int .i64 0), (.int .u64 0), (.str []), .nils], []⟩,
 ⟨(some 10), none, .mv (.t 41), []⟩,
 ⟨none, none, .store 6 (.t 11) (.t 43), []⟩])
 (.seq (.reg [⟨(some 44), none, .fa 0 (.t 9), []⟩,
 ⟨(some 45), none, .load none (.t 44), []⟩,
 ⟨(some 46), none, .mv (.t 10), []⟩,
 ⟨(some 47), none, .bin .add (.k (.int .i64 97)) (.t 46), []⟩,
 ⟨(some 48), none, .conv (.int .u8) (.t 47), []⟩,
 ⟨(some 49), none, .bsl 1 1 [(.int .u8 0)] [(0, 1, (.t 48))], []⟩,
 ⟨(some 50), none, .conv .b2s (.t 49), []⟩,
 ⟨(some 51), none, .fa 0 (.t 11), []⟩,
 ⟨(some 52), none, .load (some 3) (.t 51), []⟩,
 ⟨(some 53), none, .build [(.int .i64 0), .nils, (.int .i64 0), (.int .i64 0), (.int .u64 0), (.str []), (.int .i64 0), (.int .i64 0), (.int .i64 0)] [(0, 1, (.k (.int .i64 0))), (5, 1, (.t 50)), (6, 3, (.t 52))], []⟩,
 ⟨(some 54), none, .bsl 1 9 [(.int .i64 0), .nils, (.int .i64 0), (.int .i64 0), (.int .u64 0), (.str []), (.int .i64 0), (.int .i64 0), (.int .i64 0)] [(0, 9, (.t 53))], []⟩,
 ⟨(some 55), none, .app 9 96 (.t 45) (.t 54), []⟩,
 ⟨(some 56), none, .fa 0 (.t 9), []⟩,
 ⟨none, none, .store 1 (.t 56) (.t 55), []⟩])
 (.reg [⟨(some 57), none, .fa 1 (.t 2), []⟩,
 ⟨(some 58), none, .load none (.t 57), []⟩,
 ⟨(some 59), none, .mv (.t 10), []⟩,
 ⟨(some 60), none, .bsl 1 1 [(.int .i64 0)] [(0, 1, (.t 59))], []⟩,
 ⟨(some 61), none, .app 1 8 (.t 58) (.t 60), []⟩,
 ⟨(some 62), none, .fa 1 (.t 2), []⟩,
 ⟨none, none, .store 1 (.t 62) (.t 61), []⟩]))))
 (.reg [⟨(some 63), none, .bin .add (.t 39) (.k (.int .i64 1)), []⟩,
 ⟨(some 39), none, .mv (.t 63), []⟩])))))))
 (.seq (.reg [⟨(some 65), none, .load (some 1) (.t 9), []⟩,
 ⟨(some 66), none, .load (some 9) (.t 2), []⟩,
 ⟨(some 67), none, .call 40 [(.t 65), (.t 66)], []⟩,
 ⟨(some 64), none, .mv (.t 67), []⟩,
 ⟨(some 68), none, .ext (.t 64) 0, []⟩,
 ⟨(some 69), none, .ext (.t 64) 1, []⟩,
 ⟨(some 12), none, .alloc [(.int .i64 0), (.int .i64 0), (.int .i64 0)], []⟩,
 ⟨none, none, .store 3 (.t 12) (.t 68), []⟩,
 ⟨(some 13), none, .mv (.t 69), []⟩])
 (.seq (.seq (.reg [⟨(some 70), none, .mv (.t 13), []⟩,
 ⟨(some 71), none, .eq true (.sc [.int .i64] false) (.t 70) (.k (.int .i64 0)), []⟩])
 (.cond (.t 71)
 (.seq (.reg [⟨(some 72), none, .build [(.int .i64 0), (.int .i64 0), (.int .i64 0), (.int .u64 0), (.str []), .nils] [], []⟩,
 ⟨(some 73), none, .mv (.t 13), []⟩,
 ⟨none, none, .store 6 (.t 4) (.t 72), []⟩,
 ⟨(some 5), none, .mv (.t 73), []⟩])
 .ret)
 .skip))
 (.seq (.reg [⟨(some 74), none, .call 41 [], []⟩,
 ⟨(some 75), none, .fa 0 (.t 2), []⟩,
 ⟨(some 76), none, .load none (.t 75), []⟩,
 ⟨(some 77), none, .look [.int .i64] false .nilf false (.t 74) (.t 76), []⟩,
 ⟨(some 78), none, .load (some 3) (.t 12), []⟩,
 ⟨(some 79), none, .mv (.t 1), []⟩,
 ⟨(some 80), none, .dyn true (.t 77) [(.t 2), (.t 78), (.t 79)], []⟩,
 ⟨none, none, .store 6 (.t 4) (.t 80), []⟩,
 ⟨(some 5), none, .mv (.k (.int .i64 0)), []⟩])
 .ret)))))))))⟩

/-- enthymeme/enthymemeref07.BV -/
def c17 : Am.Fn := ⟨5, [.cell 2 (some 3)],
 (.seq (.reg [⟨(some 2), none, .alloc [(.int .i64 0), (.int .i64 0), (.int .i64 0)], []⟩])
 (.seq (.reg [⟨(some 3), none, .mv (.t 0), []⟩,
 ⟨(some 4), none, .build [(.int .i64 0), (.int .i64 0), (.int .i64 0)] [(0, 1, (.k (.int .i64 0))), (1, 1, (.t 3))], []⟩,
 ⟨none, none, .store 3 (.t 2) (.t 4), []⟩])
 .ret))⟩

/-- enthymeme/enthymemelaw08.lives -/
def c18 : Am.Fn := ⟨98, [.tmp 0],
 (.seq (.reg [⟨(some 0), none, .mv (.k (.bool false)), []⟩])
 (.seq (.reg [⟨(some 12), none, .call 19 [(.k (.str [97, 98, 97])), (.k (.int .i64 3))], []⟩,
 ⟨(some 1), none, .alloc [(.int .i64 0), (.int .i64 0), (.int .i64 0), (.int .u64 0), (.str []), .nils], []⟩,
 ⟨none, none, .store 6 (.t 1) (.t 12), []⟩])
 (.seq (.reg [⟨(some 14), none, .build [(.int .i64 0), .nils, (.int .i64 0), (.int .i64 0), (.int .u64 0), (.str []), (.int .i64 0), (.int .i64 0), (.int .i64 0)] [(0, 1, (.k (.int .i64 31)))], []⟩,
 ⟨(some 15), none, .load (some 6) (.t 1), []⟩,
 ⟨(some 16), none, .call 19 [(.k (.str [98])), (.k (.int .i64 1))], []⟩,
 ⟨(some 17), none, .bsl 2 6 [(.int .i64 0), (.int .i64 0), (.int .i64 0), (.int .u64 0), (.str []), .nils] [(0, 6, (.t 15)), (6, 6, (.t 16))], []⟩,
 ⟨(some 18), none, .call 12 [(.t 14), (.t 17)], []⟩,
 ⟨(some 13), none, .mv (.t 18), []⟩,
 ⟨(some 19), none, .ext (.t 13) 0, []⟩,
 ⟨(some 20), none, .ext (.t 13) 1, []⟩,
 ⟨(some 2), none, .alloc [(.int .i64 0), (.int .i64 0), (.int .i64 0), (.int .u64 0), (.str []), .nils], []⟩,
 ⟨none, none, .store 6 (.t 2) (.t 19), []⟩,
 ⟨(some 3), none, .mv (.t 20), []⟩])
 (.seq (.reg [⟨(some 22), none, .build [(.int .i64 0), .nils, (.int .i64 0), (.int .i64 0), (.int .u64 0), (.str []), (.int .i64 0), (.int .i64 0), (.int .i64 0)] [(0, 1, (.k (.int .i64 31)))], []⟩,
 ⟨(some 23), none, .load (some 6) (.t 1), []⟩,
 ⟨(some 24), none, .call 19 [(.k (.str [99])), (.k (.int .i64 1))], []⟩,
 ⟨(some 25), none, .bsl 2 6 [(.int .i64 0), (.int .i64 0), (.int .i64 0), (.int .u64 0), (.str []), .nils] [(0, 6, (.t 23)), (6, 6, (.t 24))], []⟩,
 ⟨(some 26), none, .call 12 [(.t 22), (.t 25)], []⟩,
 ⟨(some 21), none, .mv (.t 26), []⟩,
 ⟨(some 27), none, .ext (.t 21) 0, []⟩,
 ⟨(some 28), none, .ext (.t 21) 1, []⟩,
 ⟨(some 4), none, .alloc [(.int .i64 0), (.int .i64 0), (.int .i64 0), (.int .u64 0), (.str []), .nils], []⟩,
 ⟨none, none, .store 6 (.t 4) (.t 27), []⟩,
 ⟨(some 5), none, .mv (.t 28), []⟩])
 (.seq (.reg [⟨(some 30), none, .build [(.int .i64 0), .nils, (.int .i64 0), (.int .i64 0), (.int .u64 0), (.str []), (.int .i64 0), (.int .i64 0), (.int .i64 0)] [(0, 1, (.k (.int .i64 32)))], []⟩,
 ⟨(some 31), none, .load (some 6) (.t 1), []⟩,
 ⟨(some 32), none, .call 19 [(.k (.str [97])), (.k (.int .i64 1))], []⟩,
 ⟨(some 33), none, .call 19 [(.k (.str [99, 99])), (.k (.int .i64 2))], []⟩,
 ⟨(some 34), none, .bsl 3 6 [(.int .i64 0), (.int .i64 0), (.int .i64 0), (.int .u64 0), (.str []), .nils] [(0, 6, (.t 31)), (6, 6, (.t 32)), (12, 6, (.t 33))], []⟩,
 ⟨(some 35), none, .call 12 [(.t 30), (.t 34)], []⟩,
 ⟨(some 29), none, .mv (.t 35), []⟩,
 ⟨(some 36), none, .ext (.t 29) 0, []⟩,
 ⟨(some 37), none, .ext (.t 29) 1, []⟩,
 ⟨(some 6), none, .alloc [(.int .i64 0), (.int .i64 0), (.int .i64 0), (.int .u64 0), (.str []), .nils], []⟩,
 ⟨none, none, .store 6 (.t 6) (.t 36), []⟩,
 ⟨(some 7), none, .mv (.t 37), []⟩])
 (.seq (.reg [⟨(some 39), none, .build [(.int .i64 0), .nils, (.int .i64 0), (.int .i64 0), (.int .u64 0), (.str []), (.int .i64 0), (.int .i64 0), (.int .i64 0)] [(0, 1, (.k (.int .i64 30)))], []⟩,
 ⟨(some 40), none, .load (some 6) (.t 1), []⟩,
 ⟨(some 41), none, .call 22 [(.k (.int .u64 1)), (.k (.int .i64 7))], []⟩,
 ⟨(some 42), none, .call 22 [(.k (.int .u64 9)), (.k (.int .i64 7))], []⟩,
 ⟨(some 43), none, .bsl 3 6 [(.int .i64 0), (.int .i64 0), (.int .i64 0), (.int .u64 0), (.str []), .nils] [(0, 6, (.t 40)), (6, 6, (.t 41)), (12, 6, (.t 42))], []⟩,
 ⟨(some 44), none, .call 12 [(.t 39), (.t 43)], []⟩,
 ⟨(some 38), none, .mv (.t 44), []⟩,
 ⟨(some 45), none, .ext (.t 38) 0, []⟩,
 ⟨(some 46), none, .ext (.t 38) 1, []⟩,
 ⟨(some 8), none, .alloc [(.int .i64 0), (.int .i64 0), (.int .i64 0), (.int .u64 0), (.str []), .nils], []⟩,
 ⟨none, none, .store 6 (.t 8) (.t 45), []⟩,
 ⟨(some 9), none, .mv (.t 46), []⟩])
 (.seq (.reg [⟨(some 48), none, .build [(.int .i64 0), .nils, (.int .i64 0), (.int .i64 0), (.int .u64 0), (.str []), (.int .i64 0), (.int .i64 0), (.int .i64 0)] [(0, 1, (.k (.int .i64 11)))], []⟩,
 ⟨(some 49), none, .call 22 [(.k (.int .u64 5)), (.k (.int .i64 3))], []⟩,
 ⟨(some 50), none, .call 22 [(.k (.int .u64 0)), (.k (.int .i64 3))], []⟩,
 ⟨(some 51), none, .bsl 2 6 [(.int .i64 0), (.int .i64 0), (.int .i64 0), (.int .u64 0), (.str []), .nils] [(0, 6, (.t 49)), (6, 6, (.t 50))], []⟩,
 ⟨(some 52), none, .call 12 [(.t 48), (.t 51)], []⟩,
 ⟨(some 47), none, .mv (.t 52), []⟩,
 ⟨(some 53), none, .ext (.t 47) 0, []⟩,
 ⟨(some 54), none, .ext (.t 47) 1, []⟩,
 ⟨(some 10), none, .alloc [(.int .i64 0), (.int .i64 0), (.int .i64 0), (.int .u64 0), (.str []), .nils], []⟩,
 ⟨none, none, .store 6 (.t 10) (.t 53), []⟩,
 ⟨(some 11), none, .mv (.t 54), []⟩])
 (.seq (.reg [⟨(some 55), none, .mv (.t 3), []⟩,
 ⟨(some 56), none, .eq false (.sc [.int .i64] false) (.t 55) (.k (.int .i64 0)), []⟩,
 ⟨(some 57), none, .mv (.t 56), []⟩,
 ⟨(some 58), (some (57, true)), .mv (.t 5), []⟩,
 ⟨(some 59), (some (57, true)), .eq false (.sc [.int .i64] false) (.t 58) (.k (.int .i64 0)), []⟩,
 ⟨(some 60), none, .pick (.t 57) (.t 59) (.k (.bool false)), []⟩,
 ⟨(some 61), none, .mv (.t 60), []⟩,
 ⟨(some 62), (some (61, true)), .mv (.t 7), []⟩,
 ⟨(some 63), (some (61, true)), .eq false (.sc [.int .i64] false) (.t 62) (.k (.int .i64 0)), []⟩,
 ⟨(some 64), none, .pick (.t 61) (.t 63) (.k (.bool false)), []⟩,
 ⟨(some 65), none, .mv (.t 64), []⟩,
 ⟨(some 66), (some (65, true)), .mv (.t 9), []⟩,
 ⟨(some 67), (some (65, true)), .eq false (.sc [.int .i64] false) (.t 66) (.k (.int .i64 0)), []⟩,
 ⟨(some 68), none, .pick (.t 65) (.t 67) (.k (.bool false)), []⟩,
 ⟨(some 69), none, .mv (.t 68), []⟩,
 ⟨(some 70), (some (69, true)), .mv (.t 11), []⟩,
 ⟨(some 71), (some (69, true)), .eq false (.sc [.int .i64] false) (.t 70) (.k (.int .i64 0)), []⟩,
 ⟨(some 72), none, .pick (.t 69) (.t 71) (.k (.bool false)), []⟩,
 ⟨(some 73), none, .mv (.t 72), []⟩,
 ⟨(some 74), (some (73, true)), .fa 3 (.t 2), []⟩,
 ⟨(some 75), (some (73, true)), .load none (.t 74), []⟩,
 ⟨(some 76), (some (73, true)), .eq false (.sc [.int .u64] false) (.t 75) (.k (.int .u64 1)), []⟩,
 ⟨(some 77), none, .pick (.t 73) (.t 76) (.k (.bool false)), []⟩,
 ⟨(some 78), none, .mv (.t 77), []⟩,
 ⟨(some 79), (some (78, true)), .fa 3 (.t 4), []⟩,
 ⟨(some 80), (some (78, true)), .load none (.t 79), []⟩,
 ⟨(some 81), (some (78, true)), .eq false (.sc [.int .u64] false) (.t 80) (.k (.int .u64 127)), []⟩,
 ⟨(some 82), none, .pick (.t 78) (.t 81) (.k (.bool false)), []⟩,
 ⟨(some 83), none, .mv (.t 82), []⟩,
 ⟨(some 84), (some (83, true)), .fa 4 (.t 6), []⟩,
 ⟨(some 85), (some (83, true)), .load none (.t 84), []⟩,
 ⟨(some 86), (some (83, true)), .eq false (.sc [.str] false) (.t 85) (.k (.str [99, 99, 98, 97])), []⟩,
 ⟨(some 87), none, .pick (.t 83) (.t 86) (.k (.bool false)), []⟩,
 ⟨(some 88), none, .mv (.t 87), []⟩,
 ⟨(some 89), (some (88, true)), .fa 4 (.t 8), []⟩,
 ⟨(some 90), (some (88, true)), .load none (.t 89), []⟩,
 ⟨(some 91), (some (88, true)), .eq false (.sc [.str] false) (.t 90) (.k (.str [98, 97])), []⟩,
 ⟨(some 92), none, .pick (.t 88) (.t 91) (.k (.bool false)), []⟩,
 ⟨(some 93), none, .mv (.t 92), []⟩,
 ⟨(some 94), (some (93, true)), .fa 3 (.t 10), []⟩,
 ⟨(some 95), (some (93, true)), .load none (.t 94), []⟩,
 ⟨(some 96), (some (93, true)), .eq false (.sc [.int .u64] false) (.t 95) (.k (.int .u64 7)), []⟩,
 ⟨(some 97), none, .pick (.t 93) (.t 96) (.k (.bool false)), []⟩,
 ⟨(some 0), none, .mv (.t 97), []⟩])
 .ret))))))))⟩

/-- enthymeme/enthymemelaw08.text -/
def c19 : Am.Fn := ⟨9, [.cell 4 (some 6)],
 (.seq (.reg [⟨(some 4), none, .alloc [(.int .i64 0), (.int .i64 0), (.int .i64 0), (.int .u64 0), (.str []), .nils], []⟩])
 (.seq (.reg [⟨(some 5), none, .mv (.t 1), []⟩,
 ⟨(some 6), none, .call 47 [(.t 5)], []⟩,
 ⟨(some 7), none, .mv (.t 0), []⟩,
 ⟨(some 8), none, .build [(.int .i64 0), (.int .i64 0), (.int .i64 0), (.int .u64 0), (.str []), .nils] [(0, 3, (.t 6)), (4, 1, (.t 7))], []⟩,
 ⟨none, none, .store 6 (.t 4) (.t 8), []⟩])
 .ret))⟩

/-- enthymeme/enthymemelaw08.do -/
def c21 : Am.Fn := ⟨18, [.cell 4 (some 6), .tmp 5],
 (.seq (.reg [⟨(some 4), none, .alloc [(.int .i64 0), (.int .i64 0), (.int .i64 0), (.int .u64 0), (.str []), .nils], []⟩,
 ⟨(some 5), none, .mv (.k (.bool false)), []⟩])
 (.seq (.reg [⟨(some 9), none, .mv (.t 0), []⟩,
 ⟨(some 10), none, .build [(.int .i64 0), .nils, (.int .i64 0), (.int .i64 0), (.int .u64 0), (.str []), (.int .i64 0), (.int .i64 0), (.int .i64 0)] [(0, 1, (.t 9))], []⟩,
 ⟨(some 11), none, .mv (.t 1), []⟩,
 ⟨(some 12), none, .call 12 [(.t 10), (.t 11)], []⟩,
 ⟨(some 8), none, .mv (.t 12), []⟩,
 ⟨(some 13), none, .ext (.t 8) 0, []⟩,
 ⟨(some 14), none, .ext (.t 8) 1, []⟩,
 ⟨(some 6), none, .alloc [(.int .i64 0), (.int .i64 0), (.int .i64 0), (.int .u64 0), (.str []), .nils], []⟩,
 ⟨none, none, .store 6 (.t 6) (.t 13), []⟩,
 ⟨(some 7), none, .mv (.t 14), []⟩])
 (.seq (.reg [⟨(some 15), none, .load (some 6) (.t 6), []⟩,
 ⟨(some 16), none, .mv (.t 7), []⟩,
 ⟨(some 17), none, .eq false (.sc [.int .i64] false) (.t 16) (.k (.int .i64 0)), []⟩,
 ⟨none, none, .store 6 (.t 4) (.t 15), []⟩,
 ⟨(some 5), none, .mv (.t 17), []⟩])
 .ret)))⟩

/-- enthymeme/enthymemelaw08.number -/
def c22 : Am.Fn := ⟨9, [.cell 4 (some 6)],
 (.seq (.reg [⟨(some 4), none, .alloc [(.int .i64 0), (.int .i64 0), (.int .i64 0), (.int .u64 0), (.str []), .nils], []⟩])
 (.seq (.reg [⟨(some 5), none, .mv (.t 1), []⟩,
 ⟨(some 6), none, .call 17 [(.t 5)], []⟩,
 ⟨(some 7), none, .mv (.t 0), []⟩,
 ⟨(some 8), none, .build [(.int .i64 0), (.int .i64 0), (.int .i64 0), (.int .u64 0), (.str []), .nils] [(0, 3, (.t 6)), (3, 1, (.t 7))], []⟩,
 ⟨none, none, .store 6 (.t 4) (.t 8), []⟩])
 .ret))⟩

/-- enthymeme/enthymemeref06.Sort -/
def c26 : Am.Fn := ⟨41, [.cell 2 (some 3)],
 (.seq (.reg [⟨(some 2), none, .alloc [(.int .i64 0), (.int .i64 0), (.int .i64 0)], []⟩])
 (.seq (.reg [⟨(some 5), none, .mv (.t 0), []⟩,
 ⟨(some 6), none, .call 7 [(.t 5), (.k (.int .i64 1048576))], []⟩,
 ⟨(some 3), none, .mv (.t 6), []⟩])
 (.seq (.reg [⟨(some 7), none, .mv (.t 3), []⟩,
 ⟨(some 8), none, .bin .rem (.t 7) (.k (.int .i64 4)), []⟩,
 ⟨(some 9), none, .bsl 6 1 [(.int .i64 0)] [(0, 1, (.k (.int .i64 1))), (1, 1, (.k (.int .i64 2))), (2, 1, (.k (.int .i64 3))), (3, 1, (.k (.int .i64 4))), (4, 1, (.k (.int .i64 8))), (5, 1, (.k (.int .i64 64)))], []⟩,
 ⟨(some 10), none, .mv (.t 3), []⟩,
 ⟨(some 11), none, .bin .quo (.t 10) (.k (.int .i64 4)), []⟩,
 ⟨(some 12), none, .bin .rem (.t 11) (.k (.int .i64 6)), []⟩,
 ⟨(some 13), none, .ia 1 (.t 9) (.t 12), []⟩,
 ⟨(some 14), none, .load none (.t 13), []⟩,
 ⟨(some 15), none, .build [(.int .i64 0), (.int .i64 0), (.int .i64 0)] [(0, 1, (.t 8)), (1, 1, (.t 14))], []⟩,
 ⟨(some 4), none, .alloc [(.int .i64 0), (.int .i64 0), (.int .i64 0)], []⟩,
 ⟨none, none, .store 3 (.t 4) (.t 15), []⟩])
 (.seq (.seq (.reg [⟨(some 16), none, .load (some 3) (.t 4), []⟩,
 ⟨(some 17), none, .call 58 [(.t 16)], []⟩])
 (.cond (.t 17)
 (.reg [⟨(some 18), none, .bsl 5 1 [(.int .i64 0)] [(0, 1, (.k (.int .i64 1))), (1, 1, (.k (.int .i64 2))), (2, 1, (.k (.int .i64 2))), (3, 1, (.k (.int .i64 3))), (4, 1, (.k (.int .i64 16)))], []⟩,
 ⟨(some 19), none, .mv (.t 3), []⟩,
 ⟨(some 20), none, .bin .quo (.t 19) (.k (.int .i64 24)), []⟩,
 ⟨(some 21), none, .bin .rem (.t 20) (.k (.int .i64 5)), []⟩,
 ⟨(some 22), none, .ia 1 (.t 18) (.t 21), []⟩,
 ⟨(some 23), none, .load none (.t 22), []⟩,
 ⟨(some 24), none, .fa 2 (.t 4), []⟩,
 ⟨none, none, .store 1 (.t 24) (.t 23), []⟩])
 .skip))
 (.seq (.seq (.reg [⟨(some 25), none, .mv (.t 3), []⟩,
 ⟨(some 26), none, .bin .quo (.t 25) (.k (.int .i64 120)), []⟩,
 ⟨(some 27), none, .bin .rem (.t 26) (.k (.int .i64 9)), []⟩,
 ⟨(some 28), none, .eq false (.sc [.int .i64] false) (.t 27) (.k (.int .i64 0)), []⟩,
 ⟨(some 29), none, .mv (.t 28), []⟩,
 ⟨(some 30), (some (29, true)), .fa 0 (.t 4), []⟩,
 ⟨(some 31), (some (29, true)), .load none (.t 30), []⟩,
 ⟨(some 32), (some (29, true)), .eq false (.sc [.int .i64] false) (.t 31) (.k (.int .i64 1)), []⟩,
 ⟨(some 33), (some (29, true)), .mv (.t 32), []⟩,
 ⟨(some 34), (some (33, false)), .fa 0 (.t 4), []⟩,
 ⟨(some 35), (some (33, false)), .load none (.t 34), []⟩,
 ⟨(some 36), (some (33, false)), .eq false (.sc [.int .i64] false) (.t 35) (.k (.int .i64 3)), []⟩,
 ⟨(some 37), (some (29, true)), .pick (.t 33) (.k (.bool true)) (.t 36), []⟩,
 ⟨(some 38), none, .pick (.t 29) (.t 37) (.k (.bool false)), []⟩])
 (.cond (.t 38)
 (.reg [⟨(some 39), none, .fa 1 (.t 4), []⟩,
 ⟨none, none, .store 1 (.t 39) (.k (.int .i64 0)), []⟩])
 .skip))
 (.seq (.reg [⟨(some 40), none, .load (some 3) (.t 4), []⟩,
 ⟨none, none, .store 3 (.t 2) (.t 40), []⟩])
 .ret))))))⟩

/-- enthymeme/enthymemelaw08.own -/
def c27 : Am.Fn := ⟨44, [.cell 2 (some 6)],
 (.seq (.reg [⟨(some 1), none, .box (.t 0), []⟩,
 ⟨(some 2), none, .alloc [(.int .i64 0), (.int .i64 0), (.int .i64 0), (.int .u64 0), (.str []), .nils], []⟩])
 (.seq (.reg [⟨(some 5), none, .fa 0 (.t 1), []⟩,
 ⟨(some 6), none, .load (some 3) (.t 5), []⟩,
 ⟨(some 7), none, .fa 3 (.t 1), []⟩,
 ⟨(some 8), none, .load none (.t 7), []⟩,
 ⟨(some 9), none, .fa 4 (.t 1), []⟩,
 ⟨(some 10), none, .load none (.t 9), []⟩,
 ⟨(some 11), none, .build [(.int .i64 0), (.int .i64 0), (.int .i64 0), (.int .u64 0), (.str []), .nils] [(0, 3, (.t 6)), (3, 1, (.t 8)), (4, 1, (.t 10))], []⟩,
 ⟨(some 3), none, .alloc [(.int .i64 0), (.int .i64 0), (.int .i64 0), (.int .u64 0), (.str []), .nils], []⟩,
 ⟨none, none, .store 6 (.t 3) (.t 11), []⟩])
 (.seq (.seq (.reg [⟨(some 4), none, .mv (.k (.int .i64 0)), []⟩])
 (.block 0
 (.loop
 (.seq (.seq (.reg [⟨(some 12), none, .mv (.t 4), []⟩,
 ⟨(some 13), none, .fa 5 (.t 1), []⟩,
 ⟨(some 14), none, .load none (.t 13), []⟩,
 ⟨(some 15), none, .len (.t 14), []⟩,
 ⟨(some 16), none, .bin .lss (.t 12) (.t 15), []⟩])
 (.cond (.t 16)
 .skip
 (.exit 0)))
 (.seq (.block 1
 (.reg [⟨(some 19), none, .fa 5 (.t 3), []⟩,
 ⟨(some 20), none, .load none (.t 19), []⟩,
 ⟨(some 21), none, .fa 5 (.t 1), []⟩,
 ⟨(some 22), none, .load none (.t 21), []⟩,
 ⟨(some 23), none, .mv (.t 4), []⟩,
 ⟨(some 24), none, .ia 3 (.t 22) (.t 23), []⟩,
 ⟨(some 25), none, .fa 0 (.t 24), []⟩,
 ⟨(some 26), none, .load none (.t 25), []⟩,
 ⟨(some 27), none, .fa 5 (.t 1), []⟩,
 ⟨(some 28), none, .load none (.t 27), []⟩,
 ⟨(some 29), none, .mv (.t 4), []⟩,
 ⟨(some 30), none, .ia 3 (.t 28) (.t 29), []⟩,
 ⟨(some 31), none, .fa 1 (.t 30), []⟩,
 ⟨(some 32), none, .load none (.t 31), []⟩,
 ⟨(some 33), none, .fa 5 (.t 1), []⟩,
 ⟨(some 34), none, .load none (.t 33), []⟩,
 ⟨(some 35), none, .mv (.t 4), []⟩,
 ⟨(some 36), none, .ia 3 (.t 34) (.t 35), []⟩,
 ⟨(some 37), none, .fa 2 (.t 36), []⟩,
 ⟨(some 38), none, .load none (.t 37), []⟩,
 ⟨(some 39), none, .build [(.int .u64 0), (.int .u64 0), (.str [])] [(0, 1, (.t 26)), (1, 1, (.t 32)), (2, 1, (.t 38))], []⟩,
 ⟨(some 40), none, .bsl 1 3 [(.int .u64 0), (.int .u64 0), (.str [])] [(0, 3, (.t 39))], []⟩,
 ⟨(some 41), none, .app 3 32 (.t 20) (.t 40), []⟩,
 ⟨(some 42), none, .fa 5 (.t 3), []⟩,
 ⟨none, none, .store 1 (.t 42) (.t 41), []⟩]))
 (.reg [⟨(some 17), none, .mv (.t 4), []⟩,
 ⟨(some 18), none, .bin .add (.t 17) (.k (.int .i64 1)), []⟩,
 ⟨(some 4), none, .mv (.t 18), []⟩]))))))
 (.seq (.reg [⟨(some 43), none, .load (some 6) (.t 3), []⟩,
 ⟨none, none, .store 6 (.t 2) (.t 43), []⟩])
 .ret))))⟩

/-- enthymeme/enthymemeref06.Bits -/
def c28 : Am.Fn := ⟨24, [.tmp 4],
 (.seq (.reg [⟨(some 4), none, .mv (.k (.int .u64 0)), []⟩])
 (.seq (.reg [⟨(some 6), none, .mv (.t 0), []⟩,
 ⟨(some 7), none, .call 7 [(.t 6), (.k (.int .i64 1073741824))], []⟩,
 ⟨(some 8), none, .conv (.int .u64) (.t 7), []⟩,
 ⟨(some 5), none, .mv (.t 8), []⟩])
 (.seq (.seq (.reg [⟨(some 9), none, .mv (.t 5), []⟩,
 ⟨(some 10), none, .bin .rem (.t 9) (.k (.int .u64 5)), []⟩,
 ⟨(some 11), none, .eq false (.sc [.int .u64] false) (.t 10) (.k (.int .u64 0)), []⟩])
 (.cond (.t 11)
 (.reg [⟨(some 12), none, .mv (.t 5), []⟩,
 ⟨(some 13), none, .bin .quo (.t 12) (.k (.int .u64 5)), []⟩,
 ⟨(some 14), none, .bin .rem (.t 13) (.k (.int .u64 3)), []⟩,
 ⟨(some 15), none, .bin .sub (.k (.int .u64 18446744073709551615)) (.t 14), []⟩,
 ⟨(some 5), none, .mv (.t 15), []⟩])
 .skip))
 (.seq (.seq (.reg [⟨(some 16), none, .mv (.t 1), []⟩,
 ⟨(some 17), none, .bin .lss (.t 16) (.k (.int .i64 64)), []⟩])
 (.cond (.t 17)
 (.reg [⟨(some 18), none, .mv (.t 5), []⟩,
 ⟨(some 19), none, .mv (.t 1), []⟩,
 ⟨(some 20), none, .conv (.int .u64) (.t 19), []⟩,
 ⟨(some 21), none, .bin .shl (.k (.int .u64 1)) (.t 20), []⟩,
 ⟨(some 22), none, .bin .rem (.t 18) (.t 21), []⟩,
 ⟨(some 5), none, .mv (.t 22), []⟩])
 .skip))
 (.seq (.reg [⟨(some 23), none, .mv (.t 5), []⟩,
 ⟨(some 4), none, .mv (.t 23), []⟩])
 .ret)))))⟩

/-- enthymeme/enthymemeref06.Element -/
def c29 : Am.Fn := ⟨12, [.cell 2 (some 3)],
 (.seq (.reg [⟨(some 1), none, .box (.t 0), []⟩,
 ⟨(some 2), none, .alloc [(.int .i64 0), (.int .i64 0), (.int .i64 0)], []⟩])
 (.seq (.seq (.reg [⟨(some 3), none, .fa 0 (.t 1), []⟩,
 ⟨(some 4), none, .load none (.t 3), []⟩,
 ⟨(some 5), none, .eq false (.sc [.int .i64] false) (.t 4) (.k (.int .i64 2)), []⟩])
 (.cond (.t 5)
 (.seq (.reg [⟨(some 6), none, .fa 1 (.t 1), []⟩,
 ⟨(some 7), none, .load none (.t 6), []⟩,
 ⟨(some 8), none, .build [(.int .i64 0), (.int .i64 0), (.int .i64 0)] [(0, 1, (.k (.int .i64 0))), (1, 1, (.t 7))], []⟩,
 ⟨none, none, .store 3 (.t 2) (.t 8), []⟩])
 .ret)
 .skip))
 (.seq (.reg [⟨(some 9), none, .fa 1 (.t 1), []⟩,
 ⟨(some 10), none, .load none (.t 9), []⟩,
 ⟨(some 11), none, .build [(.int .i64 0), (.int .i64 0), (.int .i64 0)] [(0, 1, (.k (.int .i64 1))), (1, 1, (.t 10))], []⟩,
 ⟨none, none, .store 3 (.t 2) (.t 11), []⟩])
 .ret)))⟩

/-- enthymeme/value.Compare -/
def c30 : Am.Fn := ⟨47, [.tmp 4],
 (.seq (.reg [⟨(some 2), none, .box (.t 0), []⟩,
 ⟨(some 3), none, .box (.t 1), []⟩,
 ⟨(some 4), none, .mv (.k (.int .i64 0)), []⟩])
 (.seq (.reg [⟨(some 6), none, .fa 0 (.t 2), []⟩,
 ⟨(some 7), none, .fa 0 (.t 6), []⟩,
 ⟨(some 8), none, .load none (.t 7), []⟩,
 ⟨(some 9), none, .fa 0 (.t 3), []⟩,
 ⟨(some 10), none, .fa 0 (.t 9), []⟩,
 ⟨(some 11), none, .load none (.t 10), []⟩,
 ⟨(some 12), none, .call 60 [(.t 8), (.t 11)], []⟩,
 ⟨(some 13), none, .fa 0 (.t 2), []⟩,
 ⟨(some 14), none, .fa 1 (.t 13), []⟩,
 ⟨(some 15), none, .load none (.t 14), []⟩,
 ⟨(some 16), none, .fa 0 (.t 3), []⟩,
 ⟨(some 17), none, .fa 1 (.t 16), []⟩,
 ⟨(some 18), none, .load none (.t 17), []⟩,
 ⟨(some 19), none, .call 60 [(.t 15), (.t 18)], []⟩,
 ⟨(some 20), none, .fa 0 (.t 2), []⟩,
 ⟨(some 21), none, .fa 2 (.t 20), []⟩,
 ⟨(some 22), none, .load none (.t 21), []⟩,
 ⟨(some 23), none, .fa 0 (.t 3), []⟩,
 ⟨(some 24), none, .fa 2 (.t 23), []⟩,
 ⟨(some 25), none, .load none (.t 24), []⟩,
 ⟨(some 26), none, .call 60 [(.t 22), (.t 25)], []⟩,
 ⟨(some 27), none, .fa 3 (.t 2), []⟩,
 ⟨(some 28), none, .load none (.t 27), []⟩,
 ⟨(some 29), none, .fa 3 (.t 3), []⟩,
 ⟨(some 30), none, .load none (.t 29), []⟩,
 ⟨(some 31), none, .call 61 [(.t 28), (.t 30)], []⟩,
 ⟨(some 32), none, .fa 4 (.t 2), []⟩,
 ⟨(some 33), none, .load none (.t 32), []⟩,
 ⟨(some 34), none, .fa 4 (.t 3), []⟩,
 ⟨(some 35), none, .load none (.t 34), []⟩,
 ⟨(some 36), none, .call 62 [(.t 33), (.t 35)], []⟩,
 ⟨(some 37), none, .bsl 5 1 [(.int .i64 0)] [(0, 1, (.t 12)), (1, 1, (.t 19)), (2, 1, (.t 26)), (3, 1, (.t 31)), (4, 1, (.t 36))], []⟩,
 ⟨(some 38), none, .call 59 [(.t 37)], []⟩,
 ⟨(some 5), none, .mv (.t 38), []⟩])
 (.seq (.seq (.reg [⟨(some 39), none, .mv (.t 5), []⟩,
 ⟨(some 40), none, .eq true (.sc [.int .i64] false) (.t 39) (.k (.int .i64 0)), []⟩])
 (.cond (.t 40)
 (.seq (.reg [⟨(some 41), none, .mv (.t 5), []⟩,
 ⟨(some 4), none, .mv (.t 41), []⟩])
 .ret)
 .skip))
 (.seq (.reg [⟨(some 42), none, .fa 5 (.t 2), []⟩,
 ⟨(some 43), none, .load none (.t 42), []⟩,
 ⟨(some 44), none, .fa 5 (.t 3), []⟩,
 ⟨(some 45), none, .load none (.t 44), []⟩,
 ⟨(some 46), none, .call 63 [(.t 43), (.t 45), (.k (.fn 64 []))], []⟩,
 ⟨(some 4), none, .mv (.t 46), []⟩])
 .ret))))⟩

/-- enthymeme/enthymemeref01.Pick -/
def c36 : Am.Fn := ⟨21, [.tmp 6],
 (.seq (.reg [⟨(some 6), none, .mv (.k (.int .i64 0)), []⟩])
 (.seq (.seq (.reg [⟨(some 7), none, .mv (.t 1), []⟩,
 ⟨(some 8), none, .bin .lss (.t 7) (.k (.int .i64 0)), []⟩,
 ⟨(some 9), none, .mv (.t 8), []⟩,
 ⟨(some 10), (some (9, false)), .mv (.t 1), []⟩,
 ⟨(some 11), (some (9, false)), .mv (.t 0), []⟩,
 ⟨(some 12), (some (9, false)), .len (.t 11), []⟩,
 ⟨(some 13), (some (9, false)), .bin .geq (.t 10) (.t 12), []⟩,
 ⟨(some 14), none, .pick (.t 9) (.k (.bool true)) (.t 13), []⟩])
 (.cond (.t 14)
 (.seq (.reg [⟨(some 6), none, .mv (.k (.int .i64 0)), []⟩])
 .ret)
 .skip))
 (.seq (.reg [⟨(some 15), none, .mv (.t 0), []⟩,
 ⟨(some 16), none, .mv (.t 1), []⟩,
 ⟨(some 17), none, .ia 1 (.t 15) (.t 16), []⟩,
 ⟨(some 18), none, .load none (.t 17), []⟩,
 ⟨(some 19), none, .mv (.t 2), []⟩,
 ⟨(some 20), none, .call 7 [(.t 18), (.t 19)], []⟩,
 ⟨(some 6), none, .mv (.t 20), []⟩])
 .ret)))⟩

/-- enthymeme/enthymemeref06.Short -/
def c37 : Am.Fn := ⟨33, [.tmp 4],
 (.seq (.reg [⟨(some 4), none, .mv (.k (.str [])), []⟩])
 (.seq (.reg [⟨(some 8), none, .mv (.t 0), []⟩,
 ⟨(some 9), none, .call 7 [(.t 8), (.k (.int .i64 1073741824))], []⟩,
 ⟨(some 5), none, .mv (.t 9), []⟩])
 (.seq (.reg [⟨(some 6), none, .mv (.k (.str [])), []⟩])
 (.seq (.seq (.reg [⟨(some 7), none, .mv (.k (.int .i64 0)), []⟩])
 (.block 0
 (.loop
 (.seq (.seq (.reg [⟨(some 10), none, .mv (.t 7), []⟩,
 ⟨(some 11), none, .mv (.t 5), []⟩,
 ⟨(some 12), none, .bin .rem (.t 11) (.k (.int .i64 4)), []⟩,
 ⟨(some 13), none, .bin .lss (.t 10) (.t 12), []⟩,
 ⟨(some 14), none, .mv (.t 13), []⟩,
 ⟨(some 15), (some (14, true)), .mv (.t 7), []⟩,
 ⟨(some 16), (some (14, true)), .mv (.t 1), []⟩,
 ⟨(some 17), (some (14, true)), .bin .lss (.t 15) (.t 16), []⟩,
 ⟨(some 18), none, .pick (.t 14) (.t 17) (.k (.bool false)), []⟩])
 (.cond (.t 18)
 .skip
 (.exit 0)))
 (.seq (.block 1
 (.seq (.reg [⟨(some 21), none, .mv (.t 6), []⟩,
 ⟨(some 22), none, .bsl 5 1 [(.str [])] [(0, 1, (.k (.str [97]))), (1, 1, (.k (.str [98]))), (2, 1, (.k (.str [97, 98]))), (3, 1, (.k (.str [0]))), (4, 1, (.k (.str [255])))], []⟩,
 ⟨(some 23), none, .mv (.t 5), []⟩,
 ⟨(some 24), none, .bin .quo (.t 23) (.k (.int .i64 4)), []⟩,
 ⟨(some 25), none, .bin .rem (.t 24) (.k (.int .i64 5)), []⟩,
 ⟨(some 26), none, .ia 1 (.t 22) (.t 25), []⟩,
 ⟨(some 27), none, .load none (.t 26), []⟩,
 ⟨(some 28), none, .sls (.t 27) none (some (.k (.int .i64 1))), []⟩,
 ⟨(some 29), none, .bin .add (.t 21) (.t 28), []⟩,
 ⟨(some 6), none, .mv (.t 29), []⟩])
 (.reg [⟨(some 30), none, .mv (.t 5), []⟩,
 ⟨(some 31), none, .bin .quo (.t 30) (.k (.int .i64 5)), []⟩,
 ⟨(some 5), none, .mv (.t 31), []⟩])))
 (.reg [⟨(some 19), none, .mv (.t 7), []⟩,
 ⟨(some 20), none, .bin .add (.t 19) (.k (.int .i64 1)), []⟩,
 ⟨(some 7), none, .mv (.t 20), []⟩]))))))
 (.seq (.reg [⟨(some 32), none, .mv (.t 6), []⟩,
 ⟨(some 4), none, .mv (.t 32), []⟩])
 .ret)))))⟩

/-- enthymeme/enthymemeref06.Put -/
def c38 : Am.Fn := ⟨83, [.cell 8 (some 6)],
 (.seq (.reg [⟨(some 4), none, .box (.t 0), []⟩,
 ⟨(some 8), none, .alloc [(.int .i64 0), (.int .i64 0), (.int .i64 0), (.int .u64 0), (.str []), .nils], []⟩])
 (.seq (.reg [⟨(some 11), none, .fa 0 (.t 4), []⟩,
 ⟨(some 12), none, .load (some 3) (.t 11), []⟩,
 ⟨(some 13), none, .build [(.int .i64 0), (.int .i64 0), (.int .i64 0), (.int .u64 0), (.str []), .nils] [(0, 3, (.t 12))], []⟩,
 ⟨(some 9), none, .alloc [(.int .i64 0), (.int .i64 0), (.int .i64 0), (.int .u64 0), (.str []), .nils], []⟩,
 ⟨none, none, .store 6 (.t 9) (.t 13), []⟩])
 (.seq (.reg [⟨(some 10), none, .mv (.k (.int .i64 0)), []⟩])
 (.seq (.block 0
 (.loop
 (.seq (.seq (.reg [⟨(some 14), none, .mv (.t 10), []⟩,
 ⟨(some 15), none, .fa 5 (.t 4), []⟩,
 ⟨(some 16), none, .load none (.t 15), []⟩,
 ⟨(some 17), none, .len (.t 16), []⟩,
 ⟨(some 18), none, .bin .lss (.t 14) (.t 17), []⟩,
 ⟨(some 19), none, .mv (.t 18), []⟩,
 ⟨(some 20), (some (19, true)), .fa 5 (.t 4), []⟩,
 ⟨(some 21), (some (19, true)), .load none (.t 20), []⟩,
 ⟨(some 22), (some (19, true)), .mv (.t 10), []⟩,
 ⟨(some 23), (some (19, true)), .ia 3 (.t 21) (.t 22), []⟩,
 ⟨(some 24), (some (19, true)), .fa 0 (.t 23), []⟩,
 ⟨(some 25), (some (19, true)), .load none (.t 24), []⟩,
 ⟨(some 26), (some (19, true)), .mv (.t 1), []⟩,
 ⟨(some 27), (some (19, true)), .bin .lss (.t 25) (.t 26), []⟩,
 ⟨(some 28), none, .pick (.t 19) (.t 27) (.k (.bool false)), []⟩])
 (.cond (.t 28)
 .skip
 (.exit 0)))
 (.block 1
 (.seq (.reg [⟨(some 29), none, .fa 5 (.t 9), []⟩,
 ⟨(some 30), none, .load none (.t 29), []⟩,
 ⟨(some 31), none, .fa 5 (.t 4), []⟩,
 ⟨(some 32), none, .load none (.t 31), []⟩,
 ⟨(some 33), none, .mv (.t 10), []⟩,
 ⟨(some 34), none, .ia 3 (.t 32) (.t 33), []⟩,
 ⟨(some 35), none, .load (some 3) (.t 34), []⟩,
 ⟨(some 36), none, .bsl 1 3 [(.int .u64 0), (.int .u64 0), (.str [])] [(0, 3, (.t 35))], []⟩,
 ⟨(some 37), none, .app 3 32 (.t 30) (.t 36), []⟩,
 ⟨(some 38), none, .fa 5 (.t 9), []⟩,
 ⟨none, none, .store 1 (.t 38) (.t 37), []⟩])
 (.reg [⟨(some 39), none, .mv (.t 10), []⟩,
 ⟨(some 40), none, .bin .add (.t 39) (.k (.int .i64 1)), []⟩,
 ⟨(some 10), none, .mv (.t 40), []⟩]))))))
 (.seq (.seq (.reg [⟨(some 41), none, .mv (.t 2), []⟩,
 ⟨(some 42), none, .bin .gtr (.t 41) (.k (.int .u64 0)), []⟩,
 ⟨(some 43), none, .mv (.t 42), []⟩,
 ⟨(some 44), (some (43, false)), .mv (.t 3), []⟩,
 ⟨(some 45), (some (43, false)), .lens (.t 44), []⟩,
 ⟨(some 46), (some (43, false)), .bin .gtr (.t 45) (.k (.int .i64 0)), []⟩,
 ⟨(some 47), none, .pick (.t 43) (.k (.bool true)) (.t 46), []⟩])
 (.cond (.t 47)
 (.reg [⟨(some 48), none, .fa 5 (.t 9), []⟩,
 ⟨(some 49), none, .load none (.t 48), []⟩,
 ⟨(some 50), none, .mv (.t 1), []⟩,
 ⟨(some 51), none, .mv (.t 2), []⟩,
 ⟨(some 52), none, .mv (.t 3), []⟩,
 ⟨(some 53), none, .build [(.int .u64 0), (.int .u64 0), (.str [])] [(0, 1, (.t 50)), (1, 1, (.t 51)), (2, 1, (.t 52))], []⟩,
 ⟨(some 54), none, .bsl 1 3 [(.int .u64 0), (.int .u64 0), (.str [])] [(0, 3, (.t 53))], []⟩,
 ⟨(some 55), none, .app 3 32 (.t 49) (.t 54), []⟩,
 ⟨(some 56), none, .fa 5 (.t 9), []⟩,
 ⟨none, none, .store 1 (.t 56) (.t 55), []⟩])
 .skip))
 (.seq (.seq (.reg [⟨(some 57), none, .mv (.t 10), []⟩,
 ⟨(some 58), none, .fa 5 (.t 4), []⟩,
 ⟨(some 59), none, .load none (.t 58), []⟩,
 ⟨(some 60), none, .len (.t 59), []⟩,
 ⟨(some 61), none, .bin .lss (.t 57) (.t 60), []⟩,
 ⟨(some 62), none, .mv (.t 61), []⟩,
 ⟨(some 63), (some (62, true)), .fa 5 (.t 4), []⟩,
 ⟨(some 64), (some (62, true)), .load none (.t 63), []⟩,
 ⟨(some 65), (some (62, true)), .mv (.t 10), []⟩,
 ⟨(some 66), (some (62, true)), .ia 3 (.t 64) (.t 65), []⟩,
 ⟨(some 67), (some (62, true)), .fa 0 (.t 66), []⟩,
 ⟨(some 68), (some (62, true)), .load none (.t 67), []⟩,
 ⟨(some 69), (some (62, true)), .mv (.t 1), []⟩,
 ⟨(some 70), (some (62, true)), .eq false (.sc [.int .u64] false) (.t 68) (.t 69), []⟩,
 ⟨(some 71), none, .pick (.t 62) (.t 70) (.k (.bool false)), []⟩])
 (.cond (.t 71)
 (.reg [⟨(some 72), none, .mv (.t 10), []⟩,
 ⟨(some 73), none, .bin .add (.t 72) (.k (.int .i64 1)), []⟩,
 ⟨(some 10), none, .mv (.t 73), []⟩])
 .skip))
 (.seq (.reg [⟨(some 74), none, .fa 5 (.t 9), []⟩,
 ⟨(some 75), none, .load none (.t 74), []⟩,
 ⟨(some 76), none, .fa 5 (.t 4), []⟩,
 ⟨(some 77), none, .load none (.t 76), []⟩,
 ⟨(some 78), none, .mv (.t 10), []⟩,
 ⟨(some 79), none, .slc 3 (.t 77) (some (.t 78)) none none, []⟩,
 ⟨(some 80), none, .app 3 32 (.t 75) (.t 79), []⟩,
 ⟨(some 81), none, .fa 5 (.t 9), []⟩,
 ⟨none, none, .store 1 (.t 81) (.t 80), []⟩])
 (.seq (.reg [⟨(some 82), none, .load (some 6) (.t 9), []⟩,
 ⟨none, none, .store 6 (.t 8) (.t 82), []⟩])
 .ret))))))))⟩

/-- enthymeme/value.Valid -/
def c39 : Am.Fn := ⟨70, [.tmp 2],
 (.seq (.reg [⟨(some 1), none, .box (.t 0), []⟩,
 ⟨(some 2), none, .mv (.k (.int .i64 0)), []⟩])
 (.seq (.seq (.reg [⟨(some 5), none, .fa 0 (.t 1), []⟩,
 ⟨(some 6), none, .load (some 3) (.t 5), []⟩,
 ⟨(some 7), none, .call 69 [(.t 6)], []⟩,
 ⟨(some 3), none, .mv (.t 7), []⟩])
 (.seq (.reg [⟨(some 8), none, .mv (.t 3), []⟩,
 ⟨(some 9), none, .eq true (.sc [.int .i64] false) (.t 8) (.k (.int .i64 0)), []⟩])
 (.cond (.t 9)
 (.seq (.reg [⟨(some 10), none, .mv (.t 3), []⟩,
 ⟨(some 2), none, .mv (.t 10), []⟩])
 .ret)
 .skip)))
 (.seq (.reg [⟨(some 4), none, .mv (.k (.bool false)), []⟩])
 (.seq (.seq (.reg [⟨(some 11), none, .fa 0 (.t 1), []⟩,
 ⟨(some 12), none, .fa 0 (.t 11), []⟩,
 ⟨(some 13), none, .load none (.t 12), []⟩])
 (.block 0
 (.seq (.reg [⟨(some 30), none, .eq false (.sc [.int .i64] false) (.t 13) (.k (.int .i64 0)), []⟩,
 ⟨(some 29), none, .mv (.t 30), []⟩])
 (.cond (.t 29)
 (.reg [⟨(some 31), none, .fa 3 (.t 1), []⟩,
 ⟨(some 32), none, .load none (.t 31), []⟩,
 ⟨(some 33), none, .fa 0 (.t 1), []⟩,
 ⟨(some 34), none, .fa 1 (.t 33), []⟩,
 ⟨(some 35), none, .load none (.t 34), []⟩,
 ⟨(some 36), none, .call 70 [(.t 32), (.t 35)], []⟩,
 ⟨(some 37), none, .mv (.t 36), []⟩,
 ⟨(some 38), (some (37, true)), .fa 4 (.t 1), []⟩,
 ⟨(some 39), (some (37, true)), .load none (.t 38), []⟩,
 ⟨(some 40), (some (37, true)), .eq false (.sc [.str] false) (.t 39) (.k (.str [])), []⟩,
 ⟨(some 41), none, .pick (.t 37) (.t 40) (.k (.bool false)), []⟩,
 ⟨(some 42), none, .mv (.t 41), []⟩,
 ⟨(some 43), (some (42, true)), .fa 5 (.t 1), []⟩,
 ⟨(some 44), (some (42, true)), .load none (.t 43), []⟩,
 ⟨(some 45), (some (42, true)), .len (.t 44), []⟩,
 ⟨(some 46), (some (42, true)), .eq false (.sc [.int .i64] false) (.t 45) (.k (.int .i64 0)), []⟩,
 ⟨(some 47), none, .pick (.t 42) (.t 46) (.k (.bool false)), []⟩,
 ⟨(some 4), none, .mv (.t 47), []⟩])
 (.seq (.reg [⟨(some 49), none, .eq false (.sc [.int .i64] false) (.t 13) (.k (.int .i64 1)), []⟩,
 ⟨(some 48), none, .mv (.t 49), []⟩])
 (.cond (.t 48)
 (.reg [⟨(some 50), none, .fa 4 (.t 1), []⟩,
 ⟨(some 51), none, .load none (.t 50), []⟩,
 ⟨(some 52), none, .lens (.t 51), []⟩,
 ⟨(some 53), none, .fa 0 (.t 1), []⟩,
 ⟨(some 54), none, .fa 1 (.t 53), []⟩,
 ⟨(some 55), none, .load none (.t 54), []⟩,
 ⟨(some 56), none, .bin .leq (.t 52) (.t 55), []⟩,
 ⟨(some 57), none, .mv (.t 56), []⟩,
 ⟨(some 58), (some (57, true)), .fa 3 (.t 1), []⟩,
 ⟨(some 59), (some (57, true)), .load none (.t 58), []⟩,
 ⟨(some 60), (some (57, true)), .eq false (.sc [.int .u64] false) (.t 59) (.k (.int .u64 0)), []⟩,
 ⟨(some 61), none, .pick (.t 57) (.t 60) (.k (.bool false)), []⟩,
 ⟨(some 62), none, .mv (.t 61), []⟩,
 ⟨(some 63), (some (62, true)), .fa 5 (.t 1), []⟩,
 ⟨(some 64), (some (62, true)), .load none (.t 63), []⟩,
 ⟨(some 65), (some (62, true)), .len (.t 64), []⟩,
 ⟨(some 66), (some (62, true)), .eq false (.sc [.int .i64] false) (.t 65) (.k (.int .i64 0)), []⟩,
 ⟨(some 67), none, .pick (.t 62) (.t 66) (.k (.bool false)), []⟩,
 ⟨(some 4), none, .mv (.t 67), []⟩])
 (.reg [⟨(some 14), none, .fa 3 (.t 1), []⟩,
 ⟨(some 15), none, .load none (.t 14), []⟩,
 ⟨(some 16), none, .eq false (.sc [.int .u64] false) (.t 15) (.k (.int .u64 0)), []⟩,
 ⟨(some 17), none, .mv (.t 16), []⟩,
 ⟨(some 18), (some (17, true)), .fa 4 (.t 1), []⟩,
 ⟨(some 19), (some (17, true)), .load none (.t 18), []⟩,
 ⟨(some 20), (some (17, true)), .eq false (.sc [.str] false) (.t 19) (.k (.str [])), []⟩,
 ⟨(some 21), none, .pick (.t 17) (.t 20) (.k (.bool false)), []⟩,
 ⟨(some 22), none, .mv (.t 21), []⟩,
 ⟨(some 23), (some (22, true)), .fa 0 (.t 1), []⟩,
 ⟨(some 24), (some (22, true)), .load (some 3) (.t 23), []⟩,
 ⟨(some 25), (some (22, true)), .fa 5 (.t 1), []⟩,
 ⟨(some 26), (some (22, true)), .load none (.t 25), []⟩,
 ⟨(some 27), (some (22, true)), .call 71 [(.t 24), (.t 26)], []⟩,
 ⟨(some 28), none, .pick (.t 22) (.t 27) (.k (.bool false)), []⟩,
 ⟨(some 4), none, .mv (.t 28), []⟩])))))))
 (.seq (.seq (.reg [⟨(some 68), none, .mv (.t 4), []⟩,
 ⟨(some 69), none, .un .not (.t 68), []⟩])
 (.cond (.t 69)
 (.seq (.reg [⟨(some 2), none, .mv (.k (.int .i64 1)), []⟩])
 .ret)
 .skip))
 (.seq (.reg [⟨(some 2), none, .mv (.k (.int .i64 0)), []⟩])
 .ret))))))⟩

/-- enthymeme/term.SortOf -/
def c40 : Am.Fn := ⟨13, [.cell 4 (some 3), .tmp 5],
 (.seq (.reg [⟨(some 2), none, .box (.t 0), []⟩,
 ⟨(some 3), none, .box (.t 1), []⟩,
 ⟨(some 4), none, .alloc [(.int .i64 0), (.int .i64 0), (.int .i64 0)], []⟩,
 ⟨(some 5), none, .mv (.k (.int .i64 0)), []⟩])
 (.seq (.reg [⟨(some 6), none, .fa 0 (.t 2), []⟩,
 ⟨(some 7), none, .load none (.t 6), []⟩,
 ⟨(some 8), none, .load (some 9) (.t 3), []⟩,
 ⟨(some 9), none, .mkfn 73 [(.t 2)], []⟩,
 ⟨(some 10), none, .call 72 [(.t 7), (.t 8), (.t 9)], []⟩,
 ⟨(some 11), none, .ext (.t 10) 0, []⟩,
 ⟨(some 12), none, .ext (.t 10) 1, []⟩,
 ⟨none, none, .store 3 (.t 4) (.t 11), []⟩,
 ⟨(some 5), none, .mv (.t 12), []⟩])
 .ret))⟩

/-- enthymeme/eval.meanings -/
def c41 : Am.Fn := ⟨12, [.tmp 0],
 (.seq (.reg [⟨(some 0), none, .mv (.k .nilm), []⟩])
 (.seq (.reg [⟨(some 2), none, .mkmap, []⟩,
 ⟨(some 1), none, .mv (.t 2), []⟩])
 (.seq (.reg [⟨(some 3), none, .mv (.t 1), []⟩,
 ⟨(some 4), none, .call 74 [(.t 3)], []⟩])
 (.seq (.reg [⟨(some 5), none, .mv (.t 1), []⟩,
 ⟨(some 6), none, .call 75 [(.t 5)], []⟩])
 (.seq (.reg [⟨(some 7), none, .mv (.t 1), []⟩,
 ⟨(some 8), none, .call 76 [(.t 7)], []⟩])
 (.seq (.reg [⟨(some 9), none, .mv (.t 1), []⟩,
 ⟨(some 10), none, .call 77 [(.t 9)], []⟩])
 (.seq (.reg [⟨(some 11), none, .mv (.t 1), []⟩,
 ⟨(some 0), none, .mv (.t 11), []⟩])
 .ret)))))))⟩

/-- enthymeme/enthymemeref07.Strings -/
def c47 : Am.Fn := ⟨5, [.cell 2 (some 3)],
 (.seq (.reg [⟨(some 2), none, .alloc [(.int .i64 0), (.int .i64 0), (.int .i64 0)], []⟩])
 (.seq (.reg [⟨(some 3), none, .mv (.t 0), []⟩,
 ⟨(some 4), none, .build [(.int .i64 0), (.int .i64 0), (.int .i64 0)] [(0, 1, (.k (.int .i64 1))), (1, 1, (.t 3))], []⟩,
 ⟨none, none, .store 3 (.t 2) (.t 4), []⟩])
 .ret))⟩

/-- enthymeme/enthymemeref06.Array -/
def c58 : Am.Fn := ⟨11, [.tmp 2],
 (.seq (.reg [⟨(some 1), none, .box (.t 0), []⟩,
 ⟨(some 2), none, .mv (.k (.bool false)), []⟩])
 (.seq (.reg [⟨(some 3), none, .fa 0 (.t 1), []⟩,
 ⟨(some 4), none, .load none (.t 3), []⟩,
 ⟨(some 5), none, .eq false (.sc [.int .i64] false) (.t 4) (.k (.int .i64 2)), []⟩,
 ⟨(some 6), none, .mv (.t 5), []⟩,
 ⟨(some 7), (some (6, false)), .fa 0 (.t 1), []⟩,
 ⟨(some 8), (some (6, false)), .load none (.t 7), []⟩,
 ⟨(some 9), (some (6, false)), .eq false (.sc [.int .i64] false) (.t 8) (.k (.int .i64 3)), []⟩,
 ⟨(some 10), none, .pick (.t 6) (.k (.bool true)) (.t 9), []⟩,
 ⟨(some 2), none, .mv (.t 10), []⟩])
 .ret))⟩

/-- cmp.Or[int] -/
def c59 : Am.Fn := ⟨18, [.tmp 2],
 (.seq (.reg [⟨(some 2), none, .mv (.k (.int .i64 0)), []⟩])
 (.seq (.reg [⟨(some 3), none, .mv (.k (.int .i64 0)), []⟩])
 (.seq (.seq (.reg [⟨(some 6), none, .mv (.t 0), []⟩,
 ⟨(some 7), none, .len (.t 6), []⟩,
 ⟨(some 8), none, .mv (.k (.int .i64 0)), []⟩])
 (.block 0
 (.loop
 (.seq (.reg [⟨(some 9), none, .bin .lss (.t 8) (.t 7), []⟩])
 (.seq (.cond (.t 9)
 .skip
 (.exit 0))
 (.seq (.block 1
 (.seq (.reg [⟨(some 10), none, .ia 1 (.t 6) (.t 8), []⟩,
 ⟨(some 11), none, .load none (.t 10), []⟩,
 ⟨(some 5), none, .mv (.t 11), []⟩])
 (.seq (.reg [⟨(some 12), none, .mv (.t 5), []⟩,
 ⟨(some 13), none, .mv (.t 3), []⟩,
 ⟨(some 14), none, .eq true (.sc [.int .i64] false) (.t 12) (.t 13), []⟩])
 (.cond (.t 14)
 (.seq (.reg [⟨(some 15), none, .mv (.t 5), []⟩,
 ⟨(some 2), none, .mv (.t 15), []⟩])
 .ret)
 .skip))))
 (.reg [⟨(some 16), none, .bin .add (.t 8) (.k (.int .i64 1)), []⟩,
 ⟨(some 8), none, .mv (.t 16), []⟩])))))))
 (.seq (.reg [⟨(some 17), none, .mv (.t 3), []⟩,
 ⟨(some 2), none, .mv (.t 17), []⟩])
 .ret))))⟩

/-- cmp.Compare[int] -/
def c60 : Am.Fn := ⟨20, [.tmp 4],
 (.seq (.reg [⟨(some 4), none, .mv (.k (.int .i64 0)), []⟩])
 (.seq (.reg [⟨(some 7), none, .mv (.t 0), []⟩,
 ⟨(some 8), none, .call 120 [(.t 7)], []⟩,
 ⟨(some 5), none, .mv (.t 8), []⟩])
 (.seq (.reg [⟨(some 9), none, .mv (.t 1), []⟩,
 ⟨(some 10), none, .call 120 [(.t 9)], []⟩,
 ⟨(some 6), none, .mv (.t 10), []⟩])
 (.seq (.seq (.reg [⟨(some 11), none, .mv (.t 5), []⟩])
 (.cond (.t 11)
 (.seq (.seq (.reg [⟨(some 12), none, .mv (.t 6), []⟩])
 (.cond (.t 12)
 (.seq (.reg [⟨(some 4), none, .mv (.k (.int .i64 0)), []⟩])
 .ret)
 .skip))
 (.seq (.reg [⟨(some 4), none, .mv (.k (.int .i64 (-1))), []⟩])
 .ret))
 .skip))
 (.seq (.seq (.reg [⟨(some 13), none, .mv (.t 6), []⟩])
 (.cond (.t 13)
 (.seq (.reg [⟨(some 4), none, .mv (.k (.int .i64 1)), []⟩])
 .ret)
 .skip))
 (.seq (.seq (.reg [⟨(some 14), none, .mv (.t 0), []⟩,
 ⟨(some 15), none, .mv (.t 1), []⟩,
 ⟨(some 16), none, .bin .lss (.t 14) (.t 15), []⟩])
 (.cond (.t 16)
 (.seq (.reg [⟨(some 4), none, .mv (.k (.int .i64 (-1))), []⟩])
 .ret)
 .skip))
 (.seq (.seq (.reg [⟨(some 17), none, .mv (.t 0), []⟩,
 ⟨(some 18), none, .mv (.t 1), []⟩,
 ⟨(some 19), none, .bin .gtr (.t 17) (.t 18), []⟩])
 (.cond (.t 19)
 (.seq (.reg [⟨(some 4), none, .mv (.k (.int .i64 1)), []⟩])
 .ret)
 .skip))
 (.seq (.reg [⟨(some 4), none, .mv (.k (.int .i64 0)), []⟩])
 .ret))))))))⟩

/-- cmp.Compare[uint64] -/
def c61 : Am.Fn := ⟨20, [.tmp 4],
 (.seq (.reg [⟨(some 4), none, .mv (.k (.int .i64 0)), []⟩])
 (.seq (.reg [⟨(some 7), none, .mv (.t 0), []⟩,
 ⟨(some 8), none, .call 121 [(.t 7)], []⟩,
 ⟨(some 5), none, .mv (.t 8), []⟩])
 (.seq (.reg [⟨(some 9), none, .mv (.t 1), []⟩,
 ⟨(some 10), none, .call 121 [(.t 9)], []⟩,
 ⟨(some 6), none, .mv (.t 10), []⟩])
 (.seq (.seq (.reg [⟨(some 11), none, .mv (.t 5), []⟩])
 (.cond (.t 11)
 (.seq (.seq (.reg [⟨(some 12), none, .mv (.t 6), []⟩])
 (.cond (.t 12)
 (.seq (.reg [⟨(some 4), none, .mv (.k (.int .i64 0)), []⟩])
 .ret)
 .skip))
 (.seq (.reg [⟨(some 4), none, .mv (.k (.int .i64 (-1))), []⟩])
 .ret))
 .skip))
 (.seq (.seq (.reg [⟨(some 13), none, .mv (.t 6), []⟩])
 (.cond (.t 13)
 (.seq (.reg [⟨(some 4), none, .mv (.k (.int .i64 1)), []⟩])
 .ret)
 .skip))
 (.seq (.seq (.reg [⟨(some 14), none, .mv (.t 0), []⟩,
 ⟨(some 15), none, .mv (.t 1), []⟩,
 ⟨(some 16), none, .bin .lss (.t 14) (.t 15), []⟩])
 (.cond (.t 16)
 (.seq (.reg [⟨(some 4), none, .mv (.k (.int .i64 (-1))), []⟩])
 .ret)
 .skip))
 (.seq (.seq (.reg [⟨(some 17), none, .mv (.t 0), []⟩,
 ⟨(some 18), none, .mv (.t 1), []⟩,
 ⟨(some 19), none, .bin .gtr (.t 17) (.t 18), []⟩])
 (.cond (.t 19)
 (.seq (.reg [⟨(some 4), none, .mv (.k (.int .i64 1)), []⟩])
 .ret)
 .skip))
 (.seq (.reg [⟨(some 4), none, .mv (.k (.int .i64 0)), []⟩])
 .ret))))))))⟩

/-- cmp.Compare[string] -/
def c62 : Am.Fn := ⟨20, [.tmp 4],
 (.seq (.reg [⟨(some 4), none, .mv (.k (.int .i64 0)), []⟩])
 (.seq (.reg [⟨(some 7), none, .mv (.t 0), []⟩,
 ⟨(some 8), none, .call 122 [(.t 7)], []⟩,
 ⟨(some 5), none, .mv (.t 8), []⟩])
 (.seq (.reg [⟨(some 9), none, .mv (.t 1), []⟩,
 ⟨(some 10), none, .call 122 [(.t 9)], []⟩,
 ⟨(some 6), none, .mv (.t 10), []⟩])
 (.seq (.seq (.reg [⟨(some 11), none, .mv (.t 5), []⟩])
 (.cond (.t 11)
 (.seq (.seq (.reg [⟨(some 12), none, .mv (.t 6), []⟩])
 (.cond (.t 12)
 (.seq (.reg [⟨(some 4), none, .mv (.k (.int .i64 0)), []⟩])
 .ret)
 .skip))
 (.seq (.reg [⟨(some 4), none, .mv (.k (.int .i64 (-1))), []⟩])
 .ret))
 .skip))
 (.seq (.seq (.reg [⟨(some 13), none, .mv (.t 6), []⟩])
 (.cond (.t 13)
 (.seq (.reg [⟨(some 4), none, .mv (.k (.int .i64 1)), []⟩])
 .ret)
 .skip))
 (.seq (.seq (.reg [⟨(some 14), none, .mv (.t 0), []⟩,
 ⟨(some 15), none, .mv (.t 1), []⟩,
 ⟨(some 16), none, .bin .lss (.t 14) (.t 15), []⟩])
 (.cond (.t 16)
 (.seq (.reg [⟨(some 4), none, .mv (.k (.int .i64 (-1))), []⟩])
 .ret)
 .skip))
 (.seq (.seq (.reg [⟨(some 17), none, .mv (.t 0), []⟩,
 ⟨(some 18), none, .mv (.t 1), []⟩,
 ⟨(some 19), none, .bin .gtr (.t 17) (.t 18), []⟩])
 (.cond (.t 19)
 (.seq (.reg [⟨(some 4), none, .mv (.k (.int .i64 1)), []⟩])
 .ret)
 .skip))
 (.seq (.reg [⟨(some 4), none, .mv (.k (.int .i64 0)), []⟩])
 .ret))))))))⟩

/-- enthymeme/value.compareLists[enthymeme/value.Entry] -/
def c63 : Am.Fn := ⟨39, [.tmp 6],
 (.seq (.reg [⟨(some 6), none, .mv (.k (.int .i64 0)), []⟩])
 (.seq (.seq (.reg [⟨(some 7), none, .mv (.k (.int .i64 0)), []⟩])
 (.block 0
 (.loop
 (.seq (.seq (.reg [⟨(some 9), none, .mv (.t 7), []⟩,
 ⟨(some 10), none, .mv (.t 0), []⟩,
 ⟨(some 11), none, .len (.t 10), []⟩,
 ⟨(some 12), none, .bin .lss (.t 9) (.t 11), []⟩,
 ⟨(some 13), none, .mv (.t 12), []⟩,
 ⟨(some 14), (some (13, true)), .mv (.t 7), []⟩,
 ⟨(some 15), (some (13, true)), .mv (.t 1), []⟩,
 ⟨(some 16), (some (13, true)), .len (.t 15), []⟩,
 ⟨(some 17), (some (13, true)), .bin .lss (.t 14) (.t 16), []⟩,
 ⟨(some 18), none, .pick (.t 13) (.t 17) (.k (.bool false)), []⟩])
 (.cond (.t 18)
 .skip
 (.exit 0)))
 (.seq (.block 1
 (.seq (.reg [⟨(some 21), none, .mv (.t 2), []⟩,
 ⟨(some 22), none, .mv (.t 0), []⟩,
 ⟨(some 23), none, .mv (.t 7), []⟩,
 ⟨(some 24), none, .ia 3 (.t 22) (.t 23), []⟩,
 ⟨(some 25), none, .load (some 3) (.t 24), []⟩,
 ⟨(some 26), none, .mv (.t 1), []⟩,
 ⟨(some 27), none, .mv (.t 7), []⟩,
 ⟨(some 28), none, .ia 3 (.t 26) (.t 27), []⟩,
 ⟨(some 29), none, .load (some 3) (.t 28), []⟩,
 ⟨(some 30), none, .dyn true (.t 21) [(.t 25), (.t 29)], []⟩,
 ⟨(some 8), none, .mv (.t 30), []⟩])
 (.seq (.reg [⟨(some 31), none, .mv (.t 8), []⟩,
 ⟨(some 32), none, .eq true (.sc [.int .i64] false) (.t 31) (.k (.int .i64 0)), []⟩])
 (.cond (.t 32)
 (.seq (.reg [⟨(some 33), none, .mv (.t 8), []⟩,
 ⟨(some 6), none, .mv (.t 33), []⟩])
 .ret)
 .skip))))
 (.reg [⟨(some 19), none, .mv (.t 7), []⟩,
 ⟨(some 20), none, .bin .add (.t 19) (.k (.int .i64 1)), []⟩,
 ⟨(some 7), none, .mv (.t 20), []⟩]))))))
 (.seq (.reg [⟨(some 34), none, .mv (.t 0), []⟩,
 ⟨(some 35), none, .len (.t 34), []⟩,
 ⟨(some 36), none, .mv (.t 1), []⟩,
 ⟨(some 37), none, .len (.t 36), []⟩,
 ⟨(some 38), none, .call 60 [(.t 35), (.t 37)], []⟩,
 ⟨(some 6), none, .mv (.t 38), []⟩])
 .ret)))⟩

/-- enthymeme/value.Compare$1 -/
def c64 : Am.Fn := ⟨22, [.tmp 4],
 (.seq (.reg [⟨(some 2), none, .box (.t 0), []⟩,
 ⟨(some 3), none, .box (.t 1), []⟩,
 ⟨(some 4), none, .mv (.k (.int .i64 0)), []⟩])
 (.seq (.reg [⟨(some 5), none, .fa 0 (.t 2), []⟩,
 ⟨(some 6), none, .load none (.t 5), []⟩,
 ⟨(some 7), none, .fa 0 (.t 3), []⟩,
 ⟨(some 8), none, .load none (.t 7), []⟩,
 ⟨(some 9), none, .call 61 [(.t 6), (.t 8)], []⟩,
 ⟨(some 10), none, .fa 1 (.t 2), []⟩,
 ⟨(some 11), none, .load none (.t 10), []⟩,
 ⟨(some 12), none, .fa 1 (.t 3), []⟩,
 ⟨(some 13), none, .load none (.t 12), []⟩,
 ⟨(some 14), none, .call 61 [(.t 11), (.t 13)], []⟩,
 ⟨(some 15), none, .fa 2 (.t 2), []⟩,
 ⟨(some 16), none, .load none (.t 15), []⟩,
 ⟨(some 17), none, .fa 2 (.t 3), []⟩,
 ⟨(some 18), none, .load none (.t 17), []⟩,
 ⟨(some 19), none, .call 62 [(.t 16), (.t 18)], []⟩,
 ⟨(some 20), none, .bsl 3 1 [(.int .i64 0)] [(0, 1, (.t 9)), (1, 1, (.t 14)), (2, 1, (.t 19))], []⟩,
 ⟨(some 21), none, .call 59 [(.t 20)], []⟩,
 ⟨(some 4), none, .mv (.t 21), []⟩])
 .ret))⟩

/-- enthymeme/value.ValidSort -/
def c69 : Am.Fn := ⟨46, [.tmp 2],
 (.seq (.reg [⟨(some 1), none, .box (.t 0), []⟩,
 ⟨(some 2), none, .mv (.k (.int .i64 0)), []⟩])
 (.seq (.reg [⟨(some 3), none, .mv (.k (.int .i64 1)), []⟩,
 ⟨(some 4), none, .mv (.k (.int .i64 64)), []⟩,
 ⟨(some 5), none, .mv (.k (.bool false)), []⟩])
 (.seq (.seq (.reg [⟨(some 6), none, .fa 0 (.t 1), []⟩,
 ⟨(some 7), none, .load none (.t 6), []⟩])
 (.block 0
 (.seq (.reg [⟨(some 9), none, .eq false (.sc [.int .i64] false) (.t 7) (.k (.int .i64 0)), []⟩,
 ⟨(some 8), none, .mv (.t 9), []⟩])
 (.cond (.t 8)
 .skip
 (.seq (.reg [⟨(some 11), none, .eq false (.sc [.int .i64] false) (.t 7) (.k (.int .i64 1)), []⟩,
 ⟨(some 10), none, .mv (.t 11), []⟩])
 (.cond (.t 10)
 (.reg [⟨(some 3), none, .mv (.k (.int .i64 0)), []⟩,
 ⟨(some 4), none, .mv (.k (.int .i64 64)), []⟩])
 (.seq (.reg [⟨(some 13), none, .eq false (.sc [.int .i64] false) (.t 7) (.k (.int .i64 2)), []⟩,
 ⟨(some 12), none, .mv (.t 13), []⟩])
 (.cond (.t 12)
 (.reg [⟨(some 5), none, .mv (.k (.bool true)), []⟩])
 (.seq (.reg [⟨(some 15), none, .eq false (.sc [.int .i64] false) (.t 7) (.k (.int .i64 3)), []⟩,
 ⟨(some 14), none, .mv (.t 15), []⟩])
 (.cond (.t 14)
 (.reg [⟨(some 3), none, .mv (.k (.int .i64 0)), []⟩,
 ⟨(some 4), none, .mv (.k (.int .i64 64)), []⟩,
 ⟨(some 5), none, .mv (.k (.bool true)), []⟩])
 (.seq (.reg [⟨(some 2), none, .mv (.k (.int .i64 9)), []⟩])
 .ret)))))))))))
 (.seq (.seq (.reg [⟨(some 16), none, .fa 1 (.t 1), []⟩,
 ⟨(some 17), none, .load none (.t 16), []⟩,
 ⟨(some 18), none, .mv (.t 3), []⟩,
 ⟨(some 19), none, .bin .lss (.t 17) (.t 18), []⟩,
 ⟨(some 20), none, .mv (.t 19), []⟩,
 ⟨(some 21), (some (20, false)), .fa 1 (.t 1), []⟩,
 ⟨(some 22), (some (20, false)), .load none (.t 21), []⟩,
 ⟨(some 23), (some (20, false)), .mv (.t 4), []⟩,
 ⟨(some 24), (some (20, false)), .bin .gtr (.t 22) (.t 23), []⟩,
 ⟨(some 25), none, .pick (.t 20) (.k (.bool true)) (.t 24), []⟩])
 (.cond (.t 25)
 (.seq (.reg [⟨(some 2), none, .mv (.k (.int .i64 9)), []⟩])
 .ret)
 .skip))
 (.seq (.seq (.reg [⟨(some 26), none, .mv (.t 5), []⟩,
 ⟨(some 27), none, .mv (.t 26), []⟩,
 ⟨(some 28), (some (27, true)), .fa 2 (.t 1), []⟩,
 ⟨(some 29), (some (27, true)), .load none (.t 28), []⟩,
 ⟨(some 30), (some (27, true)), .bin .lss (.t 29) (.k (.int .i64 1)), []⟩,
 ⟨(some 31), (some (27, true)), .mv (.t 30), []⟩,
 ⟨(some 32), (some (31, false)), .fa 2 (.t 1), []⟩,
 ⟨(some 33), (some (31, false)), .load none (.t 32), []⟩,
 ⟨(some 34), (some (31, false)), .bin .gtr (.t 33) (.k (.int .i64 16)), []⟩,
 ⟨(some 35), (some (27, true)), .pick (.t 31) (.k (.bool true)) (.t 34), []⟩,
 ⟨(some 36), none, .pick (.t 27) (.t 35) (.k (.bool false)), []⟩,
 ⟨(some 37), none, .mv (.t 36), []⟩,
 ⟨(some 38), (some (37, false)), .mv (.t 5), []⟩,
 ⟨(some 39), (some (37, false)), .un .not (.t 38), []⟩,
 ⟨(some 40), (some (37, false)), .mv (.t 39), []⟩,
 ⟨(some 41), (some (40, true)), .fa 2 (.t 1), []⟩,
 ⟨(some 42), (some (40, true)), .load none (.t 41), []⟩,
 ⟨(some 43), (some (40, true)), .eq true (.sc [.int .i64] false) (.t 42) (.k (.int .i64 0)), []⟩,
 ⟨(some 44), (some (37, false)), .pick (.t 40) (.t 43) (.k (.bool false)), []⟩,
 ⟨(some 45), none, .pick (.t 37) (.k (.bool true)) (.t 44), []⟩])
 (.cond (.t 45)
 (.seq (.reg [⟨(some 2), none, .mv (.k (.int .i64 9)), []⟩])
 .ret)
 .skip))
 (.seq (.reg [⟨(some 2), none, .mv (.k (.int .i64 0)), []⟩])
 .ret))))))⟩

/-- enthymeme/value.below -/
def c70 : Am.Fn := ⟨13, [.tmp 4],
 (.seq (.reg [⟨(some 4), none, .mv (.k (.bool false)), []⟩])
 (.seq (.reg [⟨(some 5), none, .mv (.t 1), []⟩,
 ⟨(some 6), none, .eq false (.sc [.int .i64] false) (.t 5) (.k (.int .i64 64)), []⟩,
 ⟨(some 7), none, .mv (.t 6), []⟩,
 ⟨(some 8), (some (7, false)), .mv (.t 0), []⟩,
 ⟨(some 9), (some (7, false)), .mv (.t 1), []⟩,
 ⟨(some 10), (some (7, false)), .bin .shl (.k (.int .u64 1)) (.t 9), []⟩,
 ⟨(some 11), (some (7, false)), .bin .lss (.t 8) (.t 10), []⟩,
 ⟨(some 12), none, .pick (.t 7) (.k (.bool true)) (.t 11), []⟩,
 ⟨(some 4), none, .mv (.t 12), []⟩])
 .ret))⟩

/-- enthymeme/value.validMap -/
def c71 : Am.Fn := ⟨75, [.tmp 4],
 (.seq (.reg [⟨(some 2), none, .box (.t 0), []⟩,
 ⟨(some 4), none, .mv (.k (.bool false)), []⟩])
 (.seq (.seq (.reg [⟨(some 7), none, .mv (.t 1), []⟩,
 ⟨(some 8), none, .len (.t 7), []⟩,
 ⟨(some 9), none, .mv (.k (.int .i64 0)), []⟩])
 (.block 0
 (.loop
 (.seq (.reg [⟨(some 10), none, .bin .lss (.t 9) (.t 8), []⟩])
 (.seq (.cond (.t 10)
 .skip
 (.exit 0))
 (.seq (.block 1
 (.seq (.reg [⟨(some 11), none, .mv (.t 9), []⟩,
 ⟨(some 12), none, .ia 3 (.t 7) (.t 9), []⟩,
 ⟨(some 13), none, .load (some 3) (.t 12), []⟩,
 ⟨(some 6), none, .alloc [(.int .u64 0), (.int .u64 0), (.str [])], []⟩,
 ⟨(some 5), none, .mv (.t 11), []⟩,
 ⟨none, none, .store 3 (.t 6) (.t 13), []⟩])
 (.seq (.seq (.reg [⟨(some 14), none, .mv (.t 5), []⟩,
 ⟨(some 15), none, .bin .gtr (.t 14) (.k (.int .i64 0)), []⟩,
 ⟨(some 16), none, .mv (.t 15), []⟩,
 ⟨(some 17), (some (16, true)), .fa 0 (.t 6), []⟩,
 ⟨(some 18), (some (16, true)), .load none (.t 17), []⟩,
 ⟨(some 19), (some (16, true)), .mv (.t 1), []⟩,
 ⟨(some 20), (some (16, true)), .mv (.t 5), []⟩,
 ⟨(some 21), (some (16, true)), .bin .sub (.t 20) (.k (.int .i64 1)), []⟩,
 ⟨(some 22), (some (16, true)), .ia 3 (.t 19) (.t 21), []⟩,
 ⟨(some 23), (some (16, true)), .fa 0 (.t 22), []⟩,
 ⟨(some 24), (some (16, true)), .load none (.t 23), []⟩,
 ⟨(some 25), (some (16, true)), .bin .leq (.t 18) (.t 24), []⟩,
 ⟨(some 26), none, .pick (.t 16) (.t 25) (.k (.bool false)), []⟩,
 ⟨(some 27), none, .mv (.t 26), []⟩,
 ⟨(some 28), (some (27, false)), .fa 0 (.t 6), []⟩,
 ⟨(some 29), (some (27, false)), .load none (.t 28), []⟩,
 ⟨(some 30), (some (27, false)), .fa 2 (.t 2), []⟩,
 ⟨(some 31), (some (27, false)), .load none (.t 30), []⟩,
 ⟨(some 32), (some (27, false)), .call 70 [(.t 29), (.t 31)], []⟩,
 ⟨(some 33), (some (27, false)), .un .not (.t 32), []⟩,
 ⟨(some 34), none, .pick (.t 27) (.k (.bool true)) (.t 33), []⟩,
 ⟨(some 35), none, .mv (.t 34), []⟩,
 ⟨(some 36), (some (35, false)), .load (some 3) (.t 6), []⟩,
 ⟨(some 37), (some (35, false)), .fa 0 (.t 6), []⟩,
 ⟨(some 38), (some (35, false)), .load none (.t 37), []⟩,
 ⟨(some 39), (some (35, false)), .build [(.int .u64 0), (.int .u64 0), (.str [])] [(0, 1, (.t 38))], []⟩,
 ⟨(some 40), (some (35, false)), .eq false (.sc [.int .u64, .int .u64, .str] true) (.t 36) (.t 39), []⟩,
 ⟨(some 41), none, .pick (.t 35) (.k (.bool true)) (.t 40), []⟩])
 (.cond (.t 41)
 (.seq (.reg [⟨(some 4), none, .mv (.k (.bool false)), []⟩])
 .ret)
 .skip))
 (.seq (.seq (.reg [⟨(some 42), none, .fa 0 (.t 2), []⟩,
 ⟨(some 43), none, .load none (.t 42), []⟩,
 ⟨(some 44), none, .eq false (.sc [.int .i64] false) (.t 43) (.k (.int .i64 2)), []⟩,
 ⟨(some 45), none, .mv (.t 44), []⟩,
 ⟨(some 46), (some (45, true)), .fa 1 (.t 6), []⟩,
 ⟨(some 47), (some (45, true)), .load none (.t 46), []⟩,
 ⟨(some 48), (some (45, true)), .fa 1 (.t 2), []⟩,
 ⟨(some 49), (some (45, true)), .load none (.t 48), []⟩,
 ⟨(some 50), (some (45, true)), .call 70 [(.t 47), (.t 49)], []⟩,
 ⟨(some 51), (some (45, true)), .un .not (.t 50), []⟩,
 ⟨(some 52), (some (45, true)), .mv (.t 51), []⟩,
 ⟨(some 53), (some (52, false)), .fa 2 (.t 6), []⟩,
 ⟨(some 54), (some (52, false)), .load none (.t 53), []⟩,
 ⟨(some 55), (some (52, false)), .eq true (.sc [.str] false) (.t 54) (.k (.str [])), []⟩,
 ⟨(some 56), (some (45, true)), .pick (.t 52) (.k (.bool true)) (.t 55), []⟩,
 ⟨(some 57), none, .pick (.t 45) (.t 56) (.k (.bool false)), []⟩])
 (.cond (.t 57)
 (.seq (.reg [⟨(some 4), none, .mv (.k (.bool false)), []⟩])
 .ret)
 .skip))
 (.seq (.reg [⟨(some 58), none, .fa 0 (.t 2), []⟩,
 ⟨(some 59), none, .load none (.t 58), []⟩,
 ⟨(some 60), none, .eq false (.sc [.int .i64] false) (.t 59) (.k (.int .i64 3)), []⟩,
 ⟨(some 61), none, .mv (.t 60), []⟩,
 ⟨(some 62), (some (61, true)), .fa 1 (.t 6), []⟩,
 ⟨(some 63), (some (61, true)), .load none (.t 62), []⟩,
 ⟨(some 64), (some (61, true)), .eq true (.sc [.int .u64] false) (.t 63) (.k (.int .u64 0)), []⟩,
 ⟨(some 65), (some (61, true)), .mv (.t 64), []⟩,
 ⟨(some 66), (some (65, false)), .fa 2 (.t 6), []⟩,
 ⟨(some 67), (some (65, false)), .load none (.t 66), []⟩,
 ⟨(some 68), (some (65, false)), .lens (.t 67), []⟩,
 ⟨(some 69), (some (65, false)), .fa 1 (.t 2), []⟩,
 ⟨(some 70), (some (65, false)), .load none (.t 69), []⟩,
 ⟨(some 71), (some (65, false)), .bin .gtr (.t 68) (.t 70), []⟩,
 ⟨(some 72), (some (61, true)), .pick (.t 65) (.k (.bool true)) (.t 71), []⟩,
 ⟨(some 73), none, .pick (.t 61) (.t 72) (.k (.bool false)), []⟩])
 (.cond (.t 73)
 (.seq (.reg [⟨(some 4), none, .mv (.k (.bool false)), []⟩])
 .ret)
 .skip))))))
 (.reg [⟨(some 74), none, .bin .add (.t 9) (.k (.int .i64 1)), []⟩,
 ⟨(some 9), none, .mv (.t 74), []⟩])))))))
 (.seq (.reg [⟨(some 4), none, .mv (.k (.bool true)), []⟩])
 .ret)))⟩

/-- enthymeme/term.sortOf -/
def c72 : Am.Fn := ⟨123, [.cell 6 (some 3), .tmp 7],
 (.seq (.reg [⟨(some 4), none, .box (.t 1), []⟩,
 ⟨(some 6), none, .alloc [(.int .i64 0), (.int .i64 0), (.int .i64 0)], []⟩,
 ⟨(some 7), none, .mv (.k (.int .i64 0)), []⟩])
 (.seq (.seq (.reg [⟨(some 13), none, .fa 0 (.t 4), []⟩,
 ⟨(some 14), none, .load none (.t 13), []⟩,
 ⟨(some 15), none, .bin .lss (.t 14) (.k (.int .i64 0)), []⟩,
 ⟨(some 16), none, .mv (.t 15), []⟩,
 ⟨(some 17), (some (16, false)), .fa 0 (.t 4), []⟩,
 ⟨(some 18), (some (16, false)), .load none (.t 17), []⟩,
 ⟨(some 19), (some (16, false)), .bin .geq (.t 18) (.k (.int .i64 35)), []⟩,
 ⟨(some 20), none, .pick (.t 16) (.k (.bool true)) (.t 19), []⟩,
 ⟨(some 21), none, .mv (.t 20), []⟩,
 ⟨(some 22), (some (21, false)), .fa 1 (.t 4), []⟩,
 ⟨(some 23), (some (21, false)), .load none (.t 22), []⟩,
 ⟨(some 24), (some (21, false)), .len (.t 23), []⟩,
 ⟨(some 25), (some (21, false)), .fa 0 (.t 4), []⟩,
 ⟨(some 26), (some (21, false)), .load none (.t 25), []⟩,
 ⟨(some 27), (some (21, false)), .iaa 35 1 (.k kidV) (.t 26), []⟩,
 ⟨(some 28), (some (21, false)), .load none (.t 27), []⟩,
 ⟨(some 29), (some (21, false)), .eq true (.sc [.int .i64] false) (.t 24) (.t 28), []⟩,
 ⟨(some 30), none, .pick (.t 21) (.k (.bool true)) (.t 29), []⟩])
 (.cond (.t 30)
 (.seq (.reg [⟨(some 31), none, .build [(.int .i64 0), (.int .i64 0), (.int .i64 0)] [], []⟩,
 ⟨none, none, .store 3 (.t 6) (.t 31), []⟩,
 ⟨(some 7), none, .mv (.k (.int .i64 1)), []⟩])
 .ret)
 .skip))
 (.seq (.reg [⟨(some 8), none, .alloc [(.int .i64 0), (.int .i64 0), (.int .i64 0), (.int .i64 0), (.int .i64 0), (.int .i64 0), (.int .i64 0), (.int .i64 0), (.int .i64 0)], []⟩])
 (.seq (.seq (.reg [⟨(some 32), none, .fa 1 (.t 4), []⟩,
 ⟨(some 33), none, .load none (.t 32), []⟩,
 ⟨(some 34), none, .len (.t 33), []⟩,
 ⟨(some 35), none, .mv (.k (.int .i64 0)), []⟩])
 (.block 0
 (.loop
 (.seq (.reg [⟨(some 36), none, .bin .lss (.t 35) (.t 34), []⟩])
 (.seq (.cond (.t 36)
 .skip
 (.exit 0))
 (.seq (.block 1
 (.seq (.reg [⟨(some 37), none, .mv (.t 35), []⟩,
 ⟨(some 9), none, .mv (.t 37), []⟩])
 (.seq (.reg [⟨(some 38), none, .fa 1 (.t 4), []⟩,
 ⟨(some 39), none, .load none (.t 38), []⟩,
 ⟨(some 40), none, .mv (.t 9), []⟩,
 ⟨(some 41), none, .ia 1 (.t 39) (.t 40), []⟩,
 ⟨(some 42), none, .load none (.t 41), []⟩,
 ⟨(some 10), none, .mv (.t 42), []⟩])
 (.seq (.seq (.reg [⟨(some 43), none, .mv (.t 10), []⟩,
 ⟨(some 44), none, .bin .lss (.t 43) (.k (.int .i64 0)), []⟩,
 ⟨(some 45), none, .mv (.t 44), []⟩,
 ⟨(some 46), (some (45, false)), .mv (.t 10), []⟩,
 ⟨(some 47), (some (45, false)), .mv (.t 0), []⟩,
 ⟨(some 48), (some (45, false)), .len (.t 47), []⟩,
 ⟨(some 49), (some (45, false)), .bin .geq (.t 46) (.t 48), []⟩,
 ⟨(some 50), none, .pick (.t 45) (.k (.bool true)) (.t 49), []⟩])
 (.cond (.t 50)
 (.seq (.reg [⟨(some 51), none, .build [(.int .i64 0), (.int .i64 0), (.int .i64 0)] [], []⟩,
 ⟨none, none, .store 3 (.t 6) (.t 51), []⟩,
 ⟨(some 7), none, .mv (.k (.int .i64 1)), []⟩])
 .ret)
 .skip))
 (.reg [⟨(some 52), none, .mv (.t 9), []⟩,
 ⟨(some 53), none, .mv (.t 0), []⟩,
 ⟨(some 54), none, .mv (.t 10), []⟩,
 ⟨(some 55), none, .ia 9 (.t 53) (.t 54), []⟩,
 ⟨(some 56), none, .fa 6 (.t 55), []⟩,
 ⟨(some 57), none, .load (some 3) (.t 56), []⟩,
 ⟨(some 58), none, .iaa 3 3 (.t 8) (.t 52), []⟩,
 ⟨none, none, .store 3 (.t 58) (.t 57), []⟩])))))
 (.reg [⟨(some 59), none, .bin .add (.t 35) (.k (.int .i64 1)), []⟩,
 ⟨(some 35), none, .mv (.t 59), []⟩])))))))
 (.seq (.seq (.reg [⟨(some 60), none, .call 125 [(.t 4)], []⟩,
 ⟨(some 61), none, .un .not (.t 60), []⟩])
 (.cond (.t 61)
 (.seq (.reg [⟨(some 62), none, .build [(.int .i64 0), (.int .i64 0), (.int .i64 0)] [], []⟩,
 ⟨none, none, .store 3 (.t 6) (.t 62), []⟩,
 ⟨(some 7), none, .mv (.k (.int .i64 1)), []⟩])
 .ret)
 .skip))
 (.seq (.reg [⟨(some 11), none, .alloc [(.int .i64 0), (.int .i64 0), (.int .i64 0)], []⟩])
 (.seq (.reg [⟨(some 12), none, .mv (.k (.int .i64 0)), []⟩])
 (.seq (.block 2
 (.seq (.reg [⟨(some 74), none, .fa 0 (.t 4), []⟩,
 ⟨(some 75), none, .load none (.t 74), []⟩,
 ⟨(some 76), none, .eq false (.sc [.int .i64] false) (.t 75) (.k (.int .i64 0)), []⟩,
 ⟨(some 73), none, .mv (.t 76), []⟩])
 (.cond (.t 73)
 (.reg [⟨(some 78), none, .mv (.t 2), []⟩,
 ⟨(some 79), none, .call 126 [(.t 4), (.t 78)], []⟩,
 ⟨(some 77), none, .mv (.t 79), []⟩,
 ⟨(some 80), none, .ext (.t 77) 0, []⟩,
 ⟨(some 81), none, .ext (.t 77) 1, []⟩,
 ⟨none, none, .store 3 (.t 11) (.t 80), []⟩,
 ⟨(some 12), none, .mv (.t 81), []⟩])
 (.seq (.reg [⟨(some 83), none, .fa 0 (.t 4), []⟩,
 ⟨(some 84), none, .load none (.t 83), []⟩,
 ⟨(some 85), none, .bin .leq (.t 84) (.k (.int .i64 3)), []⟩,
 ⟨(some 82), none, .mv (.t 85), []⟩])
 (.cond (.t 82)
 (.reg [⟨(some 87), none, .call 127 [(.t 4)], []⟩,
 ⟨(some 86), none, .mv (.t 87), []⟩,
 ⟨(some 88), none, .ext (.t 86) 0, []⟩,
 ⟨(some 89), none, .ext (.t 86) 1, []⟩,
 ⟨none, none, .store 3 (.t 11) (.t 88), []⟩,
 ⟨(some 12), none, .mv (.t 89), []⟩])
 (.seq (.reg [⟨(some 91), none, .fa 0 (.t 4), []⟩,
 ⟨(some 92), none, .load none (.t 91), []⟩,
 ⟨(some 93), none, .bin .leq (.t 92) (.k (.int .i64 23)), []⟩,
 ⟨(some 90), none, .mv (.t 93), []⟩])
 (.cond (.t 90)
 (.reg [⟨(some 95), none, .iaa 3 3 (.t 8) (.k (.int .i64 0)), []⟩,
 ⟨(some 96), none, .load (some 3) (.t 95), []⟩,
 ⟨(some 97), none, .iaa 3 3 (.t 8) (.k (.int .i64 1)), []⟩,
 ⟨(some 98), none, .load (some 3) (.t 97), []⟩,
 ⟨(some 99), none, .iaa 3 3 (.t 8) (.k (.int .i64 2)), []⟩,
 ⟨(some 100), none, .load (some 3) (.t 99), []⟩,
 ⟨(some 101), none, .call 128 [(.t 4), (.t 96), (.t 98), (.t 100)], []⟩,
 ⟨(some 94), none, .mv (.t 101), []⟩,
 ⟨(some 102), none, .ext (.t 94) 0, []⟩,
 ⟨(some 103), none, .ext (.t 94) 1, []⟩,
 ⟨none, none, .store 3 (.t 11) (.t 102), []⟩,
 ⟨(some 12), none, .mv (.t 103), []⟩])
 (.seq (.reg [⟨(some 105), none, .fa 0 (.t 4), []⟩,
 ⟨(some 106), none, .load none (.t 105), []⟩,
 ⟨(some 107), none, .bin .leq (.t 106) (.k (.int .i64 26)), []⟩,
 ⟨(some 104), none, .mv (.t 107), []⟩])
 (.cond (.t 104)
 (.reg [⟨(some 109), none, .iaa 3 3 (.t 8) (.k (.int .i64 0)), []⟩,
 ⟨(some 110), none, .load (some 3) (.t 109), []⟩,
 ⟨(some 111), none, .iaa 3 3 (.t 8) (.k (.int .i64 1)), []⟩,
 ⟨(some 112), none, .load (some 3) (.t 111), []⟩,
 ⟨(some 113), none, .iaa 3 3 (.t 8) (.k (.int .i64 2)), []⟩,
 ⟨(some 114), none, .load (some 3) (.t 113), []⟩,
 ⟨(some 115), none, .call 129 [(.t 4), (.t 110), (.t 112), (.t 114)], []⟩,
 ⟨(some 108), none, .mv (.t 115), []⟩,
 ⟨(some 116), none, .ext (.t 108) 0, []⟩,
 ⟨(some 117), none, .ext (.t 108) 1, []⟩,
 ⟨none, none, .store 3 (.t 11) (.t 116), []⟩,
 ⟨(some 12), none, .mv (.t 117), []⟩])
 (.reg [⟨(some 64), none, .iaa 3 3 (.t 8) (.k (.int .i64 0)), []⟩,
 ⟨(some 65), none, .load (some 3) (.t 64), []⟩,
 ⟨(some 66), none, .iaa 3 3 (.t 8) (.k (.int .i64 1)), []⟩,
 ⟨(some 67), none, .load (some 3) (.t 66), []⟩,
 ⟨(some 68), none, .iaa 3 3 (.t 8) (.k (.int .i64 2)), []⟩,
 ⟨(some 69), none, .load (some 3) (.t 68), []⟩,
 ⟨(some 70), none, .call 130 [(.t 4), (.t 65), (.t 67), (.t 69)], []⟩,
 ⟨(some 63), none, .mv (.t 70), []⟩,
 ⟨(some 71), none, .ext (.t 63) 0, []⟩,
 ⟨(some 72), none, .ext (.t 63) 1, []⟩,
 ⟨none, none, .store 3 (.t 11) (.t 71), []⟩,
 ⟨(some 12), none, .mv (.t 72), []⟩]))))))))))
 (.seq (.seq (.reg [⟨(some 118), none, .mv (.t 12), []⟩,
 ⟨(some 119), none, .eq true (.sc [.int .i64] false) (.t 118) (.k (.int .i64 0)), []⟩])
 (.cond (.t 119)
 (.seq (.reg [⟨(some 120), none, .build [(.int .i64 0), (.int .i64 0), (.int .i64 0)] [], []⟩,
 ⟨(some 121), none, .mv (.t 12), []⟩,
 ⟨none, none, .store 3 (.t 6) (.t 120), []⟩,
 ⟨(some 7), none, .mv (.t 121), []⟩])
 .ret)
 .skip))
 (.seq (.reg [⟨(some 122), none, .load (some 3) (.t 11), []⟩,
 ⟨none, none, .store 3 (.t 6) (.t 122), []⟩,
 ⟨(some 7), none, .mv (.k (.int .i64 0)), []⟩])
 .ret))))))))))⟩

/-- enthymeme/eval.addLeaves -/
def c74 : Am.Fn := ⟨7, [],
 (.seq (.reg [⟨(some 2), none, .mv (.t 0), []⟩,
 ⟨(some 3), none, .call 131 [(.k (.fn 132 []))], []⟩,
 ⟨none, none, .mupd [.int .i64] false (.t 2) (.k (.int .i64 1)) (.t 3), []⟩])
 (.seq (.reg [⟨(some 4), none, .mv (.t 0), []⟩,
 ⟨(some 5), none, .call 133 [(.k (.fn 134 []))], []⟩,
 ⟨none, none, .mupd [.int .i64] false (.t 4) (.k (.int .i64 2)) (.t 5), []⟩])
 (.reg [⟨(some 6), none, .mv (.t 0), []⟩,
 ⟨none, none, .mupd [.int .i64] false (.t 6) (.k (.int .i64 3)) (.k (.fn 135 [])), []⟩])))⟩

/-- enthymeme/eval.addBits -/
def c75 : Am.Fn := ⟨39, [],
 (.seq (.seq (.reg [⟨(some 2), none, .alloc [(.int .i64 0)], []⟩,
 ⟨none, none, .store 1 (.t 2) (.k (.int .i64 4)), []⟩])
 (.block 0
 (.loop
 (.seq (.seq (.reg [⟨(some 5), none, .load none (.t 2), []⟩,
 ⟨(some 6), none, .bin .leq (.t 5) (.k (.int .i64 5)), []⟩])
 (.cond (.t 6)
 .skip
 (.exit 0)))
 (.seq (.block 1
 (.reg [⟨(some 9), none, .mv (.t 0), []⟩,
 ⟨(some 10), none, .load none (.t 2), []⟩,
 ⟨(some 11), none, .mkfn 136 [(.t 2)], []⟩,
 ⟨(some 12), none, .call 131 [(.t 11)], []⟩,
 ⟨none, none, .mupd [.int .i64] false (.t 9) (.t 10) (.t 12), []⟩]))
 (.seq (.seq (.reg [⟨(some 13), none, .load none (.t 2), []⟩])
 (.reg [⟨(some 2), none, .alloc [(.int .i64 0)], []⟩,
 ⟨none, none, .store 1 (.t 2) (.t 13), []⟩]))
 (.reg [⟨(some 7), none, .load none (.t 2), []⟩,
 ⟨(some 8), none, .bin .add (.t 7) (.k (.int .i64 1)), []⟩,
 ⟨none, none, .store 1 (.t 2) (.t 8), []⟩])))))))
 (.seq (.seq (.reg [⟨(some 3), none, .alloc [(.int .i64 0)], []⟩,
 ⟨none, none, .store 1 (.t 3) (.k (.int .i64 6)), []⟩])
 (.block 2
 (.loop
 (.seq (.seq (.reg [⟨(some 14), none, .load none (.t 3), []⟩,
 ⟨(some 15), none, .bin .leq (.t 14) (.k (.int .i64 17)), []⟩])
 (.cond (.t 15)
 .skip
 (.exit 2)))
 (.seq (.block 3
 (.reg [⟨(some 18), none, .mv (.t 0), []⟩,
 ⟨(some 19), none, .load none (.t 3), []⟩,
 ⟨(some 20), none, .mkfn 138 [(.t 3)], []⟩,
 ⟨(some 21), none, .call 131 [(.t 20)], []⟩,
 ⟨none, none, .mupd [.int .i64] false (.t 18) (.t 19) (.t 21), []⟩]))
 (.seq (.seq (.reg [⟨(some 22), none, .load none (.t 3), []⟩])
 (.reg [⟨(some 3), none, .alloc [(.int .i64 0)], []⟩,
 ⟨none, none, .store 1 (.t 3) (.t 22), []⟩]))
 (.reg [⟨(some 16), none, .load none (.t 3), []⟩,
 ⟨(some 17), none, .bin .add (.t 16) (.k (.int .i64 1)), []⟩,
 ⟨none, none, .store 1 (.t 3) (.t 17), []⟩])))))))
 (.seq (.reg [⟨(some 23), none, .mv (.t 0), []⟩,
 ⟨(some 24), none, .call 131 [(.k (.fn 140 []))], []⟩,
 ⟨none, none, .mupd [.int .i64] false (.t 23) (.k (.int .i64 18)) (.t 24), []⟩])
 (.seq (.reg [⟨(some 25), none, .mv (.t 0), []⟩,
 ⟨none, none, .mupd [.int .i64] false (.t 25) (.k (.int .i64 19)) (.k (.fn 142 [])), []⟩])
 (.seq (.reg [⟨(some 26), none, .mv (.t 0), []⟩,
 ⟨(some 27), none, .call 131 [(.k (.fn 144 []))], []⟩,
 ⟨none, none, .mupd [.int .i64] false (.t 26) (.k (.int .i64 20)) (.t 27), []⟩])
 (.seq (.reg [⟨(some 28), none, .mv (.t 0), []⟩,
 ⟨(some 29), none, .call 131 [(.k (.fn 146 []))], []⟩,
 ⟨none, none, .mupd [.int .i64] false (.t 28) (.k (.int .i64 21)) (.t 29), []⟩])
 (.seq (.reg [⟨(some 4), none, .alloc [(.int .i64 0)], []⟩,
 ⟨none, none, .store 1 (.t 4) (.k (.int .i64 22)), []⟩])
 (.block 4
 (.loop
 (.seq (.seq (.reg [⟨(some 30), none, .load none (.t 4), []⟩,
 ⟨(some 31), none, .bin .leq (.t 30) (.k (.int .i64 23)), []⟩])
 (.cond (.t 31)
 .skip
 (.exit 4)))
 (.seq (.block 5
 (.reg [⟨(some 34), none, .mv (.t 0), []⟩,
 ⟨(some 35), none, .load none (.t 4), []⟩,
 ⟨(some 36), none, .mkfn 148 [(.t 4)], []⟩,
 ⟨(some 37), none, .call 131 [(.t 36)], []⟩,
 ⟨none, none, .mupd [.int .i64] false (.t 34) (.t 35) (.t 37), []⟩]))
 (.seq (.seq (.reg [⟨(some 38), none, .load none (.t 4), []⟩])
 (.reg [⟨(some 4), none, .alloc [(.int .i64 0)], []⟩,
 ⟨none, none, .store 1 (.t 4) (.t 38), []⟩]))
 (.reg [⟨(some 32), none, .load none (.t 4), []⟩,
 ⟨(some 33), none, .bin .add (.t 32) (.k (.int .i64 1)), []⟩,
 ⟨none, none, .store 1 (.t 4) (.t 33), []⟩])))))))))))))⟩

/-- enthymeme/eval.addArrays -/
def c76 : Am.Fn := ⟨6, [],
 (.seq (.reg [⟨(some 2), none, .mv (.t 0), []⟩,
 ⟨none, none, .mupd [.int .i64] false (.t 2) (.k (.int .i64 24)) (.k (.fn 150 [])), []⟩])
 (.seq (.reg [⟨(some 3), none, .mv (.t 0), []⟩,
 ⟨none, none, .mupd [.int .i64] false (.t 3) (.k (.int .i64 25)) (.k (.fn 152 [])), []⟩])
 (.reg [⟨(some 4), none, .mv (.t 0), []⟩,
 ⟨(some 5), none, .call 131 [(.k (.fn 154 []))], []⟩,
 ⟨none, none, .mupd [.int .i64] false (.t 4) (.k (.int .i64 26)) (.t 5), []⟩])))⟩

/-- enthymeme/eval.addStrings -/
def c77 : Am.Fn := ⟨18, [],
 (.seq (.reg [⟨(some 2), none, .mv (.t 0), []⟩,
 ⟨(some 3), none, .call 131 [(.k (.fn 156 []))], []⟩,
 ⟨none, none, .mupd [.int .i64] false (.t 2) (.k (.int .i64 27)) (.t 3), []⟩])
 (.seq (.reg [⟨(some 4), none, .mv (.t 0), []⟩,
 ⟨(some 5), none, .call 131 [(.k (.fn 157 []))], []⟩,
 ⟨none, none, .mupd [.int .i64] false (.t 4) (.k (.int .i64 28)) (.t 5), []⟩])
 (.seq (.reg [⟨(some 6), none, .mv (.t 0), []⟩,
 ⟨(some 7), none, .call 133 [(.k (.fn 158 []))], []⟩,
 ⟨none, none, .mupd [.int .i64] false (.t 6) (.k (.int .i64 29)) (.t 7), []⟩])
 (.seq (.reg [⟨(some 8), none, .mv (.t 0), []⟩,
 ⟨(some 9), none, .call 133 [(.k (.fn 159 []))], []⟩,
 ⟨none, none, .mupd [.int .i64] false (.t 8) (.k (.int .i64 30)) (.t 9), []⟩])
 (.seq (.reg [⟨(some 10), none, .mv (.t 0), []⟩,
 ⟨(some 11), none, .call 131 [(.k (.fn 160 []))], []⟩,
 ⟨none, none, .mupd [.int .i64] false (.t 10) (.k (.int .i64 31)) (.t 11), []⟩])
 (.seq (.reg [⟨(some 12), none, .mv (.t 0), []⟩,
 ⟨(some 13), none, .call 133 [(.k (.fn 162 []))], []⟩,
 ⟨none, none, .mupd [.int .i64] false (.t 12) (.k (.int .i64 32)) (.t 13), []⟩])
 (.seq (.reg [⟨(some 14), none, .mv (.t 0), []⟩,
 ⟨(some 15), none, .call 131 [(.k (.fn 164 []))], []⟩,
 ⟨none, none, .mupd [.int .i64] false (.t 14) (.k (.int .i64 33)) (.t 15), []⟩])
 (.reg [⟨(some 16), none, .mv (.t 0), []⟩,
 ⟨(some 17), none, .call 133 [(.k (.fn 165 []))], []⟩,
 ⟨none, none, .mupd [.int .i64] false (.t 16) (.k (.int .i64 34)) (.t 17), []⟩]))))))))⟩

/-- cmp.isNaN[int] -/
def c120 : Am.Fn := ⟨6, [.tmp 2],
 (.seq (.reg [⟨(some 2), none, .mv (.k (.bool false)), []⟩])
 (.seq (.reg [⟨(some 3), none, .mv (.t 0), []⟩,
 ⟨(some 4), none, .mv (.t 0), []⟩,
 ⟨(some 5), none, .eq true (.sc [.int .i64] false) (.t 3) (.t 4), []⟩,
 ⟨(some 2), none, .mv (.t 5), []⟩])
 .ret))⟩

/-- cmp.isNaN[uint64] -/
def c121 : Am.Fn := ⟨6, [.tmp 2],
 (.seq (.reg [⟨(some 2), none, .mv (.k (.bool false)), []⟩])
 (.seq (.reg [⟨(some 3), none, .mv (.t 0), []⟩,
 ⟨(some 4), none, .mv (.t 0), []⟩,
 ⟨(some 5), none, .eq true (.sc [.int .u64] false) (.t 3) (.t 4), []⟩,
 ⟨(some 2), none, .mv (.t 5), []⟩])
 .ret))⟩

/-- cmp.isNaN[string] -/
def c122 : Am.Fn := ⟨6, [.tmp 2],
 (.seq (.reg [⟨(some 2), none, .mv (.k (.bool false)), []⟩])
 (.seq (.reg [⟨(some 3), none, .mv (.t 0), []⟩,
 ⟨(some 4), none, .mv (.t 0), []⟩,
 ⟨(some 5), none, .eq true (.sc [.str] false) (.t 3) (.t 4), []⟩,
 ⟨(some 2), none, .mv (.t 5), []⟩])
 .ret))⟩

/-- enthymeme/term.fieldsFit -/
def c125 : Am.Fn := ⟨61, [.tmp 2],
 (.seq (.reg [⟨(some 2), none, .mv (.k (.bool false)), []⟩])
 (.seq (.reg [⟨(some 3), none, .mv (.k (.bool false)), []⟩,
 ⟨(some 4), none, .mv (.k (.bool false)), []⟩,
 ⟨(some 5), none, .mv (.k (.bool false)), []⟩,
 ⟨(some 6), none, .mv (.k (.bool false)), []⟩])
 (.seq (.seq (.reg [⟨(some 7), none, .mv (.t 0), []⟩,
 ⟨(some 8), none, .nilck (.t 7), []⟩,
 ⟨(some 9), none, .fa 0 (.t 8), []⟩,
 ⟨(some 10), none, .load none (.t 9), []⟩])
 (.block 0
 (.seq (.seq (.reg [⟨(some 12), none, .eq false (.sc [.int .i64] false) (.t 10) (.k (.int .i64 0)), []⟩,
 ⟨(some 11), none, .mv (.t 12), []⟩])
 (.cond (.t 11)
 .skip
 (.seq (.reg [⟨(some 13), none, .eq false (.sc [.int .i64] false) (.t 10) (.k (.int .i64 2)), []⟩,
 ⟨(some 11), none, .mv (.t 13), []⟩])
 (.cond (.t 11)
 .skip
 (.reg [⟨(some 14), none, .eq false (.sc [.int .i64] false) (.t 10) (.k (.int .i64 33)), []⟩,
 ⟨(some 11), none, .mv (.t 14), []⟩])))))
 (.cond (.t 11)
 (.reg [⟨(some 6), none, .mv (.k (.bool true)), []⟩])
 (.seq (.reg [⟨(some 16), none, .eq false (.sc [.int .i64] false) (.t 10) (.k (.int .i64 1)), []⟩,
 ⟨(some 15), none, .mv (.t 16), []⟩])
 (.cond (.t 15)
 (.reg [⟨(some 5), none, .mv (.k (.bool true)), []⟩])
 (.seq (.reg [⟨(some 18), none, .eq false (.sc [.int .i64] false) (.t 10) (.k (.int .i64 21)), []⟩,
 ⟨(some 17), none, .mv (.t 18), []⟩])
 (.cond (.t 17)
 (.reg [⟨(some 3), none, .mv (.k (.bool true)), []⟩,
 ⟨(some 4), none, .mv (.k (.bool true)), []⟩])
 (.seq (.seq (.reg [⟨(some 20), none, .eq false (.sc [.int .i64] false) (.t 10) (.k (.int .i64 22)), []⟩,
 ⟨(some 19), none, .mv (.t 20), []⟩])
 (.cond (.t 19)
 .skip
 (.seq (.reg [⟨(some 21), none, .eq false (.sc [.int .i64] false) (.t 10) (.k (.int .i64 23)), []⟩,
 ⟨(some 19), none, .mv (.t 21), []⟩])
 (.cond (.t 19)
 .skip
 (.reg [⟨(some 22), none, .eq false (.sc [.int .i64] false) (.t 10) (.k (.int .i64 28)), []⟩,
 ⟨(some 19), none, .mv (.t 22), []⟩])))))
 (.cond (.t 19)
 (.reg [⟨(some 3), none, .mv (.k (.bool true)), []⟩])
 .skip))))))))))
 (.seq (.reg [⟨(some 23), none, .mv (.t 3), []⟩,
 ⟨(some 24), none, .mv (.t 23), []⟩,
 ⟨(some 25), (some (24, false)), .mv (.t 0), []⟩,
 ⟨(some 26), (some (24, false)), .nilck (.t 25), []⟩,
 ⟨(some 27), (some (24, false)), .fa 2 (.t 26), []⟩,
 ⟨(some 28), (some (24, false)), .load none (.t 27), []⟩,
 ⟨(some 29), (some (24, false)), .eq false (.sc [.int .i64] false) (.t 28) (.k (.int .i64 0)), []⟩,
 ⟨(some 30), none, .pick (.t 24) (.k (.bool true)) (.t 29), []⟩,
 ⟨(some 31), none, .mv (.t 30), []⟩,
 ⟨(some 32), (some (31, true)), .mv (.t 4), []⟩,
 ⟨(some 33), (some (31, true)), .mv (.t 32), []⟩,
 ⟨(some 34), (some (33, false)), .mv (.t 0), []⟩,
 ⟨(some 35), (some (33, false)), .nilck (.t 34), []⟩,
 ⟨(some 36), (some (33, false)), .fa 3 (.t 35), []⟩,
 ⟨(some 37), (some (33, false)), .load none (.t 36), []⟩,
 ⟨(some 38), (some (33, false)), .eq false (.sc [.int .i64] false) (.t 37) (.k (.int .i64 0)), []⟩,
 ⟨(some 39), (some (31, true)), .pick (.t 33) (.k (.bool true)) (.t 38), []⟩,
 ⟨(some 40), none, .pick (.t 31) (.t 39) (.k (.bool false)), []⟩,
 ⟨(some 41), none, .mv (.t 40), []⟩,
 ⟨(some 42), (some (41, true)), .mv (.t 5), []⟩,
 ⟨(some 43), (some (41, true)), .mv (.t 42), []⟩,
 ⟨(some 44), (some (43, false)), .mv (.t 0), []⟩,
 ⟨(some 45), (some (43, false)), .nilck (.t 44), []⟩,
 ⟨(some 46), (some (43, false)), .fa 4 (.t 45), []⟩,
 ⟨(some 47), (some (43, false)), .load none (.t 46), []⟩,
 ⟨(some 48), (some (43, false)), .eq false (.sc [.int .u64] false) (.t 47) (.k (.int .u64 0)), []⟩,
 ⟨(some 49), (some (41, true)), .pick (.t 43) (.k (.bool true)) (.t 48), []⟩,
 ⟨(some 50), none, .pick (.t 41) (.t 49) (.k (.bool false)), []⟩,
 ⟨(some 51), none, .mv (.t 50), []⟩,
 ⟨(some 52), (some (51, true)), .mv (.t 6), []⟩,
 ⟨(some 53), (some (51, true)), .mv (.t 52), []⟩,
 ⟨(some 54), (some (53, false)), .mv (.t 0), []⟩,
 ⟨(some 55), (some (53, false)), .nilck (.t 54), []⟩,
 ⟨(some 56), (some (53, false)), .fa 5 (.t 55), []⟩,
 ⟨(some 57), (some (53, false)), .load none (.t 56), []⟩,
 ⟨(some 58), (some (53, false)), .eq false (.sc [.str] false) (.t 57) (.k (.str [])), []⟩,
 ⟨(some 59), (some (51, true)), .pick (.t 53) (.k (.bool true)) (.t 58), []⟩,
 ⟨(some 60), none, .pick (.t 51) (.t 59) (.k (.bool false)), []⟩,
 ⟨(some 2), none, .mv (.t 60), []⟩])
 .ret))))⟩

/-- enthymeme/term.sortOfBits -/
def c128 : Am.Fn := ⟨182, [.cell 8 (some 3), .tmp 9],
 (.seq (.reg [⟨(some 5), none, .box (.t 1), []⟩,
 ⟨(some 6), none, .box (.t 2), []⟩,
 ⟨(some 7), none, .box (.t 3), []⟩,
 ⟨(some 8), none, .alloc [(.int .i64 0), (.int .i64 0), (.int .i64 0)], []⟩,
 ⟨(some 9), none, .mv (.k (.int .i64 0)), []⟩])
 (.seq (.seq (.reg [⟨(some 11), none, .mv (.t 0), []⟩,
 ⟨(some 12), none, .nilck (.t 11), []⟩,
 ⟨(some 13), none, .fa 0 (.t 12), []⟩,
 ⟨(some 14), none, .load none (.t 13), []⟩])
 (.block 0
 (.seq (.seq (.reg [⟨(some 16), none, .eq false (.sc [.int .i64] false) (.t 14) (.k (.int .i64 4)), []⟩,
 ⟨(some 15), none, .mv (.t 16), []⟩])
 (.cond (.t 15)
 .skip
 (.reg [⟨(some 17), none, .eq false (.sc [.int .i64] false) (.t 14) (.k (.int .i64 5)), []⟩,
 ⟨(some 15), none, .mv (.t 17), []⟩])))
 (.cond (.t 15)
 (.seq (.reg [⟨(some 18), none, .load (some 3) (.t 5), []⟩,
 ⟨(some 19), none, .load (some 3) (.t 5), []⟩,
 ⟨(some 20), none, .call 193 [(.t 19)], []⟩,
 ⟨(some 21), none, .call 192 [(.t 18), (.t 20), (.k (.bool true))], []⟩,
 ⟨(some 22), none, .ext (.t 21) 0, []⟩,
 ⟨(some 23), none, .ext (.t 21) 1, []⟩,
 ⟨none, none, .store 3 (.t 8) (.t 22), []⟩,
 ⟨(some 9), none, .mv (.t 23), []⟩])
 .ret)
 (.seq (.seq (.reg [⟨(some 25), none, .eq false (.sc [.int .i64] false) (.t 14) (.k (.int .i64 16)), []⟩,
 ⟨(some 24), none, .mv (.t 25), []⟩])
 (.cond (.t 24)
 .skip
 (.reg [⟨(some 26), none, .eq false (.sc [.int .i64] false) (.t 14) (.k (.int .i64 17)), []⟩,
 ⟨(some 24), none, .mv (.t 26), []⟩])))
 (.cond (.t 24)
 (.seq (.reg [⟨(some 27), none, .call 194 [(.k (.int .i64 1))], []⟩,
 ⟨(some 28), none, .load (some 3) (.t 5), []⟩,
 ⟨(some 29), none, .call 193 [(.t 28)], []⟩,
 ⟨(some 30), none, .mv (.t 29), []⟩,
 ⟨(some 31), (some (30, true)), .load (some 3) (.t 5), []⟩,
 ⟨(some 32), (some (30, true)), .load (some 3) (.t 6), []⟩,
 ⟨(some 33), (some (30, true)), .eq false (.sc [.int .i64, .int .i64, .int .i64] true) (.t 31) (.t 32), []⟩,
 ⟨(some 34), none, .pick (.t 30) (.t 33) (.k (.bool false)), []⟩,
 ⟨(some 35), none, .call 192 [(.t 27), (.t 34), (.k (.bool true))], []⟩,
 ⟨(some 36), none, .ext (.t 35) 0, []⟩,
 ⟨(some 37), none, .ext (.t 35) 1, []⟩,
 ⟨none, none, .store 3 (.t 8) (.t 36), []⟩,
 ⟨(some 9), none, .mv (.t 37), []⟩])
 .ret)
 (.seq (.reg [⟨(some 39), none, .eq false (.sc [.int .i64] false) (.t 14) (.k (.int .i64 18)), []⟩,
 ⟨(some 38), none, .mv (.t 39), []⟩])
 (.cond (.t 38)
 (.seq (.reg [⟨(some 40), none, .call 194 [(.k (.int .i64 1))], []⟩,
 ⟨(some 41), none, .load (some 3) (.t 5), []⟩,
 ⟨(some 42), none, .load (some 3) (.t 6), []⟩,
 ⟨(some 43), none, .call 195 [(.t 41), (.t 42)], []⟩,
 ⟨(some 44), none, .call 192 [(.t 40), (.t 43), (.k (.bool true))], []⟩,
 ⟨(some 45), none, .ext (.t 44) 0, []⟩,
 ⟨(some 46), none, .ext (.t 44) 1, []⟩,
 ⟨none, none, .store 3 (.t 8) (.t 45), []⟩,
 ⟨(some 9), none, .mv (.t 46), []⟩])
 .ret)
 (.seq (.reg [⟨(some 48), none, .eq false (.sc [.int .i64] false) (.t 14) (.k (.int .i64 19)), []⟩,
 ⟨(some 47), none, .mv (.t 48), []⟩])
 (.cond (.t 47)
 (.seq (.reg [⟨(some 49), none, .load (some 3) (.t 6), []⟩,
 ⟨(some 10), none, .alloc [(.int .i64 0), (.int .i64 0), (.int .i64 0)], []⟩,
 ⟨none, none, .store 3 (.t 10) (.t 49), []⟩])
 (.seq (.seq (.reg [⟨(some 50), none, .load (some 3) (.t 6), []⟩,
 ⟨(some 51), none, .call 196 [(.t 50)], []⟩,
 ⟨(some 52), none, .mv (.t 51), []⟩,
 ⟨(some 53), (some (52, true)), .load (some 3) (.t 7), []⟩,
 ⟨(some 54), (some (52, true)), .call 196 [(.t 53)], []⟩,
 ⟨(some 55), none, .pick (.t 52) (.t 54) (.k (.bool false)), []⟩])
 (.cond (.t 55)
 (.reg [⟨(some 56), none, .fa 1 (.t 6), []⟩,
 ⟨(some 57), none, .load none (.t 56), []⟩,
 ⟨(some 58), none, .fa 1 (.t 7), []⟩,
 ⟨(some 59), none, .load none (.t 58), []⟩,
 ⟨(some 60), none, .minmax true [(.t 57), (.t 59)], []⟩,
 ⟨(some 61), none, .call 190 [(.t 60)], []⟩,
 ⟨none, none, .store 3 (.t 10) (.t 61), []⟩])
 .skip))
 (.seq (.reg [⟨(some 62), none, .load (some 3) (.t 10), []⟩,
 ⟨(some 63), none, .load (some 3) (.t 5), []⟩,
 ⟨(some 64), none, .call 194 [(.k (.int .i64 1))], []⟩,
 ⟨(some 65), none, .eq false (.sc [.int .i64, .int .i64, .int .i64] true) (.t 63) (.t 64), []⟩,
 ⟨(some 66), none, .mv (.t 65), []⟩,
 ⟨(some 67), (some (66, true)), .load (some 3) (.t 6), []⟩,
 ⟨(some 68), (some (66, true)), .load (some 3) (.t 7), []⟩,
 ⟨(some 69), (some (66, true)), .call 195 [(.t 67), (.t 68)], []⟩,
 ⟨(some 70), none, .pick (.t 66) (.t 69) (.k (.bool false)), []⟩,
 ⟨(some 71), none, .call 192 [(.t 62), (.t 70), (.k (.bool true))], []⟩,
 ⟨(some 72), none, .ext (.t 71) 0, []⟩,
 ⟨(some 73), none, .ext (.t 71) 1, []⟩,
 ⟨none, none, .store 3 (.t 8) (.t 72), []⟩,
 ⟨(some 9), none, .mv (.t 73), []⟩])
 .ret)))
 (.seq (.reg [⟨(some 75), none, .eq false (.sc [.int .i64] false) (.t 14) (.k (.int .i64 20)), []⟩,
 ⟨(some 74), none, .mv (.t 75), []⟩])
 (.cond (.t 74)
 (.seq (.reg [⟨(some 76), none, .fa 1 (.t 5), []⟩,
 ⟨(some 77), none, .load none (.t 76), []⟩,
 ⟨(some 78), none, .fa 1 (.t 6), []⟩,
 ⟨(some 79), none, .load none (.t 78), []⟩,
 ⟨(some 80), none, .bin .add (.t 77) (.t 79), []⟩,
 ⟨(some 81), none, .call 194 [(.t 80)], []⟩,
 ⟨(some 82), none, .load (some 3) (.t 5), []⟩,
 ⟨(some 83), none, .call 193 [(.t 82)], []⟩,
 ⟨(some 84), none, .mv (.t 83), []⟩,
 ⟨(some 85), (some (84, true)), .load (some 3) (.t 6), []⟩,
 ⟨(some 86), (some (84, true)), .call 193 [(.t 85)], []⟩,
 ⟨(some 87), none, .pick (.t 84) (.t 86) (.k (.bool false)), []⟩,
 ⟨(some 88), none, .fa 1 (.t 5), []⟩,
 ⟨(some 89), none, .load none (.t 88), []⟩,
 ⟨(some 90), none, .fa 1 (.t 6), []⟩,
 ⟨(some 91), none, .load none (.t 90), []⟩,
 ⟨(some 92), none, .bin .add (.t 89) (.t 91), []⟩,
 ⟨(some 93), none, .bin .leq (.t 92) (.k (.int .i64 64)), []⟩,
 ⟨(some 94), none, .call 192 [(.t 81), (.t 87), (.t 93)], []⟩,
 ⟨(some 95), none, .ext (.t 94) 0, []⟩,
 ⟨(some 96), none, .ext (.t 94) 1, []⟩,
 ⟨none, none, .store 3 (.t 8) (.t 95), []⟩,
 ⟨(some 9), none, .mv (.t 96), []⟩])
 .ret)
 (.seq (.reg [⟨(some 98), none, .eq false (.sc [.int .i64] false) (.t 14) (.k (.int .i64 21)), []⟩,
 ⟨(some 97), none, .mv (.t 98), []⟩])
 (.cond (.t 97)
 (.seq (.reg [⟨(some 99), none, .mv (.t 0), []⟩,
 ⟨(some 100), none, .nilck (.t 99), []⟩,
 ⟨(some 101), none, .fa 2 (.t 100), []⟩,
 ⟨(some 102), none, .load none (.t 101), []⟩,
 ⟨(some 103), none, .mv (.t 0), []⟩,
 ⟨(some 104), none, .nilck (.t 103), []⟩,
 ⟨(some 105), none, .fa 3 (.t 104), []⟩,
 ⟨(some 106), none, .load none (.t 105), []⟩,
 ⟨(some 107), none, .bin .sub (.t 102) (.t 106), []⟩,
 ⟨(some 108), none, .bin .add (.t 107) (.k (.int .i64 1)), []⟩,
 ⟨(some 109), none, .call 194 [(.t 108)], []⟩,
 ⟨(some 110), none, .load (some 3) (.t 5), []⟩,
 ⟨(some 111), none, .call 193 [(.t 110)], []⟩,
 ⟨(some 112), none, .mv (.t 0), []⟩,
 ⟨(some 113), none, .nilck (.t 112), []⟩,
 ⟨(some 114), none, .fa 3 (.t 113), []⟩,
 ⟨(some 115), none, .load none (.t 114), []⟩,
 ⟨(some 116), none, .bin .leq (.k (.int .i64 0)) (.t 115), []⟩,
 ⟨(some 117), none, .mv (.t 116), []⟩,
 ⟨(some 118), (some (117, true)), .mv (.t 0), []⟩,
 ⟨(some 119), (some (117, true)), .nilck (.t 118), []⟩,
 ⟨(some 120), (some (117, true)), .fa 3 (.t 119), []⟩,
 ⟨(some 121), (some (117, true)), .load none (.t 120), []⟩,
 ⟨(some 122), (some (117, true)), .mv (.t 0), []⟩,
 ⟨(some 123), (some (117, true)), .nilck (.t 122), []⟩,
 ⟨(some 124), (some (117, true)), .fa 2 (.t 123), []⟩,
 ⟨(some 125), (some (117, true)), .load none (.t 124), []⟩,
 ⟨(some 126), (some (117, true)), .bin .leq (.t 121) (.t 125), []⟩,
 ⟨(some 127), none, .pick (.t 117) (.t 126) (.k (.bool false)), []⟩,
 ⟨(some 128), none, .mv (.t 127), []⟩,
 ⟨(some 129), (some (128, true)), .mv (.t 0), []⟩,
 ⟨(some 130), (some (128, true)), .nilck (.t 129), []⟩,
 ⟨(some 131), (some (128, true)), .fa 2 (.t 130), []⟩,
 ⟨(some 132), (some (128, true)), .load none (.t 131), []⟩,
 ⟨(some 133), (some (128, true)), .fa 1 (.t 5), []⟩,
 ⟨(some 134), (some (128, true)), .load none (.t 133), []⟩,
 ⟨(some 135), (some (128, true)), .bin .lss (.t 132) (.t 134), []⟩,
 ⟨(some 136), none, .pick (.t 128) (.t 135) (.k (.bool false)), []⟩,
 ⟨(some 137), none, .call 192 [(.t 109), (.t 111), (.t 136)], []⟩,
 ⟨(some 138), none, .ext (.t 137) 0, []⟩,
 ⟨(some 139), none, .ext (.t 137) 1, []⟩,
 ⟨none, none, .store 3 (.t 8) (.t 138), []⟩,
 ⟨(some 9), none, .mv (.t 139), []⟩])
 .ret)
 (.seq (.seq (.reg [⟨(some 141), none, .eq false (.sc [.int .i64] false) (.t 14) (.k (.int .i64 22)), []⟩,
 ⟨(some 140), none, .mv (.t 141), []⟩])
 (.cond (.t 140)
 .skip
 (.reg [⟨(some 142), none, .eq false (.sc [.int .i64] false) (.t 14) (.k (.int .i64 23)), []⟩,
 ⟨(some 140), none, .mv (.t 142), []⟩])))
 (.cond (.t 140)
 (.seq (.reg [⟨(some 143), none, .fa 1 (.t 5), []⟩,
 ⟨(some 144), none, .load none (.t 143), []⟩,
 ⟨(some 145), none, .mv (.t 0), []⟩,
 ⟨(some 146), none, .nilck (.t 145), []⟩,
 ⟨(some 147), none, .fa 2 (.t 146), []⟩,
 ⟨(some 148), none, .load none (.t 147), []⟩,
 ⟨(some 149), none, .bin .add (.t 144) (.t 148), []⟩,
 ⟨(some 150), none, .call 194 [(.t 149)], []⟩,
 ⟨(some 151), none, .load (some 3) (.t 5), []⟩,
 ⟨(some 152), none, .call 193 [(.t 151)], []⟩,
 ⟨(some 153), none, .mv (.t 0), []⟩,
 ⟨(some 154), none, .nilck (.t 153), []⟩,
 ⟨(some 155), none, .fa 2 (.t 154), []⟩,
 ⟨(some 156), none, .load none (.t 155), []⟩,
 ⟨(some 157), none, .bin .leq (.k (.int .i64 1)) (.t 156), []⟩,
 ⟨(some 158), none, .mv (.t 157), []⟩,
 ⟨(some 159), (some (158, true)), .mv (.t 0), []⟩,
 ⟨(some 160), (some (158, true)), .nilck (.t 159), []⟩,
 ⟨(some 161), (some (158, true)), .fa 2 (.t 160), []⟩,
 ⟨(some 162), (some (158, true)), .load none (.t 161), []⟩,
 ⟨(some 163), (some (158, true)), .fa 1 (.t 5), []⟩,
 ⟨(some 164), (some (158, true)), .load none (.t 163), []⟩,
 ⟨(some 165), (some (158, true)), .bin .sub (.k (.int .i64 64)) (.t 164), []⟩,
 ⟨(some 166), (some (158, true)), .bin .leq (.t 162) (.t 165), []⟩,
 ⟨(some 167), none, .pick (.t 158) (.t 166) (.k (.bool false)), []⟩,
 ⟨(some 168), none, .call 192 [(.t 150), (.t 152), (.t 167)], []⟩,
 ⟨(some 169), none, .ext (.t 168) 0, []⟩,
 ⟨(some 170), none, .ext (.t 168) 1, []⟩,
 ⟨none, none, .store 3 (.t 8) (.t 169), []⟩,
 ⟨(some 9), none, .mv (.t 170), []⟩])
 .ret)
 .skip))))))))))))))))
 (.seq (.reg [⟨(some 171), none, .load (some 3) (.t 5), []⟩,
 ⟨(some 172), none, .load (some 3) (.t 5), []⟩,
 ⟨(some 173), none, .call 193 [(.t 172)], []⟩,
 ⟨(some 174), none, .mv (.t 173), []⟩,
 ⟨(some 175), (some (174, true)), .load (some 3) (.t 5), []⟩,
 ⟨(some 176), (some (174, true)), .load (some 3) (.t 6), []⟩,
 ⟨(some 177), (some (174, true)), .eq false (.sc [.int .i64, .int .i64, .int .i64] true) (.t 175) (.t 176), []⟩,
 ⟨(some 178), none, .pick (.t 174) (.t 177) (.k (.bool false)), []⟩,
 ⟨(some 179), none, .call 192 [(.t 171), (.t 178), (.k (.bool true))], []⟩,
 ⟨(some 180), none, .ext (.t 179) 0, []⟩,
 ⟨(some 181), none, .ext (.t 179) 1, []⟩,
 ⟨none, none, .store 3 (.t 8) (.t 180), []⟩,
 ⟨(some 9), none, .mv (.t 181), []⟩])
 .ret)))⟩

/-- enthymeme/term.sortOfArrays -/
def c129 : Am.Fn := ⟨87, [.cell 8 (some 3), .tmp 9],
 (.seq (.reg [⟨(some 5), none, .box (.t 1), []⟩,
 ⟨(some 6), none, .box (.t 2), []⟩,
 ⟨(some 7), none, .box (.t 3), []⟩,
 ⟨(some 8), none, .alloc [(.int .i64 0), (.int .i64 0), (.int .i64 0)], []⟩,
 ⟨(some 9), none, .mv (.k (.int .i64 0)), []⟩])
 (.seq (.seq (.reg [⟨(some 12), none, .mv (.t 0), []⟩,
 ⟨(some 13), none, .nilck (.t 12), []⟩,
 ⟨(some 14), none, .fa 0 (.t 13), []⟩,
 ⟨(some 15), none, .load none (.t 14), []⟩,
 ⟨(some 16), none, .eq false (.sc [.int .i64] false) (.t 15) (.k (.int .i64 26)), []⟩])
 (.cond (.t 16)
 (.seq (.reg [⟨(some 17), none, .fa 2 (.t 5), []⟩,
 ⟨(some 18), none, .load none (.t 17), []⟩,
 ⟨(some 19), none, .call 194 [(.t 18)], []⟩,
 ⟨(some 20), none, .load (some 3) (.t 5), []⟩,
 ⟨(some 21), none, .call 191 [(.t 20)], []⟩,
 ⟨(some 22), none, .mv (.t 21), []⟩,
 ⟨(some 23), (some (22, true)), .load (some 3) (.t 5), []⟩,
 ⟨(some 24), (some (22, true)), .load (some 3) (.t 6), []⟩,
 ⟨(some 25), (some (22, true)), .eq false (.sc [.int .i64, .int .i64, .int .i64] true) (.t 23) (.t 24), []⟩,
 ⟨(some 26), none, .pick (.t 22) (.t 25) (.k (.bool false)), []⟩,
 ⟨(some 27), none, .call 192 [(.t 19), (.t 26), (.k (.bool true))], []⟩,
 ⟨(some 28), none, .ext (.t 27) 0, []⟩,
 ⟨(some 29), none, .ext (.t 27) 1, []⟩,
 ⟨none, none, .store 3 (.t 8) (.t 28), []⟩,
 ⟨(some 9), none, .mv (.t 29), []⟩])
 .ret)
 .skip))
 (.seq (.reg [⟨(some 30), none, .fa 1 (.t 5), []⟩,
 ⟨(some 31), none, .load none (.t 30), []⟩,
 ⟨(some 32), none, .call 194 [(.t 31)], []⟩,
 ⟨(some 10), none, .alloc [(.int .i64 0), (.int .i64 0), (.int .i64 0)], []⟩,
 ⟨none, none, .store 3 (.t 10) (.t 32), []⟩])
 (.seq (.seq (.reg [⟨(some 33), none, .fa 0 (.t 5), []⟩,
 ⟨(some 34), none, .load none (.t 33), []⟩,
 ⟨(some 35), none, .eq false (.sc [.int .i64] false) (.t 34) (.k (.int .i64 3)), []⟩])
 (.cond (.t 35)
 (.reg [⟨(some 36), none, .fa 1 (.t 5), []⟩,
 ⟨(some 37), none, .load none (.t 36), []⟩,
 ⟨(some 38), none, .call 190 [(.t 37)], []⟩,
 ⟨none, none, .store 3 (.t 10) (.t 38), []⟩])
 .skip))
 (.seq (.reg [⟨(some 39), none, .load (some 3) (.t 5), []⟩,
 ⟨(some 40), none, .call 191 [(.t 39)], []⟩,
 ⟨(some 41), none, .mv (.t 40), []⟩,
 ⟨(some 42), (some (41, true)), .load (some 3) (.t 6), []⟩,
 ⟨(some 43), (some (41, true)), .fa 2 (.t 5), []⟩,
 ⟨(some 44), (some (41, true)), .load none (.t 43), []⟩,
 ⟨(some 45), (some (41, true)), .call 194 [(.t 44)], []⟩,
 ⟨(some 46), (some (41, true)), .eq false (.sc [.int .i64, .int .i64, .int .i64] true) (.t 42) (.t 45), []⟩,
 ⟨(some 47), none, .pick (.t 41) (.t 46) (.k (.bool false)), []⟩,
 ⟨(some 11), none, .mv (.t 47), []⟩])
 (.seq (.seq (.reg [⟨(some 48), none, .mv (.t 0), []⟩,
 ⟨(some 49), none, .nilck (.t 48), []⟩,
 ⟨(some 50), none, .fa 0 (.t 49), []⟩,
 ⟨(some 51), none, .load none (.t 50), []⟩,
 ⟨(some 52), none, .eq false (.sc [.int .i64] false) (.t 51) (.k (.int .i64 24)), []⟩])
 (.cond (.t 52)
 (.seq (.reg [⟨(some 53), none, .load (some 3) (.t 10), []⟩,
 ⟨(some 54), none, .mv (.t 11), []⟩,
 ⟨(some 55), none, .call 192 [(.t 53), (.t 54), (.k (.bool true))], []⟩,
 ⟨(some 56), none, .ext (.t 55) 0, []⟩,
 ⟨(some 57), none, .ext (.t 55) 1, []⟩,
 ⟨none, none, .store 3 (.t 8) (.t 56), []⟩,
 ⟨(some 9), none, .mv (.t 57), []⟩])
 .ret)
 .skip))
 (.seq (.seq (.reg [⟨(some 58), none, .fa 0 (.t 5), []⟩,
 ⟨(some 59), none, .load none (.t 58), []⟩,
 ⟨(some 60), none, .eq false (.sc [.int .i64] false) (.t 59) (.k (.int .i64 3)), []⟩])
 (.cond (.t 60)
 (.seq (.reg [⟨(some 61), none, .load (some 3) (.t 5), []⟩,
 ⟨(some 62), none, .mv (.t 11), []⟩,
 ⟨(some 63), none, .mv (.t 62), []⟩,
 ⟨(some 64), (some (63, true)), .load (some 3) (.t 7), []⟩,
 ⟨(some 65), (some (63, true)), .call 196 [(.t 64)], []⟩,
 ⟨(some 66), none, .pick (.t 63) (.t 65) (.k (.bool false)), []⟩,
 ⟨(some 67), none, .mv (.t 66), []⟩,
 ⟨(some 68), (some (67, true)), .fa 1 (.t 7), []⟩,
 ⟨(some 69), (some (67, true)), .load none (.t 68), []⟩,
 ⟨(some 70), (some (67, true)), .fa 1 (.t 5), []⟩,
 ⟨(some 71), (some (67, true)), .load none (.t 70), []⟩,
 ⟨(some 72), (some (67, true)), .bin .leq (.t 69) (.t 71), []⟩,
 ⟨(some 73), none, .pick (.t 67) (.t 72) (.k (.bool false)), []⟩,
 ⟨(some 74), none, .call 192 [(.t 61), (.t 73), (.k (.bool true))], []⟩,
 ⟨(some 75), none, .ext (.t 74) 0, []⟩,
 ⟨(some 76), none, .ext (.t 74) 1, []⟩,
 ⟨none, none, .store 3 (.t 8) (.t 75), []⟩,
 ⟨(some 9), none, .mv (.t 76), []⟩])
 .ret)
 .skip))
 (.seq (.reg [⟨(some 77), none, .load (some 3) (.t 5), []⟩,
 ⟨(some 78), none, .mv (.t 11), []⟩,
 ⟨(some 79), none, .mv (.t 78), []⟩,
 ⟨(some 80), (some (79, true)), .load (some 3) (.t 7), []⟩,
 ⟨(some 81), (some (79, true)), .load (some 3) (.t 10), []⟩,
 ⟨(some 82), (some (79, true)), .eq false (.sc [.int .i64, .int .i64, .int .i64] true) (.t 80) (.t 81), []⟩,
 ⟨(some 83), none, .pick (.t 79) (.t 82) (.k (.bool false)), []⟩,
 ⟨(some 84), none, .call 192 [(.t 77), (.t 83), (.k (.bool true))], []⟩,
 ⟨(some 85), none, .ext (.t 84) 0, []⟩,
 ⟨(some 86), none, .ext (.t 84) 1, []⟩,
 ⟨none, none, .store 3 (.t 8) (.t 85), []⟩,
 ⟨(some 9), none, .mv (.t 86), []⟩])
 .ret))))))))⟩

/-- enthymeme/term.sortOfStrings -/
def c130 : Am.Fn := ⟨143, [.cell 8 (some 3), .tmp 9],
 (.seq (.reg [⟨(some 5), none, .box (.t 1), []⟩,
 ⟨(some 6), none, .box (.t 2), []⟩,
 ⟨(some 7), none, .box (.t 3), []⟩,
 ⟨(some 8), none, .alloc [(.int .i64 0), (.int .i64 0), (.int .i64 0)], []⟩,
 ⟨(some 9), none, .mv (.k (.int .i64 0)), []⟩])
 (.seq (.seq (.reg [⟨(some 10), none, .mv (.t 0), []⟩,
 ⟨(some 11), none, .nilck (.t 10), []⟩,
 ⟨(some 12), none, .fa 0 (.t 11), []⟩,
 ⟨(some 13), none, .load none (.t 12), []⟩])
 (.block 0
 (.seq (.reg [⟨(some 15), none, .eq false (.sc [.int .i64] false) (.t 13) (.k (.int .i64 27)), []⟩,
 ⟨(some 14), none, .mv (.t 15), []⟩])
 (.cond (.t 14)
 (.seq (.reg [⟨(some 16), none, .call 194 [(.k (.int .i64 7))], []⟩,
 ⟨(some 17), none, .load (some 3) (.t 5), []⟩,
 ⟨(some 18), none, .call 196 [(.t 17)], []⟩,
 ⟨(some 19), none, .call 192 [(.t 16), (.t 18), (.k (.bool true))], []⟩,
 ⟨(some 20), none, .ext (.t 19) 0, []⟩,
 ⟨(some 21), none, .ext (.t 19) 1, []⟩,
 ⟨none, none, .store 3 (.t 8) (.t 20), []⟩,
 ⟨(some 9), none, .mv (.t 21), []⟩])
 .ret)
 (.seq (.reg [⟨(some 23), none, .eq false (.sc [.int .i64] false) (.t 13) (.k (.int .i64 28)), []⟩,
 ⟨(some 22), none, .mv (.t 23), []⟩])
 (.cond (.t 22)
 (.seq (.reg [⟨(some 24), none, .call 194 [(.k (.int .i64 8))], []⟩,
 ⟨(some 25), none, .load (some 3) (.t 5), []⟩,
 ⟨(some 26), none, .call 196 [(.t 25)], []⟩,
 ⟨(some 27), none, .mv (.t 0), []⟩,
 ⟨(some 28), none, .nilck (.t 27), []⟩,
 ⟨(some 29), none, .fa 2 (.t 28), []⟩,
 ⟨(some 30), none, .load none (.t 29), []⟩,
 ⟨(some 31), none, .bin .leq (.k (.int .i64 0)) (.t 30), []⟩,
 ⟨(some 32), none, .mv (.t 31), []⟩,
 ⟨(some 33), (some (32, true)), .mv (.t 0), []⟩,
 ⟨(some 34), (some (32, true)), .nilck (.t 33), []⟩,
 ⟨(some 35), (some (32, true)), .fa 2 (.t 34), []⟩,
 ⟨(some 36), (some (32, true)), .load none (.t 35), []⟩,
 ⟨(some 37), (some (32, true)), .bin .lss (.t 36) (.k (.int .i64 64)), []⟩,
 ⟨(some 38), none, .pick (.t 32) (.t 37) (.k (.bool false)), []⟩,
 ⟨(some 39), none, .call 192 [(.t 24), (.t 26), (.t 38)], []⟩,
 ⟨(some 40), none, .ext (.t 39) 0, []⟩,
 ⟨(some 41), none, .ext (.t 39) 1, []⟩,
 ⟨none, none, .store 3 (.t 8) (.t 40), []⟩,
 ⟨(some 9), none, .mv (.t 41), []⟩])
 .ret)
 (.seq (.reg [⟨(some 43), none, .eq false (.sc [.int .i64] false) (.t 13) (.k (.int .i64 29)), []⟩,
 ⟨(some 42), none, .mv (.t 43), []⟩])
 (.cond (.t 42)
 (.seq (.reg [⟨(some 44), none, .fa 1 (.t 5), []⟩,
 ⟨(some 45), none, .load none (.t 44), []⟩,
 ⟨(some 46), none, .fa 1 (.t 6), []⟩,
 ⟨(some 47), none, .load none (.t 46), []⟩,
 ⟨(some 48), none, .bin .add (.t 45) (.t 47), []⟩,
 ⟨(some 49), none, .call 190 [(.t 48)], []⟩,
 ⟨(some 50), none, .load (some 3) (.t 5), []⟩,
 ⟨(some 51), none, .call 196 [(.t 50)], []⟩,
 ⟨(some 52), none, .mv (.t 51), []⟩,
 ⟨(some 53), (some (52, true)), .load (some 3) (.t 6), []⟩,
 ⟨(some 54), (some (52, true)), .call 196 [(.t 53)], []⟩,
 ⟨(some 55), none, .pick (.t 52) (.t 54) (.k (.bool false)), []⟩,
 ⟨(some 56), none, .fa 1 (.t 5), []⟩,
 ⟨(some 57), none, .load none (.t 56), []⟩,
 ⟨(some 58), none, .fa 1 (.t 6), []⟩,
 ⟨(some 59), none, .load none (.t 58), []⟩,
 ⟨(some 60), none, .bin .add (.t 57) (.t 59), []⟩,
 ⟨(some 61), none, .bin .leq (.t 60) (.k (.int .i64 64)), []⟩,
 ⟨(some 62), none, .call 192 [(.t 49), (.t 55), (.t 61)], []⟩,
 ⟨(some 63), none, .ext (.t 62) 0, []⟩,
 ⟨(some 64), none, .ext (.t 62) 1, []⟩,
 ⟨none, none, .store 3 (.t 8) (.t 63), []⟩,
 ⟨(some 9), none, .mv (.t 64), []⟩])
 .ret)
 (.seq (.reg [⟨(some 66), none, .eq false (.sc [.int .i64] false) (.t 13) (.k (.int .i64 30)), []⟩,
 ⟨(some 65), none, .mv (.t 66), []⟩])
 (.cond (.t 65)
 (.seq (.reg [⟨(some 67), none, .load (some 3) (.t 5), []⟩,
 ⟨(some 68), none, .load (some 3) (.t 5), []⟩,
 ⟨(some 69), none, .call 196 [(.t 68)], []⟩,
 ⟨(some 70), none, .mv (.t 69), []⟩,
 ⟨(some 71), (some (70, true)), .load (some 3) (.t 6), []⟩,
 ⟨(some 72), (some (70, true)), .call 194 [(.k (.int .i64 7))], []⟩,
 ⟨(some 73), (some (70, true)), .eq false (.sc [.int .i64, .int .i64, .int .i64] true) (.t 71) (.t 72), []⟩,
 ⟨(some 74), none, .pick (.t 70) (.t 73) (.k (.bool false)), []⟩,
 ⟨(some 75), none, .mv (.t 74), []⟩,
 ⟨(some 76), (some (75, true)), .load (some 3) (.t 7), []⟩,
 ⟨(some 77), (some (75, true)), .call 194 [(.k (.int .i64 7))], []⟩,
 ⟨(some 78), (some (75, true)), .eq false (.sc [.int .i64, .int .i64, .int .i64] true) (.t 76) (.t 77), []⟩,
 ⟨(some 79), none, .pick (.t 75) (.t 78) (.k (.bool false)), []⟩,
 ⟨(some 80), none, .call 192 [(.t 67), (.t 79), (.k (.bool true))], []⟩,
 ⟨(some 81), none, .ext (.t 80) 0, []⟩,
 ⟨(some 82), none, .ext (.t 80) 1, []⟩,
 ⟨none, none, .store 3 (.t 8) (.t 81), []⟩,
 ⟨(some 9), none, .mv (.t 82), []⟩])
 .ret)
 (.seq (.reg [⟨(some 84), none, .eq false (.sc [.int .i64] false) (.t 13) (.k (.int .i64 31)), []⟩,
 ⟨(some 83), none, .mv (.t 84), []⟩])
 (.cond (.t 83)
 (.seq (.reg [⟨(some 85), none, .call 194 [(.k (.int .i64 7))], []⟩,
 ⟨(some 86), none, .load (some 3) (.t 5), []⟩,
 ⟨(some 87), none, .call 196 [(.t 86)], []⟩,
 ⟨(some 88), none, .mv (.t 87), []⟩,
 ⟨(some 89), (some (88, true)), .load (some 3) (.t 6), []⟩,
 ⟨(some 90), (some (88, true)), .call 196 [(.t 89)], []⟩,
 ⟨(some 91), none, .pick (.t 88) (.t 90) (.k (.bool false)), []⟩,
 ⟨(some 92), none, .call 192 [(.t 85), (.t 91), (.k (.bool true))], []⟩,
 ⟨(some 93), none, .ext (.t 92) 0, []⟩,
 ⟨(some 94), none, .ext (.t 92) 1, []⟩,
 ⟨none, none, .store 3 (.t 8) (.t 93), []⟩,
 ⟨(some 9), none, .mv (.t 94), []⟩])
 .ret)
 (.seq (.reg [⟨(some 96), none, .eq false (.sc [.int .i64] false) (.t 13) (.k (.int .i64 32)), []⟩,
 ⟨(some 95), none, .mv (.t 96), []⟩])
 (.cond (.t 95)
 (.seq (.reg [⟨(some 97), none, .fa 1 (.t 5), []⟩,
 ⟨(some 98), none, .load none (.t 97), []⟩,
 ⟨(some 99), none, .fa 1 (.t 7), []⟩,
 ⟨(some 100), none, .load none (.t 99), []⟩,
 ⟨(some 101), none, .bin .add (.t 98) (.t 100), []⟩,
 ⟨(some 102), none, .call 190 [(.t 101)], []⟩,
 ⟨(some 103), none, .load (some 3) (.t 5), []⟩,
 ⟨(some 104), none, .call 196 [(.t 103)], []⟩,
 ⟨(some 105), none, .mv (.t 104), []⟩,
 ⟨(some 106), (some (105, true)), .load (some 3) (.t 6), []⟩,
 ⟨(some 107), (some (105, true)), .call 196 [(.t 106)], []⟩,
 ⟨(some 108), none, .pick (.t 105) (.t 107) (.k (.bool false)), []⟩,
 ⟨(some 109), none, .mv (.t 108), []⟩,
 ⟨(some 110), (some (109, true)), .load (some 3) (.t 7), []⟩,
 ⟨(some 111), (some (109, true)), .call 196 [(.t 110)], []⟩,
 ⟨(some 112), none, .pick (.t 109) (.t 111) (.k (.bool false)), []⟩,
 ⟨(some 113), none, .fa 1 (.t 5), []⟩,
 ⟨(some 114), none, .load none (.t 113), []⟩,
 ⟨(some 115), none, .fa 1 (.t 7), []⟩,
 ⟨(some 116), none, .load none (.t 115), []⟩,
 ⟨(some 117), none, .bin .add (.t 114) (.t 116), []⟩,
 ⟨(some 118), none, .bin .leq (.t 117) (.k (.int .i64 64)), []⟩,
 ⟨(some 119), none, .call 192 [(.t 102), (.t 112), (.t 118)], []⟩,
 ⟨(some 120), none, .ext (.t 119) 0, []⟩,
 ⟨(some 121), none, .ext (.t 119) 1, []⟩,
 ⟨none, none, .store 3 (.t 8) (.t 120), []⟩,
 ⟨(some 9), none, .mv (.t 121), []⟩])
 .ret)
 (.seq (.reg [⟨(some 123), none, .eq false (.sc [.int .i64] false) (.t 13) (.k (.int .i64 34)), []⟩,
 ⟨(some 122), none, .mv (.t 123), []⟩])
 (.cond (.t 122)
 (.seq (.reg [⟨(some 124), none, .call 190 [(.k (.int .i64 1))], []⟩,
 ⟨(some 125), none, .load (some 3) (.t 5), []⟩,
 ⟨(some 126), none, .call 194 [(.k (.int .i64 8))], []⟩,
 ⟨(some 127), none, .eq false (.sc [.int .i64, .int .i64, .int .i64] true) (.t 125) (.t 126), []⟩,
 ⟨(some 128), none, .call 192 [(.t 124), (.t 127), (.k (.bool true))], []⟩,
 ⟨(some 129), none, .ext (.t 128) 0, []⟩,
 ⟨(some 130), none, .ext (.t 128) 1, []⟩,
 ⟨none, none, .store 3 (.t 8) (.t 129), []⟩,
 ⟨(some 9), none, .mv (.t 130), []⟩])
 .ret)
 .skip))))))))))))))))
 (.seq (.seq (.reg [⟨(some 131), none, .load (some 3) (.t 5), []⟩,
 ⟨(some 132), none, .call 196 [(.t 131)], []⟩,
 ⟨(some 133), none, .un .not (.t 132), []⟩])
 (.cond (.t 133)
 (.seq (.reg [⟨(some 134), none, .load (some 3) (.t 5), []⟩,
 ⟨none, none, .store 3 (.t 8) (.t 134), []⟩,
 ⟨(some 9), none, .mv (.k (.int .i64 9)), []⟩])
 .ret)
 .skip))
 (.seq (.seq (.reg [⟨(some 135), none, .mv (.t 0), []⟩,
 ⟨(some 136), none, .nilck (.t 135), []⟩,
 ⟨(some 137), none, .fa 5 (.t 136), []⟩,
 ⟨(some 138), none, .load none (.t 137), []⟩,
 ⟨(some 139), none, .call 197 [(.t 138)], []⟩,
 ⟨(some 140), none, .un .not (.t 139), []⟩])
 (.cond (.t 140)
 (.seq (.reg [⟨(some 141), none, .load (some 3) (.t 5), []⟩,
 ⟨none, none, .store 3 (.t 8) (.t 141), []⟩,
 ⟨(some 9), none, .mv (.k (.int .i64 2)), []⟩])
 .ret)
 .skip))
 (.seq (.reg [⟨(some 142), none, .call 194 [(.k (.int .i64 1))], []⟩,
 ⟨none, none, .store 3 (.t 8) (.t 142), []⟩,
 ⟨(some 9), none, .mv (.k (.int .i64 0)), []⟩])
 .ret)))))⟩

/-- enthymeme/eval.number -/
def c131 : Am.Fn := ⟨4, [.tmp 2],
 (.seq (.reg [⟨(some 1), none, .box (.t 0), []⟩,
 ⟨(some 2), none, .mv (.k .nilf), []⟩])
 (.seq (.reg [⟨(some 3), none, .mkfn 198 [(.t 1)], []⟩,
 ⟨(some 2), none, .mv (.t 3), []⟩])
 .ret))⟩

/-- enthymeme/eval.text -/
def c133 : Am.Fn := ⟨4, [.tmp 2],
 (.seq (.reg [⟨(some 1), none, .box (.t 0), []⟩,
 ⟨(some 2), none, .mv (.k .nilf), []⟩])
 (.seq (.reg [⟨(some 3), none, .mkfn 199 [(.t 1)], []⟩,
 ⟨(some 2), none, .mv (.t 3), []⟩])
 .ret))⟩

/-- enthymeme/eval.addBits$2 -/
def c138 : Am.Fn := ⟨27, [.tmp 5],
 (.seq (.reg [⟨(some 5), none, .mv (.k (.int .u64 0)), []⟩])
 (.seq (.reg [⟨(some 9), none, .load none (.t 2), []⟩,
 ⟨(some 10), none, .mv (.t 1), []⟩,
 ⟨(some 11), none, .ia 6 (.t 10) (.k (.int .i64 0)), []⟩,
 ⟨(some 12), none, .fa 3 (.t 11), []⟩,
 ⟨(some 13), none, .load none (.t 12), []⟩,
 ⟨(some 14), none, .mv (.t 1), []⟩,
 ⟨(some 15), none, .ia 6 (.t 14) (.k (.int .i64 1)), []⟩,
 ⟨(some 16), none, .fa 3 (.t 15), []⟩,
 ⟨(some 17), none, .load none (.t 16), []⟩,
 ⟨(some 18), none, .mv (.t 1), []⟩,
 ⟨(some 19), none, .ia 6 (.t 18) (.k (.int .i64 0)), []⟩,
 ⟨(some 20), none, .fa 0 (.t 19), []⟩,
 ⟨(some 21), none, .fa 1 (.t 20), []⟩,
 ⟨(some 22), none, .load none (.t 21), []⟩,
 ⟨(some 23), none, .call 139 [(.t 9), (.t 13), (.t 17), (.t 22)], []⟩,
 ⟨(some 8), none, .mv (.t 23), []⟩,
 ⟨(some 24), none, .ext (.t 8) 0, []⟩,
 ⟨(some 25), none, .ext (.t 8) 1, []⟩,
 ⟨(some 6), none, .mv (.t 24), []⟩,
 ⟨(some 7), none, .mv (.t 25), []⟩])
 (.seq (.reg [⟨(some 26), none, .mv (.t 6), []⟩,
 ⟨(some 5), none, .mv (.t 26), []⟩])
 .ret)))⟩

/-- enthymeme/bits.Binary -/
def c139 : Am.Fn := ⟨41, [.tmp 8, .tmp 9],
 (.seq (.reg [⟨(some 8), none, .mv (.k (.int .u64 0)), []⟩,
 ⟨(some 9), none, .mv (.k (.int .i64 0)), []⟩])
 (.seq (.seq (.reg [⟨(some 12), none, .mv (.t 0), []⟩,
 ⟨(some 13), none, .bin .lss (.t 12) (.k (.int .i64 6)), []⟩,
 ⟨(some 14), none, .mv (.t 13), []⟩,
 ⟨(some 15), (some (14, false)), .mv (.t 0), []⟩,
 ⟨(some 16), (some (14, false)), .bin .gtr (.t 15) (.k (.int .i64 18)), []⟩,
 ⟨(some 17), none, .pick (.t 14) (.k (.bool true)) (.t 16), []⟩])
 (.cond (.t 17)
 (.seq (.reg [⟨(some 8), none, .mv (.k (.int .u64 0)), []⟩,
 ⟨(some 9), none, .mv (.k (.int .i64 1)), []⟩])
 .ret)
 .skip))
 (.seq (.seq (.reg [⟨(some 18), none, .mv (.t 1), []⟩,
 ⟨(some 19), none, .mv (.t 3), []⟩,
 ⟨(some 20), none, .call 200 [(.t 18), (.t 19)], []⟩,
 ⟨(some 10), none, .mv (.t 20), []⟩])
 (.seq (.reg [⟨(some 21), none, .mv (.t 10), []⟩,
 ⟨(some 22), none, .eq true (.sc [.int .i64] false) (.t 21) (.k (.int .i64 0)), []⟩])
 (.cond (.t 22)
 (.seq (.reg [⟨(some 23), none, .mv (.t 10), []⟩,
 ⟨(some 8), none, .mv (.k (.int .u64 0)), []⟩,
 ⟨(some 9), none, .mv (.t 23), []⟩])
 .ret)
 .skip)))
 (.seq (.seq (.reg [⟨(some 24), none, .mv (.t 2), []⟩,
 ⟨(some 25), none, .mv (.t 3), []⟩,
 ⟨(some 26), none, .call 200 [(.t 24), (.t 25)], []⟩,
 ⟨(some 11), none, .mv (.t 26), []⟩])
 (.seq (.reg [⟨(some 27), none, .mv (.t 11), []⟩,
 ⟨(some 28), none, .eq true (.sc [.int .i64] false) (.t 27) (.k (.int .i64 0)), []⟩])
 (.cond (.t 28)
 (.seq (.reg [⟨(some 29), none, .mv (.t 11), []⟩,
 ⟨(some 8), none, .mv (.k (.int .u64 0)), []⟩,
 ⟨(some 9), none, .mv (.t 29), []⟩])
 .ret)
 .skip)))
 (.seq (.reg [⟨(some 30), none, .mv (.t 3), []⟩,
 ⟨(some 31), none, .call 202 [(.t 30)], []⟩,
 ⟨(some 32), none, .mv (.t 0), []⟩,
 ⟨(some 33), none, .bin .sub (.t 32) (.k (.int .i64 6)), []⟩,
 ⟨(some 34), none, .ixa 13 1 none (.t 31) (.t 33), []⟩,
 ⟨(some 35), none, .mv (.t 1), []⟩,
 ⟨(some 36), none, .mv (.t 2), []⟩,
 ⟨(some 37), none, .dyn false (.t 34) [(.t 35), (.t 36)], []⟩,
 ⟨(some 38), none, .mv (.t 3), []⟩,
 ⟨(some 39), none, .call 201 [(.t 38)], []⟩,
 ⟨(some 40), none, .bin .and (.t 37) (.t 39), []⟩,
 ⟨(some 8), none, .mv (.t 40), []⟩,
 ⟨(some 9), none, .mv (.k (.int .i64 0)), []⟩])
 .ret)))))⟩

/-- enthymeme/eval.addBits$3 -/
def c140 : Am.Fn := ⟨21, [.tmp 4],
 (.seq (.reg [⟨(some 4), none, .mv (.k (.int .u64 0)), []⟩])
 (.seq (.regL [⟨(some 7), none, .mv (.t 1), []⟩,
 ⟨(some 8), none, .ia 6 (.t 7) (.k (.int .i64 0)), []⟩,
 ⟨(some 9), none, .load (some 6) (.t 8), []⟩,
 ⟨(some 10), none, .mv (.t 1), []⟩,
 ⟨(some 11), none, .ia 6 (.t 10) (.k (.int .i64 1)), []⟩,
 ⟨(some 12), none, .load (some 6) (.t 11), []⟩,
 ⟨(some 5), none, .alloc [(.int .i64 0), (.int .i64 0), (.int .i64 0), (.int .u64 0), (.str []), .nils], []⟩,
 ⟨(some 6), none, .alloc [(.int .i64 0), (.int .i64 0), (.int .i64 0), (.int .u64 0), (.str []), .nils], []⟩,
 ⟨none, none, .store 6 (.t 5) (.t 9), [5]⟩,
 ⟨none, none, .store 6 (.t 6) (.t 12), []⟩])
 (.seq (.reg [⟨(some 13), none, .fa 0 (.t 5), []⟩,
 ⟨(some 14), none, .load (some 3) (.t 13), []⟩,
 ⟨(some 15), none, .fa 0 (.t 6), []⟩,
 ⟨none, none, .store 3 (.t 15) (.t 14), []⟩])
 (.seq (.reg [⟨(some 16), none, .load (some 6) (.t 5), []⟩,
 ⟨(some 17), none, .load (some 6) (.t 6), []⟩,
 ⟨(some 18), none, .call 30 [(.t 16), (.t 17)], []⟩,
 ⟨(some 19), none, .eq false (.sc [.int .i64] false) (.t 18) (.k (.int .i64 0)), []⟩,
 ⟨(some 20), none, .call 141 [(.t 19)], []⟩,
 ⟨(some 4), none, .mv (.t 20), []⟩])
 .ret))))⟩

/-- enthymeme/eval.truth -/
def c141 : Am.Fn := ⟨4, [.tmp 2],
 (.seq (.reg [⟨(some 2), none, .mv (.k (.int .u64 0)), []⟩])
 (.seq (.seq (.reg [⟨(some 3), none, .mv (.t 0), []⟩])
 (.cond (.t 3)
 (.seq (.reg [⟨(some 2), none, .mv (.k (.int .u64 1)), []⟩])
 .ret)
 .skip))
 (.seq (.reg [⟨(some 2), none, .mv (.k (.int .u64 0)), []⟩])
 .ret)))⟩

/-- enthymeme/eval.addArrays$1 -/
def c150 : Am.Fn := ⟨21, [.cell 6 (some 6)],
 (.seq (.reg [⟨(some 4), none, .box (.t 1), []⟩,
 ⟨(some 6), none, .alloc [(.int .i64 0), (.int .i64 0), (.int .i64 0), (.int .u64 0), (.str []), .nils], []⟩])
 (.seq (.reg [⟨(some 10), none, .mv (.t 2), []⟩,
 ⟨(some 11), none, .ia 6 (.t 10) (.k (.int .i64 0)), []⟩,
 ⟨(some 12), none, .load (some 6) (.t 11), []⟩,
 ⟨(some 13), none, .mv (.t 2), []⟩,
 ⟨(some 14), none, .ia 6 (.t 13) (.k (.int .i64 1)), []⟩,
 ⟨(some 15), none, .fa 3 (.t 14), []⟩,
 ⟨(some 16), none, .load none (.t 15), []⟩,
 ⟨(some 17), none, .call 151 [(.t 12), (.t 16)], []⟩,
 ⟨(some 9), none, .mv (.t 17), []⟩,
 ⟨(some 18), none, .ext (.t 9) 0, []⟩,
 ⟨(some 19), none, .ext (.t 9) 1, []⟩,
 ⟨(some 7), none, .alloc [(.int .i64 0), (.int .i64 0), (.int .i64 0), (.int .u64 0), (.str []), .nils], []⟩,
 ⟨none, none, .store 6 (.t 7) (.t 18), []⟩,
 ⟨(some 8), none, .mv (.t 19), []⟩])
 (.seq (.reg [⟨(some 20), none, .load (some 6) (.t 7), []⟩,
 ⟨none, none, .store 6 (.t 6) (.t 20), []⟩])
 .ret)))⟩

/-- enthymeme/value.Select -/
def c151 : Am.Fn := ⟨62, [.cell 4 (some 6), .tmp 5],
 (.seq (.reg [⟨(some 2), none, .box (.t 0), []⟩,
 ⟨(some 4), none, .alloc [(.int .i64 0), (.int .i64 0), (.int .i64 0), (.int .u64 0), (.str []), .nils], []⟩,
 ⟨(some 5), none, .mv (.k (.int .i64 0)), []⟩])
 (.seq (.seq (.reg [⟨(some 10), none, .load (some 6) (.t 2), []⟩,
 ⟨(some 11), none, .call 39 [(.t 10)], []⟩,
 ⟨(some 6), none, .mv (.t 11), []⟩])
 (.seq (.reg [⟨(some 12), none, .mv (.t 6), []⟩,
 ⟨(some 13), none, .eq true (.sc [.int .i64] false) (.t 12) (.k (.int .i64 0)), []⟩])
 (.cond (.t 13)
 (.seq (.reg [⟨(some 14), none, .build [(.int .i64 0), (.int .i64 0), (.int .i64 0), (.int .u64 0), (.str []), .nils] [], []⟩,
 ⟨(some 15), none, .mv (.t 6), []⟩,
 ⟨none, none, .store 6 (.t 4) (.t 14), []⟩,
 ⟨(some 5), none, .mv (.t 15), []⟩])
 .ret)
 .skip)))
 (.seq (.seq (.reg [⟨(some 16), none, .fa 0 (.t 2), []⟩,
 ⟨(some 17), none, .load (some 3) (.t 16), []⟩,
 ⟨(some 18), none, .call 205 [(.t 17)], []⟩,
 ⟨(some 19), none, .un .not (.t 18), []⟩])
 (.cond (.t 19)
 (.seq (.reg [⟨(some 20), none, .build [(.int .i64 0), (.int .i64 0), (.int .i64 0), (.int .u64 0), (.str []), .nils] [], []⟩,
 ⟨none, none, .store 6 (.t 4) (.t 20), []⟩,
 ⟨(some 5), none, .mv (.k (.int .i64 9)), []⟩])
 .ret)
 .skip))
 (.seq (.seq (.reg [⟨(some 21), none, .mv (.t 1), []⟩,
 ⟨(some 22), none, .fa 0 (.t 2), []⟩,
 ⟨(some 23), none, .fa 2 (.t 22), []⟩,
 ⟨(some 24), none, .load none (.t 23), []⟩,
 ⟨(some 25), none, .call 70 [(.t 21), (.t 24)], []⟩,
 ⟨(some 26), none, .un .not (.t 25), []⟩])
 (.cond (.t 26)
 (.seq (.reg [⟨(some 27), none, .build [(.int .i64 0), (.int .i64 0), (.int .i64 0), (.int .u64 0), (.str []), .nils] [], []⟩,
 ⟨none, none, .store 6 (.t 4) (.t 27), []⟩,
 ⟨(some 5), none, .mv (.k (.int .i64 5)), []⟩])
 .ret)
 .skip))
 (.seq (.reg [⟨(some 28), none, .fa 0 (.t 2), []⟩,
 ⟨(some 29), none, .fa 1 (.t 28), []⟩,
 ⟨(some 30), none, .load none (.t 29), []⟩,
 ⟨(some 31), none, .build [(.int .i64 0), (.int .i64 0), (.int .i64 0)] [(0, 1, (.k (.int .i64 0))), (1, 1, (.t 30))], []⟩,
 ⟨(some 32), none, .build [(.int .i64 0), (.int .i64 0), (.int .i64 0), (.int .u64 0), (.str []), .nils] [(0, 3, (.t 31))], []⟩,
 ⟨(some 7), none, .alloc [(.int .i64 0), (.int .i64 0), (.int .i64 0), (.int .u64 0), (.str []), .nils], []⟩,
 ⟨none, none, .store 6 (.t 7) (.t 32), []⟩])
 (.seq (.seq (.reg [⟨(some 33), none, .fa 0 (.t 2), []⟩,
 ⟨(some 34), none, .fa 0 (.t 33), []⟩,
 ⟨(some 35), none, .load none (.t 34), []⟩,
 ⟨(some 36), none, .eq false (.sc [.int .i64] false) (.t 35) (.k (.int .i64 3)), []⟩])
 (.cond (.t 36)
 (.reg [⟨(some 37), none, .fa 0 (.t 7), []⟩,
 ⟨(some 38), none, .fa 0 (.t 37), []⟩,
 ⟨none, none, .store 1 (.t 38) (.k (.int .i64 1)), []⟩])
 .skip))
 (.seq (.seq (.reg [⟨(some 40), none, .fa 5 (.t 2), []⟩,
 ⟨(some 41), none, .load none (.t 40), []⟩,
 ⟨(some 42), none, .mv (.t 1), []⟩,
 ⟨(some 43), none, .call 206 [(.t 41), (.t 42)], []⟩,
 ⟨(some 39), none, .mv (.t 43), []⟩,
 ⟨(some 44), none, .ext (.t 39) 0, []⟩,
 ⟨(some 45), none, .ext (.t 39) 1, []⟩,
 ⟨(some 8), none, .mv (.t 44), []⟩,
 ⟨(some 9), none, .mv (.t 45), []⟩])
 (.seq (.reg [⟨(some 46), none, .mv (.t 9), []⟩])
 (.cond (.t 46)
 (.regL [⟨(some 47), none, .fa 5 (.t 2), []⟩,
 ⟨(some 48), none, .load none (.t 47), []⟩,
 ⟨(some 49), none, .mv (.t 8), []⟩,
 ⟨(some 50), none, .ia 3 (.t 48) (.t 49), []⟩,
 ⟨(some 51), none, .fa 1 (.t 50), []⟩,
 ⟨(some 52), none, .load none (.t 51), []⟩,
 ⟨(some 53), none, .fa 5 (.t 2), []⟩,
 ⟨(some 54), none, .load none (.t 53), []⟩,
 ⟨(some 55), none, .mv (.t 8), []⟩,
 ⟨(some 56), none, .ia 3 (.t 54) (.t 55), []⟩,
 ⟨(some 57), none, .fa 2 (.t 56), []⟩,
 ⟨(some 58), none, .load none (.t 57), []⟩,
 ⟨(some 59), none, .fa 3 (.t 7), []⟩,
 ⟨none, none, .store 1 (.t 59) (.t 52), [7, 11]⟩,
 ⟨(some 60), none, .fa 4 (.t 7), []⟩,
 ⟨none, none, .store 1 (.t 60) (.t 58), []⟩])
 .skip)))
 (.seq (.reg [⟨(some 61), none, .load (some 6) (.t 7), []⟩,
 ⟨none, none, .store 6 (.t 4) (.t 61), []⟩,
 ⟨(some 5), none, .mv (.k (.int .i64 0)), []⟩])
 .ret))))))))⟩

/-- enthymeme/eval.addArrays$2 -/
def c152 : Am.Fn := ⟨24, [.cell 6 (some 6)],
 (.seq (.reg [⟨(some 4), none, .box (.t 1), []⟩,
 ⟨(some 6), none, .alloc [(.int .i64 0), (.int .i64 0), (.int .i64 0), (.int .u64 0), (.str []), .nils], []⟩])
 (.seq (.reg [⟨(some 10), none, .mv (.t 2), []⟩,
 ⟨(some 11), none, .ia 6 (.t 10) (.k (.int .i64 0)), []⟩,
 ⟨(some 12), none, .load (some 6) (.t 11), []⟩,
 ⟨(some 13), none, .mv (.t 2), []⟩,
 ⟨(some 14), none, .ia 6 (.t 13) (.k (.int .i64 1)), []⟩,
 ⟨(some 15), none, .fa 3 (.t 14), []⟩,
 ⟨(some 16), none, .load none (.t 15), []⟩,
 ⟨(some 17), none, .mv (.t 2), []⟩,
 ⟨(some 18), none, .ia 6 (.t 17) (.k (.int .i64 2)), []⟩,
 ⟨(some 19), none, .load (some 6) (.t 18), []⟩,
 ⟨(some 20), none, .call 153 [(.t 12), (.t 16), (.t 19)], []⟩,
 ⟨(some 9), none, .mv (.t 20), []⟩,
 ⟨(some 21), none, .ext (.t 9) 0, []⟩,
 ⟨(some 22), none, .ext (.t 9) 1, []⟩,
 ⟨(some 7), none, .alloc [(.int .i64 0), (.int .i64 0), (.int .i64 0), (.int .u64 0), (.str []), .nils], []⟩,
 ⟨none, none, .store 6 (.t 7) (.t 21), []⟩,
 ⟨(some 8), none, .mv (.t 22), []⟩])
 (.seq (.reg [⟨(some 23), none, .load (some 6) (.t 7), []⟩,
 ⟨none, none, .store 6 (.t 6) (.t 23), []⟩])
 .ret)))⟩

/-- enthymeme/value.Store -/
def c153 : Am.Fn := ⟨112, [.cell 6 (some 6), .tmp 7],
 (.seq (.reg [⟨(some 3), none, .box (.t 0), []⟩,
 ⟨(some 5), none, .box (.t 2), []⟩,
 ⟨(some 6), none, .alloc [(.int .i64 0), (.int .i64 0), (.int .i64 0), (.int .u64 0), (.str []), .nils], []⟩,
 ⟨(some 7), none, .mv (.k (.int .i64 0)), []⟩])
 (.seq (.seq (.reg [⟨(some 14), none, .load (some 6) (.t 3), []⟩,
 ⟨(some 15), none, .call 39 [(.t 14)], []⟩,
 ⟨(some 8), none, .mv (.t 15), []⟩])
 (.seq (.reg [⟨(some 16), none, .mv (.t 8), []⟩,
 ⟨(some 17), none, .eq true (.sc [.int .i64] false) (.t 16) (.k (.int .i64 0)), []⟩])
 (.cond (.t 17)
 (.seq (.reg [⟨(some 18), none, .build [(.int .i64 0), (.int .i64 0), (.int .i64 0), (.int .u64 0), (.str []), .nils] [], []⟩,
 ⟨(some 19), none, .mv (.t 8), []⟩,
 ⟨none, none, .store 6 (.t 6) (.t 18), []⟩,
 ⟨(some 7), none, .mv (.t 19), []⟩])
 .ret)
 .skip)))
 (.seq (.seq (.reg [⟨(some 20), none, .load (some 6) (.t 5), []⟩,
 ⟨(some 21), none, .call 39 [(.t 20)], []⟩,
 ⟨(some 9), none, .mv (.t 21), []⟩])
 (.seq (.reg [⟨(some 22), none, .mv (.t 9), []⟩,
 ⟨(some 23), none, .eq true (.sc [.int .i64] false) (.t 22) (.k (.int .i64 0)), []⟩])
 (.cond (.t 23)
 (.seq (.reg [⟨(some 24), none, .build [(.int .i64 0), (.int .i64 0), (.int .i64 0), (.int .u64 0), (.str []), .nils] [], []⟩,
 ⟨(some 25), none, .mv (.t 9), []⟩,
 ⟨none, none, .store 6 (.t 6) (.t 24), []⟩,
 ⟨(some 7), none, .mv (.t 25), []⟩])
 .ret)
 .skip)))
 (.seq (.block 0
 (.seq (.reg [⟨(some 28), none, .fa 0 (.t 3), []⟩,
 ⟨(some 29), none, .fa 0 (.t 28), []⟩,
 ⟨(some 30), none, .load none (.t 29), []⟩,
 ⟨(some 31), none, .eq false (.sc [.int .i64] false) (.t 30) (.k (.int .i64 2)), []⟩,
 ⟨(some 32), none, .mv (.t 31), []⟩,
 ⟨(some 33), (some (32, true)), .fa 0 (.t 5), []⟩,
 ⟨(some 34), (some (32, true)), .fa 0 (.t 33), []⟩,
 ⟨(some 35), (some (32, true)), .load none (.t 34), []⟩,
 ⟨(some 36), (some (32, true)), .eq false (.sc [.int .i64] false) (.t 35) (.k (.int .i64 0)), []⟩,
 ⟨(some 37), none, .pick (.t 32) (.t 36) (.k (.bool false)), []⟩,
 ⟨(some 38), none, .mv (.t 37), []⟩,
 ⟨(some 39), (some (38, true)), .fa 0 (.t 5), []⟩,
 ⟨(some 40), (some (38, true)), .fa 1 (.t 39), []⟩,
 ⟨(some 41), (some (38, true)), .load none (.t 40), []⟩,
 ⟨(some 42), (some (38, true)), .fa 0 (.t 3), []⟩,
 ⟨(some 43), (some (38, true)), .fa 1 (.t 42), []⟩,
 ⟨(some 44), (some (38, true)), .load none (.t 43), []⟩,
 ⟨(some 45), (some (38, true)), .eq false (.sc [.int .i64] false) (.t 41) (.t 44), []⟩,
 ⟨(some 46), none, .pick (.t 38) (.t 45) (.k (.bool false)), []⟩,
 ⟨(some 27), none, .mv (.t 46), []⟩])
 (.cond (.t 27)
 .skip
 (.seq (.reg [⟨(some 48), none, .fa 0 (.t 3), []⟩,
 ⟨(some 49), none, .fa 0 (.t 48), []⟩,
 ⟨(some 50), none, .load none (.t 49), []⟩,
 ⟨(some 51), none, .eq false (.sc [.int .i64] false) (.t 50) (.k (.int .i64 3)), []⟩,
 ⟨(some 52), none, .mv (.t 51), []⟩,
 ⟨(some 53), (some (52, true)), .fa 0 (.t 5), []⟩,
 ⟨(some 54), (some (52, true)), .fa 0 (.t 53), []⟩,
 ⟨(some 55), (some (52, true)), .load none (.t 54), []⟩,
 ⟨(some 56), (some (52, true)), .eq false (.sc [.int .i64] false) (.t 55) (.k (.int .i64 1)), []⟩,
 ⟨(some 57), none, .pick (.t 52) (.t 56) (.k (.bool false)), []⟩,
 ⟨(some 58), none, .mv (.t 57), []⟩,
 ⟨(some 59), (some (58, true)), .fa 0 (.t 5), []⟩,
 ⟨(some 60), (some (58, true)), .fa 1 (.t 59), []⟩,
 ⟨(some 61), (some (58, true)), .load none (.t 60), []⟩,
 ⟨(some 62), (some (58, true)), .fa 0 (.t 3), []⟩,
 ⟨(some 63), (some (58, true)), .fa 1 (.t 62), []⟩,
 ⟨(some 64), (some (58, true)), .load none (.t 63), []⟩,
 ⟨(some 65), (some (58, true)), .bin .leq (.t 61) (.t 64), []⟩,
 ⟨(some 66), none, .pick (.t 58) (.t 65) (.k (.bool false)), []⟩,
 ⟨(some 47), none, .mv (.t 66), []⟩])
 (.cond (.t 47)
 .skip
 (.seq (.reg [⟨(some 26), none, .build [(.int .i64 0), (.int .i64 0), (.int .i64 0), (.int .u64 0), (.str []), .nils] [], []⟩,
 ⟨none, none, .store 6 (.t 6) (.t 26), []⟩,
 ⟨(some 7), none, .mv (.k (.int .i64 9)), []⟩])
 .ret))))))
 (.seq (.seq (.reg [⟨(some 67), none, .mv (.t 1), []⟩,
 ⟨(some 68), none, .fa 0 (.t 3), []⟩,
 ⟨(some 69), none, .fa 2 (.t 68), []⟩,
 ⟨(some 70), none, .load none (.t 69), []⟩,
 ⟨(some 71), none, .call 70 [(.t 67), (.t 70)], []⟩,
 ⟨(some 72), none, .un .not (.t 71), []⟩])
 (.cond (.t 72)
 (.seq (.reg [⟨(some 73), none, .build [(.int .i64 0), (.int .i64 0), (.int .i64 0), (.int .u64 0), (.str []), .nils] [], []⟩,
 ⟨none, none, .store 6 (.t 6) (.t 73), []⟩,
 ⟨(some 7), none, .mv (.k (.int .i64 5)), []⟩])
 .ret)
 .skip))
 (.seq (.reg [⟨(some 75), none, .fa 5 (.t 3), []⟩,
 ⟨(some 76), none, .load none (.t 75), []⟩,
 ⟨(some 77), none, .mv (.t 1), []⟩,
 ⟨(some 78), none, .call 206 [(.t 76), (.t 77)], []⟩,
 ⟨(some 74), none, .mv (.t 78), []⟩,
 ⟨(some 79), none, .ext (.t 74) 0, []⟩,
 ⟨(some 80), none, .ext (.t 74) 1, []⟩,
 ⟨(some 10), none, .mv (.t 79), []⟩,
 ⟨(some 11), none, .mv (.t 80), []⟩])
 (.seq (.reg [⟨(some 81), none, .fa 5 (.t 3), []⟩,
 ⟨(some 82), none, .load none (.t 81), []⟩,
 ⟨(some 83), none, .mv (.t 10), []⟩,
 ⟨(some 84), none, .slc 3 (.t 82) none (some (.t 83)) none, []⟩,
 ⟨(some 85), none, .call 203 [(.t 84)], []⟩,
 ⟨(some 12), none, .mv (.t 85), []⟩])
 (.seq (.seq (.reg [⟨(some 86), none, .mv (.t 1), []⟩,
 ⟨(some 87), none, .fa 3 (.t 5), []⟩,
 ⟨(some 88), none, .load none (.t 87), []⟩,
 ⟨(some 89), none, .fa 4 (.t 5), []⟩,
 ⟨(some 90), none, .load none (.t 89), []⟩,
 ⟨(some 91), none, .build [(.int .u64 0), (.int .u64 0), (.str [])] [(0, 1, (.t 86)), (1, 1, (.t 88)), (2, 1, (.t 90))], []⟩,
 ⟨(some 13), none, .alloc [(.int .u64 0), (.int .u64 0), (.str [])], []⟩,
 ⟨none, none, .store 3 (.t 13) (.t 91), []⟩])
 (.seq (.reg [⟨(some 92), none, .load (some 3) (.t 13), []⟩,
 ⟨(some 93), none, .mv (.t 1), []⟩,
 ⟨(some 94), none, .build [(.int .u64 0), (.int .u64 0), (.str [])] [(0, 1, (.t 93))], []⟩,
 ⟨(some 95), none, .eq true (.sc [.int .u64, .int .u64, .str] true) (.t 92) (.t 94), []⟩])
 (.cond (.t 95)
 (.reg [⟨(some 96), none, .mv (.t 12), []⟩,
 ⟨(some 97), none, .load (some 3) (.t 13), []⟩,
 ⟨(some 98), none, .bsl 1 3 [(.int .u64 0), (.int .u64 0), (.str [])] [(0, 3, (.t 97))], []⟩,
 ⟨(some 99), none, .app 3 32 (.t 96) (.t 98), []⟩,
 ⟨(some 12), none, .mv (.t 99), []⟩])
 .skip)))
 (.seq (.seq (.reg [⟨(some 100), none, .mv (.t 11), []⟩])
 (.cond (.t 100)
 (.reg [⟨(some 101), none, .mv (.t 10), []⟩,
 ⟨(some 102), none, .bin .add (.t 101) (.k (.int .i64 1)), []⟩,
 ⟨(some 10), none, .mv (.t 102), []⟩])
 .skip))
 (.seq (.regL [⟨(some 103), none, .fa 0 (.t 3), []⟩,
 ⟨(some 104), none, .load (some 3) (.t 103), []⟩,
 ⟨(some 105), none, .mv (.t 12), []⟩,
 ⟨(some 106), none, .fa 5 (.t 3), []⟩,
 ⟨(some 107), none, .load none (.t 106), []⟩,
 ⟨(some 108), none, .mv (.t 10), []⟩,
 ⟨(some 109), none, .slc 3 (.t 107) (some (.t 108)) none none, []⟩,
 ⟨(some 110), none, .app 3 32 (.t 105) (.t 109), [1]⟩,
 ⟨(some 111), none, .build [(.int .i64 0), (.int .i64 0), (.int .i64 0), (.int .u64 0), (.str []), .nils] [(0, 3, (.t 104)), (5, 1, (.t 110))], []⟩,
 ⟨none, none, .store 6 (.t 6) (.t 111), []⟩,
 ⟨(some 7), none, .mv (.k (.int .i64 0)), []⟩])
 .ret))))))))))⟩

/-- enthymeme/eval.addArrays$3 -/
def c154 : Am.Fn := ⟨18, [.tmp 4],
 (.seq (.reg [⟨(some 4), none, .mv (.k (.int .u64 0)), []⟩])
 (.seq (.reg [⟨(some 8), none, .mv (.t 1), []⟩,
 ⟨(some 9), none, .ia 6 (.t 8) (.k (.int .i64 0)), []⟩,
 ⟨(some 10), none, .load (some 6) (.t 9), []⟩,
 ⟨(some 11), none, .mv (.t 1), []⟩,
 ⟨(some 12), none, .ia 6 (.t 11) (.k (.int .i64 1)), []⟩,
 ⟨(some 13), none, .load (some 6) (.t 12), []⟩,
 ⟨(some 14), none, .call 155 [(.t 10), (.t 13)], []⟩,
 ⟨(some 7), none, .mv (.t 14), []⟩,
 ⟨(some 15), none, .ext (.t 7) 0, []⟩,
 ⟨(some 16), none, .ext (.t 7) 1, []⟩,
 ⟨(some 5), none, .mv (.t 15), []⟩,
 ⟨(some 6), none, .mv (.t 16), []⟩])
 (.seq (.reg [⟨(some 17), none, .mv (.t 5), []⟩,
 ⟨(some 4), none, .mv (.t 17), []⟩])
 .ret)))⟩

/-- enthymeme/value.Diff -/
def c155 : Am.Fn := ⟨93, [.tmp 4, .tmp 5],
 (.seq (.reg [⟨(some 2), none, .box (.t 0), []⟩,
 ⟨(some 3), none, .box (.t 1), []⟩,
 ⟨(some 4), none, .mv (.k (.int .u64 0)), []⟩,
 ⟨(some 5), none, .mv (.k (.int .i64 0)), []⟩])
 (.seq (.seq (.reg [⟨(some 9), none, .load (some 6) (.t 2), []⟩,
 ⟨(some 10), none, .call 39 [(.t 9)], []⟩,
 ⟨(some 6), none, .mv (.t 10), []⟩])
 (.seq (.reg [⟨(some 11), none, .mv (.t 6), []⟩,
 ⟨(some 12), none, .eq true (.sc [.int .i64] false) (.t 11) (.k (.int .i64 0)), []⟩])
 (.cond (.t 12)
 (.seq (.reg [⟨(some 13), none, .mv (.t 6), []⟩,
 ⟨(some 4), none, .mv (.k (.int .u64 0)), []⟩,
 ⟨(some 5), none, .mv (.t 13), []⟩])
 .ret)
 .skip)))
 (.seq (.seq (.reg [⟨(some 14), none, .load (some 6) (.t 3), []⟩,
 ⟨(some 15), none, .call 39 [(.t 14)], []⟩,
 ⟨(some 7), none, .mv (.t 15), []⟩])
 (.seq (.reg [⟨(some 16), none, .mv (.t 7), []⟩,
 ⟨(some 17), none, .eq true (.sc [.int .i64] false) (.t 16) (.k (.int .i64 0)), []⟩])
 (.cond (.t 17)
 (.seq (.reg [⟨(some 18), none, .mv (.t 7), []⟩,
 ⟨(some 4), none, .mv (.k (.int .u64 0)), []⟩,
 ⟨(some 5), none, .mv (.t 18), []⟩])
 .ret)
 .skip)))
 (.seq (.seq (.reg [⟨(some 19), none, .fa 0 (.t 2), []⟩,
 ⟨(some 20), none, .load (some 3) (.t 19), []⟩,
 ⟨(some 21), none, .call 205 [(.t 20)], []⟩,
 ⟨(some 22), none, .un .not (.t 21), []⟩,
 ⟨(some 23), none, .mv (.t 22), []⟩,
 ⟨(some 24), (some (23, false)), .fa 0 (.t 2), []⟩,
 ⟨(some 25), (some (23, false)), .load (some 3) (.t 24), []⟩,
 ⟨(some 26), (some (23, false)), .fa 0 (.t 3), []⟩,
 ⟨(some 27), (some (23, false)), .load (some 3) (.t 26), []⟩,
 ⟨(some 28), (some (23, false)), .eq true (.sc [.int .i64, .int .i64, .int .i64] true) (.t 25) (.t 27), []⟩,
 ⟨(some 29), none, .pick (.t 23) (.k (.bool true)) (.t 28), []⟩])
 (.cond (.t 29)
 (.seq (.reg [⟨(some 4), none, .mv (.k (.int .u64 0)), []⟩,
 ⟨(some 5), none, .mv (.k (.int .i64 9)), []⟩])
 .ret)
 .skip))
 (.seq (.seq (.reg [⟨(some 8), none, .mv (.k (.int .i64 0)), []⟩])
 (.block 0
 (.loop
 (.seq (.seq (.reg [⟨(some 30), none, .mv (.t 8), []⟩,
 ⟨(some 31), none, .fa 5 (.t 2), []⟩,
 ⟨(some 32), none, .load none (.t 31), []⟩,
 ⟨(some 33), none, .len (.t 32), []⟩,
 ⟨(some 34), none, .bin .lss (.t 30) (.t 33), []⟩,
 ⟨(some 35), none, .mv (.t 34), []⟩,
 ⟨(some 36), (some (35, false)), .mv (.t 8), []⟩,
 ⟨(some 37), (some (35, false)), .fa 5 (.t 3), []⟩,
 ⟨(some 38), (some (35, false)), .load none (.t 37), []⟩,
 ⟨(some 39), (some (35, false)), .len (.t 38), []⟩,
 ⟨(some 40), (some (35, false)), .bin .lss (.t 36) (.t 39), []⟩,
 ⟨(some 41), none, .pick (.t 35) (.k (.bool true)) (.t 40), []⟩])
 (.cond (.t 41)
 .skip
 (.exit 0)))
 (.seq (.block 1
 (.block 2
 (.seq (.reg [⟨(some 45), none, .mv (.t 8), []⟩,
 ⟨(some 46), none, .fa 5 (.t 2), []⟩,
 ⟨(some 47), none, .load none (.t 46), []⟩,
 ⟨(some 48), none, .len (.t 47), []⟩,
 ⟨(some 49), none, .bin .geq (.t 45) (.t 48), []⟩,
 ⟨(some 44), none, .mv (.t 49), []⟩])
 (.cond (.t 44)
 (.seq (.reg [⟨(some 50), none, .fa 5 (.t 3), []⟩,
 ⟨(some 51), none, .load none (.t 50), []⟩,
 ⟨(some 52), none, .mv (.t 8), []⟩,
 ⟨(some 53), none, .ia 3 (.t 51) (.t 52), []⟩,
 ⟨(some 54), none, .fa 0 (.t 53), []⟩,
 ⟨(some 55), none, .load none (.t 54), []⟩,
 ⟨(some 4), none, .mv (.t 55), []⟩,
 ⟨(some 5), none, .mv (.k (.int .i64 0)), []⟩])
 .ret)
 (.seq (.reg [⟨(some 57), none, .mv (.t 8), []⟩,
 ⟨(some 58), none, .fa 5 (.t 3), []⟩,
 ⟨(some 59), none, .load none (.t 58), []⟩,
 ⟨(some 60), none, .len (.t 59), []⟩,
 ⟨(some 61), none, .bin .geq (.t 57) (.t 60), []⟩,
 ⟨(some 56), none, .mv (.t 61), []⟩])
 (.cond (.t 56)
 (.seq (.reg [⟨(some 62), none, .fa 5 (.t 2), []⟩,
 ⟨(some 63), none, .load none (.t 62), []⟩,
 ⟨(some 64), none, .mv (.t 8), []⟩,
 ⟨(some 65), none, .ia 3 (.t 63) (.t 64), []⟩,
 ⟨(some 66), none, .fa 0 (.t 65), []⟩,
 ⟨(some 67), none, .load none (.t 66), []⟩,
 ⟨(some 4), none, .mv (.t 67), []⟩,
 ⟨(some 5), none, .mv (.k (.int .i64 0)), []⟩])
 .ret)
 (.seq (.reg [⟨(some 69), none, .fa 5 (.t 2), []⟩,
 ⟨(some 70), none, .load none (.t 69), []⟩,
 ⟨(some 71), none, .mv (.t 8), []⟩,
 ⟨(some 72), none, .ia 3 (.t 70) (.t 71), []⟩,
 ⟨(some 73), none, .load (some 3) (.t 72), []⟩,
 ⟨(some 74), none, .fa 5 (.t 3), []⟩,
 ⟨(some 75), none, .load none (.t 74), []⟩,
 ⟨(some 76), none, .mv (.t 8), []⟩,
 ⟨(some 77), none, .ia 3 (.t 75) (.t 76), []⟩,
 ⟨(some 78), none, .load (some 3) (.t 77), []⟩,
 ⟨(some 79), none, .eq true (.sc [.int .u64, .int .u64, .str] true) (.t 73) (.t 78), []⟩,
 ⟨(some 68), none, .mv (.t 79), []⟩])
 (.cond (.t 68)
 (.seq (.reg [⟨(some 80), none, .fa 5 (.t 2), []⟩,
 ⟨(some 81), none, .load none (.t 80), []⟩,
 ⟨(some 82), none, .mv (.t 8), []⟩,
 ⟨(some 83), none, .ia 3 (.t 81) (.t 82), []⟩,
 ⟨(some 84), none, .fa 0 (.t 83), []⟩,
 ⟨(some 85), none, .load none (.t 84), []⟩,
 ⟨(some 86), none, .fa 5 (.t 3), []⟩,
 ⟨(some 87), none, .load none (.t 86), []⟩,
 ⟨(some 88), none, .mv (.t 8), []⟩,
 ⟨(some 89), none, .ia 3 (.t 87) (.t 88), []⟩,
 ⟨(some 90), none, .fa 0 (.t 89), []⟩,
 ⟨(some 91), none, .load none (.t 90), []⟩,
 ⟨(some 92), none, .minmax false [(.t 85), (.t 91)], []⟩,
 ⟨(some 4), none, .mv (.t 92), []⟩,
 ⟨(some 5), none, .mv (.k (.int .i64 0)), []⟩])
 .ret)
 .skip))))))))
 (.reg [⟨(some 42), none, .mv (.t 8), []⟩,
 ⟨(some 43), none, .bin .add (.t 42) (.k (.int .i64 1)), []⟩,
 ⟨(some 8), none, .mv (.t 43), []⟩]))))))
 (.seq (.reg [⟨(some 4), none, .mv (.k (.int .u64 0)), []⟩,
 ⟨(some 5), none, .mv (.k (.int .i64 0)), []⟩])
 .ret))))))⟩

/-- enthymeme/eval.addStrings$4 -/
def c159 : Am.Fn := ⟨35, [.tmp 4],
 (.seq (.reg [⟨(some 4), none, .mv (.k (.str [])), []⟩])
 (.seq (.reg [⟨(some 8), none, .mv (.t 1), []⟩,
 ⟨(some 9), none, .ia 6 (.t 8) (.k (.int .i64 0)), []⟩,
 ⟨(some 10), none, .fa 4 (.t 9), []⟩,
 ⟨(some 11), none, .load none (.t 10), []⟩,
 ⟨(some 12), none, .mv (.t 1), []⟩,
 ⟨(some 13), none, .ia 6 (.t 12) (.k (.int .i64 1)), []⟩,
 ⟨(some 14), none, .fa 3 (.t 13), []⟩,
 ⟨(some 15), none, .load none (.t 14), []⟩,
 ⟨(some 16), none, .conv (.int .i64) (.t 15), []⟩,
 ⟨(some 17), none, .mv (.t 1), []⟩,
 ⟨(some 18), none, .ia 6 (.t 17) (.k (.int .i64 2)), []⟩,
 ⟨(some 19), none, .fa 3 (.t 18), []⟩,
 ⟨(some 20), none, .load none (.t 19), []⟩,
 ⟨(some 21), none, .conv (.int .i64) (.t 20), []⟩,
 ⟨(some 5), none, .mv (.t 11), []⟩,
 ⟨(some 6), none, .mv (.t 16), []⟩,
 ⟨(some 7), none, .mv (.t 21), []⟩])
 (.seq (.seq (.reg [⟨(some 22), none, .mv (.t 6), []⟩,
 ⟨(some 23), none, .mv (.t 5), []⟩,
 ⟨(some 24), none, .lens (.t 23), []⟩,
 ⟨(some 25), none, .bin .geq (.t 22) (.t 24), []⟩])
 (.cond (.t 25)
 (.seq (.reg [⟨(some 4), none, .mv (.k (.str [])), []⟩])
 .ret)
 .skip))
 (.seq (.reg [⟨(some 26), none, .mv (.t 5), []⟩,
 ⟨(some 27), none, .mv (.t 6), []⟩,
 ⟨(some 28), none, .mv (.t 6), []⟩,
 ⟨(some 29), none, .mv (.t 7), []⟩,
 ⟨(some 30), none, .bin .add (.t 28) (.t 29), []⟩,
 ⟨(some 31), none, .mv (.t 5), []⟩,
 ⟨(some 32), none, .lens (.t 31), []⟩,
 ⟨(some 33), none, .minmax false [(.t 30), (.t 32)], []⟩,
 ⟨(some 34), none, .sls (.t 26) (some (.t 27)) (some (.t 33)), []⟩,
 ⟨(some 4), none, .mv (.t 34), []⟩])
 .ret))))⟩

/-- enthymeme/eval.addStrings$5 -/
def c160 : Am.Fn := ⟨19, [.tmp 4],
 (.seq (.reg [⟨(some 4), none, .mv (.k (.int .u64 0)), []⟩])
 (.seq (.seq (.reg [⟨(some 6), none, .mv (.t 1), []⟩,
 ⟨(some 7), none, .ia 6 (.t 6) (.k (.int .i64 0)), []⟩,
 ⟨(some 8), none, .fa 4 (.t 7), []⟩,
 ⟨(some 9), none, .load none (.t 8), []⟩,
 ⟨(some 10), none, .mv (.t 1), []⟩,
 ⟨(some 11), none, .ia 6 (.t 10) (.k (.int .i64 1)), []⟩,
 ⟨(some 12), none, .fa 4 (.t 11), []⟩,
 ⟨(some 13), none, .load none (.t 12), []⟩,
 ⟨(some 14), none, .call 161 [(.t 9), (.t 13)], []⟩,
 ⟨(some 5), none, .mv (.t 14), []⟩])
 (.seq (.reg [⟨(some 15), none, .mv (.t 5), []⟩,
 ⟨(some 16), none, .bin .geq (.t 15) (.k (.int .i64 0)), []⟩])
 (.cond (.t 16)
 (.seq (.reg [⟨(some 17), none, .mv (.t 5), []⟩,
 ⟨(some 18), none, .conv (.int .u64) (.t 17), []⟩,
 ⟨(some 4), none, .mv (.t 18), []⟩])
 .ret)
 .skip)))
 (.seq (.reg [⟨(some 4), none, .mv (.k (.int .u64 127)), []⟩])
 .ret)))⟩

/-- enthymeme/eval.addStrings$6 -/
def c162 : Am.Fn := ⟨18, [.tmp 4],
 (.seq (.reg [⟨(some 4), none, .mv (.k (.str [])), []⟩])
 (.seq (.reg [⟨(some 5), none, .mv (.t 1), []⟩,
 ⟨(some 6), none, .ia 6 (.t 5) (.k (.int .i64 0)), []⟩,
 ⟨(some 7), none, .fa 4 (.t 6), []⟩,
 ⟨(some 8), none, .load none (.t 7), []⟩,
 ⟨(some 9), none, .mv (.t 1), []⟩,
 ⟨(some 10), none, .ia 6 (.t 9) (.k (.int .i64 1)), []⟩,
 ⟨(some 11), none, .fa 4 (.t 10), []⟩,
 ⟨(some 12), none, .load none (.t 11), []⟩,
 ⟨(some 13), none, .mv (.t 1), []⟩,
 ⟨(some 14), none, .ia 6 (.t 13) (.k (.int .i64 2)), []⟩,
 ⟨(some 15), none, .fa 4 (.t 14), []⟩,
 ⟨(some 16), none, .load none (.t 15), []⟩,
 ⟨(some 17), none, .call 163 [(.t 8), (.t 12), (.t 16), (.k (.int .i64 1))], []⟩,
 ⟨(some 4), none, .mv (.t 17), []⟩])
 .ret))⟩

/-- enthymeme/term.str -/
def c190 : Am.Fn := ⟨5, [.cell 2 (some 3)],
 (.seq (.reg [⟨(some 2), none, .alloc [(.int .i64 0), (.int .i64 0), (.int .i64 0)], []⟩])
 (.seq (.reg [⟨(some 3), none, .mv (.t 0), []⟩,
 ⟨(some 4), none, .build [(.int .i64 0), (.int .i64 0), (.int .i64 0)] [(0, 1, (.k (.int .i64 1))), (1, 1, (.t 3))], []⟩,
 ⟨none, none, .store 3 (.t 2) (.t 4), []⟩])
 .ret))⟩

/-- enthymeme/term.isArray -/
def c191 : Am.Fn := ⟨11, [.tmp 2],
 (.seq (.reg [⟨(some 1), none, .box (.t 0), []⟩,
 ⟨(some 2), none, .mv (.k (.bool false)), []⟩])
 (.seq (.reg [⟨(some 3), none, .fa 0 (.t 1), []⟩,
 ⟨(some 4), none, .load none (.t 3), []⟩,
 ⟨(some 5), none, .eq false (.sc [.int .i64] false) (.t 4) (.k (.int .i64 2)), []⟩,
 ⟨(some 6), none, .mv (.t 5), []⟩,
 ⟨(some 7), (some (6, false)), .fa 0 (.t 1), []⟩,
 ⟨(some 8), (some (6, false)), .load none (.t 7), []⟩,
 ⟨(some 9), (some (6, false)), .eq false (.sc [.int .i64] false) (.t 8) (.k (.int .i64 3)), []⟩,
 ⟨(some 10), none, .pick (.t 6) (.k (.bool true)) (.t 9), []⟩,
 ⟨(some 2), none, .mv (.t 10), []⟩])
 .ret))⟩

/-- enthymeme/term.result -/
def c192 : Am.Fn := ⟨15, [.cell 6 (some 3), .tmp 7],
 (.seq (.reg [⟨(some 3), none, .box (.t 0), []⟩,
 ⟨(some 6), none, .alloc [(.int .i64 0), (.int .i64 0), (.int .i64 0)], []⟩,
 ⟨(some 7), none, .mv (.k (.int .i64 0)), []⟩])
 (.seq (.seq (.reg [⟨(some 8), none, .mv (.t 1), []⟩,
 ⟨(some 9), none, .un .not (.t 8), []⟩])
 (.cond (.t 9)
 (.seq (.reg [⟨(some 10), none, .load (some 3) (.t 3), []⟩,
 ⟨none, none, .store 3 (.t 6) (.t 10), []⟩,
 ⟨(some 7), none, .mv (.k (.int .i64 9)), []⟩])
 .ret)
 .skip))
 (.seq (.seq (.reg [⟨(some 11), none, .mv (.t 2), []⟩,
 ⟨(some 12), none, .un .not (.t 11), []⟩])
 (.cond (.t 12)
 (.seq (.reg [⟨(some 13), none, .load (some 3) (.t 3), []⟩,
 ⟨none, none, .store 3 (.t 6) (.t 13), []⟩,
 ⟨(some 7), none, .mv (.k (.int .i64 5)), []⟩])
 .ret)
 .skip))
 (.seq (.reg [⟨(some 14), none, .load (some 3) (.t 3), []⟩,
 ⟨none, none, .store 3 (.t 6) (.t 14), []⟩,
 ⟨(some 7), none, .mv (.k (.int .i64 0)), []⟩])
 .ret))))⟩

/-- enthymeme/term.isBV -/
def c193 : Am.Fn := ⟨6, [.tmp 2],
 (.seq (.reg [⟨(some 1), none, .box (.t 0), []⟩,
 ⟨(some 2), none, .mv (.k (.bool false)), []⟩])
 (.seq (.reg [⟨(some 3), none, .fa 0 (.t 1), []⟩,
 ⟨(some 4), none, .load none (.t 3), []⟩,
 ⟨(some 5), none, .eq false (.sc [.int .i64] false) (.t 4) (.k (.int .i64 0)), []⟩,
 ⟨(some 2), none, .mv (.t 5), []⟩])
 .ret))⟩

/-- enthymeme/term.bv -/
def c194 : Am.Fn := ⟨5, [.cell 2 (some 3)],
 (.seq (.reg [⟨(some 2), none, .alloc [(.int .i64 0), (.int .i64 0), (.int .i64 0)], []⟩])
 (.seq (.reg [⟨(some 3), none, .mv (.t 0), []⟩,
 ⟨(some 4), none, .build [(.int .i64 0), (.int .i64 0), (.int .i64 0)] [(0, 1, (.k (.int .i64 0))), (1, 1, (.t 3))], []⟩,
 ⟨none, none, .store 3 (.t 2) (.t 4), []⟩])
 .ret))⟩

/-- enthymeme/term.alike -/
def c195 : Am.Fn := ⟨16, [.tmp 4],
 (.seq (.reg [⟨(some 2), none, .box (.t 0), []⟩,
 ⟨(some 3), none, .box (.t 1), []⟩,
 ⟨(some 4), none, .mv (.k (.bool false)), []⟩])
 (.seq (.reg [⟨(some 5), none, .load (some 3) (.t 2), []⟩,
 ⟨(some 6), none, .load (some 3) (.t 3), []⟩,
 ⟨(some 7), none, .eq false (.sc [.int .i64, .int .i64, .int .i64] true) (.t 5) (.t 6), []⟩,
 ⟨(some 8), none, .mv (.t 7), []⟩,
 ⟨(some 9), (some (8, false)), .load (some 3) (.t 2), []⟩,
 ⟨(some 10), (some (8, false)), .call 196 [(.t 9)], []⟩,
 ⟨(some 11), (some (8, false)), .mv (.t 10), []⟩,
 ⟨(some 12), (some (11, true)), .load (some 3) (.t 3), []⟩,
 ⟨(some 13), (some (11, true)), .call 196 [(.t 12)], []⟩,
 ⟨(some 14), (some (8, false)), .pick (.t 11) (.t 13) (.k (.bool false)), []⟩,
 ⟨(some 15), none, .pick (.t 8) (.k (.bool true)) (.t 14), []⟩,
 ⟨(some 4), none, .mv (.t 15), []⟩])
 .ret))⟩

/-- enthymeme/term.isStr -/
def c196 : Am.Fn := ⟨6, [.tmp 2],
 (.seq (.reg [⟨(some 1), none, .box (.t 0), []⟩,
 ⟨(some 2), none, .mv (.k (.bool false)), []⟩])
 (.seq (.reg [⟨(some 3), none, .fa 0 (.t 1), []⟩,
 ⟨(some 4), none, .load none (.t 3), []⟩,
 ⟨(some 5), none, .eq false (.sc [.int .i64] false) (.t 4) (.k (.int .i64 1)), []⟩,
 ⟨(some 2), none, .mv (.t 5), []⟩])
 .ret))⟩

/-- enthymeme/eval.number$1 -/
def c198 : Am.Fn := ⟨14, [.cell 7 (some 6)],
 (.seq (.reg [⟨(some 5), none, .box (.t 1), []⟩,
 ⟨(some 7), none, .alloc [(.int .i64 0), (.int .i64 0), (.int .i64 0), (.int .u64 0), (.str []), .nils], []⟩])
 (.seq (.reg [⟨(some 8), none, .load (some 3) (.t 5), []⟩,
 ⟨(some 9), none, .load none (.t 3), []⟩,
 ⟨(some 10), none, .mv (.t 0), []⟩,
 ⟨(some 11), none, .mv (.t 2), []⟩,
 ⟨(some 12), none, .dyn true (.t 9) [(.t 10), (.t 11)], []⟩,
 ⟨(some 13), none, .build [(.int .i64 0), (.int .i64 0), (.int .i64 0), (.int .u64 0), (.str []), .nils] [(0, 3, (.t 8)), (3, 1, (.t 12))], []⟩,
 ⟨none, none, .store 6 (.t 7) (.t 13), []⟩])
 .ret))⟩

/-- enthymeme/eval.text$1 -/
def c199 : Am.Fn := ⟨14, [.cell 7 (some 6)],
 (.seq (.reg [⟨(some 5), none, .box (.t 1), []⟩,
 ⟨(some 7), none, .alloc [(.int .i64 0), (.int .i64 0), (.int .i64 0), (.int .u64 0), (.str []), .nils], []⟩])
 (.seq (.reg [⟨(some 8), none, .load (some 3) (.t 5), []⟩,
 ⟨(some 9), none, .load none (.t 3), []⟩,
 ⟨(some 10), none, .mv (.t 0), []⟩,
 ⟨(some 11), none, .mv (.t 2), []⟩,
 ⟨(some 12), none, .dyn true (.t 9) [(.t 10), (.t 11)], []⟩,
 ⟨(some 13), none, .build [(.int .i64 0), (.int .i64 0), (.int .i64 0), (.int .u64 0), (.str []), .nils] [(0, 3, (.t 8)), (4, 1, (.t 12))], []⟩,
 ⟨none, none, .store 6 (.t 7) (.t 13), []⟩])
 .ret))⟩

/-- enthymeme/bits.Valid -/
def c200 : Am.Fn := ⟨15, [.tmp 4],
 (.seq (.reg [⟨(some 4), none, .mv (.k (.int .i64 0)), []⟩])
 (.seq (.seq (.reg [⟨(some 5), none, .mv (.t 1), []⟩,
 ⟨(some 6), none, .bin .lss (.t 5) (.k (.int .i64 1)), []⟩,
 ⟨(some 7), none, .mv (.t 6), []⟩,
 ⟨(some 8), (some (7, false)), .mv (.t 1), []⟩,
 ⟨(some 9), (some (7, false)), .bin .gtr (.t 8) (.k (.int .i64 64)), []⟩,
 ⟨(some 10), none, .pick (.t 7) (.k (.bool true)) (.t 9), []⟩])
 (.cond (.t 10)
 (.seq (.reg [⟨(some 4), none, .mv (.k (.int .i64 1)), []⟩])
 .ret)
 .skip))
 (.seq (.seq (.reg [⟨(some 11), none, .mv (.t 0), []⟩,
 ⟨(some 12), none, .mv (.t 1), []⟩,
 ⟨(some 13), none, .call 201 [(.t 12)], []⟩,
 ⟨(some 14), none, .bin .gtr (.t 11) (.t 13), []⟩])
 (.cond (.t 14)
 (.seq (.reg [⟨(some 4), none, .mv (.k (.int .i64 5)), []⟩])
 .ret)
 .skip))
 (.seq (.reg [⟨(some 4), none, .mv (.k (.int .i64 0)), []⟩])
 .ret))))⟩

/-- enthymeme/bits.mask -/
def c201 : Am.Fn := ⟨6, [.tmp 2],
 (.seq (.reg [⟨(some 2), none, .mv (.k (.int .u64 0)), []⟩])
 (.seq (.reg [⟨(some 3), none, .mv (.t 0), []⟩,
 ⟨(some 4), none, .bin .sub (.k (.int .i64 64)) (.t 3), []⟩,
 ⟨(some 5), none, .bin .shr (.k (.int .u64 18446744073709551615)) (.t 4), []⟩,
 ⟨(some 2), none, .mv (.t 5), []⟩])
 .ret))⟩

/-- enthymeme/bits.operations -/
def c202 : Am.Fn := ⟨10, [.cell 2 (some 13)],
 (.seq (.reg [⟨(some 1), none, .box (.t 0), []⟩,
 ⟨(some 2), none, .alloc [.nilf, .nilf, .nilf, .nilf, .nilf, .nilf, .nilf, .nilf, .nilf, .nilf, .nilf, .nilf, .nilf], []⟩])
 (.seq (.reg [⟨(some 4), none, .load none (.t 1), []⟩,
 ⟨(some 5), none, .call 201 [(.t 4)], []⟩,
 ⟨(some 3), none, .alloc [(.int .u64 0)], []⟩,
 ⟨none, none, .store 1 (.t 3) (.t 5), []⟩])
 (.seq (.reg [⟨(some 6), none, .mkfn 237 [(.t 3)], []⟩,
 ⟨(some 7), none, .mkfn 241 [(.t 1)], []⟩,
 ⟨(some 8), none, .mkfn 244 [(.t 1)], []⟩,
 ⟨(some 9), none, .build [.nilf, .nilf, .nilf, .nilf, .nilf, .nilf, .nilf, .nilf, .nilf, .nilf, .nilf, .nilf, .nilf] [(0, 1, (.k (.fn 232 []))), (1, 1, (.k (.fn 233 []))), (2, 1, (.k (.fn 234 []))), (3, 1, (.k (.fn 235 []))), (4, 1, (.k (.fn 236 []))), (5, 1, (.t 6)), (6, 1, (.k (.fn 238 []))), (7, 1, (.k (.fn 239 []))), (8, 1, (.k (.fn 240 []))), (9, 1, (.t 7)), (10, 1, (.k (.fn 242 []))), (11, 1, (.t 8)), (12, 1, (.k (.fn 245 [])))], []⟩,
 ⟨none, none, .store 13 (.t 2) (.t 9), []⟩])
 .ret)))⟩

/-- slices.Clone[[]enthymeme/value.Entry,enthymeme/value.Entry] -/
def c203 : Am.Fn := ⟨8, [.tmp 2],
 (.seq (.reg [⟨(some 2), none, .mv (.k .nils), []⟩])
 (.seq (.seq (.reg [⟨(some 3), none, .mv (.t 0), []⟩,
 ⟨(some 4), none, .eq false .nls (.t 3) (.k .nils), []⟩])
 (.cond (.t 4)
 (.seq (.reg [⟨(some 2), none, .mv (.k .nils), []⟩])
 .ret)
 .skip))
 (.seq (.reg [⟨(some 5), none, .bsl 0 3 [(.int .u64 0), (.int .u64 0), (.str [])] [], []⟩,
 ⟨(some 6), none, .mv (.t 0), []⟩,
 ⟨(some 7), none, .app 3 32 (.t 5) (.t 6), []⟩,
 ⟨(some 2), none, .mv (.t 7), []⟩])
 .ret)))⟩

/-- enthymeme/value.isArray -/
def c205 : Am.Fn := ⟨11, [.tmp 2],
 (.seq (.reg [⟨(some 1), none, .box (.t 0), []⟩,
 ⟨(some 2), none, .mv (.k (.bool false)), []⟩])
 (.seq (.reg [⟨(some 3), none, .fa 0 (.t 1), []⟩,
 ⟨(some 4), none, .load none (.t 3), []⟩,
 ⟨(some 5), none, .eq false (.sc [.int .i64] false) (.t 4) (.k (.int .i64 2)), []⟩,
 ⟨(some 6), none, .mv (.t 5), []⟩,
 ⟨(some 7), (some (6, false)), .fa 0 (.t 1), []⟩,
 ⟨(some 8), (some (6, false)), .load none (.t 7), []⟩,
 ⟨(some 9), (some (6, false)), .eq false (.sc [.int .i64] false) (.t 8) (.k (.int .i64 3)), []⟩,
 ⟨(some 10), none, .pick (.t 6) (.k (.bool true)) (.t 9), []⟩,
 ⟨(some 2), none, .mv (.t 10), []⟩])
 .ret))⟩

/-- enthymeme/value.place -/
def c206 : Am.Fn := ⟨11, [.tmp 4, .tmp 5],
 (.seq (.reg [⟨(some 4), none, .mv (.k (.int .i64 0)), []⟩,
 ⟨(some 5), none, .mv (.k (.bool false)), []⟩])
 (.seq (.reg [⟨(some 6), none, .mv (.t 0), []⟩,
 ⟨(some 7), none, .mv (.t 1), []⟩,
 ⟨(some 8), none, .call 246 [(.t 6), (.t 7), (.k (.fn 247 []))], []⟩,
 ⟨(some 9), none, .ext (.t 8) 0, []⟩,
 ⟨(some 10), none, .ext (.t 8) 1, []⟩,
 ⟨(some 4), none, .mv (.t 9), []⟩,
 ⟨(some 5), none, .mv (.t 10), []⟩])
 .ret))⟩

/-- enthymeme/bits.operations$6 -/
def c237 : Am.Fn := ⟨12, [.tmp 5],
 (.seq (.reg [⟨(some 5), none, .mv (.k (.int .u64 0)), []⟩])
 (.seq (.seq (.reg [⟨(some 6), none, .mv (.t 1), []⟩,
 ⟨(some 7), none, .eq false (.sc [.int .u64] false) (.t 6) (.k (.int .u64 0)), []⟩])
 (.cond (.t 7)
 (.seq (.reg [⟨(some 8), none, .load none (.t 2), []⟩,
 ⟨(some 5), none, .mv (.t 8), []⟩])
 .ret)
 .skip))
 (.seq (.reg [⟨(some 9), none, .mv (.t 0), []⟩,
 ⟨(some 10), none, .mv (.t 1), []⟩,
 ⟨(some 11), none, .bin .quo (.t 9) (.t 10), []⟩,
 ⟨(some 5), none, .mv (.t 11), []⟩])
 .ret)))⟩

/-- slices.BinarySearchFunc[[]enthymeme/value.Entry,enthymeme/value.Entry,uint64] -/
def c246 : Am.Fn := ⟨49, [.tmp 6, .tmp 7],
 (.seq (.reg [⟨(some 6), none, .mv (.k (.int .i64 0)), []⟩,
 ⟨(some 7), none, .mv (.k (.bool false)), []⟩])
 (.seq (.reg [⟨(some 12), none, .mv (.t 0), []⟩,
 ⟨(some 13), none, .len (.t 12), []⟩,
 ⟨(some 8), none, .mv (.t 13), []⟩])
 (.seq (.reg [⟨(some 14), none, .mv (.t 8), []⟩,
 ⟨(some 9), none, .mv (.k (.int .i64 0)), []⟩,
 ⟨(some 10), none, .mv (.t 14), []⟩])
 (.seq (.block 0
 (.loop
 (.seq (.seq (.reg [⟨(some 15), none, .mv (.t 9), []⟩,
 ⟨(some 16), none, .mv (.t 10), []⟩,
 ⟨(some 17), none, .bin .lss (.t 15) (.t 16), []⟩])
 (.cond (.t 17)
 .skip
 (.exit 0)))
 (.block 1
 (.seq (.reg [⟨(some 18), none, .mv (.t 9), []⟩,
 ⟨(some 19), none, .mv (.t 10), []⟩,
 ⟨(some 20), none, .bin .add (.t 18) (.t 19), []⟩,
 ⟨(some 21), none, .conv (.int .u64) (.t 20), []⟩,
 ⟨(some 22), none, .bin .shr (.t 21) (.k (.int .u64 1)), []⟩,
 ⟨(some 23), none, .conv (.int .i64) (.t 22), []⟩,
 ⟨(some 11), none, .mv (.t 23), []⟩])
 (.seq (.reg [⟨(some 24), none, .mv (.t 2), []⟩,
 ⟨(some 25), none, .mv (.t 0), []⟩,
 ⟨(some 26), none, .mv (.t 11), []⟩,
 ⟨(some 27), none, .ia 3 (.t 25) (.t 26), []⟩,
 ⟨(some 28), none, .load (some 3) (.t 27), []⟩,
 ⟨(some 29), none, .mv (.t 1), []⟩,
 ⟨(some 30), none, .dyn false (.t 24) [(.t 28), (.t 29)], []⟩,
 ⟨(some 31), none, .bin .lss (.t 30) (.k (.int .i64 0)), []⟩])
 (.cond (.t 31)
 (.reg [⟨(some 32), none, .mv (.t 11), []⟩,
 ⟨(some 33), none, .bin .add (.t 32) (.k (.int .i64 1)), []⟩,
 ⟨(some 9), none, .mv (.t 33), []⟩])
 (.reg [⟨(some 34), none, .mv (.t 11), []⟩,
 ⟨(some 10), none, .mv (.t 34), []⟩]))))))))
 (.seq (.reg [⟨(some 35), none, .mv (.t 9), []⟩,
 ⟨(some 36), none, .mv (.t 9), []⟩,
 ⟨(some 37), none, .mv (.t 8), []⟩,
 ⟨(some 38), none, .bin .lss (.t 36) (.t 37), []⟩,
 ⟨(some 39), none, .mv (.t 38), []⟩,
 ⟨(some 40), (some (39, true)), .mv (.t 2), []⟩,
 ⟨(some 41), (some (39, true)), .mv (.t 0), []⟩,
 ⟨(some 42), (some (39, true)), .mv (.t 9), []⟩,
 ⟨(some 43), (some (39, true)), .ia 3 (.t 41) (.t 42), []⟩,
 ⟨(some 44), (some (39, true)), .load (some 3) (.t 43), []⟩,
 ⟨(some 45), (some (39, true)), .mv (.t 1), []⟩,
 ⟨(some 46), (some (39, true)), .dyn false (.t 40) [(.t 44), (.t 45)], []⟩,
 ⟨(some 47), (some (39, true)), .eq false (.sc [.int .i64] false) (.t 46) (.k (.int .i64 0)), []⟩,
 ⟨(some 48), none, .pick (.t 39) (.t 47) (.k (.bool false)), []⟩,
 ⟨(some 6), none, .mv (.t 35), []⟩,
 ⟨(some 7), none, .mv (.t 48), []⟩])
 .ret)))))⟩

/-- enthymeme/value.place$1 -/
def c247 : Am.Fn := ⟨9, [.tmp 4],
 (.seq (.reg [⟨(some 2), none, .box (.t 0), []⟩,
 ⟨(some 4), none, .mv (.k (.int .i64 0)), []⟩])
 (.seq (.reg [⟨(some 5), none, .fa 0 (.t 2), []⟩,
 ⟨(some 6), none, .load none (.t 5), []⟩,
 ⟨(some 7), none, .mv (.t 1), []⟩,
 ⟨(some 8), none, .call 61 [(.t 6), (.t 7)], []⟩,
 ⟨(some 4), none, .mv (.t 8), []⟩])
 .ret))⟩


def tbl : List (FuncId × Am.Fn) := [(5, c5), (7, c7), (8, c8), (12, c12), (17, c17), (18, c18), (19, c19), (21, c21), (22, c22), (26, c26), (27, c27), (28, c28), (29, c29), (30, c30), (36, c36), (37, c37), (38, c38), (39, c39), (40, c40), (41, c41), (47, c47), (58, c58), (59, c59), (60, c60), (61, c61), (62, c62), (63, c63), (64, c64), (69, c69), (70, c70), (71, c71), (72, c72), (74, c74), (75, c75), (76, c76), (77, c77), (120, c120), (121, c121), (122, c122), (125, c125), (128, c128), (129, c129), (130, c130), (131, c131), (133, c133), (138, c138), (139, c139), (140, c140), (141, c141), (150, c150), (151, c151), (152, c152), (153, c153), (154, c154), (155, c155), (159, c159), (160, c160), (162, c162), (190, c190), (191, c191), (192, c192), (193, c193), (194, c194), (195, c195), (196, c196), (198, c198), (199, c199), (200, c200), (201, c201), (202, c202), (203, c203), (205, c205), (206, c206), (237, c237), (246, c246), (247, c247)]

/-- strings.Index and strings.Replace, where lives() calls them. -/
def ix161 : List V → Option V
 | [.str s, .str t] => if s = [97, 98, 97] then (if t = [98] then some (.int .i64 1) else if t = [99] then some (.int .i64 (-1)) else none) else none
 | _ => none
def rp163 : List V → Option V
 | [.str s, .str t, .str u, .int .i64 n] => if s = [97, 98, 97] ∧ t = [97] ∧ u = [99, 99] ∧ n = 1 then some (.str [99, 99, 98, 97]) else none
 | _ => none
def ext (f : FuncId) : Option (List V → Option V) := if f = 161 then some ix161 else if f = 163 then some rp163 else none

def look : List (FuncId × Am.Fn) → FuncId → Option Am.Fn
 | [], _ => none
 | (g, c) :: r, f => match f == g with
 | true => some c
 | false => look r f
def E : Env := { code := look tbl, inl := inl, ext := ext }
end Ea
end Go.Proofs
