/- Closed facts on the types and functions of this seat, each by the kernel; printed by a program. Conditions: none. -/
import Derived.Test.YtmgleeoecdodjaaV8
import Derived.Test.YtmgleeoecdodjaaProg
set_option maxRecDepth 100000
namespace Go.Proofs.Ytmgleeoecdodjaa.Sh
open Go Go.V
set_option linter.unusedSimpArgs false
theorem beq_dec {α : Type} [DecidableEq α] [BEq α] [LawfulBEq α] (a b : α) : (a == b) = decide (a = b) := by by_cases h : a = b <;> simp [h]
theorem size1 : sizeB Try.prog 1 1 = true := by kernel_rfl
theorem one1 : oneB Try.prog 1 = true := by kernel_rfl
theorem zero1 : zeroOf Try.prog 1 = some [.nilFunc] := by kernel_rfl
theorem size2 : sizeB Try.prog 2 1 = true := by kernel_rfl
theorem one2 : oneB Try.prog 2 = true := by kernel_rfl
theorem zero2 : zeroOf Try.prog 2 = some [.int .i64 0] := by kernel_rfl
theorem size3 : sizeB Try.prog 3 1 = true := by kernel_rfl
theorem one3 : oneB Try.prog 3 = true := by kernel_rfl
theorem zero3 : zeroOf Try.prog 3 = some [.int .i64 0] := by kernel_rfl
theorem size4 : sizeB Try.prog 4 1 = true := by kernel_rfl
theorem one4 : oneB Try.prog 4 = true := by kernel_rfl
theorem zero4 : zeroOf Try.prog 4 = some [.bool false] := by kernel_rfl
theorem size5 : sizeB Try.prog 5 1 = true := by kernel_rfl
theorem one5 : oneB Try.prog 5 = true := by kernel_rfl
theorem zero5 : zeroOf Try.prog 5 = some [.int .u8 0] := by kernel_rfl
theorem size6 : sizeB Try.prog 6 1 = true := by kernel_rfl
theorem one6 : oneB Try.prog 6 = true := by kernel_rfl
theorem zero6 : zeroOf Try.prog 6 = some [.int .u8 0] := by kernel_rfl
theorem size7 : sizeB Try.prog 7 4 = true := by kernel_rfl
theorem agg7 : aggB Try.prog 7 4 = true := by kernel_rfl
theorem fld7_0 : fieldB Try.prog 7 0 0 = true := by kernel_rfl
theorem fld7_1 : fieldB Try.prog 7 1 1 = true := by kernel_rfl
theorem fld7_2 : fieldB Try.prog 7 2 2 = true := by kernel_rfl
theorem fld7_3 : fieldB Try.prog 7 3 3 = true := by kernel_rfl
theorem zero7 : zeroOf Try.prog 7 = some [.int .i64 0, .int .i64 0, .bool false, .int .u8 0] := by kernel_rfl
theorem size8 : sizeB Try.prog 8 4 = true := by kernel_rfl
theorem agg8 : aggB Try.prog 8 4 = true := by kernel_rfl
theorem fld8_0 : fieldB Try.prog 8 0 0 = true := by kernel_rfl
theorem fld8_1 : fieldB Try.prog 8 1 1 = true := by kernel_rfl
theorem fld8_2 : fieldB Try.prog 8 2 2 = true := by kernel_rfl
theorem fld8_3 : fieldB Try.prog 8 3 3 = true := by kernel_rfl
theorem zero8 : zeroOf Try.prog 8 = some [.int .i64 0, .int .i64 0, .bool false, .int .u8 0] := by kernel_rfl
theorem size9 : sizeB Try.prog 9 1 = true := by kernel_rfl
theorem one9 : oneB Try.prog 9 = true := by kernel_rfl
theorem zero9 : zeroOf Try.prog 9 = some [.string ByteArray.empty] := by kernel_rfl
theorem size10 : sizeB Try.prog 10 1 = true := by kernel_rfl
theorem one10 : oneB Try.prog 10 = true := by kernel_rfl
theorem zero10 : zeroOf Try.prog 10 = some [.string ByteArray.empty] := by kernel_rfl
theorem size11 : sizeB Try.prog 11 1 = true := by kernel_rfl
theorem one11 : oneB Try.prog 11 = true := by kernel_rfl
theorem zero11 : zeroOf Try.prog 11 = some [.string ByteArray.empty] := by kernel_rfl
theorem size12 : sizeB Try.prog 12 1 = true := by kernel_rfl
theorem one12 : oneB Try.prog 12 = true := by kernel_rfl
theorem zero12 : zeroOf Try.prog 12 = some [.int .u64 0] := by kernel_rfl
theorem size13 : sizeB Try.prog 13 2 = true := by kernel_rfl
theorem agg13 : aggB Try.prog 13 2 = true := by kernel_rfl
theorem fld13_0 : fieldB Try.prog 13 0 0 = true := by kernel_rfl
theorem fld13_1 : fieldB Try.prog 13 1 1 = true := by kernel_rfl
theorem zero13 : zeroOf Try.prog 13 = some [.string ByteArray.empty, .int .u64 0] := by kernel_rfl
theorem size14 : sizeB Try.prog 14 2 = true := by kernel_rfl
theorem agg14 : aggB Try.prog 14 2 = true := by kernel_rfl
theorem fld14_0 : fieldB Try.prog 14 0 0 = true := by kernel_rfl
theorem fld14_1 : fieldB Try.prog 14 1 1 = true := by kernel_rfl
theorem zero14 : zeroOf Try.prog 14 = some [.string ByteArray.empty, .int .u64 0] := by kernel_rfl
theorem size15 : sizeB Try.prog 15 1 = true := by kernel_rfl
theorem one15 : oneB Try.prog 15 = true := by kernel_rfl
theorem zero15 : zeroOf Try.prog 15 = some [.pointer none] := by kernel_rfl
theorem size16 : sizeB Try.prog 16 1 = true := by kernel_rfl
theorem one16 : oneB Try.prog 16 = true := by kernel_rfl
theorem zero16 : zeroOf Try.prog 16 = some [.pointer none] := by kernel_rfl
theorem size17 : sizeB Try.prog 17 1 = true := by kernel_rfl
theorem one17 : oneB Try.prog 17 = true := by kernel_rfl
theorem zero17 : zeroOf Try.prog 17 = some [.pointer none] := by kernel_rfl
theorem size18 : sizeB Try.prog 18 1 = true := by kernel_rfl
theorem agg18 : aggB Try.prog 18 1 = true := by kernel_rfl
theorem fld18_0 : fieldB Try.prog 18 0 0 = true := by kernel_rfl
theorem zero18 : zeroOf Try.prog 18 = some [.pointer none] := by kernel_rfl
theorem size19 : sizeB Try.prog 19 1 = true := by kernel_rfl
theorem agg19 : aggB Try.prog 19 1 = true := by kernel_rfl
theorem fld19_0 : fieldB Try.prog 19 0 0 = true := by kernel_rfl
theorem zero19 : zeroOf Try.prog 19 = some [.pointer none] := by kernel_rfl
theorem size20 : sizeB Try.prog 20 1 = true := by kernel_rfl
theorem one20 : oneB Try.prog 20 = true := by kernel_rfl
theorem zero20 : zeroOf Try.prog 20 = some [.nilIface] := by kernel_rfl
theorem size21 : sizeB Try.prog 21 1 = true := by kernel_rfl
theorem one21 : oneB Try.prog 21 = true := by kernel_rfl
theorem zero21 : zeroOf Try.prog 21 = some [.int .i32 0] := by kernel_rfl
theorem size22 : sizeB Try.prog 22 2 = true := by kernel_rfl
theorem agg22 : aggB Try.prog 22 2 = true := by kernel_rfl
theorem fld22_0 : fieldB Try.prog 22 0 0 = true := by kernel_rfl
theorem fld22_1 : fieldB Try.prog 22 1 1 = true := by kernel_rfl
theorem zero22 : zeroOf Try.prog 22 = some [.int .i64 0, .int .i64 0] := by kernel_rfl
theorem size23 : sizeB Try.prog 23 2 = true := by kernel_rfl
theorem agg23 : aggB Try.prog 23 2 = true := by kernel_rfl
theorem fld23_0 : fieldB Try.prog 23 0 0 = true := by kernel_rfl
theorem fld23_1 : fieldB Try.prog 23 1 1 = true := by kernel_rfl
theorem zero23 : zeroOf Try.prog 23 = some [.int .i64 0, .int .i64 0] := by kernel_rfl
theorem size24 : sizeB Try.prog 24 3 = true := by kernel_rfl
theorem agg24 : aggB Try.prog 24 3 = true := by kernel_rfl
theorem fld24_0 : fieldB Try.prog 24 0 0 = true := by kernel_rfl
theorem fld24_1 : fieldB Try.prog 24 1 2 = true := by kernel_rfl
theorem zero24 : zeroOf Try.prog 24 = some [.int .i64 0, .int .i64 0, .string ByteArray.empty] := by kernel_rfl
theorem size25 : sizeB Try.prog 25 3 = true := by kernel_rfl
theorem agg25 : aggB Try.prog 25 3 = true := by kernel_rfl
theorem fld25_0 : fieldB Try.prog 25 0 0 = true := by kernel_rfl
theorem fld25_1 : fieldB Try.prog 25 1 2 = true := by kernel_rfl
theorem zero25 : zeroOf Try.prog 25 = some [.int .i64 0, .int .i64 0, .string ByteArray.empty] := by kernel_rfl
theorem size26 : sizeB Try.prog 26 1 = true := by kernel_rfl
theorem one26 : oneB Try.prog 26 = true := by kernel_rfl
theorem zero26 : zeroOf Try.prog 26 = some [.slice none 0 0] := by kernel_rfl
theorem sl26 : SlT Try.prog 26 9 1 16 := SlT.of (by kernel_rfl)
theorem size27 : sizeB Try.prog 27 3 = true := by kernel_rfl
theorem agg27 : aggB Try.prog 27 3 = true := by kernel_rfl
theorem fld27_0 : fieldB Try.prog 27 0 0 = true := by kernel_rfl
theorem fld27_1 : fieldB Try.prog 27 1 2 = true := by kernel_rfl
theorem zero27 : zeroOf Try.prog 27 = some [.int .i64 0, .int .i64 0, .slice none 0 0] := by kernel_rfl
theorem size28 : sizeB Try.prog 28 3 = true := by kernel_rfl
theorem agg28 : aggB Try.prog 28 3 = true := by kernel_rfl
theorem fld28_0 : fieldB Try.prog 28 0 0 = true := by kernel_rfl
theorem fld28_1 : fieldB Try.prog 28 1 2 = true := by kernel_rfl
theorem zero28 : zeroOf Try.prog 28 = some [.int .i64 0, .int .i64 0, .slice none 0 0] := by kernel_rfl
theorem size29 : sizeB Try.prog 29 1 = true := by kernel_rfl
theorem one29 : oneB Try.prog 29 = true := by kernel_rfl
theorem zero29 : zeroOf Try.prog 29 = some [.slice none 0 0] := by kernel_rfl
theorem sl29 : SlT Try.prog 29 62 8 88 := SlT.of (by kernel_rfl)
theorem size30 : sizeB Try.prog 30 1 = true := by kernel_rfl
theorem one30 : oneB Try.prog 30 = true := by kernel_rfl
theorem zero30 : zeroOf Try.prog 30 = some [.slice none 0 0] := by kernel_rfl
theorem sl30 : SlT Try.prog 30 79 6 64 := SlT.of (by kernel_rfl)
theorem size31 : sizeB Try.prog 31 9 = true := by kernel_rfl
theorem agg31 : aggB Try.prog 31 9 = true := by kernel_rfl
theorem fld31_0 : fieldB Try.prog 31 0 0 = true := by kernel_rfl
theorem fld31_1 : fieldB Try.prog 31 1 1 = true := by kernel_rfl
theorem fld31_2 : fieldB Try.prog 31 2 4 = true := by kernel_rfl
theorem fld31_3 : fieldB Try.prog 31 3 7 = true := by kernel_rfl
theorem fld31_4 : fieldB Try.prog 31 4 8 = true := by kernel_rfl
theorem zero31 : zeroOf Try.prog 31 = some [.bool false, .int .i64 0, .int .i64 0, .string ByteArray.empty, .int .i64 0, .int .i64 0, .slice none 0 0, .slice none 0 0, .slice none 0 0] := by kernel_rfl
theorem size32 : sizeB Try.prog 32 9 = true := by kernel_rfl
theorem agg32 : aggB Try.prog 32 9 = true := by kernel_rfl
theorem fld32_0 : fieldB Try.prog 32 0 0 = true := by kernel_rfl
theorem fld32_1 : fieldB Try.prog 32 1 1 = true := by kernel_rfl
theorem fld32_2 : fieldB Try.prog 32 2 4 = true := by kernel_rfl
theorem fld32_3 : fieldB Try.prog 32 3 7 = true := by kernel_rfl
theorem fld32_4 : fieldB Try.prog 32 4 8 = true := by kernel_rfl
theorem zero32 : zeroOf Try.prog 32 = some [.bool false, .int .i64 0, .int .i64 0, .string ByteArray.empty, .int .i64 0, .int .i64 0, .slice none 0 0, .slice none 0 0, .slice none 0 0] := by kernel_rfl
theorem size33 : sizeB Try.prog 33 1 = true := by kernel_rfl
theorem one33 : oneB Try.prog 33 = true := by kernel_rfl
theorem zero33 : zeroOf Try.prog 33 = some [.nilFunc] := by kernel_rfl
theorem size34 : sizeB Try.prog 34 1 = true := by kernel_rfl
theorem one34 : oneB Try.prog 34 = true := by kernel_rfl
theorem zero34 : zeroOf Try.prog 34 = some [.slice none 0 0] := by kernel_rfl
theorem sl34 : SlT Try.prog 34 70 1 16 := SlT.of (by kernel_rfl)
theorem size35 : sizeB Try.prog 35 1 = true := by kernel_rfl
theorem one35 : oneB Try.prog 35 = true := by kernel_rfl
theorem zero35 : zeroOf Try.prog 35 = some [.nilFunc] := by kernel_rfl
theorem size36 : sizeB Try.prog 36 1 = true := by kernel_rfl
theorem one36 : oneB Try.prog 36 = true := by kernel_rfl
theorem zero36 : zeroOf Try.prog 36 = some [.nilFunc] := by kernel_rfl
theorem size37 : sizeB Try.prog 37 1 = true := by kernel_rfl
theorem one37 : oneB Try.prog 37 = true := by kernel_rfl
theorem zero37 : zeroOf Try.prog 37 = some [.nilFunc] := by kernel_rfl
theorem size38 : sizeB Try.prog 38 1 = true := by kernel_rfl
theorem one38 : oneB Try.prog 38 = true := by kernel_rfl
theorem zero38 : zeroOf Try.prog 38 = some [.slice none 0 0] := by kernel_rfl
theorem sl38 : SlT Try.prog 38 127 1 24 := SlT.of (by kernel_rfl)
theorem size39 : sizeB Try.prog 39 1 = true := by kernel_rfl
theorem one39 : oneB Try.prog 39 = true := by kernel_rfl
theorem zero39 : zeroOf Try.prog 39 = some [.slice none 0 0] := by kernel_rfl
theorem sl39 : SlT Try.prog 39 26 1 24 := SlT.of (by kernel_rfl)
theorem size40 : sizeB Try.prog 40 1 = true := by kernel_rfl
theorem one40 : oneB Try.prog 40 = true := by kernel_rfl
theorem zero40 : zeroOf Try.prog 40 = some [.slice none 0 0] := by kernel_rfl
theorem sl40 : SlT Try.prog 40 81 1 24 := SlT.of (by kernel_rfl)
theorem size41 : sizeB Try.prog 41 1 = true := by kernel_rfl
theorem one41 : oneB Try.prog 41 = true := by kernel_rfl
theorem zero41 : zeroOf Try.prog 41 = some [.slice none 0 0] := by kernel_rfl
theorem sl41 : SlT Try.prog 41 131 1 24 := SlT.of (by kernel_rfl)
theorem size42 : sizeB Try.prog 42 1 = true := by kernel_rfl
theorem one42 : oneB Try.prog 42 = true := by kernel_rfl
theorem zero42 : zeroOf Try.prog 42 = some [.slice none 0 0] := by kernel_rfl
theorem sl42 : SlT Try.prog 42 133 1 24 := SlT.of (by kernel_rfl)
theorem size43 : sizeB Try.prog 43 1 = true := by kernel_rfl
theorem one43 : oneB Try.prog 43 = true := by kernel_rfl
theorem zero43 : zeroOf Try.prog 43 = some [.slice none 0 0] := by kernel_rfl
theorem sl43 : SlT Try.prog 43 77 1 24 := SlT.of (by kernel_rfl)
theorem size44 : sizeB Try.prog 44 1 = true := by kernel_rfl
theorem one44 : oneB Try.prog 44 = true := by kernel_rfl
theorem zero44 : zeroOf Try.prog 44 = some [.slice none 0 0] := by kernel_rfl
theorem sl44 : SlT Try.prog 44 138 1 24 := SlT.of (by kernel_rfl)
theorem size45 : sizeB Try.prog 45 1 = true := by kernel_rfl
theorem one45 : oneB Try.prog 45 = true := by kernel_rfl
theorem zero45 : zeroOf Try.prog 45 = some [.slice none 0 0] := by kernel_rfl
theorem sl45 : SlT Try.prog 45 142 1 24 := SlT.of (by kernel_rfl)
theorem size46 : sizeB Try.prog 46 1 = true := by kernel_rfl
theorem one46 : oneB Try.prog 46 = true := by kernel_rfl
theorem zero46 : zeroOf Try.prog 46 = some [.slice none 0 0] := by kernel_rfl
theorem sl46 : SlT Try.prog 46 146 1 24 := SlT.of (by kernel_rfl)
theorem size47 : sizeB Try.prog 47 1 = true := by kernel_rfl
theorem one47 : oneB Try.prog 47 = true := by kernel_rfl
theorem zero47 : zeroOf Try.prog 47 = some [.slice none 0 0] := by kernel_rfl
theorem sl47 : SlT Try.prog 47 150 1 24 := SlT.of (by kernel_rfl)
theorem size48 : sizeB Try.prog 48 1 = true := by kernel_rfl
theorem one48 : oneB Try.prog 48 = true := by kernel_rfl
theorem zero48 : zeroOf Try.prog 48 = some [.slice none 0 0] := by kernel_rfl
theorem sl48 : SlT Try.prog 48 60 1 24 := SlT.of (by kernel_rfl)
theorem size49 : sizeB Try.prog 49 1 = true := by kernel_rfl
theorem one49 : oneB Try.prog 49 = true := by kernel_rfl
theorem zero49 : zeroOf Try.prog 49 = some [.slice none 0 0] := by kernel_rfl
theorem sl49 : SlT Try.prog 49 29 1 24 := SlT.of (by kernel_rfl)
theorem size50 : sizeB Try.prog 50 1 = true := by kernel_rfl
theorem one50 : oneB Try.prog 50 = true := by kernel_rfl
theorem zero50 : zeroOf Try.prog 50 = some [.slice none 0 0] := by kernel_rfl
theorem sl50 : SlT Try.prog 50 30 1 24 := SlT.of (by kernel_rfl)
theorem size51 : sizeB Try.prog 51 1 = true := by kernel_rfl
theorem one51 : oneB Try.prog 51 = true := by kernel_rfl
theorem zero51 : zeroOf Try.prog 51 = some [.slice none 0 0] := by kernel_rfl
theorem sl51 : SlT Try.prog 51 151 1 24 := SlT.of (by kernel_rfl)
theorem size52 : sizeB Try.prog 52 1 = true := by kernel_rfl
theorem one52 : oneB Try.prog 52 = true := by kernel_rfl
theorem zero52 : zeroOf Try.prog 52 = some [.slice none 0 0] := by kernel_rfl
theorem sl52 : SlT Try.prog 52 154 1 24 := SlT.of (by kernel_rfl)
theorem size53 : sizeB Try.prog 53 15 = true := by kernel_rfl
theorem agg53 : aggB Try.prog 53 15 = true := by kernel_rfl
theorem fld53_0 : fieldB Try.prog 53 0 0 = true := by kernel_rfl
theorem fld53_1 : fieldB Try.prog 53 1 1 = true := by kernel_rfl
theorem fld53_2 : fieldB Try.prog 53 2 2 = true := by kernel_rfl
theorem fld53_3 : fieldB Try.prog 53 3 3 = true := by kernel_rfl
theorem fld53_4 : fieldB Try.prog 53 4 4 = true := by kernel_rfl
theorem fld53_5 : fieldB Try.prog 53 5 5 = true := by kernel_rfl
theorem fld53_6 : fieldB Try.prog 53 6 6 = true := by kernel_rfl
theorem fld53_7 : fieldB Try.prog 53 7 7 = true := by kernel_rfl
theorem fld53_8 : fieldB Try.prog 53 8 8 = true := by kernel_rfl
theorem fld53_9 : fieldB Try.prog 53 9 9 = true := by kernel_rfl
theorem fld53_10 : fieldB Try.prog 53 10 10 = true := by kernel_rfl
theorem fld53_11 : fieldB Try.prog 53 11 11 = true := by kernel_rfl
theorem fld53_12 : fieldB Try.prog 53 12 12 = true := by kernel_rfl
theorem fld53_13 : fieldB Try.prog 53 13 13 = true := by kernel_rfl
theorem fld53_14 : fieldB Try.prog 53 14 14 = true := by kernel_rfl
theorem zero53 : zeroOf Try.prog 53 = some [.slice none 0 0, .slice none 0 0, .slice none 0 0, .slice none 0 0, .slice none 0 0, .slice none 0 0, .slice none 0 0, .slice none 0 0, .slice none 0 0, .slice none 0 0, .slice none 0 0, .slice none 0 0, .slice none 0 0, .slice none 0 0, .slice none 0 0] := by kernel_rfl
theorem size54 : sizeB Try.prog 54 15 = true := by kernel_rfl
theorem agg54 : aggB Try.prog 54 15 = true := by kernel_rfl
theorem fld54_0 : fieldB Try.prog 54 0 0 = true := by kernel_rfl
theorem fld54_1 : fieldB Try.prog 54 1 1 = true := by kernel_rfl
theorem fld54_2 : fieldB Try.prog 54 2 2 = true := by kernel_rfl
theorem fld54_3 : fieldB Try.prog 54 3 3 = true := by kernel_rfl
theorem fld54_4 : fieldB Try.prog 54 4 4 = true := by kernel_rfl
theorem fld54_5 : fieldB Try.prog 54 5 5 = true := by kernel_rfl
theorem fld54_6 : fieldB Try.prog 54 6 6 = true := by kernel_rfl
theorem fld54_7 : fieldB Try.prog 54 7 7 = true := by kernel_rfl
theorem fld54_8 : fieldB Try.prog 54 8 8 = true := by kernel_rfl
theorem fld54_9 : fieldB Try.prog 54 9 9 = true := by kernel_rfl
theorem fld54_10 : fieldB Try.prog 54 10 10 = true := by kernel_rfl
theorem fld54_11 : fieldB Try.prog 54 11 11 = true := by kernel_rfl
theorem fld54_12 : fieldB Try.prog 54 12 12 = true := by kernel_rfl
theorem fld54_13 : fieldB Try.prog 54 13 13 = true := by kernel_rfl
theorem fld54_14 : fieldB Try.prog 54 14 14 = true := by kernel_rfl
theorem zero54 : zeroOf Try.prog 54 = some [.slice none 0 0, .slice none 0 0, .slice none 0 0, .slice none 0 0, .slice none 0 0, .slice none 0 0, .slice none 0 0, .slice none 0 0, .slice none 0 0, .slice none 0 0, .slice none 0 0, .slice none 0 0, .slice none 0 0, .slice none 0 0, .slice none 0 0] := by kernel_rfl
theorem size55 : sizeB Try.prog 55 1 = true := by kernel_rfl
theorem one55 : oneB Try.prog 55 = true := by kernel_rfl
theorem zero55 : zeroOf Try.prog 55 = some [.nilFunc] := by kernel_rfl
theorem size56 : sizeB Try.prog 56 1 = true := by kernel_rfl
theorem one56 : oneB Try.prog 56 = true := by kernel_rfl
theorem zero56 : zeroOf Try.prog 56 = some [.pointer none] := by kernel_rfl
theorem size57 : sizeB Try.prog 57 1 = true := by kernel_rfl
theorem one57 : oneB Try.prog 57 = true := by kernel_rfl
theorem zero57 : zeroOf Try.prog 57 = some [.nilFunc] := by kernel_rfl
theorem size58 : sizeB Try.prog 58 1 = true := by kernel_rfl
theorem one58 : oneB Try.prog 58 = true := by kernel_rfl
theorem zero58 : zeroOf Try.prog 58 = some [.nilFunc] := by kernel_rfl
theorem size59 : sizeB Try.prog 59 1 = true := by kernel_rfl
theorem one59 : oneB Try.prog 59 = true := by kernel_rfl
theorem zero59 : zeroOf Try.prog 59 = some [.int .u32 0] := by kernel_rfl
theorem size60 : sizeB Try.prog 60 1 = true := by kernel_rfl
theorem one60 : oneB Try.prog 60 = true := by kernel_rfl
theorem zero60 : zeroOf Try.prog 60 = some [.slice none 0 0] := by kernel_rfl
theorem sl60 : SlT Try.prog 60 119 19 176 := SlT.of (by kernel_rfl)
theorem size61 : sizeB Try.prog 61 8 = true := by kernel_rfl
theorem agg61 : aggB Try.prog 61 8 = true := by kernel_rfl
theorem fld61_0 : fieldB Try.prog 61 0 0 = true := by kernel_rfl
theorem fld61_1 : fieldB Try.prog 61 1 2 = true := by kernel_rfl
theorem fld61_2 : fieldB Try.prog 61 2 3 = true := by kernel_rfl
theorem fld61_3 : fieldB Try.prog 61 3 4 = true := by kernel_rfl
theorem fld61_4 : fieldB Try.prog 61 4 5 = true := by kernel_rfl
theorem fld61_5 : fieldB Try.prog 61 5 6 = true := by kernel_rfl
theorem fld61_6 : fieldB Try.prog 61 6 7 = true := by kernel_rfl
theorem zero61 : zeroOf Try.prog 61 = some [.int .i64 0, .int .i64 0, .int .u32 0, .bool false, .string ByteArray.empty, .int .i64 0, .string ByteArray.empty, .slice none 0 0] := by kernel_rfl
theorem size62 : sizeB Try.prog 62 8 = true := by kernel_rfl
theorem agg62 : aggB Try.prog 62 8 = true := by kernel_rfl
theorem fld62_0 : fieldB Try.prog 62 0 0 = true := by kernel_rfl
theorem fld62_1 : fieldB Try.prog 62 1 2 = true := by kernel_rfl
theorem fld62_2 : fieldB Try.prog 62 2 3 = true := by kernel_rfl
theorem fld62_3 : fieldB Try.prog 62 3 4 = true := by kernel_rfl
theorem fld62_4 : fieldB Try.prog 62 4 5 = true := by kernel_rfl
theorem fld62_5 : fieldB Try.prog 62 5 6 = true := by kernel_rfl
theorem fld62_6 : fieldB Try.prog 62 6 7 = true := by kernel_rfl
theorem zero62 : zeroOf Try.prog 62 = some [.int .i64 0, .int .i64 0, .int .u32 0, .bool false, .string ByteArray.empty, .int .i64 0, .string ByteArray.empty, .slice none 0 0] := by kernel_rfl
theorem size64 : sizeB Try.prog 64 1 = true := by kernel_rfl
theorem one64 : oneB Try.prog 64 = true := by kernel_rfl
theorem zero64 : zeroOf Try.prog 64 = some [.nilFunc] := by kernel_rfl
theorem size65 : sizeB Try.prog 65 1 = true := by kernel_rfl
theorem one65 : oneB Try.prog 65 = true := by kernel_rfl
theorem zero65 : zeroOf Try.prog 65 = some [.nilFunc] := by kernel_rfl
theorem size66 : sizeB Try.prog 66 1 = true := by kernel_rfl
theorem one66 : oneB Try.prog 66 = true := by kernel_rfl
theorem zero66 : zeroOf Try.prog 66 = some [.nilFunc] := by kernel_rfl
theorem size67 : sizeB Try.prog 67 1 = true := by kernel_rfl
theorem one67 : oneB Try.prog 67 = true := by kernel_rfl
theorem zero67 : zeroOf Try.prog 67 = some [.nilFunc] := by kernel_rfl
theorem size68 : sizeB Try.prog 68 1 = true := by kernel_rfl
theorem one68 : oneB Try.prog 68 = true := by kernel_rfl
theorem zero68 : zeroOf Try.prog 68 = some [.nilFunc] := by kernel_rfl
theorem size69 : sizeB Try.prog 69 1 = true := by kernel_rfl
theorem one69 : oneB Try.prog 69 = true := by kernel_rfl
theorem zero69 : zeroOf Try.prog 69 = some [.nilIface] := by kernel_rfl
theorem size70 : sizeB Try.prog 70 1 = true := by kernel_rfl
theorem one70 : oneB Try.prog 70 = true := by kernel_rfl
theorem zero70 : zeroOf Try.prog 70 = some [.nilIface] := by kernel_rfl
theorem size71 : sizeB Try.prog 71 1 = true := by kernel_rfl
theorem one71 : oneB Try.prog 71 = true := by kernel_rfl
theorem zero71 : zeroOf Try.prog 71 = some [.nilFunc] := by kernel_rfl
theorem size72 : sizeB Try.prog 72 1 = true := by kernel_rfl
theorem one72 : oneB Try.prog 72 = true := by kernel_rfl
theorem zero72 : zeroOf Try.prog 72 = some [.nilFunc] := by kernel_rfl
theorem size73 : sizeB Try.prog 73 1 = true := by kernel_rfl
theorem one73 : oneB Try.prog 73 = true := by kernel_rfl
theorem zero73 : zeroOf Try.prog 73 = some [.nilFunc] := by kernel_rfl
theorem size74 : sizeB Try.prog 74 1 = true := by kernel_rfl
theorem one74 : oneB Try.prog 74 = true := by kernel_rfl
theorem zero74 : zeroOf Try.prog 74 = some [.nilFunc] := by kernel_rfl
theorem size75 : sizeB Try.prog 75 1 = true := by kernel_rfl
theorem one75 : oneB Try.prog 75 = true := by kernel_rfl
theorem zero75 : zeroOf Try.prog 75 = some [.nilFunc] := by kernel_rfl
theorem size76 : sizeB Try.prog 76 1 = true := by kernel_rfl
theorem one76 : oneB Try.prog 76 = true := by kernel_rfl
theorem zero76 : zeroOf Try.prog 76 = some [.nilFunc] := by kernel_rfl
theorem size77 : sizeB Try.prog 77 1 = true := by kernel_rfl
theorem one77 : oneB Try.prog 77 = true := by kernel_rfl
theorem zero77 : zeroOf Try.prog 77 = some [.slice none 0 0] := by kernel_rfl
theorem sl77 : SlT Try.prog 77 122 2 24 := SlT.of (by kernel_rfl)
theorem size78 : sizeB Try.prog 78 6 = true := by kernel_rfl
theorem agg78 : aggB Try.prog 78 6 = true := by kernel_rfl
theorem fld78_0 : fieldB Try.prog 78 0 0 = true := by kernel_rfl
theorem fld78_1 : fieldB Try.prog 78 1 2 = true := by kernel_rfl
theorem fld78_2 : fieldB Try.prog 78 2 3 = true := by kernel_rfl
theorem fld78_3 : fieldB Try.prog 78 3 4 = true := by kernel_rfl
theorem fld78_4 : fieldB Try.prog 78 4 5 = true := by kernel_rfl
theorem zero78 : zeroOf Try.prog 78 = some [.int .i64 0, .int .i64 0, .int .u32 0, .bool false, .string ByteArray.empty, .slice none 0 0] := by kernel_rfl
theorem size79 : sizeB Try.prog 79 6 = true := by kernel_rfl
theorem agg79 : aggB Try.prog 79 6 = true := by kernel_rfl
theorem fld79_0 : fieldB Try.prog 79 0 0 = true := by kernel_rfl
theorem fld79_1 : fieldB Try.prog 79 1 2 = true := by kernel_rfl
theorem fld79_2 : fieldB Try.prog 79 2 3 = true := by kernel_rfl
theorem fld79_3 : fieldB Try.prog 79 3 4 = true := by kernel_rfl
theorem fld79_4 : fieldB Try.prog 79 4 5 = true := by kernel_rfl
theorem zero79 : zeroOf Try.prog 79 = some [.int .i64 0, .int .i64 0, .int .u32 0, .bool false, .string ByteArray.empty, .slice none 0 0] := by kernel_rfl
theorem size80 : sizeB Try.prog 80 1 = true := by kernel_rfl
theorem one80 : oneB Try.prog 80 = true := by kernel_rfl
theorem zero80 : zeroOf Try.prog 80 = some [.nilFunc] := by kernel_rfl
theorem size81 : sizeB Try.prog 81 1 = true := by kernel_rfl
theorem one81 : oneB Try.prog 81 = true := by kernel_rfl
theorem zero81 : zeroOf Try.prog 81 = some [.slice none 0 0] := by kernel_rfl
theorem sl81 : SlT Try.prog 81 3 1 8 := SlT.of (by kernel_rfl)
theorem size82 : sizeB Try.prog 82 1 = true := by kernel_rfl
theorem one82 : oneB Try.prog 82 = true := by kernel_rfl
theorem zero82 : zeroOf Try.prog 82 = some [.nilFunc] := by kernel_rfl
theorem size86 : sizeB Try.prog 86 1 = true := by kernel_rfl
theorem one86 : oneB Try.prog 86 = true := by kernel_rfl
theorem zero86 : zeroOf Try.prog 86 = some [.nilFunc] := by kernel_rfl
theorem size87 : sizeB Try.prog 87 1 = true := by kernel_rfl
theorem one87 : oneB Try.prog 87 = true := by kernel_rfl
theorem zero87 : zeroOf Try.prog 87 = some [.nilFunc] := by kernel_rfl
theorem size88 : sizeB Try.prog 88 1 = true := by kernel_rfl
theorem one88 : oneB Try.prog 88 = true := by kernel_rfl
theorem zero88 : zeroOf Try.prog 88 = some [.nilFunc] := by kernel_rfl
theorem size89 : sizeB Try.prog 89 1 = true := by kernel_rfl
theorem one89 : oneB Try.prog 89 = true := by kernel_rfl
theorem zero89 : zeroOf Try.prog 89 = some [.nilFunc] := by kernel_rfl
theorem size90 : sizeB Try.prog 90 1 = true := by kernel_rfl
theorem one90 : oneB Try.prog 90 = true := by kernel_rfl
theorem zero90 : zeroOf Try.prog 90 = some [.nilFunc] := by kernel_rfl
theorem size91 : sizeB Try.prog 91 1 = true := by kernel_rfl
theorem one91 : oneB Try.prog 91 = true := by kernel_rfl
theorem zero91 : zeroOf Try.prog 91 = some [.nilFunc] := by kernel_rfl
theorem size92 : sizeB Try.prog 92 1 = true := by kernel_rfl
theorem one92 : oneB Try.prog 92 = true := by kernel_rfl
theorem zero92 : zeroOf Try.prog 92 = some [.nilFunc] := by kernel_rfl
theorem size93 : sizeB Try.prog 93 1 = true := by kernel_rfl
theorem one93 : oneB Try.prog 93 = true := by kernel_rfl
theorem zero93 : zeroOf Try.prog 93 = some [.nilFunc] := by kernel_rfl
theorem size94 : sizeB Try.prog 94 1 = true := by kernel_rfl
theorem one94 : oneB Try.prog 94 = true := by kernel_rfl
theorem zero94 : zeroOf Try.prog 94 = some [.nilFunc] := by kernel_rfl
theorem size95 : sizeB Try.prog 95 1 = true := by kernel_rfl
theorem one95 : oneB Try.prog 95 = true := by kernel_rfl
theorem zero95 : zeroOf Try.prog 95 = some [.nilFunc] := by kernel_rfl
theorem size96 : sizeB Try.prog 96 1 = true := by kernel_rfl
theorem one96 : oneB Try.prog 96 = true := by kernel_rfl
theorem zero96 : zeroOf Try.prog 96 = some [.nilFunc] := by kernel_rfl
theorem size97 : sizeB Try.prog 97 1 = true := by kernel_rfl
theorem one97 : oneB Try.prog 97 = true := by kernel_rfl
theorem zero97 : zeroOf Try.prog 97 = some [.nilFunc] := by kernel_rfl
theorem size98 : sizeB Try.prog 98 1 = true := by kernel_rfl
theorem one98 : oneB Try.prog 98 = true := by kernel_rfl
theorem zero98 : zeroOf Try.prog 98 = some [.nilFunc] := by kernel_rfl
theorem size99 : sizeB Try.prog 99 1 = true := by kernel_rfl
theorem one99 : oneB Try.prog 99 = true := by kernel_rfl
theorem zero99 : zeroOf Try.prog 99 = some [.nilFunc] := by kernel_rfl
theorem size100 : sizeB Try.prog 100 1 = true := by kernel_rfl
theorem one100 : oneB Try.prog 100 = true := by kernel_rfl
theorem zero100 : zeroOf Try.prog 100 = some [.nilFunc] := by kernel_rfl
theorem size101 : sizeB Try.prog 101 1 = true := by kernel_rfl
theorem one101 : oneB Try.prog 101 = true := by kernel_rfl
theorem zero101 : zeroOf Try.prog 101 = some [.nilFunc] := by kernel_rfl
theorem size102 : sizeB Try.prog 102 1 = true := by kernel_rfl
theorem one102 : oneB Try.prog 102 = true := by kernel_rfl
theorem zero102 : zeroOf Try.prog 102 = some [.nilFunc] := by kernel_rfl
theorem size103 : sizeB Try.prog 103 1 = true := by kernel_rfl
theorem one103 : oneB Try.prog 103 = true := by kernel_rfl
theorem zero103 : zeroOf Try.prog 103 = some [.nilFunc] := by kernel_rfl
theorem size104 : sizeB Try.prog 104 1 = true := by kernel_rfl
theorem one104 : oneB Try.prog 104 = true := by kernel_rfl
theorem zero104 : zeroOf Try.prog 104 = some [.nilFunc] := by kernel_rfl
theorem size105 : sizeB Try.prog 105 1 = true := by kernel_rfl
theorem one105 : oneB Try.prog 105 = true := by kernel_rfl
theorem zero105 : zeroOf Try.prog 105 = some [.nilFunc] := by kernel_rfl
theorem size106 : sizeB Try.prog 106 1 = true := by kernel_rfl
theorem one106 : oneB Try.prog 106 = true := by kernel_rfl
theorem zero106 : zeroOf Try.prog 106 = some [.nilFunc] := by kernel_rfl
theorem size107 : sizeB Try.prog 107 1 = true := by kernel_rfl
theorem one107 : oneB Try.prog 107 = true := by kernel_rfl
theorem zero107 : zeroOf Try.prog 107 = some [.nilFunc] := by kernel_rfl
theorem size108 : sizeB Try.prog 108 1 = true := by kernel_rfl
theorem one108 : oneB Try.prog 108 = true := by kernel_rfl
theorem zero108 : zeroOf Try.prog 108 = some [.nilFunc] := by kernel_rfl
theorem size109 : sizeB Try.prog 109 1 = true := by kernel_rfl
theorem one109 : oneB Try.prog 109 = true := by kernel_rfl
theorem zero109 : zeroOf Try.prog 109 = some [.nilFunc] := by kernel_rfl
theorem size110 : sizeB Try.prog 110 2 = true := by kernel_rfl
theorem agg110 : aggB Try.prog 110 2 = true := by kernel_rfl
theorem fld110_0 : fieldB Try.prog 110 0 0 = true := by kernel_rfl
theorem fld110_1 : fieldB Try.prog 110 1 1 = true := by kernel_rfl
theorem zero110 : zeroOf Try.prog 110 = some [.int .i64 0, .string ByteArray.empty] := by kernel_rfl
theorem size111 : sizeB Try.prog 111 2 = true := by kernel_rfl
theorem agg111 : aggB Try.prog 111 2 = true := by kernel_rfl
theorem fld111_0 : fieldB Try.prog 111 0 0 = true := by kernel_rfl
theorem fld111_1 : fieldB Try.prog 111 1 1 = true := by kernel_rfl
theorem zero111 : zeroOf Try.prog 111 = some [.int .i64 0, .string ByteArray.empty] := by kernel_rfl
theorem size112 : sizeB Try.prog 112 1 = true := by kernel_rfl
theorem one112 : oneB Try.prog 112 = true := by kernel_rfl
theorem zero112 : zeroOf Try.prog 112 = some [.nilFunc] := by kernel_rfl
theorem size113 : sizeB Try.prog 113 1 = true := by kernel_rfl
theorem one113 : oneB Try.prog 113 = true := by kernel_rfl
theorem zero113 : zeroOf Try.prog 113 = some [.nilFunc] := by kernel_rfl
theorem size114 : sizeB Try.prog 114 1 = true := by kernel_rfl
theorem one114 : oneB Try.prog 114 = true := by kernel_rfl
theorem zero114 : zeroOf Try.prog 114 = some [.nilFunc] := by kernel_rfl
theorem size115 : sizeB Try.prog 115 1 = true := by kernel_rfl
theorem one115 : oneB Try.prog 115 = true := by kernel_rfl
theorem zero115 : zeroOf Try.prog 115 = some [.int .u64 0] := by kernel_rfl
theorem size116 : sizeB Try.prog 116 2 = true := by kernel_rfl
theorem agg116 : aggB Try.prog 116 2 = true := by kernel_rfl
theorem fld116_0 : fieldB Try.prog 116 0 0 = true := by kernel_rfl
theorem fld116_1 : fieldB Try.prog 116 1 1 = true := by kernel_rfl
theorem zero116 : zeroOf Try.prog 116 = some [.int .i64 0, .int .i64 0] := by kernel_rfl
theorem size117 : sizeB Try.prog 117 2 = true := by kernel_rfl
theorem agg117 : aggB Try.prog 117 2 = true := by kernel_rfl
theorem fld117_0 : fieldB Try.prog 117 0 0 = true := by kernel_rfl
theorem fld117_1 : fieldB Try.prog 117 1 1 = true := by kernel_rfl
theorem zero117 : zeroOf Try.prog 117 = some [.int .i64 0, .int .i64 0] := by kernel_rfl
theorem size118 : sizeB Try.prog 118 19 = true := by kernel_rfl
theorem agg118 : aggB Try.prog 118 19 = true := by kernel_rfl
theorem fld118_0 : fieldB Try.prog 118 0 0 = true := by kernel_rfl
theorem fld118_1 : fieldB Try.prog 118 1 2 = true := by kernel_rfl
theorem fld118_2 : fieldB Try.prog 118 2 3 = true := by kernel_rfl
theorem fld118_3 : fieldB Try.prog 118 3 4 = true := by kernel_rfl
theorem fld118_4 : fieldB Try.prog 118 4 5 = true := by kernel_rfl
theorem fld118_5 : fieldB Try.prog 118 5 6 = true := by kernel_rfl
theorem fld118_6 : fieldB Try.prog 118 6 7 = true := by kernel_rfl
theorem fld118_7 : fieldB Try.prog 118 7 8 = true := by kernel_rfl
theorem fld118_8 : fieldB Try.prog 118 8 9 = true := by kernel_rfl
theorem fld118_9 : fieldB Try.prog 118 9 11 = true := by kernel_rfl
theorem fld118_10 : fieldB Try.prog 118 10 13 = true := by kernel_rfl
theorem fld118_11 : fieldB Try.prog 118 11 15 = true := by kernel_rfl
theorem fld118_12 : fieldB Try.prog 118 12 17 = true := by kernel_rfl
theorem fld118_13 : fieldB Try.prog 118 13 18 = true := by kernel_rfl
theorem zero118 : zeroOf Try.prog 118 = some [.int .i64 0, .int .i64 0, .string ByteArray.empty, .int .i64 0, .int .u64 0, .int .i64 0, .int .i64 0, .bool false, .bool false, .int .i64 0, .int .i64 0, .int .i64 0, .int .i64 0, .int .i64 0, .int .i64 0, .int .i64 0, .int .i64 0, .string ByteArray.empty, .slice none 0 0] := by kernel_rfl
theorem size119 : sizeB Try.prog 119 19 = true := by kernel_rfl
theorem agg119 : aggB Try.prog 119 19 = true := by kernel_rfl
theorem fld119_0 : fieldB Try.prog 119 0 0 = true := by kernel_rfl
theorem fld119_1 : fieldB Try.prog 119 1 2 = true := by kernel_rfl
theorem fld119_2 : fieldB Try.prog 119 2 3 = true := by kernel_rfl
theorem fld119_3 : fieldB Try.prog 119 3 4 = true := by kernel_rfl
theorem fld119_4 : fieldB Try.prog 119 4 5 = true := by kernel_rfl
theorem fld119_5 : fieldB Try.prog 119 5 6 = true := by kernel_rfl
theorem fld119_6 : fieldB Try.prog 119 6 7 = true := by kernel_rfl
theorem fld119_7 : fieldB Try.prog 119 7 8 = true := by kernel_rfl
theorem fld119_8 : fieldB Try.prog 119 8 9 = true := by kernel_rfl
theorem fld119_9 : fieldB Try.prog 119 9 11 = true := by kernel_rfl
theorem fld119_10 : fieldB Try.prog 119 10 13 = true := by kernel_rfl
theorem fld119_11 : fieldB Try.prog 119 11 15 = true := by kernel_rfl
theorem fld119_12 : fieldB Try.prog 119 12 17 = true := by kernel_rfl
theorem fld119_13 : fieldB Try.prog 119 13 18 = true := by kernel_rfl
theorem zero119 : zeroOf Try.prog 119 = some [.int .i64 0, .int .i64 0, .string ByteArray.empty, .int .i64 0, .int .u64 0, .int .i64 0, .int .i64 0, .bool false, .bool false, .int .i64 0, .int .i64 0, .int .i64 0, .int .i64 0, .int .i64 0, .int .i64 0, .int .i64 0, .int .i64 0, .string ByteArray.empty, .slice none 0 0] := by kernel_rfl
theorem size120 : sizeB Try.prog 120 1 = true := by kernel_rfl
theorem one120 : oneB Try.prog 120 = true := by kernel_rfl
theorem zero120 : zeroOf Try.prog 120 = some [.nilFunc] := by kernel_rfl
theorem size121 : sizeB Try.prog 121 2 = true := by kernel_rfl
theorem agg121 : aggB Try.prog 121 2 = true := by kernel_rfl
theorem fld121_0 : fieldB Try.prog 121 0 0 = true := by kernel_rfl
theorem fld121_1 : fieldB Try.prog 121 1 1 = true := by kernel_rfl
theorem zero121 : zeroOf Try.prog 121 = some [.int .i64 0, .string ByteArray.empty] := by kernel_rfl
theorem size122 : sizeB Try.prog 122 2 = true := by kernel_rfl
theorem agg122 : aggB Try.prog 122 2 = true := by kernel_rfl
theorem fld122_0 : fieldB Try.prog 122 0 0 = true := by kernel_rfl
theorem fld122_1 : fieldB Try.prog 122 1 1 = true := by kernel_rfl
theorem zero122 : zeroOf Try.prog 122 = some [.int .i64 0, .string ByteArray.empty] := by kernel_rfl
theorem size123 : sizeB Try.prog 123 1 = true := by kernel_rfl
theorem one123 : oneB Try.prog 123 = true := by kernel_rfl
theorem zero123 : zeroOf Try.prog 123 = some [.nilFunc] := by kernel_rfl
theorem size124 : sizeB Try.prog 124 1 = true := by kernel_rfl
theorem one124 : oneB Try.prog 124 = true := by kernel_rfl
theorem zero124 : zeroOf Try.prog 124 = some [.nilFunc] := by kernel_rfl
theorem size125 : sizeB Try.prog 125 1 = true := by kernel_rfl
theorem one125 : oneB Try.prog 125 = true := by kernel_rfl
theorem zero125 : zeroOf Try.prog 125 = some [.nilFunc] := by kernel_rfl
theorem size126 : sizeB Try.prog 126 1 = true := by kernel_rfl
theorem one126 : oneB Try.prog 126 = true := by kernel_rfl
theorem zero126 : zeroOf Try.prog 126 = some [.nilFunc] := by kernel_rfl
theorem size127 : sizeB Try.prog 127 1 = true := by kernel_rfl
theorem one127 : oneB Try.prog 127 = true := by kernel_rfl
theorem zero127 : zeroOf Try.prog 127 = some [.slice none 0 0] := by kernel_rfl
theorem sl127 : SlT Try.prog 127 5 1 1 := SlT.of (by kernel_rfl)
theorem size128 : sizeB Try.prog 128 1 = true := by kernel_rfl
theorem one128 : oneB Try.prog 128 = true := by kernel_rfl
theorem zero128 : zeroOf Try.prog 128 = some [.nilFunc] := by kernel_rfl
theorem size129 : sizeB Try.prog 129 1 = true := by kernel_rfl
theorem one129 : oneB Try.prog 129 = true := by kernel_rfl
theorem zero129 : zeroOf Try.prog 129 = some [.nilFunc] := by kernel_rfl
theorem size130 : sizeB Try.prog 130 1 = true := by kernel_rfl
theorem one130 : oneB Try.prog 130 = true := by kernel_rfl
theorem zero130 : zeroOf Try.prog 130 = some [.nilFunc] := by kernel_rfl
theorem size131 : sizeB Try.prog 131 1 = true := by kernel_rfl
theorem one131 : oneB Try.prog 131 = true := by kernel_rfl
theorem zero131 : zeroOf Try.prog 131 = some [.slice none 0 0] := by kernel_rfl
theorem sl131 : SlT Try.prog 131 115 1 8 := SlT.of (by kernel_rfl)
theorem size132 : sizeB Try.prog 132 1 = true := by kernel_rfl
theorem one132 : oneB Try.prog 132 = true := by kernel_rfl
theorem zero132 : zeroOf Try.prog 132 = some [.nilFunc] := by kernel_rfl
theorem size133 : sizeB Try.prog 133 1 = true := by kernel_rfl
theorem one133 : oneB Try.prog 133 = true := by kernel_rfl
theorem zero133 : zeroOf Try.prog 133 = some [.slice none 0 0] := by kernel_rfl
theorem sl133 : SlT Try.prog 133 135 4 40 := SlT.of (by kernel_rfl)
theorem size134 : sizeB Try.prog 134 4 = true := by kernel_rfl
theorem agg134 : aggB Try.prog 134 4 = true := by kernel_rfl
theorem fld134_0 : fieldB Try.prog 134 0 0 = true := by kernel_rfl
theorem fld134_1 : fieldB Try.prog 134 1 1 = true := by kernel_rfl
theorem fld134_2 : fieldB Try.prog 134 2 2 = true := by kernel_rfl
theorem zero134 : zeroOf Try.prog 134 = some [.int .i64 0, .string ByteArray.empty, .int .i64 0, .int .i64 0] := by kernel_rfl
theorem size135 : sizeB Try.prog 135 4 = true := by kernel_rfl
theorem agg135 : aggB Try.prog 135 4 = true := by kernel_rfl
theorem fld135_0 : fieldB Try.prog 135 0 0 = true := by kernel_rfl
theorem fld135_1 : fieldB Try.prog 135 1 1 = true := by kernel_rfl
theorem fld135_2 : fieldB Try.prog 135 2 2 = true := by kernel_rfl
theorem zero135 : zeroOf Try.prog 135 = some [.int .i64 0, .string ByteArray.empty, .int .i64 0, .int .i64 0] := by kernel_rfl
theorem size136 : sizeB Try.prog 136 1 = true := by kernel_rfl
theorem one136 : oneB Try.prog 136 = true := by kernel_rfl
theorem zero136 : zeroOf Try.prog 136 = some [.nilFunc] := by kernel_rfl
theorem size137 : sizeB Try.prog 137 1 = true := by kernel_rfl
theorem one137 : oneB Try.prog 137 = true := by kernel_rfl
theorem zero137 : zeroOf Try.prog 137 = some [.nilFunc] := by kernel_rfl
theorem size138 : sizeB Try.prog 138 1 = true := by kernel_rfl
theorem one138 : oneB Try.prog 138 = true := by kernel_rfl
theorem zero138 : zeroOf Try.prog 138 = some [.slice none 0 0] := by kernel_rfl
theorem sl138 : SlT Try.prog 138 140 5 40 := SlT.of (by kernel_rfl)
theorem size139 : sizeB Try.prog 139 5 = true := by kernel_rfl
theorem agg139 : aggB Try.prog 139 5 = true := by kernel_rfl
theorem fld139_0 : fieldB Try.prog 139 0 0 = true := by kernel_rfl
theorem fld139_1 : fieldB Try.prog 139 1 1 = true := by kernel_rfl
theorem fld139_2 : fieldB Try.prog 139 2 2 = true := by kernel_rfl
theorem fld139_3 : fieldB Try.prog 139 3 3 = true := by kernel_rfl
theorem fld139_4 : fieldB Try.prog 139 4 4 = true := by kernel_rfl
theorem zero139 : zeroOf Try.prog 139 = some [.int .i64 0, .int .i64 0, .int .i64 0, .int .i64 0, .int .u64 0] := by kernel_rfl
theorem size140 : sizeB Try.prog 140 5 = true := by kernel_rfl
theorem agg140 : aggB Try.prog 140 5 = true := by kernel_rfl
theorem fld140_0 : fieldB Try.prog 140 0 0 = true := by kernel_rfl
theorem fld140_1 : fieldB Try.prog 140 1 1 = true := by kernel_rfl
theorem fld140_2 : fieldB Try.prog 140 2 2 = true := by kernel_rfl
theorem fld140_3 : fieldB Try.prog 140 3 3 = true := by kernel_rfl
theorem fld140_4 : fieldB Try.prog 140 4 4 = true := by kernel_rfl
theorem zero140 : zeroOf Try.prog 140 = some [.int .i64 0, .int .i64 0, .int .i64 0, .int .i64 0, .int .u64 0] := by kernel_rfl
theorem size141 : sizeB Try.prog 141 1 = true := by kernel_rfl
theorem one141 : oneB Try.prog 141 = true := by kernel_rfl
theorem zero141 : zeroOf Try.prog 141 = some [.nilFunc] := by kernel_rfl
theorem size142 : sizeB Try.prog 142 1 = true := by kernel_rfl
theorem one142 : oneB Try.prog 142 = true := by kernel_rfl
theorem zero142 : zeroOf Try.prog 142 = some [.slice none 0 0] := by kernel_rfl
theorem sl142 : SlT Try.prog 142 144 3 12 := SlT.of (by kernel_rfl)
theorem size143 : sizeB Try.prog 143 3 = true := by kernel_rfl
theorem agg143 : aggB Try.prog 143 3 = true := by kernel_rfl
theorem fld143_0 : fieldB Try.prog 143 0 0 = true := by kernel_rfl
theorem fld143_1 : fieldB Try.prog 143 1 1 = true := by kernel_rfl
theorem fld143_2 : fieldB Try.prog 143 2 2 = true := by kernel_rfl
theorem zero143 : zeroOf Try.prog 143 = some [.bool false, .int .u32 0, .int .u32 0] := by kernel_rfl
theorem size144 : sizeB Try.prog 144 3 = true := by kernel_rfl
theorem agg144 : aggB Try.prog 144 3 = true := by kernel_rfl
theorem fld144_0 : fieldB Try.prog 144 0 0 = true := by kernel_rfl
theorem fld144_1 : fieldB Try.prog 144 1 1 = true := by kernel_rfl
theorem fld144_2 : fieldB Try.prog 144 2 2 = true := by kernel_rfl
theorem zero144 : zeroOf Try.prog 144 = some [.bool false, .int .u32 0, .int .u32 0] := by kernel_rfl
theorem size145 : sizeB Try.prog 145 1 = true := by kernel_rfl
theorem one145 : oneB Try.prog 145 = true := by kernel_rfl
theorem zero145 : zeroOf Try.prog 145 = some [.nilFunc] := by kernel_rfl
theorem size146 : sizeB Try.prog 146 1 = true := by kernel_rfl
theorem one146 : oneB Try.prog 146 = true := by kernel_rfl
theorem zero146 : zeroOf Try.prog 146 = some [.slice none 0 0] := by kernel_rfl
theorem sl146 : SlT Try.prog 146 148 2 24 := SlT.of (by kernel_rfl)
theorem size147 : sizeB Try.prog 147 2 = true := by kernel_rfl
theorem agg147 : aggB Try.prog 147 2 = true := by kernel_rfl
theorem fld147_0 : fieldB Try.prog 147 0 0 = true := by kernel_rfl
theorem fld147_1 : fieldB Try.prog 147 1 1 = true := by kernel_rfl
theorem zero147 : zeroOf Try.prog 147 = some [.string ByteArray.empty, .int .u64 0] := by kernel_rfl
theorem size148 : sizeB Try.prog 148 2 = true := by kernel_rfl
theorem agg148 : aggB Try.prog 148 2 = true := by kernel_rfl
theorem fld148_0 : fieldB Try.prog 148 0 0 = true := by kernel_rfl
theorem fld148_1 : fieldB Try.prog 148 1 1 = true := by kernel_rfl
theorem zero148 : zeroOf Try.prog 148 = some [.string ByteArray.empty, .int .u64 0] := by kernel_rfl
theorem size149 : sizeB Try.prog 149 1 = true := by kernel_rfl
theorem one149 : oneB Try.prog 149 = true := by kernel_rfl
theorem zero149 : zeroOf Try.prog 149 = some [.nilFunc] := by kernel_rfl
theorem size150 : sizeB Try.prog 150 1 = true := by kernel_rfl
theorem one150 : oneB Try.prog 150 = true := by kernel_rfl
theorem zero150 : zeroOf Try.prog 150 = some [.slice none 0 0] := by kernel_rfl
theorem sl150 : SlT Try.prog 150 4 1 1 := SlT.of (by kernel_rfl)
theorem size151 : sizeB Try.prog 151 1 = true := by kernel_rfl
theorem one151 : oneB Try.prog 151 = true := by kernel_rfl
theorem zero151 : zeroOf Try.prog 151 = some [.slice none 0 0] := by kernel_rfl
theorem sl151 : SlT Try.prog 151 153 3 32 := SlT.of (by kernel_rfl)
theorem size152 : sizeB Try.prog 152 3 = true := by kernel_rfl
theorem agg152 : aggB Try.prog 152 3 = true := by kernel_rfl
theorem fld152_0 : fieldB Try.prog 152 0 0 = true := by kernel_rfl
theorem fld152_1 : fieldB Try.prog 152 1 1 = true := by kernel_rfl
theorem fld152_2 : fieldB Try.prog 152 2 2 = true := by kernel_rfl
theorem zero152 : zeroOf Try.prog 152 = some [.int .u32 0, .bool false, .slice none 0 0] := by kernel_rfl
theorem size153 : sizeB Try.prog 153 3 = true := by kernel_rfl
theorem agg153 : aggB Try.prog 153 3 = true := by kernel_rfl
theorem fld153_0 : fieldB Try.prog 153 0 0 = true := by kernel_rfl
theorem fld153_1 : fieldB Try.prog 153 1 1 = true := by kernel_rfl
theorem fld153_2 : fieldB Try.prog 153 2 2 = true := by kernel_rfl
theorem zero153 : zeroOf Try.prog 153 = some [.int .u32 0, .bool false, .slice none 0 0] := by kernel_rfl
theorem size154 : sizeB Try.prog 154 1 = true := by kernel_rfl
theorem one154 : oneB Try.prog 154 = true := by kernel_rfl
theorem zero154 : zeroOf Try.prog 154 = some [.slice none 0 0] := by kernel_rfl
theorem sl154 : SlT Try.prog 154 156 5 56 := SlT.of (by kernel_rfl)
theorem size155 : sizeB Try.prog 155 5 = true := by kernel_rfl
theorem agg155 : aggB Try.prog 155 5 = true := by kernel_rfl
theorem fld155_0 : fieldB Try.prog 155 0 0 = true := by kernel_rfl
theorem fld155_1 : fieldB Try.prog 155 1 1 = true := by kernel_rfl
theorem fld155_2 : fieldB Try.prog 155 2 2 = true := by kernel_rfl
theorem zero155 : zeroOf Try.prog 155 = some [.int .u64 0, .string ByteArray.empty, .int .u32 0, .bool false, .slice none 0 0] := by kernel_rfl
theorem size156 : sizeB Try.prog 156 5 = true := by kernel_rfl
theorem agg156 : aggB Try.prog 156 5 = true := by kernel_rfl
theorem fld156_0 : fieldB Try.prog 156 0 0 = true := by kernel_rfl
theorem fld156_1 : fieldB Try.prog 156 1 1 = true := by kernel_rfl
theorem fld156_2 : fieldB Try.prog 156 2 2 = true := by kernel_rfl
theorem zero156 : zeroOf Try.prog 156 = some [.int .u64 0, .string ByteArray.empty, .int .u32 0, .bool false, .slice none 0 0] := by kernel_rfl
theorem size157 : sizeB Try.prog 157 1 = true := by kernel_rfl
theorem one157 : oneB Try.prog 157 = true := by kernel_rfl
theorem zero157 : zeroOf Try.prog 157 = some [.nilFunc] := by kernel_rfl
theorem size158 : sizeB Try.prog 158 1 = true := by kernel_rfl
theorem one158 : oneB Try.prog 158 = true := by kernel_rfl
theorem zero158 : zeroOf Try.prog 158 = some [.nilFunc] := by kernel_rfl
theorem size159 : sizeB Try.prog 159 1 = true := by kernel_rfl
theorem one159 : oneB Try.prog 159 = true := by kernel_rfl
theorem zero159 : zeroOf Try.prog 159 = some [.int .u64 0] := by kernel_rfl
theorem size160 : sizeB Try.prog 160 1 = true := by kernel_rfl
theorem one160 : oneB Try.prog 160 = true := by kernel_rfl
theorem zero160 : zeroOf Try.prog 160 = some [.nilFunc] := by kernel_rfl
theorem size161 : sizeB Try.prog 161 1 = true := by kernel_rfl
theorem one161 : oneB Try.prog 161 = true := by kernel_rfl
theorem zero161 : zeroOf Try.prog 161 = some [.nilFunc] := by kernel_rfl
theorem size162 : sizeB Try.prog 162 4 = true := by kernel_rfl
theorem agg162 : aggB Try.prog 162 4 = true := by kernel_rfl
theorem fld162_0 : fieldB Try.prog 162 0 0 = true := by kernel_rfl
theorem fld162_1 : fieldB Try.prog 162 1 1 = true := by kernel_rfl
theorem fld162_2 : fieldB Try.prog 162 2 2 = true := by kernel_rfl
theorem fld162_3 : fieldB Try.prog 162 3 3 = true := by kernel_rfl
theorem zero162 : zeroOf Try.prog 162 = some [.pointer none, .pointer none, .pointer none, .string ByteArray.empty] := by kernel_rfl
theorem size163 : sizeB Try.prog 163 4 = true := by kernel_rfl
theorem agg163 : aggB Try.prog 163 4 = true := by kernel_rfl
theorem fld163_0 : fieldB Try.prog 163 0 0 = true := by kernel_rfl
theorem fld163_1 : fieldB Try.prog 163 1 1 = true := by kernel_rfl
theorem fld163_2 : fieldB Try.prog 163 2 2 = true := by kernel_rfl
theorem fld163_3 : fieldB Try.prog 163 3 3 = true := by kernel_rfl
theorem zero163 : zeroOf Try.prog 163 = some [.pointer none, .pointer none, .pointer none, .string ByteArray.empty] := by kernel_rfl
theorem size164 : sizeB Try.prog 164 0 = true := by kernel_rfl
theorem agg164 : aggB Try.prog 164 0 = true := by kernel_rfl
theorem zero164 : zeroOf Try.prog 164 = some [] := by kernel_rfl
theorem size165 : sizeB Try.prog 165 0 = true := by kernel_rfl
theorem agg165 : aggB Try.prog 165 0 = true := by kernel_rfl
theorem zero165 : zeroOf Try.prog 165 = some [] := by kernel_rfl
theorem size166 : sizeB Try.prog 166 0 = true := by kernel_rfl
theorem agg166 : aggB Try.prog 166 0 = true := by kernel_rfl
theorem zero166 : zeroOf Try.prog 166 = some [] := by kernel_rfl
theorem size167 : sizeB Try.prog 167 1 = true := by kernel_rfl
theorem one167 : oneB Try.prog 167 = true := by kernel_rfl
theorem zero167 : zeroOf Try.prog 167 = some [.nilFunc] := by kernel_rfl
theorem size168 : sizeB Try.prog 168 1 = true := by kernel_rfl
theorem one168 : oneB Try.prog 168 = true := by kernel_rfl
theorem zero168 : zeroOf Try.prog 168 = some [.int .u8 0] := by kernel_rfl
theorem size169 : sizeB Try.prog 169 1 = true := by kernel_rfl
theorem one169 : oneB Try.prog 169 = true := by kernel_rfl
theorem zero169 : zeroOf Try.prog 169 = some [.int .u8 0] := by kernel_rfl
theorem size170 : sizeB Try.prog 170 1 = true := by kernel_rfl
theorem one170 : oneB Try.prog 170 = true := by kernel_rfl
theorem zero170 : zeroOf Try.prog 170 = some [.nilFunc] := by kernel_rfl
theorem size171 : sizeB Try.prog 171 1 = true := by kernel_rfl
theorem one171 : oneB Try.prog 171 = true := by kernel_rfl
theorem zero171 : zeroOf Try.prog 171 = some [.pointer none] := by kernel_rfl
theorem size172 : sizeB Try.prog 172 1 = true := by kernel_rfl
theorem one172 : oneB Try.prog 172 = true := by kernel_rfl
theorem zero172 : zeroOf Try.prog 172 = some [.int .i32 0] := by kernel_rfl
theorem size173 : sizeB Try.prog 173 1 = true := by kernel_rfl
theorem one173 : oneB Try.prog 173 = true := by kernel_rfl
theorem zero173 : zeroOf Try.prog 173 = some [.int .i32 0] := by kernel_rfl
theorem size174 : sizeB Try.prog 174 11 = true := by kernel_rfl
theorem agg174 : aggB Try.prog 174 11 = true := by kernel_rfl
theorem fld174_0 : fieldB Try.prog 174 0 0 = true := by kernel_rfl
theorem fld174_1 : fieldB Try.prog 174 1 1 = true := by kernel_rfl
theorem fld174_2 : fieldB Try.prog 174 2 2 = true := by kernel_rfl
theorem fld174_3 : fieldB Try.prog 174 3 3 = true := by kernel_rfl
theorem fld174_4 : fieldB Try.prog 174 4 4 = true := by kernel_rfl
theorem fld174_5 : fieldB Try.prog 174 5 5 = true := by kernel_rfl
theorem fld174_6 : fieldB Try.prog 174 6 6 = true := by kernel_rfl
theorem fld174_7 : fieldB Try.prog 174 7 7 = true := by kernel_rfl
theorem fld174_8 : fieldB Try.prog 174 8 8 = true := by kernel_rfl
theorem fld174_9 : fieldB Try.prog 174 9 9 = true := by kernel_rfl
theorem fld174_10 : fieldB Try.prog 174 10 10 = true := by kernel_rfl
theorem zero174 : zeroOf Try.prog 174 = some [.int .u64 0, .int .u64 0, .int .u32 0, .int .u8 0, .int .u8 0, .int .u8 0, .int .u8 0, .nilFunc, .pointer none, .int .i32 0, .int .i32 0] := by kernel_rfl
theorem size175 : sizeB Try.prog 175 11 = true := by kernel_rfl
theorem agg175 : aggB Try.prog 175 11 = true := by kernel_rfl
theorem fld175_0 : fieldB Try.prog 175 0 0 = true := by kernel_rfl
theorem fld175_1 : fieldB Try.prog 175 1 1 = true := by kernel_rfl
theorem fld175_2 : fieldB Try.prog 175 2 2 = true := by kernel_rfl
theorem fld175_3 : fieldB Try.prog 175 3 3 = true := by kernel_rfl
theorem fld175_4 : fieldB Try.prog 175 4 4 = true := by kernel_rfl
theorem fld175_5 : fieldB Try.prog 175 5 5 = true := by kernel_rfl
theorem fld175_6 : fieldB Try.prog 175 6 6 = true := by kernel_rfl
theorem fld175_7 : fieldB Try.prog 175 7 7 = true := by kernel_rfl
theorem fld175_8 : fieldB Try.prog 175 8 8 = true := by kernel_rfl
theorem fld175_9 : fieldB Try.prog 175 9 9 = true := by kernel_rfl
theorem fld175_10 : fieldB Try.prog 175 10 10 = true := by kernel_rfl
theorem zero175 : zeroOf Try.prog 175 = some [.int .u64 0, .int .u64 0, .int .u32 0, .int .u8 0, .int .u8 0, .int .u8 0, .int .u8 0, .nilFunc, .pointer none, .int .i32 0, .int .i32 0] := by kernel_rfl
theorem size176 : sizeB Try.prog 176 1 = true := by kernel_rfl
theorem one176 : oneB Try.prog 176 = true := by kernel_rfl
theorem zero176 : zeroOf Try.prog 176 = some [.pointer none] := by kernel_rfl
theorem fo23 : Try.prog.underlying 23 = some (.struct (Try.prog.fieldsOf 23)) := by kernel_rfl
theorem fs23 : (Try.prog.fieldsOf 23).toList = [{ name := "Line", type := 3, offset := 0, byteOffset := 0, embedded := false, tag := "", pkgPath := "" }, { name := "Col", type := 3, offset := 1, byteOffset := 8, embedded := false, tag := "", pkgPath := "" }] := by kernel_rfl
theorem si23 : Try.prog.stoodInHeld 23 = false := by kernel_rfl
theorem eg23 : Try.prog.eqGuardType Try.prog.depth 23 = false := by kernel_rfl
theorem eqi23 (d : Nat) (w : World) (a0 b0 : Int) (a1 b1 : Int) : (Op.equalIn (d + 2) 23 (.agg #[.int .i64 a0, .int .i64 a1]) (.agg #[.int .i64 b0, .int .i64 b1])).run Try.prog w = .ok (decide (a0 = b0) && decide (a1 = b1)) w := by
  rw [run_equalIn_struct w (d + 1) 23 _ _ fo23 si23]
  simp [fs23, Op.eqFields, part, Sem.run_bind, Result.andThen, Sem.run, pure, isAgg_one one3, run_equalIn_int w _ 3 .i64 .i64 _ _ Try.underlying3, beq_dec a0 b0, beq_dec a1 b1]
  by_cases h0 : a0 = b0 <;> by_cases h1 : a1 = b1 <;> simp [*]
theorem eqs23 {x y : Operand} {a0 b0 : Int} {a1 b1 : Int} : Pure Try.prog (binSem .eql 23 x y (.agg #[.int .i64 a0, .int .i64 a1]) (.agg #[.int .i64 b0, .int .i64 b1])) (.bool ((decide (a0 = b0) && decide (a1 = b1)))) := fun w => by
  simp [binSem, eqGuard, binOp, Op.equal, Op.maxDepth, eg23, eqi23 9998, Sem.run_bind, Result.andThen, program, Sem.run, pure]
theorem nes23 {x y : Operand} {a0 b0 : Int} {a1 b1 : Int} : Pure Try.prog (binSem .neq 23 x y (.agg #[.int .i64 a0, .int .i64 a1]) (.agg #[.int .i64 b0, .int .i64 b1])) (.bool (!(decide (a0 = b0) && decide (a1 = b1)))) := fun w => by
  simp [binSem, eqGuard, binOp, Op.equal, Op.maxDepth, eg23, eqi23 9998, Sem.run_bind, Result.andThen, program, Sem.run, pure]
theorem fo25 : Try.prog.underlying 25 = some (.struct (Try.prog.fieldsOf 25)) := by kernel_rfl
theorem fs25 : (Try.prog.fieldsOf 25).toList = [{ name := "At", type := 23, offset := 0, byteOffset := 0, embedded := false, tag := "", pkgPath := "" }, { name := "Text", type := 9, offset := 2, byteOffset := 16, embedded := false, tag := "", pkgPath := "" }] := by kernel_rfl
theorem si25 : Try.prog.stoodInHeld 25 = false := by kernel_rfl
theorem eg25 : Try.prog.eqGuardType Try.prog.depth 25 = false := by kernel_rfl
theorem eqi25 (d : Nat) (w : World) (a0 b0 : Int) (a1 b1 : Int) (a2 b2 : ByteArray) : (Op.equalIn (d + 3) 25 (.agg #[.int .i64 a0, .int .i64 a1, .string a2]) (.agg #[.int .i64 b0, .int .i64 b1, .string b2])).run Try.prog w = .ok (decide (a0 = b0) && decide (a1 = b1) && decide (a2 = b2)) w := by
  rw [run_equalIn_struct w (d + 2) 25 _ _ fo25 si25]
  simp [fs25, Op.eqFields, part, Sem.run_bind, Result.andThen, Sem.run, pure, eqi23, (isAgg_agg (P := Try.prog) agg23 w).1, size_of size23, isAgg_one one9, run_equalIn_string w _ 9 _ _ Try.underlying9, beq_dec a0 b0, beq_dec a1 b1, str_beq a2 b2]
  by_cases h0 : a0 = b0 <;> by_cases h1 : a1 = b1 <;> by_cases h2 : a2 = b2 <;> simp [*]
theorem eqs25 {x y : Operand} {a0 b0 : Int} {a1 b1 : Int} {a2 b2 : ByteArray} : Pure Try.prog (binSem .eql 25 x y (.agg #[.int .i64 a0, .int .i64 a1, .string a2]) (.agg #[.int .i64 b0, .int .i64 b1, .string b2])) (.bool ((decide (a0 = b0) && decide (a1 = b1) && decide (a2 = b2)))) := fun w => by
  simp [binSem, eqGuard, binOp, Op.equal, Op.maxDepth, eg25, eqi25 9997, Sem.run_bind, Result.andThen, program, Sem.run, pure]
theorem nes25 {x y : Operand} {a0 b0 : Int} {a1 b1 : Int} {a2 b2 : ByteArray} : Pure Try.prog (binSem .neq 25 x y (.agg #[.int .i64 a0, .int .i64 a1, .string a2]) (.agg #[.int .i64 b0, .int .i64 b1, .string b2])) (.bool (!(decide (a0 = b0) && decide (a1 = b1) && decide (a2 = b2)))) := fun w => by
  simp [binSem, eqGuard, binOp, Op.equal, Op.maxDepth, eg25, eqi25 9997, Sem.run_bind, Result.andThen, program, Sem.run, pure]
theorem fo117 : Try.prog.underlying 117 = some (.struct (Try.prog.fieldsOf 117)) := by kernel_rfl
theorem fs117 : (Try.prog.fieldsOf 117).toList = [{ name := "Num", type := 2, offset := 0, byteOffset := 0, embedded := false, tag := "", pkgPath := "" }, { name := "Den", type := 2, offset := 1, byteOffset := 8, embedded := false, tag := "", pkgPath := "" }] := by kernel_rfl
theorem si117 : Try.prog.stoodInHeld 117 = false := by kernel_rfl
theorem eg117 : Try.prog.eqGuardType Try.prog.depth 117 = false := by kernel_rfl
theorem eqi117 (d : Nat) (w : World) (a0 b0 : Int) (a1 b1 : Int) : (Op.equalIn (d + 2) 117 (.agg #[.int .i64 a0, .int .i64 a1]) (.agg #[.int .i64 b0, .int .i64 b1])).run Try.prog w = .ok (decide (a0 = b0) && decide (a1 = b1)) w := by
  rw [run_equalIn_struct w (d + 1) 117 _ _ fo117 si117]
  simp [fs117, Op.eqFields, part, Sem.run_bind, Result.andThen, Sem.run, pure, isAgg_one one2, run_equalIn_int w _ 2 .i64 .i64 _ _ Try.underlying2, beq_dec a0 b0, beq_dec a1 b1]
  by_cases h0 : a0 = b0 <;> by_cases h1 : a1 = b1 <;> simp [*]
theorem eqs117 {x y : Operand} {a0 b0 : Int} {a1 b1 : Int} : Pure Try.prog (binSem .eql 117 x y (.agg #[.int .i64 a0, .int .i64 a1]) (.agg #[.int .i64 b0, .int .i64 b1])) (.bool ((decide (a0 = b0) && decide (a1 = b1)))) := fun w => by
  simp [binSem, eqGuard, binOp, Op.equal, Op.maxDepth, eg117, eqi117 9998, Sem.run_bind, Result.andThen, program, Sem.run, pure]
theorem nes117 {x y : Operand} {a0 b0 : Int} {a1 b1 : Int} : Pure Try.prog (binSem .neq 117 x y (.agg #[.int .i64 a0, .int .i64 a1]) (.agg #[.int .i64 b0, .int .i64 b1])) (.bool (!(decide (a0 = b0) && decide (a1 = b1)))) := fun w => by
  simp [binSem, eqGuard, binOp, Op.equal, Op.maxDepth, eg117, eqi117 9998, Sem.run_bind, Result.andThen, program, Sem.run, pure]
theorem fo122 : Try.prog.underlying 122 = some (.struct (Try.prog.fieldsOf 122)) := by kernel_rfl
theorem fs122 : (Try.prog.fieldsOf 122).toList = [{ name := "Value", type := 2, offset := 0, byteOffset := 0, embedded := false, tag := "", pkgPath := "" }, { name := "Text", type := 9, offset := 1, byteOffset := 8, embedded := false, tag := "", pkgPath := "" }] := by kernel_rfl
theorem si122 : Try.prog.stoodInHeld 122 = false := by kernel_rfl
theorem eg122 : Try.prog.eqGuardType Try.prog.depth 122 = false := by kernel_rfl
theorem eqi122 (d : Nat) (w : World) (a0 b0 : Int) (a1 b1 : ByteArray) : (Op.equalIn (d + 2) 122 (.agg #[.int .i64 a0, .string a1]) (.agg #[.int .i64 b0, .string b1])).run Try.prog w = .ok (decide (a0 = b0) && decide (a1 = b1)) w := by
  rw [run_equalIn_struct w (d + 1) 122 _ _ fo122 si122]
  simp [fs122, Op.eqFields, part, Sem.run_bind, Result.andThen, Sem.run, pure, isAgg_one one2, run_equalIn_int w _ 2 .i64 .i64 _ _ Try.underlying2, isAgg_one one9, run_equalIn_string w _ 9 _ _ Try.underlying9, beq_dec a0 b0, str_beq a1 b1]
  by_cases h0 : a0 = b0 <;> by_cases h1 : a1 = b1 <;> simp [*]
theorem eqs122 {x y : Operand} {a0 b0 : Int} {a1 b1 : ByteArray} : Pure Try.prog (binSem .eql 122 x y (.agg #[.int .i64 a0, .string a1]) (.agg #[.int .i64 b0, .string b1])) (.bool ((decide (a0 = b0) && decide (a1 = b1)))) := fun w => by
  simp [binSem, eqGuard, binOp, Op.equal, Op.maxDepth, eg122, eqi122 9998, Sem.run_bind, Result.andThen, program, Sem.run, pure]
theorem nes122 {x y : Operand} {a0 b0 : Int} {a1 b1 : ByteArray} : Pure Try.prog (binSem .neq 122 x y (.agg #[.int .i64 a0, .string a1]) (.agg #[.int .i64 b0, .string b1])) (.bool (!(decide (a0 = b0) && decide (a1 = b1)))) := fun w => by
  simp [binSem, eqGuard, binOp, Op.equal, Op.maxDepth, eg122, eqi122 9998, Sem.run_bind, Result.andThen, program, Sem.run, pure]
theorem fo135 : Try.prog.underlying 135 = some (.struct (Try.prog.fieldsOf 135)) := by kernel_rfl
theorem fs135 : (Try.prog.fieldsOf 135).toList = [{ name := "Kind", type := 3, offset := 0, byteOffset := 0, embedded := false, tag := "", pkgPath := "" }, { name := "Text", type := 9, offset := 1, byteOffset := 8, embedded := false, tag := "", pkgPath := "" }, { name := "At", type := 23, offset := 2, byteOffset := 24, embedded := false, tag := "", pkgPath := "" }] := by kernel_rfl
theorem si135 : Try.prog.stoodInHeld 135 = false := by kernel_rfl
theorem eg135 : Try.prog.eqGuardType Try.prog.depth 135 = false := by kernel_rfl
theorem eqi135 (d : Nat) (w : World) (a0 b0 : Int) (a1 b1 : ByteArray) (a2 b2 : Int) (a3 b3 : Int) : (Op.equalIn (d + 3) 135 (.agg #[.int .i64 a0, .string a1, .int .i64 a2, .int .i64 a3]) (.agg #[.int .i64 b0, .string b1, .int .i64 b2, .int .i64 b3])).run Try.prog w = .ok (decide (a0 = b0) && decide (a1 = b1) && decide (a2 = b2) && decide (a3 = b3)) w := by
  rw [run_equalIn_struct w (d + 2) 135 _ _ fo135 si135]
  simp [fs135, Op.eqFields, part, Sem.run_bind, Result.andThen, Sem.run, pure, isAgg_one one3, run_equalIn_int w _ 3 .i64 .i64 _ _ Try.underlying3, isAgg_one one9, run_equalIn_string w _ 9 _ _ Try.underlying9, eqi23, (isAgg_agg (P := Try.prog) agg23 w).1, size_of size23, beq_dec a0 b0, str_beq a1 b1, beq_dec a2 b2, beq_dec a3 b3]
  by_cases h0 : a0 = b0 <;> by_cases h1 : a1 = b1 <;> by_cases h2 : a2 = b2 <;> by_cases h3 : a3 = b3 <;> simp [*]
theorem eqs135 {x y : Operand} {a0 b0 : Int} {a1 b1 : ByteArray} {a2 b2 : Int} {a3 b3 : Int} : Pure Try.prog (binSem .eql 135 x y (.agg #[.int .i64 a0, .string a1, .int .i64 a2, .int .i64 a3]) (.agg #[.int .i64 b0, .string b1, .int .i64 b2, .int .i64 b3])) (.bool ((decide (a0 = b0) && decide (a1 = b1) && decide (a2 = b2) && decide (a3 = b3)))) := fun w => by
  simp [binSem, eqGuard, binOp, Op.equal, Op.maxDepth, eg135, eqi135 9997, Sem.run_bind, Result.andThen, program, Sem.run, pure]
theorem nes135 {x y : Operand} {a0 b0 : Int} {a1 b1 : ByteArray} {a2 b2 : Int} {a3 b3 : Int} : Pure Try.prog (binSem .neq 135 x y (.agg #[.int .i64 a0, .string a1, .int .i64 a2, .int .i64 a3]) (.agg #[.int .i64 b0, .string b1, .int .i64 b2, .int .i64 b3])) (.bool (!(decide (a0 = b0) && decide (a1 = b1) && decide (a2 = b2) && decide (a3 = b3)))) := fun w => by
  simp [binSem, eqGuard, binOp, Op.equal, Op.maxDepth, eg135, eqi135 9997, Sem.run_bind, Result.andThen, program, Sem.run, pure]
theorem fo140 : Try.prog.underlying 140 = some (.struct (Try.prog.fieldsOf 140)) := by kernel_rfl
theorem fs140 : (Try.prog.fieldsOf 140).toList = [{ name := "Op", type := 3, offset := 0, byteOffset := 0, embedded := false, tag := "", pkgPath := "" }, { name := "A", type := 3, offset := 1, byteOffset := 8, embedded := false, tag := "", pkgPath := "" }, { name := "B", type := 3, offset := 2, byteOffset := 16, embedded := false, tag := "", pkgPath := "" }, { name := "N", type := 3, offset := 3, byteOffset := 24, embedded := false, tag := "", pkgPath := "" }, { name := "Imm", type := 115, offset := 4, byteOffset := 32, embedded := false, tag := "", pkgPath := "" }] := by kernel_rfl
theorem si140 : Try.prog.stoodInHeld 140 = false := by kernel_rfl
theorem eg140 : Try.prog.eqGuardType Try.prog.depth 140 = false := by kernel_rfl
theorem eqi140 (d : Nat) (w : World) (a0 b0 : Int) (a1 b1 : Int) (a2 b2 : Int) (a3 b3 : Int) (a4 b4 : Int) : (Op.equalIn (d + 2) 140 (.agg #[.int .i64 a0, .int .i64 a1, .int .i64 a2, .int .i64 a3, .int .u64 a4]) (.agg #[.int .i64 b0, .int .i64 b1, .int .i64 b2, .int .i64 b3, .int .u64 b4])).run Try.prog w = .ok (decide (a0 = b0) && decide (a1 = b1) && decide (a2 = b2) && decide (a3 = b3) && decide (a4 = b4)) w := by
  rw [run_equalIn_struct w (d + 1) 140 _ _ fo140 si140]
  simp [fs140, Op.eqFields, part, Sem.run_bind, Result.andThen, Sem.run, pure, isAgg_one one3, run_equalIn_int w _ 3 .i64 .i64 _ _ Try.underlying3, isAgg_one one115, run_equalIn_int w _ 115 .u64 .u64 _ _ Try.underlying115, beq_dec a0 b0, beq_dec a1 b1, beq_dec a2 b2, beq_dec a3 b3, beq_dec a4 b4]
  by_cases h0 : a0 = b0 <;> by_cases h1 : a1 = b1 <;> by_cases h2 : a2 = b2 <;> by_cases h3 : a3 = b3 <;> by_cases h4 : a4 = b4 <;> simp [*]
theorem eqs140 {x y : Operand} {a0 b0 : Int} {a1 b1 : Int} {a2 b2 : Int} {a3 b3 : Int} {a4 b4 : Int} : Pure Try.prog (binSem .eql 140 x y (.agg #[.int .i64 a0, .int .i64 a1, .int .i64 a2, .int .i64 a3, .int .u64 a4]) (.agg #[.int .i64 b0, .int .i64 b1, .int .i64 b2, .int .i64 b3, .int .u64 b4])) (.bool ((decide (a0 = b0) && decide (a1 = b1) && decide (a2 = b2) && decide (a3 = b3) && decide (a4 = b4)))) := fun w => by
  simp [binSem, eqGuard, binOp, Op.equal, Op.maxDepth, eg140, eqi140 9998, Sem.run_bind, Result.andThen, program, Sem.run, pure]
theorem nes140 {x y : Operand} {a0 b0 : Int} {a1 b1 : Int} {a2 b2 : Int} {a3 b3 : Int} {a4 b4 : Int} : Pure Try.prog (binSem .neq 140 x y (.agg #[.int .i64 a0, .int .i64 a1, .int .i64 a2, .int .i64 a3, .int .u64 a4]) (.agg #[.int .i64 b0, .int .i64 b1, .int .i64 b2, .int .i64 b3, .int .u64 b4])) (.bool (!(decide (a0 = b0) && decide (a1 = b1) && decide (a2 = b2) && decide (a3 = b3) && decide (a4 = b4)))) := fun w => by
  simp [binSem, eqGuard, binOp, Op.equal, Op.maxDepth, eg140, eqi140 9998, Sem.run_bind, Result.andThen, program, Sem.run, pure]
theorem fo144 : Try.prog.underlying 144 = some (.struct (Try.prog.fieldsOf 144)) := by kernel_rfl
theorem fs144 : (Try.prog.fieldsOf 144).toList = [{ name := "Wide", type := 4, offset := 0, byteOffset := 0, embedded := false, tag := "", pkgPath := "" }, { name := "Code", type := 59, offset := 1, byteOffset := 4, embedded := false, tag := "", pkgPath := "" }, { name := "Mask", type := 59, offset := 2, byteOffset := 8, embedded := false, tag := "", pkgPath := "" }] := by kernel_rfl
theorem si144 : Try.prog.stoodInHeld 144 = false := by kernel_rfl
theorem eg144 : Try.prog.eqGuardType Try.prog.depth 144 = false := by kernel_rfl
theorem eqi144 (d : Nat) (w : World) (a0 b0 : Bool) (a1 b1 : Int) (a2 b2 : Int) : (Op.equalIn (d + 2) 144 (.agg #[.bool a0, .int .u32 a1, .int .u32 a2]) (.agg #[.bool b0, .int .u32 b1, .int .u32 b2])).run Try.prog w = .ok (decide (a0 = b0) && decide (a1 = b1) && decide (a2 = b2)) w := by
  rw [run_equalIn_struct w (d + 1) 144 _ _ fo144 si144]
  simp [fs144, Op.eqFields, part, Sem.run_bind, Result.andThen, Sem.run, pure, isAgg_one one4, run_equalIn_bool' w _ 4 _ _ Try.underlying4, isAgg_one one59, run_equalIn_int w _ 59 .u32 .u32 _ _ Try.underlying59, beq_dec a0 b0, beq_dec a1 b1, beq_dec a2 b2]
  by_cases h0 : a0 = b0 <;> by_cases h1 : a1 = b1 <;> by_cases h2 : a2 = b2 <;> simp [*]
theorem eqs144 {x y : Operand} {a0 b0 : Bool} {a1 b1 : Int} {a2 b2 : Int} : Pure Try.prog (binSem .eql 144 x y (.agg #[.bool a0, .int .u32 a1, .int .u32 a2]) (.agg #[.bool b0, .int .u32 b1, .int .u32 b2])) (.bool ((decide (a0 = b0) && decide (a1 = b1) && decide (a2 = b2)))) := fun w => by
  simp [binSem, eqGuard, binOp, Op.equal, Op.maxDepth, eg144, eqi144 9998, Sem.run_bind, Result.andThen, program, Sem.run, pure]
theorem nes144 {x y : Operand} {a0 b0 : Bool} {a1 b1 : Int} {a2 b2 : Int} : Pure Try.prog (binSem .neq 144 x y (.agg #[.bool a0, .int .u32 a1, .int .u32 a2]) (.agg #[.bool b0, .int .u32 b1, .int .u32 b2])) (.bool (!(decide (a0 = b0) && decide (a1 = b1) && decide (a2 = b2)))) := fun w => by
  simp [binSem, eqGuard, binOp, Op.equal, Op.maxDepth, eg144, eqi144 9998, Sem.run_bind, Result.andThen, program, Sem.run, pure]
theorem fo148 : Try.prog.underlying 148 = some (.struct (Try.prog.fieldsOf 148)) := by kernel_rfl
theorem fs148 : (Try.prog.fieldsOf 148).toList = [{ name := "Name", type := 9, offset := 0, byteOffset := 0, embedded := false, tag := "", pkgPath := "" }, { name := "Raw", type := 115, offset := 1, byteOffset := 16, embedded := false, tag := "", pkgPath := "" }] := by kernel_rfl
theorem si148 : Try.prog.stoodInHeld 148 = false := by kernel_rfl
theorem eg148 : Try.prog.eqGuardType Try.prog.depth 148 = false := by kernel_rfl
theorem eqi148 (d : Nat) (w : World) (a0 b0 : ByteArray) (a1 b1 : Int) : (Op.equalIn (d + 2) 148 (.agg #[.string a0, .int .u64 a1]) (.agg #[.string b0, .int .u64 b1])).run Try.prog w = .ok (decide (a0 = b0) && decide (a1 = b1)) w := by
  rw [run_equalIn_struct w (d + 1) 148 _ _ fo148 si148]
  simp [fs148, Op.eqFields, part, Sem.run_bind, Result.andThen, Sem.run, pure, isAgg_one one9, run_equalIn_string w _ 9 _ _ Try.underlying9, isAgg_one one115, run_equalIn_int w _ 115 .u64 .u64 _ _ Try.underlying115, str_beq a0 b0, beq_dec a1 b1]
  by_cases h0 : a0 = b0 <;> by_cases h1 : a1 = b1 <;> simp [*]
theorem eqs148 {x y : Operand} {a0 b0 : ByteArray} {a1 b1 : Int} : Pure Try.prog (binSem .eql 148 x y (.agg #[.string a0, .int .u64 a1]) (.agg #[.string b0, .int .u64 b1])) (.bool ((decide (a0 = b0) && decide (a1 = b1)))) := fun w => by
  simp [binSem, eqGuard, binOp, Op.equal, Op.maxDepth, eg148, eqi148 9998, Sem.run_bind, Result.andThen, program, Sem.run, pure]
theorem nes148 {x y : Operand} {a0 b0 : ByteArray} {a1 b1 : Int} : Pure Try.prog (binSem .neq 148 x y (.agg #[.string a0, .int .u64 a1]) (.agg #[.string b0, .int .u64 b1])) (.bool (!(decide (a0 = b0) && decide (a1 = b1)))) := fun w => by
  simp [binSem, eqGuard, binOp, Op.equal, Op.maxDepth, eg148, eqi148 9998, Sem.run_bind, Result.andThen, program, Sem.run, pure]
theorem pl3 : plainFn Try.prog 3 = true := by kernel_rfl
theorem pl4 : plainFn Try.prog 4 = true := by kernel_rfl
theorem pl5 : plainFn Try.prog 5 = true := by kernel_rfl
theorem pl6 : plainFn Try.prog 6 = true := by kernel_rfl
theorem pl7 : plainFn Try.prog 7 = true := by kernel_rfl
theorem pl8 : plainFn Try.prog 8 = true := by kernel_rfl
theorem pl9 : plainFn Try.prog 9 = true := by kernel_rfl
theorem pl10 : plainFn Try.prog 10 = true := by kernel_rfl
theorem pl11 : plainFn Try.prog 11 = true := by kernel_rfl
theorem pl12 : plainFn Try.prog 12 = true := by kernel_rfl
theorem pl13 : plainFn Try.prog 13 = true := by kernel_rfl
theorem pl14 : plainFn Try.prog 14 = true := by kernel_rfl
theorem pl15 : plainFn Try.prog 15 = true := by kernel_rfl
theorem pl16 : plainFn Try.prog 16 = true := by kernel_rfl
theorem pl17 : plainFn Try.prog 17 = true := by kernel_rfl
theorem pl18 : plainFn Try.prog 18 = true := by kernel_rfl
theorem pl19 : plainFn Try.prog 19 = true := by kernel_rfl
theorem pl20 : plainFn Try.prog 20 = true := by kernel_rfl
theorem pl21 : plainFn Try.prog 21 = true := by kernel_rfl
theorem pl22 : plainFn Try.prog 22 = true := by kernel_rfl
theorem pl23 : plainFn Try.prog 23 = true := by kernel_rfl
theorem pl24 : plainFn Try.prog 24 = true := by kernel_rfl
theorem pl25 : plainFn Try.prog 25 = true := by kernel_rfl
theorem pl26 : plainFn Try.prog 26 = true := by kernel_rfl
theorem pl27 : plainFn Try.prog 27 = true := by kernel_rfl
theorem pl28 : plainFn Try.prog 28 = true := by kernel_rfl
theorem pl29 : plainFn Try.prog 29 = true := by kernel_rfl
theorem pl30 : plainFn Try.prog 30 = true := by kernel_rfl
theorem pl31 : plainFn Try.prog 31 = true := by kernel_rfl
theorem pl32 : plainFn Try.prog 32 = true := by kernel_rfl
theorem pl33 : plainFn Try.prog 33 = true := by kernel_rfl
theorem pl34 : plainFn Try.prog 34 = true := by kernel_rfl
theorem pl35 : plainFn Try.prog 35 = true := by kernel_rfl
theorem pl36 : plainFn Try.prog 36 = true := by kernel_rfl
theorem pl37 : plainFn Try.prog 37 = true := by kernel_rfl
theorem pl38 : plainFn Try.prog 38 = true := by kernel_rfl
theorem pl39 : plainFn Try.prog 39 = true := by kernel_rfl
theorem pl40 : plainFn Try.prog 40 = true := by kernel_rfl
theorem pl41 : plainFn Try.prog 41 = true := by kernel_rfl
theorem pl42 : plainFn Try.prog 42 = true := by kernel_rfl
theorem pl43 : plainFn Try.prog 43 = true := by kernel_rfl
theorem pl44 : plainFn Try.prog 44 = true := by kernel_rfl
theorem pl45 : plainFn Try.prog 45 = true := by kernel_rfl
theorem pl46 : plainFn Try.prog 46 = true := by kernel_rfl
theorem pl47 : plainFn Try.prog 47 = true := by kernel_rfl
theorem pl48 : plainFn Try.prog 48 = true := by kernel_rfl
theorem pl49 : plainFn Try.prog 49 = true := by kernel_rfl
theorem pl50 : plainFn Try.prog 50 = true := by kernel_rfl
theorem pl51 : plainFn Try.prog 51 = true := by kernel_rfl
theorem pl52 : plainFn Try.prog 52 = true := by kernel_rfl
theorem pl53 : plainFn Try.prog 53 = true := by kernel_rfl
theorem pl54 : plainFn Try.prog 54 = true := by kernel_rfl
theorem pl55 : plainFn Try.prog 55 = true := by kernel_rfl
theorem pl56 : plainFn Try.prog 56 = true := by kernel_rfl
theorem pl57 : plainFn Try.prog 57 = true := by kernel_rfl
theorem pl58 : plainFn Try.prog 58 = true := by kernel_rfl
theorem pl59 : plainFn Try.prog 59 = true := by kernel_rfl
theorem pl60 : plainFn Try.prog 60 = true := by kernel_rfl
theorem pl61 : plainFn Try.prog 61 = true := by kernel_rfl
theorem pl62 : plainFn Try.prog 62 = true := by kernel_rfl
theorem pl63 : plainFn Try.prog 63 = true := by kernel_rfl
theorem pl64 : plainFn Try.prog 64 = true := by kernel_rfl
theorem pl65 : plainFn Try.prog 65 = true := by kernel_rfl
theorem pl66 : plainFn Try.prog 66 = true := by kernel_rfl
theorem pl67 : plainFn Try.prog 67 = true := by kernel_rfl
theorem pl68 : plainFn Try.prog 68 = true := by kernel_rfl
theorem pl69 : plainFn Try.prog 69 = true := by kernel_rfl
theorem pl70 : plainFn Try.prog 70 = true := by kernel_rfl
theorem pl71 : plainFn Try.prog 71 = true := by kernel_rfl
theorem pl72 : plainFn Try.prog 72 = true := by kernel_rfl
theorem pl73 : plainFn Try.prog 73 = true := by kernel_rfl
theorem pl74 : plainFn Try.prog 74 = true := by kernel_rfl
theorem pl75 : plainFn Try.prog 75 = true := by kernel_rfl
theorem pl76 : plainFn Try.prog 76 = true := by kernel_rfl
theorem pl77 : plainFn Try.prog 77 = true := by kernel_rfl
theorem pl78 : plainFn Try.prog 78 = true := by kernel_rfl
theorem pl79 : plainFn Try.prog 79 = true := by kernel_rfl
theorem pl80 : plainFn Try.prog 80 = true := by kernel_rfl
theorem pl81 : plainFn Try.prog 81 = true := by kernel_rfl
theorem pl82 : plainFn Try.prog 82 = true := by kernel_rfl
theorem pl83 : plainFn Try.prog 83 = true := by kernel_rfl
theorem pl99 : plainFn Try.prog 99 = true := by kernel_rfl
theorem pl100 : plainFn Try.prog 100 = true := by kernel_rfl
theorem pl101 : plainFn Try.prog 101 = true := by kernel_rfl
theorem pl102 : plainFn Try.prog 102 = true := by kernel_rfl
end Go.Proofs.Ytmgleeoecdodjaa.Sh
