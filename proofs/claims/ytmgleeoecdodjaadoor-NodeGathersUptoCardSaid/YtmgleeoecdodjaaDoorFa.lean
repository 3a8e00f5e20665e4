/- Closed facts on the types and functions of this seat, each by the kernel; printed by a program. Conditions: none. -/
import Derived.Test.YtmgleeoecdodjaaDoorV8
import Derived.Test.YtmgleeoecdodjaaDoorProg
set_option maxRecDepth 100000
namespace Go.Proofs.YtmgleeoecdodjaaDoor.Sh
open Go Go.V
set_option linter.unusedSimpArgs false
theorem beq_dec {α : Type} [DecidableEq α] [BEq α] [LawfulBEq α] (a b : α) : (a == b) = decide (a = b) := by by_cases h : a = b <;> simp [h]
theorem size1 : sizeB Tryd.prog 1 1 = true := by kernel_rfl
theorem one1 : oneB Tryd.prog 1 = true := by kernel_rfl
theorem zero1 : zeroOf Tryd.prog 1 = some [.nilFunc] := by kernel_rfl
theorem size2 : sizeB Tryd.prog 2 1 = true := by kernel_rfl
theorem one2 : oneB Tryd.prog 2 = true := by kernel_rfl
theorem zero2 : zeroOf Tryd.prog 2 = some [.int .i64 0] := by kernel_rfl
theorem size3 : sizeB Tryd.prog 3 1 = true := by kernel_rfl
theorem one3 : oneB Tryd.prog 3 = true := by kernel_rfl
theorem zero3 : zeroOf Tryd.prog 3 = some [.int .i64 0] := by kernel_rfl
theorem size4 : sizeB Tryd.prog 4 1 = true := by kernel_rfl
theorem one4 : oneB Tryd.prog 4 = true := by kernel_rfl
theorem zero4 : zeroOf Tryd.prog 4 = some [.bool false] := by kernel_rfl
theorem size5 : sizeB Tryd.prog 5 1 = true := by kernel_rfl
theorem one5 : oneB Tryd.prog 5 = true := by kernel_rfl
theorem zero5 : zeroOf Tryd.prog 5 = some [.int .u8 0] := by kernel_rfl
theorem size6 : sizeB Tryd.prog 6 1 = true := by kernel_rfl
theorem one6 : oneB Tryd.prog 6 = true := by kernel_rfl
theorem zero6 : zeroOf Tryd.prog 6 = some [.int .u8 0] := by kernel_rfl
theorem size7 : sizeB Tryd.prog 7 4 = true := by kernel_rfl
theorem agg7 : aggB Tryd.prog 7 4 = true := by kernel_rfl
theorem fld7_0 : fieldB Tryd.prog 7 0 0 = true := by kernel_rfl
theorem fld7_1 : fieldB Tryd.prog 7 1 1 = true := by kernel_rfl
theorem fld7_2 : fieldB Tryd.prog 7 2 2 = true := by kernel_rfl
theorem fld7_3 : fieldB Tryd.prog 7 3 3 = true := by kernel_rfl
theorem zero7 : zeroOf Tryd.prog 7 = some [.int .i64 0, .int .i64 0, .bool false, .int .u8 0] := by kernel_rfl
theorem size8 : sizeB Tryd.prog 8 4 = true := by kernel_rfl
theorem agg8 : aggB Tryd.prog 8 4 = true := by kernel_rfl
theorem fld8_0 : fieldB Tryd.prog 8 0 0 = true := by kernel_rfl
theorem fld8_1 : fieldB Tryd.prog 8 1 1 = true := by kernel_rfl
theorem fld8_2 : fieldB Tryd.prog 8 2 2 = true := by kernel_rfl
theorem fld8_3 : fieldB Tryd.prog 8 3 3 = true := by kernel_rfl
theorem zero8 : zeroOf Tryd.prog 8 = some [.int .i64 0, .int .i64 0, .bool false, .int .u8 0] := by kernel_rfl
theorem size9 : sizeB Tryd.prog 9 1 = true := by kernel_rfl
theorem one9 : oneB Tryd.prog 9 = true := by kernel_rfl
theorem zero9 : zeroOf Tryd.prog 9 = some [.string ByteArray.empty] := by kernel_rfl
theorem size10 : sizeB Tryd.prog 10 1 = true := by kernel_rfl
theorem one10 : oneB Tryd.prog 10 = true := by kernel_rfl
theorem zero10 : zeroOf Tryd.prog 10 = some [.string ByteArray.empty] := by kernel_rfl
theorem size11 : sizeB Tryd.prog 11 1 = true := by kernel_rfl
theorem one11 : oneB Tryd.prog 11 = true := by kernel_rfl
theorem zero11 : zeroOf Tryd.prog 11 = some [.string ByteArray.empty] := by kernel_rfl
theorem size12 : sizeB Tryd.prog 12 1 = true := by kernel_rfl
theorem one12 : oneB Tryd.prog 12 = true := by kernel_rfl
theorem zero12 : zeroOf Tryd.prog 12 = some [.int .u64 0] := by kernel_rfl
theorem size13 : sizeB Tryd.prog 13 2 = true := by kernel_rfl
theorem agg13 : aggB Tryd.prog 13 2 = true := by kernel_rfl
theorem fld13_0 : fieldB Tryd.prog 13 0 0 = true := by kernel_rfl
theorem fld13_1 : fieldB Tryd.prog 13 1 1 = true := by kernel_rfl
theorem zero13 : zeroOf Tryd.prog 13 = some [.string ByteArray.empty, .int .u64 0] := by kernel_rfl
theorem size14 : sizeB Tryd.prog 14 2 = true := by kernel_rfl
theorem agg14 : aggB Tryd.prog 14 2 = true := by kernel_rfl
theorem fld14_0 : fieldB Tryd.prog 14 0 0 = true := by kernel_rfl
theorem fld14_1 : fieldB Tryd.prog 14 1 1 = true := by kernel_rfl
theorem zero14 : zeroOf Tryd.prog 14 = some [.string ByteArray.empty, .int .u64 0] := by kernel_rfl
theorem size15 : sizeB Tryd.prog 15 1 = true := by kernel_rfl
theorem one15 : oneB Tryd.prog 15 = true := by kernel_rfl
theorem zero15 : zeroOf Tryd.prog 15 = some [.pointer none] := by kernel_rfl
theorem size16 : sizeB Tryd.prog 16 1 = true := by kernel_rfl
theorem one16 : oneB Tryd.prog 16 = true := by kernel_rfl
theorem zero16 : zeroOf Tryd.prog 16 = some [.pointer none] := by kernel_rfl
theorem size17 : sizeB Tryd.prog 17 1 = true := by kernel_rfl
theorem one17 : oneB Tryd.prog 17 = true := by kernel_rfl
theorem zero17 : zeroOf Tryd.prog 17 = some [.pointer none] := by kernel_rfl
theorem size18 : sizeB Tryd.prog 18 1 = true := by kernel_rfl
theorem agg18 : aggB Tryd.prog 18 1 = true := by kernel_rfl
theorem fld18_0 : fieldB Tryd.prog 18 0 0 = true := by kernel_rfl
theorem zero18 : zeroOf Tryd.prog 18 = some [.pointer none] := by kernel_rfl
theorem size19 : sizeB Tryd.prog 19 1 = true := by kernel_rfl
theorem agg19 : aggB Tryd.prog 19 1 = true := by kernel_rfl
theorem fld19_0 : fieldB Tryd.prog 19 0 0 = true := by kernel_rfl
theorem zero19 : zeroOf Tryd.prog 19 = some [.pointer none] := by kernel_rfl
theorem size20 : sizeB Tryd.prog 20 1 = true := by kernel_rfl
theorem one20 : oneB Tryd.prog 20 = true := by kernel_rfl
theorem zero20 : zeroOf Tryd.prog 20 = some [.nilIface] := by kernel_rfl
theorem size21 : sizeB Tryd.prog 21 1 = true := by kernel_rfl
theorem one21 : oneB Tryd.prog 21 = true := by kernel_rfl
theorem zero21 : zeroOf Tryd.prog 21 = some [.int .i32 0] := by kernel_rfl
theorem size22 : sizeB Tryd.prog 22 2 = true := by kernel_rfl
theorem agg22 : aggB Tryd.prog 22 2 = true := by kernel_rfl
theorem fld22_0 : fieldB Tryd.prog 22 0 0 = true := by kernel_rfl
theorem fld22_1 : fieldB Tryd.prog 22 1 1 = true := by kernel_rfl
theorem zero22 : zeroOf Tryd.prog 22 = some [.int .i64 0, .int .i64 0] := by kernel_rfl
theorem size23 : sizeB Tryd.prog 23 2 = true := by kernel_rfl
theorem agg23 : aggB Tryd.prog 23 2 = true := by kernel_rfl
theorem fld23_0 : fieldB Tryd.prog 23 0 0 = true := by kernel_rfl
theorem fld23_1 : fieldB Tryd.prog 23 1 1 = true := by kernel_rfl
theorem zero23 : zeroOf Tryd.prog 23 = some [.int .i64 0, .int .i64 0] := by kernel_rfl
theorem size24 : sizeB Tryd.prog 24 3 = true := by kernel_rfl
theorem agg24 : aggB Tryd.prog 24 3 = true := by kernel_rfl
theorem fld24_0 : fieldB Tryd.prog 24 0 0 = true := by kernel_rfl
theorem fld24_1 : fieldB Tryd.prog 24 1 2 = true := by kernel_rfl
theorem zero24 : zeroOf Tryd.prog 24 = some [.int .i64 0, .int .i64 0, .string ByteArray.empty] := by kernel_rfl
theorem size25 : sizeB Tryd.prog 25 3 = true := by kernel_rfl
theorem agg25 : aggB Tryd.prog 25 3 = true := by kernel_rfl
theorem fld25_0 : fieldB Tryd.prog 25 0 0 = true := by kernel_rfl
theorem fld25_1 : fieldB Tryd.prog 25 1 2 = true := by kernel_rfl
theorem zero25 : zeroOf Tryd.prog 25 = some [.int .i64 0, .int .i64 0, .string ByteArray.empty] := by kernel_rfl
theorem size26 : sizeB Tryd.prog 26 1 = true := by kernel_rfl
theorem one26 : oneB Tryd.prog 26 = true := by kernel_rfl
theorem zero26 : zeroOf Tryd.prog 26 = some [.slice none 0 0] := by kernel_rfl
theorem sl26 : SlT Tryd.prog 26 9 1 16 := SlT.of (by kernel_rfl)
theorem size27 : sizeB Tryd.prog 27 3 = true := by kernel_rfl
theorem agg27 : aggB Tryd.prog 27 3 = true := by kernel_rfl
theorem fld27_0 : fieldB Tryd.prog 27 0 0 = true := by kernel_rfl
theorem fld27_1 : fieldB Tryd.prog 27 1 2 = true := by kernel_rfl
theorem zero27 : zeroOf Tryd.prog 27 = some [.int .i64 0, .int .i64 0, .slice none 0 0] := by kernel_rfl
theorem size28 : sizeB Tryd.prog 28 3 = true := by kernel_rfl
theorem agg28 : aggB Tryd.prog 28 3 = true := by kernel_rfl
theorem fld28_0 : fieldB Tryd.prog 28 0 0 = true := by kernel_rfl
theorem fld28_1 : fieldB Tryd.prog 28 1 2 = true := by kernel_rfl
theorem zero28 : zeroOf Tryd.prog 28 = some [.int .i64 0, .int .i64 0, .slice none 0 0] := by kernel_rfl
theorem size29 : sizeB Tryd.prog 29 1 = true := by kernel_rfl
theorem one29 : oneB Tryd.prog 29 = true := by kernel_rfl
theorem zero29 : zeroOf Tryd.prog 29 = some [.slice none 0 0] := by kernel_rfl
theorem sl29 : SlT Tryd.prog 29 77 8 88 := SlT.of (by kernel_rfl)
theorem size30 : sizeB Tryd.prog 30 1 = true := by kernel_rfl
theorem one30 : oneB Tryd.prog 30 = true := by kernel_rfl
theorem zero30 : zeroOf Tryd.prog 30 = some [.slice none 0 0] := by kernel_rfl
theorem sl30 : SlT Tryd.prog 30 81 6 64 := SlT.of (by kernel_rfl)
theorem size31 : sizeB Tryd.prog 31 9 = true := by kernel_rfl
theorem agg31 : aggB Tryd.prog 31 9 = true := by kernel_rfl
theorem fld31_0 : fieldB Tryd.prog 31 0 0 = true := by kernel_rfl
theorem fld31_1 : fieldB Tryd.prog 31 1 1 = true := by kernel_rfl
theorem fld31_2 : fieldB Tryd.prog 31 2 4 = true := by kernel_rfl
theorem fld31_3 : fieldB Tryd.prog 31 3 7 = true := by kernel_rfl
theorem fld31_4 : fieldB Tryd.prog 31 4 8 = true := by kernel_rfl
theorem zero31 : zeroOf Tryd.prog 31 = some [.bool false, .int .i64 0, .int .i64 0, .string ByteArray.empty, .int .i64 0, .int .i64 0, .slice none 0 0, .slice none 0 0, .slice none 0 0] := by kernel_rfl
theorem size32 : sizeB Tryd.prog 32 9 = true := by kernel_rfl
theorem agg32 : aggB Tryd.prog 32 9 = true := by kernel_rfl
theorem fld32_0 : fieldB Tryd.prog 32 0 0 = true := by kernel_rfl
theorem fld32_1 : fieldB Tryd.prog 32 1 1 = true := by kernel_rfl
theorem fld32_2 : fieldB Tryd.prog 32 2 4 = true := by kernel_rfl
theorem fld32_3 : fieldB Tryd.prog 32 3 7 = true := by kernel_rfl
theorem fld32_4 : fieldB Tryd.prog 32 4 8 = true := by kernel_rfl
theorem zero32 : zeroOf Tryd.prog 32 = some [.bool false, .int .i64 0, .int .i64 0, .string ByteArray.empty, .int .i64 0, .int .i64 0, .slice none 0 0, .slice none 0 0, .slice none 0 0] := by kernel_rfl
theorem size33 : sizeB Tryd.prog 33 1 = true := by kernel_rfl
theorem one33 : oneB Tryd.prog 33 = true := by kernel_rfl
theorem zero33 : zeroOf Tryd.prog 33 = some [.slice none 0 0] := by kernel_rfl
theorem sl33 : SlT Tryd.prog 33 3 1 8 := SlT.of (by kernel_rfl)
theorem size34 : sizeB Tryd.prog 34 1 = true := by kernel_rfl
theorem one34 : oneB Tryd.prog 34 = true := by kernel_rfl
theorem zero34 : zeroOf Tryd.prog 34 = some [.nilFunc] := by kernel_rfl
theorem size35 : sizeB Tryd.prog 35 1 = true := by kernel_rfl
theorem one35 : oneB Tryd.prog 35 = true := by kernel_rfl
theorem zero35 : zeroOf Tryd.prog 35 = some [.slice none 0 0] := by kernel_rfl
theorem sl35 : SlT Tryd.prog 35 49 1 16 := SlT.of (by kernel_rfl)
theorem size36 : sizeB Tryd.prog 36 1 = true := by kernel_rfl
theorem one36 : oneB Tryd.prog 36 = true := by kernel_rfl
theorem zero36 : zeroOf Tryd.prog 36 = some [.nilFunc] := by kernel_rfl
theorem size38 : sizeB Tryd.prog 38 1 = true := by kernel_rfl
theorem one38 : oneB Tryd.prog 38 = true := by kernel_rfl
theorem zero38 : zeroOf Tryd.prog 38 = some [.nilFunc] := by kernel_rfl
theorem size40 : sizeB Tryd.prog 40 1 = true := by kernel_rfl
theorem one40 : oneB Tryd.prog 40 = true := by kernel_rfl
theorem zero40 : zeroOf Tryd.prog 40 = some [.nilFunc] := by kernel_rfl
theorem size41 : sizeB Tryd.prog 41 1 = true := by kernel_rfl
theorem one41 : oneB Tryd.prog 41 = true := by kernel_rfl
theorem zero41 : zeroOf Tryd.prog 41 = some [.nilIface] := by kernel_rfl
theorem size42 : sizeB Tryd.prog 42 1 = true := by kernel_rfl
theorem one42 : oneB Tryd.prog 42 = true := by kernel_rfl
theorem zero42 : zeroOf Tryd.prog 42 = some [.nilIface] := by kernel_rfl
theorem size44 : sizeB Tryd.prog 44 1 = true := by kernel_rfl
theorem one44 : oneB Tryd.prog 44 = true := by kernel_rfl
theorem zero44 : zeroOf Tryd.prog 44 = some [.nilFunc] := by kernel_rfl
theorem size45 : sizeB Tryd.prog 45 1 = true := by kernel_rfl
theorem one45 : oneB Tryd.prog 45 = true := by kernel_rfl
theorem zero45 : zeroOf Tryd.prog 45 = some [.nilFunc] := by kernel_rfl
theorem size46 : sizeB Tryd.prog 46 1 = true := by kernel_rfl
theorem one46 : oneB Tryd.prog 46 = true := by kernel_rfl
theorem zero46 : zeroOf Tryd.prog 46 = some [.nilFunc] := by kernel_rfl
theorem size47 : sizeB Tryd.prog 47 1 = true := by kernel_rfl
theorem one47 : oneB Tryd.prog 47 = true := by kernel_rfl
theorem zero47 : zeroOf Tryd.prog 47 = some [.nilFunc] := by kernel_rfl
theorem size48 : sizeB Tryd.prog 48 1 = true := by kernel_rfl
theorem one48 : oneB Tryd.prog 48 = true := by kernel_rfl
theorem zero48 : zeroOf Tryd.prog 48 = some [.nilIface] := by kernel_rfl
theorem size49 : sizeB Tryd.prog 49 1 = true := by kernel_rfl
theorem one49 : oneB Tryd.prog 49 = true := by kernel_rfl
theorem zero49 : zeroOf Tryd.prog 49 = some [.nilIface] := by kernel_rfl
theorem size50 : sizeB Tryd.prog 50 1 = true := by kernel_rfl
theorem one50 : oneB Tryd.prog 50 = true := by kernel_rfl
theorem zero50 : zeroOf Tryd.prog 50 = some [.nilFunc] := by kernel_rfl
theorem size51 : sizeB Tryd.prog 51 1 = true := by kernel_rfl
theorem one51 : oneB Tryd.prog 51 = true := by kernel_rfl
theorem zero51 : zeroOf Tryd.prog 51 = some [.slice none 0 0] := by kernel_rfl
theorem sl51 : SlT Tryd.prog 51 140 1 24 := SlT.of (by kernel_rfl)
theorem size52 : sizeB Tryd.prog 52 1 = true := by kernel_rfl
theorem one52 : oneB Tryd.prog 52 = true := by kernel_rfl
theorem zero52 : zeroOf Tryd.prog 52 = some [.slice none 0 0] := by kernel_rfl
theorem sl52 : SlT Tryd.prog 52 26 1 24 := SlT.of (by kernel_rfl)
theorem size53 : sizeB Tryd.prog 53 1 = true := by kernel_rfl
theorem one53 : oneB Tryd.prog 53 = true := by kernel_rfl
theorem zero53 : zeroOf Tryd.prog 53 = some [.slice none 0 0] := by kernel_rfl
theorem sl53 : SlT Tryd.prog 53 33 1 24 := SlT.of (by kernel_rfl)
theorem size54 : sizeB Tryd.prog 54 1 = true := by kernel_rfl
theorem one54 : oneB Tryd.prog 54 = true := by kernel_rfl
theorem zero54 : zeroOf Tryd.prog 54 = some [.slice none 0 0] := by kernel_rfl
theorem sl54 : SlT Tryd.prog 54 143 1 24 := SlT.of (by kernel_rfl)
theorem size55 : sizeB Tryd.prog 55 1 = true := by kernel_rfl
theorem one55 : oneB Tryd.prog 55 = true := by kernel_rfl
theorem zero55 : zeroOf Tryd.prog 55 = some [.slice none 0 0] := by kernel_rfl
theorem sl55 : SlT Tryd.prog 55 145 1 24 := SlT.of (by kernel_rfl)
theorem size56 : sizeB Tryd.prog 56 1 = true := by kernel_rfl
theorem one56 : oneB Tryd.prog 56 = true := by kernel_rfl
theorem zero56 : zeroOf Tryd.prog 56 = some [.slice none 0 0] := by kernel_rfl
theorem sl56 : SlT Tryd.prog 56 79 1 24 := SlT.of (by kernel_rfl)
theorem size57 : sizeB Tryd.prog 57 1 = true := by kernel_rfl
theorem one57 : oneB Tryd.prog 57 = true := by kernel_rfl
theorem zero57 : zeroOf Tryd.prog 57 = some [.slice none 0 0] := by kernel_rfl
theorem sl57 : SlT Tryd.prog 57 150 1 24 := SlT.of (by kernel_rfl)
theorem size58 : sizeB Tryd.prog 58 1 = true := by kernel_rfl
theorem one58 : oneB Tryd.prog 58 = true := by kernel_rfl
theorem zero58 : zeroOf Tryd.prog 58 = some [.slice none 0 0] := by kernel_rfl
theorem sl58 : SlT Tryd.prog 58 154 1 24 := SlT.of (by kernel_rfl)
theorem size59 : sizeB Tryd.prog 59 1 = true := by kernel_rfl
theorem one59 : oneB Tryd.prog 59 = true := by kernel_rfl
theorem zero59 : zeroOf Tryd.prog 59 = some [.slice none 0 0] := by kernel_rfl
theorem sl59 : SlT Tryd.prog 59 158 1 24 := SlT.of (by kernel_rfl)
theorem size60 : sizeB Tryd.prog 60 1 = true := by kernel_rfl
theorem one60 : oneB Tryd.prog 60 = true := by kernel_rfl
theorem zero60 : zeroOf Tryd.prog 60 = some [.slice none 0 0] := by kernel_rfl
theorem sl60 : SlT Tryd.prog 60 162 1 24 := SlT.of (by kernel_rfl)
theorem size61 : sizeB Tryd.prog 61 1 = true := by kernel_rfl
theorem one61 : oneB Tryd.prog 61 = true := by kernel_rfl
theorem zero61 : zeroOf Tryd.prog 61 = some [.slice none 0 0] := by kernel_rfl
theorem sl61 : SlT Tryd.prog 61 75 1 24 := SlT.of (by kernel_rfl)
theorem size62 : sizeB Tryd.prog 62 1 = true := by kernel_rfl
theorem one62 : oneB Tryd.prog 62 = true := by kernel_rfl
theorem zero62 : zeroOf Tryd.prog 62 = some [.slice none 0 0] := by kernel_rfl
theorem sl62 : SlT Tryd.prog 62 29 1 24 := SlT.of (by kernel_rfl)
theorem size63 : sizeB Tryd.prog 63 1 = true := by kernel_rfl
theorem one63 : oneB Tryd.prog 63 = true := by kernel_rfl
theorem zero63 : zeroOf Tryd.prog 63 = some [.slice none 0 0] := by kernel_rfl
theorem sl63 : SlT Tryd.prog 63 30 1 24 := SlT.of (by kernel_rfl)
theorem size64 : sizeB Tryd.prog 64 1 = true := by kernel_rfl
theorem one64 : oneB Tryd.prog 64 = true := by kernel_rfl
theorem zero64 : zeroOf Tryd.prog 64 = some [.slice none 0 0] := by kernel_rfl
theorem sl64 : SlT Tryd.prog 64 163 1 24 := SlT.of (by kernel_rfl)
theorem size65 : sizeB Tryd.prog 65 1 = true := by kernel_rfl
theorem one65 : oneB Tryd.prog 65 = true := by kernel_rfl
theorem zero65 : zeroOf Tryd.prog 65 = some [.slice none 0 0] := by kernel_rfl
theorem sl65 : SlT Tryd.prog 65 166 1 24 := SlT.of (by kernel_rfl)
theorem size66 : sizeB Tryd.prog 66 15 = true := by kernel_rfl
theorem agg66 : aggB Tryd.prog 66 15 = true := by kernel_rfl
theorem fld66_0 : fieldB Tryd.prog 66 0 0 = true := by kernel_rfl
theorem fld66_1 : fieldB Tryd.prog 66 1 1 = true := by kernel_rfl
theorem fld66_2 : fieldB Tryd.prog 66 2 2 = true := by kernel_rfl
theorem fld66_3 : fieldB Tryd.prog 66 3 3 = true := by kernel_rfl
theorem fld66_4 : fieldB Tryd.prog 66 4 4 = true := by kernel_rfl
theorem fld66_5 : fieldB Tryd.prog 66 5 5 = true := by kernel_rfl
theorem fld66_6 : fieldB Tryd.prog 66 6 6 = true := by kernel_rfl
theorem fld66_7 : fieldB Tryd.prog 66 7 7 = true := by kernel_rfl
theorem fld66_8 : fieldB Tryd.prog 66 8 8 = true := by kernel_rfl
theorem fld66_9 : fieldB Tryd.prog 66 9 9 = true := by kernel_rfl
theorem fld66_10 : fieldB Tryd.prog 66 10 10 = true := by kernel_rfl
theorem fld66_11 : fieldB Tryd.prog 66 11 11 = true := by kernel_rfl
theorem fld66_12 : fieldB Tryd.prog 66 12 12 = true := by kernel_rfl
theorem fld66_13 : fieldB Tryd.prog 66 13 13 = true := by kernel_rfl
theorem fld66_14 : fieldB Tryd.prog 66 14 14 = true := by kernel_rfl
theorem zero66 : zeroOf Tryd.prog 66 = some [.slice none 0 0, .slice none 0 0, .slice none 0 0, .slice none 0 0, .slice none 0 0, .slice none 0 0, .slice none 0 0, .slice none 0 0, .slice none 0 0, .slice none 0 0, .slice none 0 0, .slice none 0 0, .slice none 0 0, .slice none 0 0, .slice none 0 0] := by kernel_rfl
theorem size67 : sizeB Tryd.prog 67 15 = true := by kernel_rfl
theorem agg67 : aggB Tryd.prog 67 15 = true := by kernel_rfl
theorem fld67_0 : fieldB Tryd.prog 67 0 0 = true := by kernel_rfl
theorem fld67_1 : fieldB Tryd.prog 67 1 1 = true := by kernel_rfl
theorem fld67_2 : fieldB Tryd.prog 67 2 2 = true := by kernel_rfl
theorem fld67_3 : fieldB Tryd.prog 67 3 3 = true := by kernel_rfl
theorem fld67_4 : fieldB Tryd.prog 67 4 4 = true := by kernel_rfl
theorem fld67_5 : fieldB Tryd.prog 67 5 5 = true := by kernel_rfl
theorem fld67_6 : fieldB Tryd.prog 67 6 6 = true := by kernel_rfl
theorem fld67_7 : fieldB Tryd.prog 67 7 7 = true := by kernel_rfl
theorem fld67_8 : fieldB Tryd.prog 67 8 8 = true := by kernel_rfl
theorem fld67_9 : fieldB Tryd.prog 67 9 9 = true := by kernel_rfl
theorem fld67_10 : fieldB Tryd.prog 67 10 10 = true := by kernel_rfl
theorem fld67_11 : fieldB Tryd.prog 67 11 11 = true := by kernel_rfl
theorem fld67_12 : fieldB Tryd.prog 67 12 12 = true := by kernel_rfl
theorem fld67_13 : fieldB Tryd.prog 67 13 13 = true := by kernel_rfl
theorem fld67_14 : fieldB Tryd.prog 67 14 14 = true := by kernel_rfl
theorem zero67 : zeroOf Tryd.prog 67 = some [.slice none 0 0, .slice none 0 0, .slice none 0 0, .slice none 0 0, .slice none 0 0, .slice none 0 0, .slice none 0 0, .slice none 0 0, .slice none 0 0, .slice none 0 0, .slice none 0 0, .slice none 0 0, .slice none 0 0, .slice none 0 0, .slice none 0 0] := by kernel_rfl
theorem size68 : sizeB Tryd.prog 68 1 = true := by kernel_rfl
theorem one68 : oneB Tryd.prog 68 = true := by kernel_rfl
theorem zero68 : zeroOf Tryd.prog 68 = some [.nilFunc] := by kernel_rfl
theorem size69 : sizeB Tryd.prog 69 1 = true := by kernel_rfl
theorem one69 : oneB Tryd.prog 69 = true := by kernel_rfl
theorem zero69 : zeroOf Tryd.prog 69 = some [.nilFunc] := by kernel_rfl
theorem size70 : sizeB Tryd.prog 70 1 = true := by kernel_rfl
theorem one70 : oneB Tryd.prog 70 = true := by kernel_rfl
theorem zero70 : zeroOf Tryd.prog 70 = some [.nilFunc] := by kernel_rfl
theorem size71 : sizeB Tryd.prog 71 1 = true := by kernel_rfl
theorem one71 : oneB Tryd.prog 71 = true := by kernel_rfl
theorem zero71 : zeroOf Tryd.prog 71 = some [.nilFunc] := by kernel_rfl
theorem size74 : sizeB Tryd.prog 74 1 = true := by kernel_rfl
theorem one74 : oneB Tryd.prog 74 = true := by kernel_rfl
theorem zero74 : zeroOf Tryd.prog 74 = some [.int .u32 0] := by kernel_rfl
theorem size75 : sizeB Tryd.prog 75 1 = true := by kernel_rfl
theorem one75 : oneB Tryd.prog 75 = true := by kernel_rfl
theorem zero75 : zeroOf Tryd.prog 75 = some [.slice none 0 0] := by kernel_rfl
theorem sl75 : SlT Tryd.prog 75 130 19 176 := SlT.of (by kernel_rfl)
theorem size76 : sizeB Tryd.prog 76 8 = true := by kernel_rfl
theorem agg76 : aggB Tryd.prog 76 8 = true := by kernel_rfl
theorem fld76_0 : fieldB Tryd.prog 76 0 0 = true := by kernel_rfl
theorem fld76_1 : fieldB Tryd.prog 76 1 2 = true := by kernel_rfl
theorem fld76_2 : fieldB Tryd.prog 76 2 3 = true := by kernel_rfl
theorem fld76_3 : fieldB Tryd.prog 76 3 4 = true := by kernel_rfl
theorem fld76_4 : fieldB Tryd.prog 76 4 5 = true := by kernel_rfl
theorem fld76_5 : fieldB Tryd.prog 76 5 6 = true := by kernel_rfl
theorem fld76_6 : fieldB Tryd.prog 76 6 7 = true := by kernel_rfl
theorem zero76 : zeroOf Tryd.prog 76 = some [.int .i64 0, .int .i64 0, .int .u32 0, .bool false, .string ByteArray.empty, .int .i64 0, .string ByteArray.empty, .slice none 0 0] := by kernel_rfl
theorem size77 : sizeB Tryd.prog 77 8 = true := by kernel_rfl
theorem agg77 : aggB Tryd.prog 77 8 = true := by kernel_rfl
theorem fld77_0 : fieldB Tryd.prog 77 0 0 = true := by kernel_rfl
theorem fld77_1 : fieldB Tryd.prog 77 1 2 = true := by kernel_rfl
theorem fld77_2 : fieldB Tryd.prog 77 2 3 = true := by kernel_rfl
theorem fld77_3 : fieldB Tryd.prog 77 3 4 = true := by kernel_rfl
theorem fld77_4 : fieldB Tryd.prog 77 4 5 = true := by kernel_rfl
theorem fld77_5 : fieldB Tryd.prog 77 5 6 = true := by kernel_rfl
theorem fld77_6 : fieldB Tryd.prog 77 6 7 = true := by kernel_rfl
theorem zero77 : zeroOf Tryd.prog 77 = some [.int .i64 0, .int .i64 0, .int .u32 0, .bool false, .string ByteArray.empty, .int .i64 0, .string ByteArray.empty, .slice none 0 0] := by kernel_rfl
theorem size79 : sizeB Tryd.prog 79 1 = true := by kernel_rfl
theorem one79 : oneB Tryd.prog 79 = true := by kernel_rfl
theorem zero79 : zeroOf Tryd.prog 79 = some [.slice none 0 0] := by kernel_rfl
theorem sl79 : SlT Tryd.prog 79 133 2 24 := SlT.of (by kernel_rfl)
theorem size80 : sizeB Tryd.prog 80 6 = true := by kernel_rfl
theorem agg80 : aggB Tryd.prog 80 6 = true := by kernel_rfl
theorem fld80_0 : fieldB Tryd.prog 80 0 0 = true := by kernel_rfl
theorem fld80_1 : fieldB Tryd.prog 80 1 2 = true := by kernel_rfl
theorem fld80_2 : fieldB Tryd.prog 80 2 3 = true := by kernel_rfl
theorem fld80_3 : fieldB Tryd.prog 80 3 4 = true := by kernel_rfl
theorem fld80_4 : fieldB Tryd.prog 80 4 5 = true := by kernel_rfl
theorem zero80 : zeroOf Tryd.prog 80 = some [.int .i64 0, .int .i64 0, .int .u32 0, .bool false, .string ByteArray.empty, .slice none 0 0] := by kernel_rfl
theorem size81 : sizeB Tryd.prog 81 6 = true := by kernel_rfl
theorem agg81 : aggB Tryd.prog 81 6 = true := by kernel_rfl
theorem fld81_0 : fieldB Tryd.prog 81 0 0 = true := by kernel_rfl
theorem fld81_1 : fieldB Tryd.prog 81 1 2 = true := by kernel_rfl
theorem fld81_2 : fieldB Tryd.prog 81 2 3 = true := by kernel_rfl
theorem fld81_3 : fieldB Tryd.prog 81 3 4 = true := by kernel_rfl
theorem fld81_4 : fieldB Tryd.prog 81 4 5 = true := by kernel_rfl
theorem zero81 : zeroOf Tryd.prog 81 = some [.int .i64 0, .int .i64 0, .int .u32 0, .bool false, .string ByteArray.empty, .slice none 0 0] := by kernel_rfl
theorem size83 : sizeB Tryd.prog 83 1 = true := by kernel_rfl
theorem one83 : oneB Tryd.prog 83 = true := by kernel_rfl
theorem zero83 : zeroOf Tryd.prog 83 = some [.nilFunc] := by kernel_rfl
theorem size84 : sizeB Tryd.prog 84 1 = true := by kernel_rfl
theorem one84 : oneB Tryd.prog 84 = true := by kernel_rfl
theorem zero84 : zeroOf Tryd.prog 84 = some [.nilFunc] := by kernel_rfl
theorem size85 : sizeB Tryd.prog 85 1 = true := by kernel_rfl
theorem one85 : oneB Tryd.prog 85 = true := by kernel_rfl
theorem zero85 : zeroOf Tryd.prog 85 = some [.nilFunc] := by kernel_rfl
theorem size86 : sizeB Tryd.prog 86 1 = true := by kernel_rfl
theorem one86 : oneB Tryd.prog 86 = true := by kernel_rfl
theorem zero86 : zeroOf Tryd.prog 86 = some [.nilFunc] := by kernel_rfl
theorem size87 : sizeB Tryd.prog 87 1 = true := by kernel_rfl
theorem one87 : oneB Tryd.prog 87 = true := by kernel_rfl
theorem zero87 : zeroOf Tryd.prog 87 = some [.nilFunc] := by kernel_rfl
theorem size88 : sizeB Tryd.prog 88 1 = true := by kernel_rfl
theorem one88 : oneB Tryd.prog 88 = true := by kernel_rfl
theorem zero88 : zeroOf Tryd.prog 88 = some [.nilFunc] := by kernel_rfl
theorem size89 : sizeB Tryd.prog 89 1 = true := by kernel_rfl
theorem one89 : oneB Tryd.prog 89 = true := by kernel_rfl
theorem zero89 : zeroOf Tryd.prog 89 = some [.nilFunc] := by kernel_rfl
theorem size90 : sizeB Tryd.prog 90 1 = true := by kernel_rfl
theorem one90 : oneB Tryd.prog 90 = true := by kernel_rfl
theorem zero90 : zeroOf Tryd.prog 90 = some [.nilFunc] := by kernel_rfl
theorem size91 : sizeB Tryd.prog 91 2 = true := by kernel_rfl
theorem agg91 : aggB Tryd.prog 91 2 = true := by kernel_rfl
theorem fld91_0 : fieldB Tryd.prog 91 0 0 = true := by kernel_rfl
theorem fld91_1 : fieldB Tryd.prog 91 1 1 = true := by kernel_rfl
theorem zero91 : zeroOf Tryd.prog 91 = some [.int .i64 0, .string ByteArray.empty] := by kernel_rfl
theorem size92 : sizeB Tryd.prog 92 2 = true := by kernel_rfl
theorem agg92 : aggB Tryd.prog 92 2 = true := by kernel_rfl
theorem fld92_0 : fieldB Tryd.prog 92 0 0 = true := by kernel_rfl
theorem fld92_1 : fieldB Tryd.prog 92 1 1 = true := by kernel_rfl
theorem zero92 : zeroOf Tryd.prog 92 = some [.int .i64 0, .string ByteArray.empty] := by kernel_rfl
theorem size93 : sizeB Tryd.prog 93 1 = true := by kernel_rfl
theorem one93 : oneB Tryd.prog 93 = true := by kernel_rfl
theorem zero93 : zeroOf Tryd.prog 93 = some [.nilFunc] := by kernel_rfl
theorem size94 : sizeB Tryd.prog 94 1 = true := by kernel_rfl
theorem one94 : oneB Tryd.prog 94 = true := by kernel_rfl
theorem zero94 : zeroOf Tryd.prog 94 = some [.int .i64 0] := by kernel_rfl
theorem size95 : sizeB Tryd.prog 95 3 = true := by kernel_rfl
theorem agg95 : aggB Tryd.prog 95 3 = true := by kernel_rfl
theorem fld95_0 : fieldB Tryd.prog 95 0 0 = true := by kernel_rfl
theorem fld95_1 : fieldB Tryd.prog 95 1 1 = true := by kernel_rfl
theorem fld95_2 : fieldB Tryd.prog 95 2 2 = true := by kernel_rfl
theorem zero95 : zeroOf Tryd.prog 95 = some [.int .i64 0, .int .i64 0, .int .i64 0] := by kernel_rfl
theorem size96 : sizeB Tryd.prog 96 3 = true := by kernel_rfl
theorem agg96 : aggB Tryd.prog 96 3 = true := by kernel_rfl
theorem fld96_0 : fieldB Tryd.prog 96 0 0 = true := by kernel_rfl
theorem fld96_1 : fieldB Tryd.prog 96 1 1 = true := by kernel_rfl
theorem fld96_2 : fieldB Tryd.prog 96 2 2 = true := by kernel_rfl
theorem zero96 : zeroOf Tryd.prog 96 = some [.int .i64 0, .int .i64 0, .int .i64 0] := by kernel_rfl
theorem size98 : sizeB Tryd.prog 98 1 = true := by kernel_rfl
theorem one98 : oneB Tryd.prog 98 = true := by kernel_rfl
theorem zero98 : zeroOf Tryd.prog 98 = some [.nilFunc] := by kernel_rfl
theorem size99 : sizeB Tryd.prog 99 1 = true := by kernel_rfl
theorem one99 : oneB Tryd.prog 99 = true := by kernel_rfl
theorem zero99 : zeroOf Tryd.prog 99 = some [.nilFunc] := by kernel_rfl
theorem size100 : sizeB Tryd.prog 100 1 = true := by kernel_rfl
theorem one100 : oneB Tryd.prog 100 = true := by kernel_rfl
theorem zero100 : zeroOf Tryd.prog 100 = some [.nilFunc] := by kernel_rfl
theorem size101 : sizeB Tryd.prog 101 1 = true := by kernel_rfl
theorem one101 : oneB Tryd.prog 101 = true := by kernel_rfl
theorem zero101 : zeroOf Tryd.prog 101 = some [.nilFunc] := by kernel_rfl
theorem size102 : sizeB Tryd.prog 102 1 = true := by kernel_rfl
theorem one102 : oneB Tryd.prog 102 = true := by kernel_rfl
theorem zero102 : zeroOf Tryd.prog 102 = some [.pointer none] := by kernel_rfl
theorem size103 : sizeB Tryd.prog 103 1 = true := by kernel_rfl
theorem one103 : oneB Tryd.prog 103 = true := by kernel_rfl
theorem zero103 : zeroOf Tryd.prog 103 = some [.nilFunc] := by kernel_rfl
theorem size104 : sizeB Tryd.prog 104 1 = true := by kernel_rfl
theorem one104 : oneB Tryd.prog 104 = true := by kernel_rfl
theorem zero104 : zeroOf Tryd.prog 104 = some [.nilFunc] := by kernel_rfl
theorem size105 : sizeB Tryd.prog 105 1 = true := by kernel_rfl
theorem one105 : oneB Tryd.prog 105 = true := by kernel_rfl
theorem zero105 : zeroOf Tryd.prog 105 = some [.nilFunc] := by kernel_rfl
theorem size106 : sizeB Tryd.prog 106 1 = true := by kernel_rfl
theorem one106 : oneB Tryd.prog 106 = true := by kernel_rfl
theorem zero106 : zeroOf Tryd.prog 106 = some [.nilFunc] := by kernel_rfl
theorem size107 : sizeB Tryd.prog 107 1 = true := by kernel_rfl
theorem one107 : oneB Tryd.prog 107 = true := by kernel_rfl
theorem zero107 : zeroOf Tryd.prog 107 = some [.nilFunc] := by kernel_rfl
theorem size108 : sizeB Tryd.prog 108 1 = true := by kernel_rfl
theorem one108 : oneB Tryd.prog 108 = true := by kernel_rfl
theorem zero108 : zeroOf Tryd.prog 108 = some [.nilFunc] := by kernel_rfl
theorem size109 : sizeB Tryd.prog 109 1 = true := by kernel_rfl
theorem one109 : oneB Tryd.prog 109 = true := by kernel_rfl
theorem zero109 : zeroOf Tryd.prog 109 = some [.nilFunc] := by kernel_rfl
theorem size110 : sizeB Tryd.prog 110 1 = true := by kernel_rfl
theorem one110 : oneB Tryd.prog 110 = true := by kernel_rfl
theorem zero110 : zeroOf Tryd.prog 110 = some [.nilFunc] := by kernel_rfl
theorem size111 : sizeB Tryd.prog 111 1 = true := by kernel_rfl
theorem one111 : oneB Tryd.prog 111 = true := by kernel_rfl
theorem zero111 : zeroOf Tryd.prog 111 = some [.nilFunc] := by kernel_rfl
theorem size112 : sizeB Tryd.prog 112 1 = true := by kernel_rfl
theorem one112 : oneB Tryd.prog 112 = true := by kernel_rfl
theorem zero112 : zeroOf Tryd.prog 112 = some [.nilFunc] := by kernel_rfl
theorem size113 : sizeB Tryd.prog 113 1 = true := by kernel_rfl
theorem one113 : oneB Tryd.prog 113 = true := by kernel_rfl
theorem zero113 : zeroOf Tryd.prog 113 = some [.nilFunc] := by kernel_rfl
theorem size114 : sizeB Tryd.prog 114 1 = true := by kernel_rfl
theorem one114 : oneB Tryd.prog 114 = true := by kernel_rfl
theorem zero114 : zeroOf Tryd.prog 114 = some [.nilFunc] := by kernel_rfl
theorem size115 : sizeB Tryd.prog 115 1 = true := by kernel_rfl
theorem one115 : oneB Tryd.prog 115 = true := by kernel_rfl
theorem zero115 : zeroOf Tryd.prog 115 = some [.nilFunc] := by kernel_rfl
theorem size116 : sizeB Tryd.prog 116 1 = true := by kernel_rfl
theorem one116 : oneB Tryd.prog 116 = true := by kernel_rfl
theorem zero116 : zeroOf Tryd.prog 116 = some [.nilFunc] := by kernel_rfl
theorem size117 : sizeB Tryd.prog 117 1 = true := by kernel_rfl
theorem one117 : oneB Tryd.prog 117 = true := by kernel_rfl
theorem zero117 : zeroOf Tryd.prog 117 = some [.nilFunc] := by kernel_rfl
theorem size118 : sizeB Tryd.prog 118 1 = true := by kernel_rfl
theorem one118 : oneB Tryd.prog 118 = true := by kernel_rfl
theorem zero118 : zeroOf Tryd.prog 118 = some [.nilFunc] := by kernel_rfl
theorem size119 : sizeB Tryd.prog 119 1 = true := by kernel_rfl
theorem one119 : oneB Tryd.prog 119 = true := by kernel_rfl
theorem zero119 : zeroOf Tryd.prog 119 = some [.nilFunc] := by kernel_rfl
theorem size120 : sizeB Tryd.prog 120 1 = true := by kernel_rfl
theorem one120 : oneB Tryd.prog 120 = true := by kernel_rfl
theorem zero120 : zeroOf Tryd.prog 120 = some [.nilFunc] := by kernel_rfl
theorem size121 : sizeB Tryd.prog 121 1 = true := by kernel_rfl
theorem one121 : oneB Tryd.prog 121 = true := by kernel_rfl
theorem zero121 : zeroOf Tryd.prog 121 = some [.nilFunc] := by kernel_rfl
theorem size122 : sizeB Tryd.prog 122 1 = true := by kernel_rfl
theorem one122 : oneB Tryd.prog 122 = true := by kernel_rfl
theorem zero122 : zeroOf Tryd.prog 122 = some [.nilFunc] := by kernel_rfl
theorem size123 : sizeB Tryd.prog 123 1 = true := by kernel_rfl
theorem one123 : oneB Tryd.prog 123 = true := by kernel_rfl
theorem zero123 : zeroOf Tryd.prog 123 = some [.nilFunc] := by kernel_rfl
theorem size124 : sizeB Tryd.prog 124 1 = true := by kernel_rfl
theorem one124 : oneB Tryd.prog 124 = true := by kernel_rfl
theorem zero124 : zeroOf Tryd.prog 124 = some [.nilFunc] := by kernel_rfl
theorem size125 : sizeB Tryd.prog 125 1 = true := by kernel_rfl
theorem one125 : oneB Tryd.prog 125 = true := by kernel_rfl
theorem zero125 : zeroOf Tryd.prog 125 = some [.nilFunc] := by kernel_rfl
theorem size126 : sizeB Tryd.prog 126 1 = true := by kernel_rfl
theorem one126 : oneB Tryd.prog 126 = true := by kernel_rfl
theorem zero126 : zeroOf Tryd.prog 126 = some [.int .u64 0] := by kernel_rfl
theorem size127 : sizeB Tryd.prog 127 2 = true := by kernel_rfl
theorem agg127 : aggB Tryd.prog 127 2 = true := by kernel_rfl
theorem fld127_0 : fieldB Tryd.prog 127 0 0 = true := by kernel_rfl
theorem fld127_1 : fieldB Tryd.prog 127 1 1 = true := by kernel_rfl
theorem zero127 : zeroOf Tryd.prog 127 = some [.int .i64 0, .int .i64 0] := by kernel_rfl
theorem size128 : sizeB Tryd.prog 128 2 = true := by kernel_rfl
theorem agg128 : aggB Tryd.prog 128 2 = true := by kernel_rfl
theorem fld128_0 : fieldB Tryd.prog 128 0 0 = true := by kernel_rfl
theorem fld128_1 : fieldB Tryd.prog 128 1 1 = true := by kernel_rfl
theorem zero128 : zeroOf Tryd.prog 128 = some [.int .i64 0, .int .i64 0] := by kernel_rfl
theorem size129 : sizeB Tryd.prog 129 19 = true := by kernel_rfl
theorem agg129 : aggB Tryd.prog 129 19 = true := by kernel_rfl
theorem fld129_0 : fieldB Tryd.prog 129 0 0 = true := by kernel_rfl
theorem fld129_1 : fieldB Tryd.prog 129 1 2 = true := by kernel_rfl
theorem fld129_2 : fieldB Tryd.prog 129 2 3 = true := by kernel_rfl
theorem fld129_3 : fieldB Tryd.prog 129 3 4 = true := by kernel_rfl
theorem fld129_4 : fieldB Tryd.prog 129 4 5 = true := by kernel_rfl
theorem fld129_5 : fieldB Tryd.prog 129 5 6 = true := by kernel_rfl
theorem fld129_6 : fieldB Tryd.prog 129 6 7 = true := by kernel_rfl
theorem fld129_7 : fieldB Tryd.prog 129 7 8 = true := by kernel_rfl
theorem fld129_8 : fieldB Tryd.prog 129 8 9 = true := by kernel_rfl
theorem fld129_9 : fieldB Tryd.prog 129 9 11 = true := by kernel_rfl
theorem fld129_10 : fieldB Tryd.prog 129 10 13 = true := by kernel_rfl
theorem fld129_11 : fieldB Tryd.prog 129 11 15 = true := by kernel_rfl
theorem fld129_12 : fieldB Tryd.prog 129 12 17 = true := by kernel_rfl
theorem fld129_13 : fieldB Tryd.prog 129 13 18 = true := by kernel_rfl
theorem zero129 : zeroOf Tryd.prog 129 = some [.int .i64 0, .int .i64 0, .string ByteArray.empty, .int .i64 0, .int .u64 0, .int .i64 0, .int .i64 0, .bool false, .bool false, .int .i64 0, .int .i64 0, .int .i64 0, .int .i64 0, .int .i64 0, .int .i64 0, .int .i64 0, .int .i64 0, .string ByteArray.empty, .slice none 0 0] := by kernel_rfl
theorem size130 : sizeB Tryd.prog 130 19 = true := by kernel_rfl
theorem agg130 : aggB Tryd.prog 130 19 = true := by kernel_rfl
theorem fld130_0 : fieldB Tryd.prog 130 0 0 = true := by kernel_rfl
theorem fld130_1 : fieldB Tryd.prog 130 1 2 = true := by kernel_rfl
theorem fld130_2 : fieldB Tryd.prog 130 2 3 = true := by kernel_rfl
theorem fld130_3 : fieldB Tryd.prog 130 3 4 = true := by kernel_rfl
theorem fld130_4 : fieldB Tryd.prog 130 4 5 = true := by kernel_rfl
theorem fld130_5 : fieldB Tryd.prog 130 5 6 = true := by kernel_rfl
theorem fld130_6 : fieldB Tryd.prog 130 6 7 = true := by kernel_rfl
theorem fld130_7 : fieldB Tryd.prog 130 7 8 = true := by kernel_rfl
theorem fld130_8 : fieldB Tryd.prog 130 8 9 = true := by kernel_rfl
theorem fld130_9 : fieldB Tryd.prog 130 9 11 = true := by kernel_rfl
theorem fld130_10 : fieldB Tryd.prog 130 10 13 = true := by kernel_rfl
theorem fld130_11 : fieldB Tryd.prog 130 11 15 = true := by kernel_rfl
theorem fld130_12 : fieldB Tryd.prog 130 12 17 = true := by kernel_rfl
theorem fld130_13 : fieldB Tryd.prog 130 13 18 = true := by kernel_rfl
theorem zero130 : zeroOf Tryd.prog 130 = some [.int .i64 0, .int .i64 0, .string ByteArray.empty, .int .i64 0, .int .u64 0, .int .i64 0, .int .i64 0, .bool false, .bool false, .int .i64 0, .int .i64 0, .int .i64 0, .int .i64 0, .int .i64 0, .int .i64 0, .int .i64 0, .int .i64 0, .string ByteArray.empty, .slice none 0 0] := by kernel_rfl
theorem size131 : sizeB Tryd.prog 131 1 = true := by kernel_rfl
theorem one131 : oneB Tryd.prog 131 = true := by kernel_rfl
theorem zero131 : zeroOf Tryd.prog 131 = some [.nilFunc] := by kernel_rfl
theorem size132 : sizeB Tryd.prog 132 2 = true := by kernel_rfl
theorem agg132 : aggB Tryd.prog 132 2 = true := by kernel_rfl
theorem fld132_0 : fieldB Tryd.prog 132 0 0 = true := by kernel_rfl
theorem fld132_1 : fieldB Tryd.prog 132 1 1 = true := by kernel_rfl
theorem zero132 : zeroOf Tryd.prog 132 = some [.int .i64 0, .string ByteArray.empty] := by kernel_rfl
theorem size133 : sizeB Tryd.prog 133 2 = true := by kernel_rfl
theorem agg133 : aggB Tryd.prog 133 2 = true := by kernel_rfl
theorem fld133_0 : fieldB Tryd.prog 133 0 0 = true := by kernel_rfl
theorem fld133_1 : fieldB Tryd.prog 133 1 1 = true := by kernel_rfl
theorem zero133 : zeroOf Tryd.prog 133 = some [.int .i64 0, .string ByteArray.empty] := by kernel_rfl
theorem size134 : sizeB Tryd.prog 134 1 = true := by kernel_rfl
theorem one134 : oneB Tryd.prog 134 = true := by kernel_rfl
theorem zero134 : zeroOf Tryd.prog 134 = some [.nilFunc] := by kernel_rfl
theorem size135 : sizeB Tryd.prog 135 1 = true := by kernel_rfl
theorem one135 : oneB Tryd.prog 135 = true := by kernel_rfl
theorem zero135 : zeroOf Tryd.prog 135 = some [.pointer none] := by kernel_rfl
theorem size136 : sizeB Tryd.prog 136 1 = true := by kernel_rfl
theorem one136 : oneB Tryd.prog 136 = true := by kernel_rfl
theorem zero136 : zeroOf Tryd.prog 136 = some [.nilFunc] := by kernel_rfl
theorem size137 : sizeB Tryd.prog 137 1 = true := by kernel_rfl
theorem one137 : oneB Tryd.prog 137 = true := by kernel_rfl
theorem zero137 : zeroOf Tryd.prog 137 = some [.nilFunc] := by kernel_rfl
theorem size138 : sizeB Tryd.prog 138 1 = true := by kernel_rfl
theorem one138 : oneB Tryd.prog 138 = true := by kernel_rfl
theorem zero138 : zeroOf Tryd.prog 138 = some [.nilFunc] := by kernel_rfl
theorem size139 : sizeB Tryd.prog 139 1 = true := by kernel_rfl
theorem one139 : oneB Tryd.prog 139 = true := by kernel_rfl
theorem zero139 : zeroOf Tryd.prog 139 = some [.nilFunc] := by kernel_rfl
theorem size140 : sizeB Tryd.prog 140 1 = true := by kernel_rfl
theorem one140 : oneB Tryd.prog 140 = true := by kernel_rfl
theorem zero140 : zeroOf Tryd.prog 140 = some [.slice none 0 0] := by kernel_rfl
theorem sl140 : SlT Tryd.prog 140 5 1 1 := SlT.of (by kernel_rfl)
theorem size141 : sizeB Tryd.prog 141 1 = true := by kernel_rfl
theorem one141 : oneB Tryd.prog 141 = true := by kernel_rfl
theorem zero141 : zeroOf Tryd.prog 141 = some [.nilFunc] := by kernel_rfl
theorem size142 : sizeB Tryd.prog 142 1 = true := by kernel_rfl
theorem one142 : oneB Tryd.prog 142 = true := by kernel_rfl
theorem zero142 : zeroOf Tryd.prog 142 = some [.nilFunc] := by kernel_rfl
theorem size143 : sizeB Tryd.prog 143 1 = true := by kernel_rfl
theorem one143 : oneB Tryd.prog 143 = true := by kernel_rfl
theorem zero143 : zeroOf Tryd.prog 143 = some [.slice none 0 0] := by kernel_rfl
theorem sl143 : SlT Tryd.prog 143 126 1 8 := SlT.of (by kernel_rfl)
theorem size144 : sizeB Tryd.prog 144 1 = true := by kernel_rfl
theorem one144 : oneB Tryd.prog 144 = true := by kernel_rfl
theorem zero144 : zeroOf Tryd.prog 144 = some [.nilFunc] := by kernel_rfl
theorem size145 : sizeB Tryd.prog 145 1 = true := by kernel_rfl
theorem one145 : oneB Tryd.prog 145 = true := by kernel_rfl
theorem zero145 : zeroOf Tryd.prog 145 = some [.slice none 0 0] := by kernel_rfl
theorem sl145 : SlT Tryd.prog 145 147 4 40 := SlT.of (by kernel_rfl)
theorem size146 : sizeB Tryd.prog 146 4 = true := by kernel_rfl
theorem agg146 : aggB Tryd.prog 146 4 = true := by kernel_rfl
theorem fld146_0 : fieldB Tryd.prog 146 0 0 = true := by kernel_rfl
theorem fld146_1 : fieldB Tryd.prog 146 1 1 = true := by kernel_rfl
theorem fld146_2 : fieldB Tryd.prog 146 2 2 = true := by kernel_rfl
theorem zero146 : zeroOf Tryd.prog 146 = some [.int .i64 0, .string ByteArray.empty, .int .i64 0, .int .i64 0] := by kernel_rfl
theorem size147 : sizeB Tryd.prog 147 4 = true := by kernel_rfl
theorem agg147 : aggB Tryd.prog 147 4 = true := by kernel_rfl
theorem fld147_0 : fieldB Tryd.prog 147 0 0 = true := by kernel_rfl
theorem fld147_1 : fieldB Tryd.prog 147 1 1 = true := by kernel_rfl
theorem fld147_2 : fieldB Tryd.prog 147 2 2 = true := by kernel_rfl
theorem zero147 : zeroOf Tryd.prog 147 = some [.int .i64 0, .string ByteArray.empty, .int .i64 0, .int .i64 0] := by kernel_rfl
theorem size148 : sizeB Tryd.prog 148 1 = true := by kernel_rfl
theorem one148 : oneB Tryd.prog 148 = true := by kernel_rfl
theorem zero148 : zeroOf Tryd.prog 148 = some [.nilFunc] := by kernel_rfl
theorem size149 : sizeB Tryd.prog 149 1 = true := by kernel_rfl
theorem one149 : oneB Tryd.prog 149 = true := by kernel_rfl
theorem zero149 : zeroOf Tryd.prog 149 = some [.nilFunc] := by kernel_rfl
theorem size150 : sizeB Tryd.prog 150 1 = true := by kernel_rfl
theorem one150 : oneB Tryd.prog 150 = true := by kernel_rfl
theorem zero150 : zeroOf Tryd.prog 150 = some [.slice none 0 0] := by kernel_rfl
theorem sl150 : SlT Tryd.prog 150 152 5 40 := SlT.of (by kernel_rfl)
theorem size151 : sizeB Tryd.prog 151 5 = true := by kernel_rfl
theorem agg151 : aggB Tryd.prog 151 5 = true := by kernel_rfl
theorem fld151_0 : fieldB Tryd.prog 151 0 0 = true := by kernel_rfl
theorem fld151_1 : fieldB Tryd.prog 151 1 1 = true := by kernel_rfl
theorem fld151_2 : fieldB Tryd.prog 151 2 2 = true := by kernel_rfl
theorem fld151_3 : fieldB Tryd.prog 151 3 3 = true := by kernel_rfl
theorem fld151_4 : fieldB Tryd.prog 151 4 4 = true := by kernel_rfl
theorem zero151 : zeroOf Tryd.prog 151 = some [.int .i64 0, .int .i64 0, .int .i64 0, .int .i64 0, .int .u64 0] := by kernel_rfl
theorem size152 : sizeB Tryd.prog 152 5 = true := by kernel_rfl
theorem agg152 : aggB Tryd.prog 152 5 = true := by kernel_rfl
theorem fld152_0 : fieldB Tryd.prog 152 0 0 = true := by kernel_rfl
theorem fld152_1 : fieldB Tryd.prog 152 1 1 = true := by kernel_rfl
theorem fld152_2 : fieldB Tryd.prog 152 2 2 = true := by kernel_rfl
theorem fld152_3 : fieldB Tryd.prog 152 3 3 = true := by kernel_rfl
theorem fld152_4 : fieldB Tryd.prog 152 4 4 = true := by kernel_rfl
theorem zero152 : zeroOf Tryd.prog 152 = some [.int .i64 0, .int .i64 0, .int .i64 0, .int .i64 0, .int .u64 0] := by kernel_rfl
theorem size153 : sizeB Tryd.prog 153 1 = true := by kernel_rfl
theorem one153 : oneB Tryd.prog 153 = true := by kernel_rfl
theorem zero153 : zeroOf Tryd.prog 153 = some [.nilFunc] := by kernel_rfl
theorem size154 : sizeB Tryd.prog 154 1 = true := by kernel_rfl
theorem one154 : oneB Tryd.prog 154 = true := by kernel_rfl
theorem zero154 : zeroOf Tryd.prog 154 = some [.slice none 0 0] := by kernel_rfl
theorem sl154 : SlT Tryd.prog 154 156 3 12 := SlT.of (by kernel_rfl)
theorem size155 : sizeB Tryd.prog 155 3 = true := by kernel_rfl
theorem agg155 : aggB Tryd.prog 155 3 = true := by kernel_rfl
theorem fld155_0 : fieldB Tryd.prog 155 0 0 = true := by kernel_rfl
theorem fld155_1 : fieldB Tryd.prog 155 1 1 = true := by kernel_rfl
theorem fld155_2 : fieldB Tryd.prog 155 2 2 = true := by kernel_rfl
theorem zero155 : zeroOf Tryd.prog 155 = some [.bool false, .int .u32 0, .int .u32 0] := by kernel_rfl
theorem size156 : sizeB Tryd.prog 156 3 = true := by kernel_rfl
theorem agg156 : aggB Tryd.prog 156 3 = true := by kernel_rfl
theorem fld156_0 : fieldB Tryd.prog 156 0 0 = true := by kernel_rfl
theorem fld156_1 : fieldB Tryd.prog 156 1 1 = true := by kernel_rfl
theorem fld156_2 : fieldB Tryd.prog 156 2 2 = true := by kernel_rfl
theorem zero156 : zeroOf Tryd.prog 156 = some [.bool false, .int .u32 0, .int .u32 0] := by kernel_rfl
theorem size157 : sizeB Tryd.prog 157 1 = true := by kernel_rfl
theorem one157 : oneB Tryd.prog 157 = true := by kernel_rfl
theorem zero157 : zeroOf Tryd.prog 157 = some [.nilFunc] := by kernel_rfl
theorem size158 : sizeB Tryd.prog 158 1 = true := by kernel_rfl
theorem one158 : oneB Tryd.prog 158 = true := by kernel_rfl
theorem zero158 : zeroOf Tryd.prog 158 = some [.slice none 0 0] := by kernel_rfl
theorem sl158 : SlT Tryd.prog 158 160 2 24 := SlT.of (by kernel_rfl)
theorem size159 : sizeB Tryd.prog 159 2 = true := by kernel_rfl
theorem agg159 : aggB Tryd.prog 159 2 = true := by kernel_rfl
theorem fld159_0 : fieldB Tryd.prog 159 0 0 = true := by kernel_rfl
theorem fld159_1 : fieldB Tryd.prog 159 1 1 = true := by kernel_rfl
theorem zero159 : zeroOf Tryd.prog 159 = some [.string ByteArray.empty, .int .u64 0] := by kernel_rfl
theorem size160 : sizeB Tryd.prog 160 2 = true := by kernel_rfl
theorem agg160 : aggB Tryd.prog 160 2 = true := by kernel_rfl
theorem fld160_0 : fieldB Tryd.prog 160 0 0 = true := by kernel_rfl
theorem fld160_1 : fieldB Tryd.prog 160 1 1 = true := by kernel_rfl
theorem zero160 : zeroOf Tryd.prog 160 = some [.string ByteArray.empty, .int .u64 0] := by kernel_rfl
theorem size161 : sizeB Tryd.prog 161 1 = true := by kernel_rfl
theorem one161 : oneB Tryd.prog 161 = true := by kernel_rfl
theorem zero161 : zeroOf Tryd.prog 161 = some [.nilFunc] := by kernel_rfl
theorem size162 : sizeB Tryd.prog 162 1 = true := by kernel_rfl
theorem one162 : oneB Tryd.prog 162 = true := by kernel_rfl
theorem zero162 : zeroOf Tryd.prog 162 = some [.slice none 0 0] := by kernel_rfl
theorem sl162 : SlT Tryd.prog 162 4 1 1 := SlT.of (by kernel_rfl)
theorem size163 : sizeB Tryd.prog 163 1 = true := by kernel_rfl
theorem one163 : oneB Tryd.prog 163 = true := by kernel_rfl
theorem zero163 : zeroOf Tryd.prog 163 = some [.slice none 0 0] := by kernel_rfl
theorem sl163 : SlT Tryd.prog 163 165 3 32 := SlT.of (by kernel_rfl)
theorem size164 : sizeB Tryd.prog 164 3 = true := by kernel_rfl
theorem agg164 : aggB Tryd.prog 164 3 = true := by kernel_rfl
theorem fld164_0 : fieldB Tryd.prog 164 0 0 = true := by kernel_rfl
theorem fld164_1 : fieldB Tryd.prog 164 1 1 = true := by kernel_rfl
theorem fld164_2 : fieldB Tryd.prog 164 2 2 = true := by kernel_rfl
theorem zero164 : zeroOf Tryd.prog 164 = some [.int .u32 0, .bool false, .slice none 0 0] := by kernel_rfl
theorem size165 : sizeB Tryd.prog 165 3 = true := by kernel_rfl
theorem agg165 : aggB Tryd.prog 165 3 = true := by kernel_rfl
theorem fld165_0 : fieldB Tryd.prog 165 0 0 = true := by kernel_rfl
theorem fld165_1 : fieldB Tryd.prog 165 1 1 = true := by kernel_rfl
theorem fld165_2 : fieldB Tryd.prog 165 2 2 = true := by kernel_rfl
theorem zero165 : zeroOf Tryd.prog 165 = some [.int .u32 0, .bool false, .slice none 0 0] := by kernel_rfl
theorem size166 : sizeB Tryd.prog 166 1 = true := by kernel_rfl
theorem one166 : oneB Tryd.prog 166 = true := by kernel_rfl
theorem zero166 : zeroOf Tryd.prog 166 = some [.slice none 0 0] := by kernel_rfl
theorem sl166 : SlT Tryd.prog 166 168 5 56 := SlT.of (by kernel_rfl)
theorem size167 : sizeB Tryd.prog 167 5 = true := by kernel_rfl
theorem agg167 : aggB Tryd.prog 167 5 = true := by kernel_rfl
theorem fld167_0 : fieldB Tryd.prog 167 0 0 = true := by kernel_rfl
theorem fld167_1 : fieldB Tryd.prog 167 1 1 = true := by kernel_rfl
theorem fld167_2 : fieldB Tryd.prog 167 2 2 = true := by kernel_rfl
theorem zero167 : zeroOf Tryd.prog 167 = some [.int .u64 0, .string ByteArray.empty, .int .u32 0, .bool false, .slice none 0 0] := by kernel_rfl
theorem size168 : sizeB Tryd.prog 168 5 = true := by kernel_rfl
theorem agg168 : aggB Tryd.prog 168 5 = true := by kernel_rfl
theorem fld168_0 : fieldB Tryd.prog 168 0 0 = true := by kernel_rfl
theorem fld168_1 : fieldB Tryd.prog 168 1 1 = true := by kernel_rfl
theorem fld168_2 : fieldB Tryd.prog 168 2 2 = true := by kernel_rfl
theorem zero168 : zeroOf Tryd.prog 168 = some [.int .u64 0, .string ByteArray.empty, .int .u32 0, .bool false, .slice none 0 0] := by kernel_rfl
theorem size169 : sizeB Tryd.prog 169 1 = true := by kernel_rfl
theorem one169 : oneB Tryd.prog 169 = true := by kernel_rfl
theorem zero169 : zeroOf Tryd.prog 169 = some [.nilFunc] := by kernel_rfl
theorem size170 : sizeB Tryd.prog 170 1 = true := by kernel_rfl
theorem one170 : oneB Tryd.prog 170 = true := by kernel_rfl
theorem zero170 : zeroOf Tryd.prog 170 = some [.pointer none] := by kernel_rfl
theorem size171 : sizeB Tryd.prog 171 1 = true := by kernel_rfl
theorem one171 : oneB Tryd.prog 171 = true := by kernel_rfl
theorem zero171 : zeroOf Tryd.prog 171 = some [.int .u64 0] := by kernel_rfl
theorem size172 : sizeB Tryd.prog 172 3 = true := by kernel_rfl
theorem agg172 : aggB Tryd.prog 172 3 = true := by kernel_rfl
theorem fld172_0 : fieldB Tryd.prog 172 0 0 = true := by kernel_rfl
theorem fld172_1 : fieldB Tryd.prog 172 1 1 = true := by kernel_rfl
theorem fld172_2 : fieldB Tryd.prog 172 2 2 = true := by kernel_rfl
theorem zero172 : zeroOf Tryd.prog 172 = some [.pointer none, .pointer none, .int .u64 0] := by kernel_rfl
theorem size173 : sizeB Tryd.prog 173 3 = true := by kernel_rfl
theorem agg173 : aggB Tryd.prog 173 3 = true := by kernel_rfl
theorem fld173_0 : fieldB Tryd.prog 173 0 0 = true := by kernel_rfl
theorem fld173_1 : fieldB Tryd.prog 173 1 1 = true := by kernel_rfl
theorem fld173_2 : fieldB Tryd.prog 173 2 2 = true := by kernel_rfl
theorem zero173 : zeroOf Tryd.prog 173 = some [.pointer none, .pointer none, .int .u64 0] := by kernel_rfl
theorem size174 : sizeB Tryd.prog 174 1 = true := by kernel_rfl
theorem one174 : oneB Tryd.prog 174 = true := by kernel_rfl
theorem zero174 : zeroOf Tryd.prog 174 = some [.nilFunc] := by kernel_rfl
theorem size175 : sizeB Tryd.prog 175 1 = true := by kernel_rfl
theorem one175 : oneB Tryd.prog 175 = true := by kernel_rfl
theorem zero175 : zeroOf Tryd.prog 175 = some [.nilIface] := by kernel_rfl
theorem size176 : sizeB Tryd.prog 176 1 = true := by kernel_rfl
theorem one176 : oneB Tryd.prog 176 = true := by kernel_rfl
theorem zero176 : zeroOf Tryd.prog 176 = some [.nilIface] := by kernel_rfl
theorem size177 : sizeB Tryd.prog 177 1 = true := by kernel_rfl
theorem one177 : oneB Tryd.prog 177 = true := by kernel_rfl
theorem zero177 : zeroOf Tryd.prog 177 = some [.nilFunc] := by kernel_rfl
theorem size178 : sizeB Tryd.prog 178 1 = true := by kernel_rfl
theorem one178 : oneB Tryd.prog 178 = true := by kernel_rfl
theorem zero178 : zeroOf Tryd.prog 178 = some [.int .u8 0] := by kernel_rfl
theorem size179 : sizeB Tryd.prog 179 1 = true := by kernel_rfl
theorem one179 : oneB Tryd.prog 179 = true := by kernel_rfl
theorem zero179 : zeroOf Tryd.prog 179 = some [.nilFunc] := by kernel_rfl
theorem size180 : sizeB Tryd.prog 180 1 = true := by kernel_rfl
theorem one180 : oneB Tryd.prog 180 = true := by kernel_rfl
theorem zero180 : zeroOf Tryd.prog 180 = some [.nilFunc] := by kernel_rfl
theorem size181 : sizeB Tryd.prog 181 1 = true := by kernel_rfl
theorem one181 : oneB Tryd.prog 181 = true := by kernel_rfl
theorem zero181 : zeroOf Tryd.prog 181 = some [.nilFunc] := by kernel_rfl
theorem size182 : sizeB Tryd.prog 182 1 = true := by kernel_rfl
theorem one182 : oneB Tryd.prog 182 = true := by kernel_rfl
theorem zero182 : zeroOf Tryd.prog 182 = some [.nilFunc] := by kernel_rfl
theorem size183 : sizeB Tryd.prog 183 1 = true := by kernel_rfl
theorem one183 : oneB Tryd.prog 183 = true := by kernel_rfl
theorem zero183 : zeroOf Tryd.prog 183 = some [.nilFunc] := by kernel_rfl
theorem size184 : sizeB Tryd.prog 184 1 = true := by kernel_rfl
theorem one184 : oneB Tryd.prog 184 = true := by kernel_rfl
theorem zero184 : zeroOf Tryd.prog 184 = some [.nilFunc] := by kernel_rfl
theorem size185 : sizeB Tryd.prog 185 1 = true := by kernel_rfl
theorem one185 : oneB Tryd.prog 185 = true := by kernel_rfl
theorem zero185 : zeroOf Tryd.prog 185 = some [.nilFunc] := by kernel_rfl
theorem size186 : sizeB Tryd.prog 186 1 = true := by kernel_rfl
theorem one186 : oneB Tryd.prog 186 = true := by kernel_rfl
theorem zero186 : zeroOf Tryd.prog 186 = some [.int .u64 0] := by kernel_rfl
theorem size187 : sizeB Tryd.prog 187 1 = true := by kernel_rfl
theorem agg187 : aggB Tryd.prog 187 1 = true := by kernel_rfl
theorem fld187_0 : fieldB Tryd.prog 187 0 0 = true := by kernel_rfl
theorem zero187 : zeroOf Tryd.prog 187 = some [.pointer none] := by kernel_rfl
theorem size188 : sizeB Tryd.prog 188 1 = true := by kernel_rfl
theorem agg188 : aggB Tryd.prog 188 1 = true := by kernel_rfl
theorem fld188_0 : fieldB Tryd.prog 188 0 0 = true := by kernel_rfl
theorem zero188 : zeroOf Tryd.prog 188 = some [.pointer none] := by kernel_rfl
theorem size189 : sizeB Tryd.prog 189 1 = true := by kernel_rfl
theorem one189 : oneB Tryd.prog 189 = true := by kernel_rfl
theorem zero189 : zeroOf Tryd.prog 189 = some [.pointer none] := by kernel_rfl
theorem size190 : sizeB Tryd.prog 190 1 = true := by kernel_rfl
theorem one190 : oneB Tryd.prog 190 = true := by kernel_rfl
theorem zero190 : zeroOf Tryd.prog 190 = some [.nilFunc] := by kernel_rfl
theorem size191 : sizeB Tryd.prog 191 1 = true := by kernel_rfl
theorem one191 : oneB Tryd.prog 191 = true := by kernel_rfl
theorem zero191 : zeroOf Tryd.prog 191 = some [.nilFunc] := by kernel_rfl
theorem size192 : sizeB Tryd.prog 192 1 = true := by kernel_rfl
theorem one192 : oneB Tryd.prog 192 = true := by kernel_rfl
theorem zero192 : zeroOf Tryd.prog 192 = some [.nilIface] := by kernel_rfl
theorem size194 : sizeB Tryd.prog 194 1 = true := by kernel_rfl
theorem one194 : oneB Tryd.prog 194 = true := by kernel_rfl
theorem zero194 : zeroOf Tryd.prog 194 = some [.nilFunc] := by kernel_rfl
theorem size195 : sizeB Tryd.prog 195 1 = true := by kernel_rfl
theorem one195 : oneB Tryd.prog 195 = true := by kernel_rfl
theorem zero195 : zeroOf Tryd.prog 195 = some [.nilIface] := by kernel_rfl
theorem size196 : sizeB Tryd.prog 196 1 = true := by kernel_rfl
theorem one196 : oneB Tryd.prog 196 = true := by kernel_rfl
theorem zero196 : zeroOf Tryd.prog 196 = some [.nilFunc] := by kernel_rfl
theorem size197 : sizeB Tryd.prog 197 1 = true := by kernel_rfl
theorem one197 : oneB Tryd.prog 197 = true := by kernel_rfl
theorem zero197 : zeroOf Tryd.prog 197 = some [.nilIface] := by kernel_rfl
theorem size198 : sizeB Tryd.prog 198 1 = true := by kernel_rfl
theorem one198 : oneB Tryd.prog 198 = true := by kernel_rfl
theorem zero198 : zeroOf Tryd.prog 198 = some [.slice none 0 0] := by kernel_rfl
theorem sl198 : SlT Tryd.prog 198 42 1 16 := SlT.of (by kernel_rfl)
theorem size199 : sizeB Tryd.prog 199 1 = true := by kernel_rfl
theorem one199 : oneB Tryd.prog 199 = true := by kernel_rfl
theorem zero199 : zeroOf Tryd.prog 199 = some [.nilFunc] := by kernel_rfl
theorem size200 : sizeB Tryd.prog 200 1 = true := by kernel_rfl
theorem one200 : oneB Tryd.prog 200 = true := by kernel_rfl
theorem zero200 : zeroOf Tryd.prog 200 = some [.nilIface] := by kernel_rfl
theorem size202 : sizeB Tryd.prog 202 1 = true := by kernel_rfl
theorem one202 : oneB Tryd.prog 202 = true := by kernel_rfl
theorem zero202 : zeroOf Tryd.prog 202 = some [.nilFunc] := by kernel_rfl
theorem size203 : sizeB Tryd.prog 203 1 = true := by kernel_rfl
theorem one203 : oneB Tryd.prog 203 = true := by kernel_rfl
theorem zero203 : zeroOf Tryd.prog 203 = some [.nilFunc] := by kernel_rfl
theorem size204 : sizeB Tryd.prog 204 1 = true := by kernel_rfl
theorem one204 : oneB Tryd.prog 204 = true := by kernel_rfl
theorem zero204 : zeroOf Tryd.prog 204 = some [.nilFunc] := by kernel_rfl
theorem size205 : sizeB Tryd.prog 205 4 = true := by kernel_rfl
theorem agg205 : aggB Tryd.prog 205 4 = true := by kernel_rfl
theorem fld205_0 : fieldB Tryd.prog 205 0 0 = true := by kernel_rfl
theorem fld205_1 : fieldB Tryd.prog 205 1 1 = true := by kernel_rfl
theorem fld205_2 : fieldB Tryd.prog 205 2 2 = true := by kernel_rfl
theorem fld205_3 : fieldB Tryd.prog 205 3 3 = true := by kernel_rfl
theorem zero205 : zeroOf Tryd.prog 205 = some [.pointer none, .pointer none, .pointer none, .string ByteArray.empty] := by kernel_rfl
theorem size206 : sizeB Tryd.prog 206 4 = true := by kernel_rfl
theorem agg206 : aggB Tryd.prog 206 4 = true := by kernel_rfl
theorem fld206_0 : fieldB Tryd.prog 206 0 0 = true := by kernel_rfl
theorem fld206_1 : fieldB Tryd.prog 206 1 1 = true := by kernel_rfl
theorem fld206_2 : fieldB Tryd.prog 206 2 2 = true := by kernel_rfl
theorem fld206_3 : fieldB Tryd.prog 206 3 3 = true := by kernel_rfl
theorem zero206 : zeroOf Tryd.prog 206 = some [.pointer none, .pointer none, .pointer none, .string ByteArray.empty] := by kernel_rfl
theorem size207 : sizeB Tryd.prog 207 0 = true := by kernel_rfl
theorem agg207 : aggB Tryd.prog 207 0 = true := by kernel_rfl
theorem zero207 : zeroOf Tryd.prog 207 = some [] := by kernel_rfl
theorem size208 : sizeB Tryd.prog 208 0 = true := by kernel_rfl
theorem agg208 : aggB Tryd.prog 208 0 = true := by kernel_rfl
theorem zero208 : zeroOf Tryd.prog 208 = some [] := by kernel_rfl
theorem size209 : sizeB Tryd.prog 209 0 = true := by kernel_rfl
theorem agg209 : aggB Tryd.prog 209 0 = true := by kernel_rfl
theorem zero209 : zeroOf Tryd.prog 209 = some [] := by kernel_rfl
theorem size210 : sizeB Tryd.prog 210 1 = true := by kernel_rfl
theorem one210 : oneB Tryd.prog 210 = true := by kernel_rfl
theorem zero210 : zeroOf Tryd.prog 210 = some [.nilFunc] := by kernel_rfl
theorem size211 : sizeB Tryd.prog 211 1 = true := by kernel_rfl
theorem one211 : oneB Tryd.prog 211 = true := by kernel_rfl
theorem zero211 : zeroOf Tryd.prog 211 = some [.nilFunc] := by kernel_rfl
theorem size212 : sizeB Tryd.prog 212 1 = true := by kernel_rfl
theorem one212 : oneB Tryd.prog 212 = true := by kernel_rfl
theorem zero212 : zeroOf Tryd.prog 212 = some [.int .u8 0] := by kernel_rfl
theorem size213 : sizeB Tryd.prog 213 1 = true := by kernel_rfl
theorem one213 : oneB Tryd.prog 213 = true := by kernel_rfl
theorem zero213 : zeroOf Tryd.prog 213 = some [.nilFunc] := by kernel_rfl
theorem size214 : sizeB Tryd.prog 214 1 = true := by kernel_rfl
theorem one214 : oneB Tryd.prog 214 = true := by kernel_rfl
theorem zero214 : zeroOf Tryd.prog 214 = some [.pointer none] := by kernel_rfl
theorem size215 : sizeB Tryd.prog 215 1 = true := by kernel_rfl
theorem one215 : oneB Tryd.prog 215 = true := by kernel_rfl
theorem zero215 : zeroOf Tryd.prog 215 = some [.int .i32 0] := by kernel_rfl
theorem size216 : sizeB Tryd.prog 216 1 = true := by kernel_rfl
theorem one216 : oneB Tryd.prog 216 = true := by kernel_rfl
theorem zero216 : zeroOf Tryd.prog 216 = some [.int .i32 0] := by kernel_rfl
theorem size217 : sizeB Tryd.prog 217 11 = true := by kernel_rfl
theorem agg217 : aggB Tryd.prog 217 11 = true := by kernel_rfl
theorem fld217_0 : fieldB Tryd.prog 217 0 0 = true := by kernel_rfl
theorem fld217_1 : fieldB Tryd.prog 217 1 1 = true := by kernel_rfl
theorem fld217_2 : fieldB Tryd.prog 217 2 2 = true := by kernel_rfl
theorem fld217_3 : fieldB Tryd.prog 217 3 3 = true := by kernel_rfl
theorem fld217_4 : fieldB Tryd.prog 217 4 4 = true := by kernel_rfl
theorem fld217_5 : fieldB Tryd.prog 217 5 5 = true := by kernel_rfl
theorem fld217_6 : fieldB Tryd.prog 217 6 6 = true := by kernel_rfl
theorem fld217_7 : fieldB Tryd.prog 217 7 7 = true := by kernel_rfl
theorem fld217_8 : fieldB Tryd.prog 217 8 8 = true := by kernel_rfl
theorem fld217_9 : fieldB Tryd.prog 217 9 9 = true := by kernel_rfl
theorem fld217_10 : fieldB Tryd.prog 217 10 10 = true := by kernel_rfl
theorem zero217 : zeroOf Tryd.prog 217 = some [.int .u64 0, .int .u64 0, .int .u32 0, .int .u8 0, .int .u8 0, .int .u8 0, .int .u8 0, .nilFunc, .pointer none, .int .i32 0, .int .i32 0] := by kernel_rfl
theorem size218 : sizeB Tryd.prog 218 11 = true := by kernel_rfl
theorem agg218 : aggB Tryd.prog 218 11 = true := by kernel_rfl
theorem fld218_0 : fieldB Tryd.prog 218 0 0 = true := by kernel_rfl
theorem fld218_1 : fieldB Tryd.prog 218 1 1 = true := by kernel_rfl
theorem fld218_2 : fieldB Tryd.prog 218 2 2 = true := by kernel_rfl
theorem fld218_3 : fieldB Tryd.prog 218 3 3 = true := by kernel_rfl
theorem fld218_4 : fieldB Tryd.prog 218 4 4 = true := by kernel_rfl
theorem fld218_5 : fieldB Tryd.prog 218 5 5 = true := by kernel_rfl
theorem fld218_6 : fieldB Tryd.prog 218 6 6 = true := by kernel_rfl
theorem fld218_7 : fieldB Tryd.prog 218 7 7 = true := by kernel_rfl
theorem fld218_8 : fieldB Tryd.prog 218 8 8 = true := by kernel_rfl
theorem fld218_9 : fieldB Tryd.prog 218 9 9 = true := by kernel_rfl
theorem fld218_10 : fieldB Tryd.prog 218 10 10 = true := by kernel_rfl
theorem zero218 : zeroOf Tryd.prog 218 = some [.int .u64 0, .int .u64 0, .int .u32 0, .int .u8 0, .int .u8 0, .int .u8 0, .int .u8 0, .nilFunc, .pointer none, .int .i32 0, .int .i32 0] := by kernel_rfl
theorem size219 : sizeB Tryd.prog 219 1 = true := by kernel_rfl
theorem one219 : oneB Tryd.prog 219 = true := by kernel_rfl
theorem zero219 : zeroOf Tryd.prog 219 = some [.nilFunc] := by kernel_rfl
theorem size220 : sizeB Tryd.prog 220 1 = true := by kernel_rfl
theorem one220 : oneB Tryd.prog 220 = true := by kernel_rfl
theorem zero220 : zeroOf Tryd.prog 220 = some [.nilFunc] := by kernel_rfl
theorem size221 : sizeB Tryd.prog 221 2 = true := by kernel_rfl
theorem agg221 : aggB Tryd.prog 221 2 = true := by kernel_rfl
theorem fld221_0 : fieldB Tryd.prog 221 0 0 = true := by kernel_rfl
theorem fld221_1 : fieldB Tryd.prog 221 1 1 = true := by kernel_rfl
theorem zero221 : zeroOf Tryd.prog 221 = some [.string ByteArray.empty, .int .u8 0] := by kernel_rfl
theorem size222 : sizeB Tryd.prog 222 2 = true := by kernel_rfl
theorem agg222 : aggB Tryd.prog 222 2 = true := by kernel_rfl
theorem fld222_0 : fieldB Tryd.prog 222 0 0 = true := by kernel_rfl
theorem fld222_1 : fieldB Tryd.prog 222 1 1 = true := by kernel_rfl
theorem zero222 : zeroOf Tryd.prog 222 = some [.string ByteArray.empty, .int .u8 0] := by kernel_rfl
theorem size223 : sizeB Tryd.prog 223 1 = true := by kernel_rfl
theorem one223 : oneB Tryd.prog 223 = true := by kernel_rfl
theorem zero223 : zeroOf Tryd.prog 223 = some [.pointer none] := by kernel_rfl
theorem size224 : sizeB Tryd.prog 224 1 = true := by kernel_rfl
theorem one224 : oneB Tryd.prog 224 = true := by kernel_rfl
theorem zero224 : zeroOf Tryd.prog 224 = some [.nilFunc] := by kernel_rfl
theorem size225 : sizeB Tryd.prog 225 1 = true := by kernel_rfl
theorem one225 : oneB Tryd.prog 225 = true := by kernel_rfl
theorem zero225 : zeroOf Tryd.prog 225 = some [.int .u16 0] := by kernel_rfl
theorem size226 : sizeB Tryd.prog 226 5 = true := by kernel_rfl
theorem agg226 : aggB Tryd.prog 226 5 = true := by kernel_rfl
theorem fld226_0 : fieldB Tryd.prog 226 0 0 = true := by kernel_rfl
theorem fld226_1 : fieldB Tryd.prog 226 1 1 = true := by kernel_rfl
theorem fld226_2 : fieldB Tryd.prog 226 2 2 = true := by kernel_rfl
theorem fld226_3 : fieldB Tryd.prog 226 3 3 = true := by kernel_rfl
theorem fld226_4 : fieldB Tryd.prog 226 4 4 = true := by kernel_rfl
theorem zero226 : zeroOf Tryd.prog 226 = some [.int .i32 0, .int .u16 0, .int .u16 0, .int .u32 0, .int .u32 0] := by kernel_rfl
theorem size227 : sizeB Tryd.prog 227 5 = true := by kernel_rfl
theorem agg227 : aggB Tryd.prog 227 5 = true := by kernel_rfl
theorem fld227_0 : fieldB Tryd.prog 227 0 0 = true := by kernel_rfl
theorem fld227_1 : fieldB Tryd.prog 227 1 1 = true := by kernel_rfl
theorem fld227_2 : fieldB Tryd.prog 227 2 2 = true := by kernel_rfl
theorem fld227_3 : fieldB Tryd.prog 227 3 3 = true := by kernel_rfl
theorem fld227_4 : fieldB Tryd.prog 227 4 4 = true := by kernel_rfl
theorem zero227 : zeroOf Tryd.prog 227 = some [.int .i32 0, .int .u16 0, .int .u16 0, .int .u32 0, .int .u32 0] := by kernel_rfl
theorem size228 : sizeB Tryd.prog 228 1 = true := by kernel_rfl
theorem one228 : oneB Tryd.prog 228 = true := by kernel_rfl
theorem zero228 : zeroOf Tryd.prog 228 = some [.slice none 0 0] := by kernel_rfl
theorem sl228 : SlT Tryd.prog 228 231 4 16 := SlT.of (by kernel_rfl)
theorem size229 : sizeB Tryd.prog 229 1 = true := by kernel_rfl
theorem one229 : oneB Tryd.prog 229 = true := by kernel_rfl
theorem zero229 : zeroOf Tryd.prog 229 = some [.int .i32 0] := by kernel_rfl
theorem size230 : sizeB Tryd.prog 230 4 = true := by kernel_rfl
theorem agg230 : aggB Tryd.prog 230 4 = true := by kernel_rfl
theorem fld230_0 : fieldB Tryd.prog 230 0 0 = true := by kernel_rfl
theorem fld230_1 : fieldB Tryd.prog 230 1 1 = true := by kernel_rfl
theorem fld230_2 : fieldB Tryd.prog 230 2 2 = true := by kernel_rfl
theorem fld230_3 : fieldB Tryd.prog 230 3 3 = true := by kernel_rfl
theorem zero230 : zeroOf Tryd.prog 230 = some [.int .i32 0, .int .i32 0, .int .i32 0, .int .i32 0] := by kernel_rfl
theorem size231 : sizeB Tryd.prog 231 4 = true := by kernel_rfl
theorem agg231 : aggB Tryd.prog 231 4 = true := by kernel_rfl
theorem fld231_0 : fieldB Tryd.prog 231 0 0 = true := by kernel_rfl
theorem fld231_1 : fieldB Tryd.prog 231 1 1 = true := by kernel_rfl
theorem fld231_2 : fieldB Tryd.prog 231 2 2 = true := by kernel_rfl
theorem fld231_3 : fieldB Tryd.prog 231 3 3 = true := by kernel_rfl
theorem zero231 : zeroOf Tryd.prog 231 = some [.int .i32 0, .int .i32 0, .int .i32 0, .int .i32 0] := by kernel_rfl
theorem size232 : sizeB Tryd.prog 232 1 = true := by kernel_rfl
theorem one232 : oneB Tryd.prog 232 = true := by kernel_rfl
theorem zero232 : zeroOf Tryd.prog 232 = some [.pointer none] := by kernel_rfl
theorem fo23 : Tryd.prog.underlying 23 = some (.struct (Tryd.prog.fieldsOf 23)) := by kernel_rfl
theorem fs23 : (Tryd.prog.fieldsOf 23).toList = [{ name := "Line", type := 3, offset := 0, byteOffset := 0, embedded := false, tag := "", pkgPath := "" }, { name := "Col", type := 3, offset := 1, byteOffset := 8, embedded := false, tag := "", pkgPath := "" }] := by kernel_rfl
theorem si23 : Tryd.prog.stoodInHeld 23 = false := by kernel_rfl
theorem eg23 : Tryd.prog.eqGuardType Tryd.prog.depth 23 = false := by kernel_rfl
theorem eqi23 (d : Nat) (w : World) (a0 b0 : Int) (a1 b1 : Int) : (Op.equalIn (d + 2) 23 (.agg #[.int .i64 a0, .int .i64 a1]) (.agg #[.int .i64 b0, .int .i64 b1])).run Tryd.prog w = .ok (decide (a0 = b0) && decide (a1 = b1)) w := by
  rw [run_equalIn_struct w (d + 1) 23 _ _ fo23 si23]
  simp [fs23, Op.eqFields, part, Sem.run_bind, Result.andThen, Sem.run, pure, isAgg_one one3, run_equalIn_int w _ 3 .i64 .i64 _ _ Tryd.underlying3, beq_dec a0 b0, beq_dec a1 b1]
  by_cases h0 : a0 = b0 <;> by_cases h1 : a1 = b1 <;> simp [*]
theorem eqs23 {x y : Operand} {a0 b0 : Int} {a1 b1 : Int} : Pure Tryd.prog (binSem .eql 23 x y (.agg #[.int .i64 a0, .int .i64 a1]) (.agg #[.int .i64 b0, .int .i64 b1])) (.bool ((decide (a0 = b0) && decide (a1 = b1)))) := fun w => by
  simp [binSem, eqGuard, binOp, Op.equal, Op.maxDepth, eg23, eqi23 9998, Sem.run_bind, Result.andThen, program, Sem.run, pure]
theorem nes23 {x y : Operand} {a0 b0 : Int} {a1 b1 : Int} : Pure Tryd.prog (binSem .neq 23 x y (.agg #[.int .i64 a0, .int .i64 a1]) (.agg #[.int .i64 b0, .int .i64 b1])) (.bool (!(decide (a0 = b0) && decide (a1 = b1)))) := fun w => by
  simp [binSem, eqGuard, binOp, Op.equal, Op.maxDepth, eg23, eqi23 9998, Sem.run_bind, Result.andThen, program, Sem.run, pure]
theorem fo25 : Tryd.prog.underlying 25 = some (.struct (Tryd.prog.fieldsOf 25)) := by kernel_rfl
theorem fs25 : (Tryd.prog.fieldsOf 25).toList = [{ name := "At", type := 23, offset := 0, byteOffset := 0, embedded := false, tag := "", pkgPath := "" }, { name := "Text", type := 9, offset := 2, byteOffset := 16, embedded := false, tag := "", pkgPath := "" }] := by kernel_rfl
theorem si25 : Tryd.prog.stoodInHeld 25 = false := by kernel_rfl
theorem eg25 : Tryd.prog.eqGuardType Tryd.prog.depth 25 = false := by kernel_rfl
theorem eqi25 (d : Nat) (w : World) (a0 b0 : Int) (a1 b1 : Int) (a2 b2 : ByteArray) : (Op.equalIn (d + 3) 25 (.agg #[.int .i64 a0, .int .i64 a1, .string a2]) (.agg #[.int .i64 b0, .int .i64 b1, .string b2])).run Tryd.prog w = .ok (decide (a0 = b0) && decide (a1 = b1) && decide (a2 = b2)) w := by
  rw [run_equalIn_struct w (d + 2) 25 _ _ fo25 si25]
  simp [fs25, Op.eqFields, part, Sem.run_bind, Result.andThen, Sem.run, pure, eqi23, (isAgg_agg (P := Tryd.prog) agg23 w).1, size_of size23, isAgg_one one9, run_equalIn_string w _ 9 _ _ Tryd.underlying9, beq_dec a0 b0, beq_dec a1 b1, str_beq a2 b2]
  by_cases h0 : a0 = b0 <;> by_cases h1 : a1 = b1 <;> by_cases h2 : a2 = b2 <;> simp [*]
theorem eqs25 {x y : Operand} {a0 b0 : Int} {a1 b1 : Int} {a2 b2 : ByteArray} : Pure Tryd.prog (binSem .eql 25 x y (.agg #[.int .i64 a0, .int .i64 a1, .string a2]) (.agg #[.int .i64 b0, .int .i64 b1, .string b2])) (.bool ((decide (a0 = b0) && decide (a1 = b1) && decide (a2 = b2)))) := fun w => by
  simp [binSem, eqGuard, binOp, Op.equal, Op.maxDepth, eg25, eqi25 9997, Sem.run_bind, Result.andThen, program, Sem.run, pure]
theorem nes25 {x y : Operand} {a0 b0 : Int} {a1 b1 : Int} {a2 b2 : ByteArray} : Pure Tryd.prog (binSem .neq 25 x y (.agg #[.int .i64 a0, .int .i64 a1, .string a2]) (.agg #[.int .i64 b0, .int .i64 b1, .string b2])) (.bool (!(decide (a0 = b0) && decide (a1 = b1) && decide (a2 = b2)))) := fun w => by
  simp [binSem, eqGuard, binOp, Op.equal, Op.maxDepth, eg25, eqi25 9997, Sem.run_bind, Result.andThen, program, Sem.run, pure]
theorem fo128 : Tryd.prog.underlying 128 = some (.struct (Tryd.prog.fieldsOf 128)) := by kernel_rfl
theorem fs128 : (Tryd.prog.fieldsOf 128).toList = [{ name := "Num", type := 2, offset := 0, byteOffset := 0, embedded := false, tag := "", pkgPath := "" }, { name := "Den", type := 2, offset := 1, byteOffset := 8, embedded := false, tag := "", pkgPath := "" }] := by kernel_rfl
theorem si128 : Tryd.prog.stoodInHeld 128 = false := by kernel_rfl
theorem eg128 : Tryd.prog.eqGuardType Tryd.prog.depth 128 = false := by kernel_rfl
theorem eqi128 (d : Nat) (w : World) (a0 b0 : Int) (a1 b1 : Int) : (Op.equalIn (d + 2) 128 (.agg #[.int .i64 a0, .int .i64 a1]) (.agg #[.int .i64 b0, .int .i64 b1])).run Tryd.prog w = .ok (decide (a0 = b0) && decide (a1 = b1)) w := by
  rw [run_equalIn_struct w (d + 1) 128 _ _ fo128 si128]
  simp [fs128, Op.eqFields, part, Sem.run_bind, Result.andThen, Sem.run, pure, isAgg_one one2, run_equalIn_int w _ 2 .i64 .i64 _ _ Tryd.underlying2, beq_dec a0 b0, beq_dec a1 b1]
  by_cases h0 : a0 = b0 <;> by_cases h1 : a1 = b1 <;> simp [*]
theorem eqs128 {x y : Operand} {a0 b0 : Int} {a1 b1 : Int} : Pure Tryd.prog (binSem .eql 128 x y (.agg #[.int .i64 a0, .int .i64 a1]) (.agg #[.int .i64 b0, .int .i64 b1])) (.bool ((decide (a0 = b0) && decide (a1 = b1)))) := fun w => by
  simp [binSem, eqGuard, binOp, Op.equal, Op.maxDepth, eg128, eqi128 9998, Sem.run_bind, Result.andThen, program, Sem.run, pure]
theorem nes128 {x y : Operand} {a0 b0 : Int} {a1 b1 : Int} : Pure Tryd.prog (binSem .neq 128 x y (.agg #[.int .i64 a0, .int .i64 a1]) (.agg #[.int .i64 b0, .int .i64 b1])) (.bool (!(decide (a0 = b0) && decide (a1 = b1)))) := fun w => by
  simp [binSem, eqGuard, binOp, Op.equal, Op.maxDepth, eg128, eqi128 9998, Sem.run_bind, Result.andThen, program, Sem.run, pure]
theorem fo133 : Tryd.prog.underlying 133 = some (.struct (Tryd.prog.fieldsOf 133)) := by kernel_rfl
theorem fs133 : (Tryd.prog.fieldsOf 133).toList = [{ name := "Value", type := 2, offset := 0, byteOffset := 0, embedded := false, tag := "", pkgPath := "" }, { name := "Text", type := 9, offset := 1, byteOffset := 8, embedded := false, tag := "", pkgPath := "" }] := by kernel_rfl
theorem si133 : Tryd.prog.stoodInHeld 133 = false := by kernel_rfl
theorem eg133 : Tryd.prog.eqGuardType Tryd.prog.depth 133 = false := by kernel_rfl
theorem eqi133 (d : Nat) (w : World) (a0 b0 : Int) (a1 b1 : ByteArray) : (Op.equalIn (d + 2) 133 (.agg #[.int .i64 a0, .string a1]) (.agg #[.int .i64 b0, .string b1])).run Tryd.prog w = .ok (decide (a0 = b0) && decide (a1 = b1)) w := by
  rw [run_equalIn_struct w (d + 1) 133 _ _ fo133 si133]
  simp [fs133, Op.eqFields, part, Sem.run_bind, Result.andThen, Sem.run, pure, isAgg_one one2, run_equalIn_int w _ 2 .i64 .i64 _ _ Tryd.underlying2, isAgg_one one9, run_equalIn_string w _ 9 _ _ Tryd.underlying9, beq_dec a0 b0, str_beq a1 b1]
  by_cases h0 : a0 = b0 <;> by_cases h1 : a1 = b1 <;> simp [*]
theorem eqs133 {x y : Operand} {a0 b0 : Int} {a1 b1 : ByteArray} : Pure Tryd.prog (binSem .eql 133 x y (.agg #[.int .i64 a0, .string a1]) (.agg #[.int .i64 b0, .string b1])) (.bool ((decide (a0 = b0) && decide (a1 = b1)))) := fun w => by
  simp [binSem, eqGuard, binOp, Op.equal, Op.maxDepth, eg133, eqi133 9998, Sem.run_bind, Result.andThen, program, Sem.run, pure]
theorem nes133 {x y : Operand} {a0 b0 : Int} {a1 b1 : ByteArray} : Pure Tryd.prog (binSem .neq 133 x y (.agg #[.int .i64 a0, .string a1]) (.agg #[.int .i64 b0, .string b1])) (.bool (!(decide (a0 = b0) && decide (a1 = b1)))) := fun w => by
  simp [binSem, eqGuard, binOp, Op.equal, Op.maxDepth, eg133, eqi133 9998, Sem.run_bind, Result.andThen, program, Sem.run, pure]
theorem fo147 : Tryd.prog.underlying 147 = some (.struct (Tryd.prog.fieldsOf 147)) := by kernel_rfl
theorem fs147 : (Tryd.prog.fieldsOf 147).toList = [{ name := "Kind", type := 3, offset := 0, byteOffset := 0, embedded := false, tag := "", pkgPath := "" }, { name := "Text", type := 9, offset := 1, byteOffset := 8, embedded := false, tag := "", pkgPath := "" }, { name := "At", type := 23, offset := 2, byteOffset := 24, embedded := false, tag := "", pkgPath := "" }] := by kernel_rfl
theorem si147 : Tryd.prog.stoodInHeld 147 = false := by kernel_rfl
theorem eg147 : Tryd.prog.eqGuardType Tryd.prog.depth 147 = false := by kernel_rfl
theorem eqi147 (d : Nat) (w : World) (a0 b0 : Int) (a1 b1 : ByteArray) (a2 b2 : Int) (a3 b3 : Int) : (Op.equalIn (d + 3) 147 (.agg #[.int .i64 a0, .string a1, .int .i64 a2, .int .i64 a3]) (.agg #[.int .i64 b0, .string b1, .int .i64 b2, .int .i64 b3])).run Tryd.prog w = .ok (decide (a0 = b0) && decide (a1 = b1) && decide (a2 = b2) && decide (a3 = b3)) w := by
  rw [run_equalIn_struct w (d + 2) 147 _ _ fo147 si147]
  simp [fs147, Op.eqFields, part, Sem.run_bind, Result.andThen, Sem.run, pure, isAgg_one one3, run_equalIn_int w _ 3 .i64 .i64 _ _ Tryd.underlying3, isAgg_one one9, run_equalIn_string w _ 9 _ _ Tryd.underlying9, eqi23, (isAgg_agg (P := Tryd.prog) agg23 w).1, size_of size23, beq_dec a0 b0, str_beq a1 b1, beq_dec a2 b2, beq_dec a3 b3]
  by_cases h0 : a0 = b0 <;> by_cases h1 : a1 = b1 <;> by_cases h2 : a2 = b2 <;> by_cases h3 : a3 = b3 <;> simp [*]
theorem eqs147 {x y : Operand} {a0 b0 : Int} {a1 b1 : ByteArray} {a2 b2 : Int} {a3 b3 : Int} : Pure Tryd.prog (binSem .eql 147 x y (.agg #[.int .i64 a0, .string a1, .int .i64 a2, .int .i64 a3]) (.agg #[.int .i64 b0, .string b1, .int .i64 b2, .int .i64 b3])) (.bool ((decide (a0 = b0) && decide (a1 = b1) && decide (a2 = b2) && decide (a3 = b3)))) := fun w => by
  simp [binSem, eqGuard, binOp, Op.equal, Op.maxDepth, eg147, eqi147 9997, Sem.run_bind, Result.andThen, program, Sem.run, pure]
theorem nes147 {x y : Operand} {a0 b0 : Int} {a1 b1 : ByteArray} {a2 b2 : Int} {a3 b3 : Int} : Pure Tryd.prog (binSem .neq 147 x y (.agg #[.int .i64 a0, .string a1, .int .i64 a2, .int .i64 a3]) (.agg #[.int .i64 b0, .string b1, .int .i64 b2, .int .i64 b3])) (.bool (!(decide (a0 = b0) && decide (a1 = b1) && decide (a2 = b2) && decide (a3 = b3)))) := fun w => by
  simp [binSem, eqGuard, binOp, Op.equal, Op.maxDepth, eg147, eqi147 9997, Sem.run_bind, Result.andThen, program, Sem.run, pure]
theorem fo152 : Tryd.prog.underlying 152 = some (.struct (Tryd.prog.fieldsOf 152)) := by kernel_rfl
theorem fs152 : (Tryd.prog.fieldsOf 152).toList = [{ name := "Op", type := 3, offset := 0, byteOffset := 0, embedded := false, tag := "", pkgPath := "" }, { name := "A", type := 3, offset := 1, byteOffset := 8, embedded := false, tag := "", pkgPath := "" }, { name := "B", type := 3, offset := 2, byteOffset := 16, embedded := false, tag := "", pkgPath := "" }, { name := "N", type := 3, offset := 3, byteOffset := 24, embedded := false, tag := "", pkgPath := "" }, { name := "Imm", type := 126, offset := 4, byteOffset := 32, embedded := false, tag := "", pkgPath := "" }] := by kernel_rfl
theorem si152 : Tryd.prog.stoodInHeld 152 = false := by kernel_rfl
theorem eg152 : Tryd.prog.eqGuardType Tryd.prog.depth 152 = false := by kernel_rfl
theorem eqi152 (d : Nat) (w : World) (a0 b0 : Int) (a1 b1 : Int) (a2 b2 : Int) (a3 b3 : Int) (a4 b4 : Int) : (Op.equalIn (d + 2) 152 (.agg #[.int .i64 a0, .int .i64 a1, .int .i64 a2, .int .i64 a3, .int .u64 a4]) (.agg #[.int .i64 b0, .int .i64 b1, .int .i64 b2, .int .i64 b3, .int .u64 b4])).run Tryd.prog w = .ok (decide (a0 = b0) && decide (a1 = b1) && decide (a2 = b2) && decide (a3 = b3) && decide (a4 = b4)) w := by
  rw [run_equalIn_struct w (d + 1) 152 _ _ fo152 si152]
  simp [fs152, Op.eqFields, part, Sem.run_bind, Result.andThen, Sem.run, pure, isAgg_one one3, run_equalIn_int w _ 3 .i64 .i64 _ _ Tryd.underlying3, isAgg_one one126, run_equalIn_int w _ 126 .u64 .u64 _ _ Tryd.underlying126, beq_dec a0 b0, beq_dec a1 b1, beq_dec a2 b2, beq_dec a3 b3, beq_dec a4 b4]
  by_cases h0 : a0 = b0 <;> by_cases h1 : a1 = b1 <;> by_cases h2 : a2 = b2 <;> by_cases h3 : a3 = b3 <;> by_cases h4 : a4 = b4 <;> simp [*]
theorem eqs152 {x y : Operand} {a0 b0 : Int} {a1 b1 : Int} {a2 b2 : Int} {a3 b3 : Int} {a4 b4 : Int} : Pure Tryd.prog (binSem .eql 152 x y (.agg #[.int .i64 a0, .int .i64 a1, .int .i64 a2, .int .i64 a3, .int .u64 a4]) (.agg #[.int .i64 b0, .int .i64 b1, .int .i64 b2, .int .i64 b3, .int .u64 b4])) (.bool ((decide (a0 = b0) && decide (a1 = b1) && decide (a2 = b2) && decide (a3 = b3) && decide (a4 = b4)))) := fun w => by
  simp [binSem, eqGuard, binOp, Op.equal, Op.maxDepth, eg152, eqi152 9998, Sem.run_bind, Result.andThen, program, Sem.run, pure]
theorem nes152 {x y : Operand} {a0 b0 : Int} {a1 b1 : Int} {a2 b2 : Int} {a3 b3 : Int} {a4 b4 : Int} : Pure Tryd.prog (binSem .neq 152 x y (.agg #[.int .i64 a0, .int .i64 a1, .int .i64 a2, .int .i64 a3, .int .u64 a4]) (.agg #[.int .i64 b0, .int .i64 b1, .int .i64 b2, .int .i64 b3, .int .u64 b4])) (.bool (!(decide (a0 = b0) && decide (a1 = b1) && decide (a2 = b2) && decide (a3 = b3) && decide (a4 = b4)))) := fun w => by
  simp [binSem, eqGuard, binOp, Op.equal, Op.maxDepth, eg152, eqi152 9998, Sem.run_bind, Result.andThen, program, Sem.run, pure]
theorem fo156 : Tryd.prog.underlying 156 = some (.struct (Tryd.prog.fieldsOf 156)) := by kernel_rfl
theorem fs156 : (Tryd.prog.fieldsOf 156).toList = [{ name := "Wide", type := 4, offset := 0, byteOffset := 0, embedded := false, tag := "", pkgPath := "" }, { name := "Code", type := 74, offset := 1, byteOffset := 4, embedded := false, tag := "", pkgPath := "" }, { name := "Mask", type := 74, offset := 2, byteOffset := 8, embedded := false, tag := "", pkgPath := "" }] := by kernel_rfl
theorem si156 : Tryd.prog.stoodInHeld 156 = false := by kernel_rfl
theorem eg156 : Tryd.prog.eqGuardType Tryd.prog.depth 156 = false := by kernel_rfl
theorem eqi156 (d : Nat) (w : World) (a0 b0 : Bool) (a1 b1 : Int) (a2 b2 : Int) : (Op.equalIn (d + 2) 156 (.agg #[.bool a0, .int .u32 a1, .int .u32 a2]) (.agg #[.bool b0, .int .u32 b1, .int .u32 b2])).run Tryd.prog w = .ok (decide (a0 = b0) && decide (a1 = b1) && decide (a2 = b2)) w := by
  rw [run_equalIn_struct w (d + 1) 156 _ _ fo156 si156]
  simp [fs156, Op.eqFields, part, Sem.run_bind, Result.andThen, Sem.run, pure, isAgg_one one4, run_equalIn_bool' w _ 4 _ _ Tryd.underlying4, isAgg_one one74, run_equalIn_int w _ 74 .u32 .u32 _ _ Tryd.underlying74, beq_dec a0 b0, beq_dec a1 b1, beq_dec a2 b2]
  by_cases h0 : a0 = b0 <;> by_cases h1 : a1 = b1 <;> by_cases h2 : a2 = b2 <;> simp [*]
theorem eqs156 {x y : Operand} {a0 b0 : Bool} {a1 b1 : Int} {a2 b2 : Int} : Pure Tryd.prog (binSem .eql 156 x y (.agg #[.bool a0, .int .u32 a1, .int .u32 a2]) (.agg #[.bool b0, .int .u32 b1, .int .u32 b2])) (.bool ((decide (a0 = b0) && decide (a1 = b1) && decide (a2 = b2)))) := fun w => by
  simp [binSem, eqGuard, binOp, Op.equal, Op.maxDepth, eg156, eqi156 9998, Sem.run_bind, Result.andThen, program, Sem.run, pure]
theorem nes156 {x y : Operand} {a0 b0 : Bool} {a1 b1 : Int} {a2 b2 : Int} : Pure Tryd.prog (binSem .neq 156 x y (.agg #[.bool a0, .int .u32 a1, .int .u32 a2]) (.agg #[.bool b0, .int .u32 b1, .int .u32 b2])) (.bool (!(decide (a0 = b0) && decide (a1 = b1) && decide (a2 = b2)))) := fun w => by
  simp [binSem, eqGuard, binOp, Op.equal, Op.maxDepth, eg156, eqi156 9998, Sem.run_bind, Result.andThen, program, Sem.run, pure]
theorem fo160 : Tryd.prog.underlying 160 = some (.struct (Tryd.prog.fieldsOf 160)) := by kernel_rfl
theorem fs160 : (Tryd.prog.fieldsOf 160).toList = [{ name := "Name", type := 9, offset := 0, byteOffset := 0, embedded := false, tag := "", pkgPath := "" }, { name := "Raw", type := 126, offset := 1, byteOffset := 16, embedded := false, tag := "", pkgPath := "" }] := by kernel_rfl
theorem si160 : Tryd.prog.stoodInHeld 160 = false := by kernel_rfl
theorem eg160 : Tryd.prog.eqGuardType Tryd.prog.depth 160 = false := by kernel_rfl
theorem eqi160 (d : Nat) (w : World) (a0 b0 : ByteArray) (a1 b1 : Int) : (Op.equalIn (d + 2) 160 (.agg #[.string a0, .int .u64 a1]) (.agg #[.string b0, .int .u64 b1])).run Tryd.prog w = .ok (decide (a0 = b0) && decide (a1 = b1)) w := by
  rw [run_equalIn_struct w (d + 1) 160 _ _ fo160 si160]
  simp [fs160, Op.eqFields, part, Sem.run_bind, Result.andThen, Sem.run, pure, isAgg_one one9, run_equalIn_string w _ 9 _ _ Tryd.underlying9, isAgg_one one126, run_equalIn_int w _ 126 .u64 .u64 _ _ Tryd.underlying126, str_beq a0 b0, beq_dec a1 b1]
  by_cases h0 : a0 = b0 <;> by_cases h1 : a1 = b1 <;> simp [*]
theorem eqs160 {x y : Operand} {a0 b0 : ByteArray} {a1 b1 : Int} : Pure Tryd.prog (binSem .eql 160 x y (.agg #[.string a0, .int .u64 a1]) (.agg #[.string b0, .int .u64 b1])) (.bool ((decide (a0 = b0) && decide (a1 = b1)))) := fun w => by
  simp [binSem, eqGuard, binOp, Op.equal, Op.maxDepth, eg160, eqi160 9998, Sem.run_bind, Result.andThen, program, Sem.run, pure]
theorem nes160 {x y : Operand} {a0 b0 : ByteArray} {a1 b1 : Int} : Pure Tryd.prog (binSem .neq 160 x y (.agg #[.string a0, .int .u64 a1]) (.agg #[.string b0, .int .u64 b1])) (.bool (!(decide (a0 = b0) && decide (a1 = b1)))) := fun w => by
  simp [binSem, eqGuard, binOp, Op.equal, Op.maxDepth, eg160, eqi160 9998, Sem.run_bind, Result.andThen, program, Sem.run, pure]
theorem pl3 : plainFn Tryd.prog 3 = true := by kernel_rfl
theorem pl4 : plainFn Tryd.prog 4 = true := by kernel_rfl
theorem pl5 : plainFn Tryd.prog 5 = true := by kernel_rfl
theorem pl6 : plainFn Tryd.prog 6 = true := by kernel_rfl
theorem pl7 : plainFn Tryd.prog 7 = true := by kernel_rfl
theorem pl8 : plainFn Tryd.prog 8 = true := by kernel_rfl
theorem pl9 : plainFn Tryd.prog 9 = true := by kernel_rfl
theorem pl10 : plainFn Tryd.prog 10 = true := by kernel_rfl
theorem pl11 : plainFn Tryd.prog 11 = true := by kernel_rfl
theorem pl12 : plainFn Tryd.prog 12 = true := by kernel_rfl
theorem pl13 : plainFn Tryd.prog 13 = true := by kernel_rfl
theorem pl14 : plainFn Tryd.prog 14 = true := by kernel_rfl
theorem pl15 : plainFn Tryd.prog 15 = true := by kernel_rfl
theorem pl16 : plainFn Tryd.prog 16 = true := by kernel_rfl
theorem pl17 : plainFn Tryd.prog 17 = true := by kernel_rfl
theorem pl18 : plainFn Tryd.prog 18 = true := by kernel_rfl
theorem pl19 : plainFn Tryd.prog 19 = true := by kernel_rfl
theorem pl20 : plainFn Tryd.prog 20 = true := by kernel_rfl
theorem pl21 : plainFn Tryd.prog 21 = true := by kernel_rfl
theorem pl22 : plainFn Tryd.prog 22 = true := by kernel_rfl
theorem pl23 : plainFn Tryd.prog 23 = true := by kernel_rfl
theorem pl24 : plainFn Tryd.prog 24 = true := by kernel_rfl
theorem pl25 : plainFn Tryd.prog 25 = true := by kernel_rfl
theorem pl26 : plainFn Tryd.prog 26 = true := by kernel_rfl
theorem pl27 : plainFn Tryd.prog 27 = true := by kernel_rfl
theorem pl28 : plainFn Tryd.prog 28 = true := by kernel_rfl
theorem pl29 : plainFn Tryd.prog 29 = true := by kernel_rfl
theorem pl30 : plainFn Tryd.prog 30 = true := by kernel_rfl
theorem pl31 : plainFn Tryd.prog 31 = true := by kernel_rfl
theorem pl32 : plainFn Tryd.prog 32 = true := by kernel_rfl
theorem pl33 : plainFn Tryd.prog 33 = true := by kernel_rfl
theorem pl34 : plainFn Tryd.prog 34 = true := by kernel_rfl
theorem pl35 : plainFn Tryd.prog 35 = true := by kernel_rfl
theorem pl36 : plainFn Tryd.prog 36 = true := by kernel_rfl
theorem pl37 : plainFn Tryd.prog 37 = true := by kernel_rfl
theorem pl38 : plainFn Tryd.prog 38 = true := by kernel_rfl
theorem pl39 : plainFn Tryd.prog 39 = true := by kernel_rfl
theorem pl40 : plainFn Tryd.prog 40 = true := by kernel_rfl
theorem pl41 : plainFn Tryd.prog 41 = true := by kernel_rfl
theorem pl42 : plainFn Tryd.prog 42 = true := by kernel_rfl
theorem pl43 : plainFn Tryd.prog 43 = true := by kernel_rfl
theorem pl44 : plainFn Tryd.prog 44 = true := by kernel_rfl
theorem pl45 : plainFn Tryd.prog 45 = true := by kernel_rfl
theorem pl46 : plainFn Tryd.prog 46 = true := by kernel_rfl
theorem pl47 : plainFn Tryd.prog 47 = true := by kernel_rfl
theorem pl48 : plainFn Tryd.prog 48 = true := by kernel_rfl
theorem pl49 : plainFn Tryd.prog 49 = true := by kernel_rfl
theorem pl50 : plainFn Tryd.prog 50 = true := by kernel_rfl
theorem pl51 : plainFn Tryd.prog 51 = true := by kernel_rfl
theorem pl52 : plainFn Tryd.prog 52 = true := by kernel_rfl
theorem pl53 : plainFn Tryd.prog 53 = true := by kernel_rfl
theorem pl54 : plainFn Tryd.prog 54 = true := by kernel_rfl
theorem pl55 : plainFn Tryd.prog 55 = true := by kernel_rfl
theorem pl56 : plainFn Tryd.prog 56 = true := by kernel_rfl
theorem pl57 : plainFn Tryd.prog 57 = true := by kernel_rfl
theorem pl58 : plainFn Tryd.prog 58 = true := by kernel_rfl
theorem pl59 : plainFn Tryd.prog 59 = true := by kernel_rfl
theorem pl60 : plainFn Tryd.prog 60 = true := by kernel_rfl
theorem pl61 : plainFn Tryd.prog 61 = true := by kernel_rfl
theorem pl62 : plainFn Tryd.prog 62 = true := by kernel_rfl
theorem pl63 : plainFn Tryd.prog 63 = true := by kernel_rfl
theorem pl64 : plainFn Tryd.prog 64 = true := by kernel_rfl
theorem pl65 : plainFn Tryd.prog 65 = true := by kernel_rfl
theorem pl66 : plainFn Tryd.prog 66 = true := by kernel_rfl
theorem pl67 : plainFn Tryd.prog 67 = true := by kernel_rfl
theorem pl71 : plainFn Tryd.prog 71 = true := by kernel_rfl
theorem pl73 : plainFn Tryd.prog 73 = true := by kernel_rfl
theorem pl74 : plainFn Tryd.prog 74 = true := by kernel_rfl
theorem pl75 : plainFn Tryd.prog 75 = true := by kernel_rfl
theorem pl78 : plainFn Tryd.prog 78 = true := by kernel_rfl
theorem pl96 : plainFn Tryd.prog 96 = true := by kernel_rfl
theorem pl97 : plainFn Tryd.prog 97 = true := by kernel_rfl
theorem pl98 : plainFn Tryd.prog 98 = true := by kernel_rfl
theorem pl99 : plainFn Tryd.prog 99 = true := by kernel_rfl
theorem pl102 : plainFn Tryd.prog 102 = true := by kernel_rfl
theorem pl121 : plainFn Tryd.prog 121 = true := by kernel_rfl
end Go.Proofs.YtmgleeoecdodjaaDoor.Sh
