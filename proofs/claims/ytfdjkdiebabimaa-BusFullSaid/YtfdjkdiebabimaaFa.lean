/- Closed facts on the types and functions of this seat, each by the kernel; printed by a program. Conditions: none. -/
import Derived.Test.YtfdjkdiebabimaaV8
import Derived.Test.YtfdjkdiebabimaaProg
set_option maxRecDepth 100000
namespace Go.Proofs.Ytfdjkdiebabimaa.Sh
open Go Go.V
set_option linter.unusedSimpArgs false
theorem beq_dec {α : Type} [DecidableEq α] [BEq α] [LawfulBEq α] (a b : α) : (a == b) = decide (a = b) := by by_cases h : a = b <;> simp [h]
theorem size1 : sizeB Try.prog 1 1 = true := by kernel_rfl
theorem one1 : oneB Try.prog 1 = true := by kernel_rfl
theorem zero1 : zeroOf Try.prog 1 = some [.nilFunc] := by kernel_rfl
theorem size2 : sizeB Try.prog 2 1 = true := by kernel_rfl
theorem one2 : oneB Try.prog 2 = true := by kernel_rfl
theorem zero2 : zeroOf Try.prog 2 = some [.int .i64 0] := by kernel_rfl
theorem size3 : sizeB Try.prog 3 1 = true := by kernel_rfl
theorem one3 : oneB Try.prog 3 = true := by kernel_rfl
theorem zero3 : zeroOf Try.prog 3 = some [.int .i64 0] := by kernel_rfl
theorem size4 : sizeB Try.prog 4 1 = true := by kernel_rfl
theorem one4 : oneB Try.prog 4 = true := by kernel_rfl
theorem zero4 : zeroOf Try.prog 4 = some [.bool false] := by kernel_rfl
theorem size5 : sizeB Try.prog 5 1 = true := by kernel_rfl
theorem one5 : oneB Try.prog 5 = true := by kernel_rfl
theorem zero5 : zeroOf Try.prog 5 = some [.int .u8 0] := by kernel_rfl
theorem size6 : sizeB Try.prog 6 1 = true := by kernel_rfl
theorem one6 : oneB Try.prog 6 = true := by kernel_rfl
theorem zero6 : zeroOf Try.prog 6 = some [.int .u8 0] := by kernel_rfl
theorem size7 : sizeB Try.prog 7 4 = true := by kernel_rfl
theorem agg7 : aggB Try.prog 7 4 = true := by kernel_rfl
theorem fld7_0 : fieldB Try.prog 7 0 0 = true := by kernel_rfl
theorem fld7_1 : fieldB Try.prog 7 1 1 = true := by kernel_rfl
theorem fld7_2 : fieldB Try.prog 7 2 2 = true := by kernel_rfl
theorem fld7_3 : fieldB Try.prog 7 3 3 = true := by kernel_rfl
theorem zero7 : zeroOf Try.prog 7 = some [.int .i64 0, .int .i64 0, .bool false, .int .u8 0] := by kernel_rfl
theorem size8 : sizeB Try.prog 8 4 = true := by kernel_rfl
theorem agg8 : aggB Try.prog 8 4 = true := by kernel_rfl
theorem fld8_0 : fieldB Try.prog 8 0 0 = true := by kernel_rfl
theorem fld8_1 : fieldB Try.prog 8 1 1 = true := by kernel_rfl
theorem fld8_2 : fieldB Try.prog 8 2 2 = true := by kernel_rfl
theorem fld8_3 : fieldB Try.prog 8 3 3 = true := by kernel_rfl
theorem zero8 : zeroOf Try.prog 8 = some [.int .i64 0, .int .i64 0, .bool false, .int .u8 0] := by kernel_rfl
theorem size9 : sizeB Try.prog 9 1 = true := by kernel_rfl
theorem one9 : oneB Try.prog 9 = true := by kernel_rfl
theorem zero9 : zeroOf Try.prog 9 = some [.string ByteArray.empty] := by kernel_rfl
theorem size10 : sizeB Try.prog 10 1 = true := by kernel_rfl
theorem one10 : oneB Try.prog 10 = true := by kernel_rfl
theorem zero10 : zeroOf Try.prog 10 = some [.string ByteArray.empty] := by kernel_rfl
theorem size11 : sizeB Try.prog 11 1 = true := by kernel_rfl
theorem one11 : oneB Try.prog 11 = true := by kernel_rfl
theorem zero11 : zeroOf Try.prog 11 = some [.string ByteArray.empty] := by kernel_rfl
theorem size12 : sizeB Try.prog 12 1 = true := by kernel_rfl
theorem one12 : oneB Try.prog 12 = true := by kernel_rfl
theorem zero12 : zeroOf Try.prog 12 = some [.int .u64 0] := by kernel_rfl
theorem size13 : sizeB Try.prog 13 2 = true := by kernel_rfl
theorem agg13 : aggB Try.prog 13 2 = true := by kernel_rfl
theorem fld13_0 : fieldB Try.prog 13 0 0 = true := by kernel_rfl
theorem fld13_1 : fieldB Try.prog 13 1 1 = true := by kernel_rfl
theorem zero13 : zeroOf Try.prog 13 = some [.string ByteArray.empty, .int .u64 0] := by kernel_rfl
theorem size14 : sizeB Try.prog 14 2 = true := by kernel_rfl
theorem agg14 : aggB Try.prog 14 2 = true := by kernel_rfl
theorem fld14_0 : fieldB Try.prog 14 0 0 = true := by kernel_rfl
theorem fld14_1 : fieldB Try.prog 14 1 1 = true := by kernel_rfl
theorem zero14 : zeroOf Try.prog 14 = some [.string ByteArray.empty, .int .u64 0] := by kernel_rfl
theorem size15 : sizeB Try.prog 15 1 = true := by kernel_rfl
theorem one15 : oneB Try.prog 15 = true := by kernel_rfl
theorem zero15 : zeroOf Try.prog 15 = some [.pointer none] := by kernel_rfl
theorem size16 : sizeB Try.prog 16 1 = true := by kernel_rfl
theorem one16 : oneB Try.prog 16 = true := by kernel_rfl
theorem zero16 : zeroOf Try.prog 16 = some [.pointer none] := by kernel_rfl
theorem size17 : sizeB Try.prog 17 1 = true := by kernel_rfl
theorem one17 : oneB Try.prog 17 = true := by kernel_rfl
theorem zero17 : zeroOf Try.prog 17 = some [.pointer none] := by kernel_rfl
theorem size18 : sizeB Try.prog 18 1 = true := by kernel_rfl
theorem agg18 : aggB Try.prog 18 1 = true := by kernel_rfl
theorem fld18_0 : fieldB Try.prog 18 0 0 = true := by kernel_rfl
theorem zero18 : zeroOf Try.prog 18 = some [.pointer none] := by kernel_rfl
theorem size19 : sizeB Try.prog 19 1 = true := by kernel_rfl
theorem agg19 : aggB Try.prog 19 1 = true := by kernel_rfl
theorem fld19_0 : fieldB Try.prog 19 0 0 = true := by kernel_rfl
theorem zero19 : zeroOf Try.prog 19 = some [.pointer none] := by kernel_rfl
theorem size20 : sizeB Try.prog 20 1 = true := by kernel_rfl
theorem one20 : oneB Try.prog 20 = true := by kernel_rfl
theorem zero20 : zeroOf Try.prog 20 = some [.nilIface] := by kernel_rfl
theorem size21 : sizeB Try.prog 21 1 = true := by kernel_rfl
theorem one21 : oneB Try.prog 21 = true := by kernel_rfl
theorem zero21 : zeroOf Try.prog 21 = some [.int .i32 0] := by kernel_rfl
theorem size22 : sizeB Try.prog 22 1 = true := by kernel_rfl
theorem one22 : oneB Try.prog 22 = true := by kernel_rfl
theorem zero22 : zeroOf Try.prog 22 = some [.slice none 0 0] := by kernel_rfl
theorem sl22 : SlT Try.prog 22 57 1 24 := SlT.of (by kernel_rfl)
theorem size23 : sizeB Try.prog 23 1 = true := by kernel_rfl
theorem one23 : oneB Try.prog 23 = true := by kernel_rfl
theorem zero23 : zeroOf Try.prog 23 = some [.slice none 0 0] := by kernel_rfl
theorem sl23 : SlT Try.prog 23 40 9 88 := SlT.of (by kernel_rfl)
theorem size24 : sizeB Try.prog 24 1 = true := by kernel_rfl
theorem one24 : oneB Try.prog 24 = true := by kernel_rfl
theorem zero24 : zeroOf Try.prog 24 = some [.nilFunc] := by kernel_rfl
theorem size25 : sizeB Try.prog 25 1 = true := by kernel_rfl
theorem one25 : oneB Try.prog 25 = true := by kernel_rfl
theorem zero25 : zeroOf Try.prog 25 = some [.pointer none] := by kernel_rfl
theorem size26 : sizeB Try.prog 26 1 = true := by kernel_rfl
theorem one26 : oneB Try.prog 26 = true := by kernel_rfl
theorem zero26 : zeroOf Try.prog 26 = some [.nilIface] := by kernel_rfl
theorem size27 : sizeB Try.prog 27 1 = true := by kernel_rfl
theorem one27 : oneB Try.prog 27 = true := by kernel_rfl
theorem zero27 : zeroOf Try.prog 27 = some [.nilIface] := by kernel_rfl
theorem size29 : sizeB Try.prog 29 1 = true := by kernel_rfl
theorem one29 : oneB Try.prog 29 = true := by kernel_rfl
theorem zero29 : zeroOf Try.prog 29 = some [.nilFunc] := by kernel_rfl
theorem size30 : sizeB Try.prog 30 1 = true := by kernel_rfl
theorem one30 : oneB Try.prog 30 = true := by kernel_rfl
theorem zero30 : zeroOf Try.prog 30 = some [.nilFunc] := by kernel_rfl
theorem size31 : sizeB Try.prog 31 1 = true := by kernel_rfl
theorem one31 : oneB Try.prog 31 = true := by kernel_rfl
theorem zero31 : zeroOf Try.prog 31 = some [.slice none 0 0] := by kernel_rfl
theorem sl31 : SlT Try.prog 31 44 4 40 := SlT.of (by kernel_rfl)
theorem size32 : sizeB Try.prog 32 1 = true := by kernel_rfl
theorem one32 : oneB Try.prog 32 = true := by kernel_rfl
theorem zero32 : zeroOf Try.prog 32 = some [.int .u32 0] := by kernel_rfl
theorem size33 : sizeB Try.prog 33 1 = true := by kernel_rfl
theorem one33 : oneB Try.prog 33 = true := by kernel_rfl
theorem zero33 : zeroOf Try.prog 33 = some [.slice none 0 0] := by kernel_rfl
theorem sl33 : SlT Try.prog 33 5 1 1 := SlT.of (by kernel_rfl)
theorem size34 : sizeB Try.prog 34 3 = true := by kernel_rfl
theorem agg34 : aggB Try.prog 34 3 = true := by kernel_rfl
theorem fld34_0 : fieldB Try.prog 34 0 0 = true := by kernel_rfl
theorem fld34_1 : fieldB Try.prog 34 1 1 = true := by kernel_rfl
theorem fld34_2 : fieldB Try.prog 34 2 2 = true := by kernel_rfl
theorem zero34 : zeroOf Try.prog 34 = some [.int .u32 0, .bool false, .slice none 0 0] := by kernel_rfl
theorem size35 : sizeB Try.prog 35 3 = true := by kernel_rfl
theorem agg35 : aggB Try.prog 35 3 = true := by kernel_rfl
theorem fld35_0 : fieldB Try.prog 35 0 0 = true := by kernel_rfl
theorem fld35_1 : fieldB Try.prog 35 1 1 = true := by kernel_rfl
theorem fld35_2 : fieldB Try.prog 35 2 2 = true := by kernel_rfl
theorem zero35 : zeroOf Try.prog 35 = some [.int .u32 0, .bool false, .slice none 0 0] := by kernel_rfl
theorem size36 : sizeB Try.prog 36 1 = true := by kernel_rfl
theorem one36 : oneB Try.prog 36 = true := by kernel_rfl
theorem zero36 : zeroOf Try.prog 36 = some [.slice none 0 0] := by kernel_rfl
theorem sl36 : SlT Try.prog 36 3 1 8 := SlT.of (by kernel_rfl)
theorem size37 : sizeB Try.prog 37 4 = true := by kernel_rfl
theorem agg37 : aggB Try.prog 37 4 = true := by kernel_rfl
theorem fld37_0 : fieldB Try.prog 37 0 0 = true := by kernel_rfl
theorem fld37_1 : fieldB Try.prog 37 1 1 = true := by kernel_rfl
theorem fld37_2 : fieldB Try.prog 37 2 2 = true := by kernel_rfl
theorem fld37_3 : fieldB Try.prog 37 3 3 = true := by kernel_rfl
theorem zero37 : zeroOf Try.prog 37 = some [.bool false, .bool false, .int .i64 0, .slice none 0 0] := by kernel_rfl
theorem size38 : sizeB Try.prog 38 4 = true := by kernel_rfl
theorem agg38 : aggB Try.prog 38 4 = true := by kernel_rfl
theorem fld38_0 : fieldB Try.prog 38 0 0 = true := by kernel_rfl
theorem fld38_1 : fieldB Try.prog 38 1 1 = true := by kernel_rfl
theorem fld38_2 : fieldB Try.prog 38 2 2 = true := by kernel_rfl
theorem fld38_3 : fieldB Try.prog 38 3 3 = true := by kernel_rfl
theorem zero38 : zeroOf Try.prog 38 = some [.bool false, .bool false, .int .i64 0, .slice none 0 0] := by kernel_rfl
theorem size39 : sizeB Try.prog 39 9 = true := by kernel_rfl
theorem agg39 : aggB Try.prog 39 9 = true := by kernel_rfl
theorem fld39_0 : fieldB Try.prog 39 0 0 = true := by kernel_rfl
theorem fld39_1 : fieldB Try.prog 39 1 1 = true := by kernel_rfl
theorem fld39_2 : fieldB Try.prog 39 2 2 = true := by kernel_rfl
theorem fld39_3 : fieldB Try.prog 39 3 5 = true := by kernel_rfl
theorem zero39 : zeroOf Try.prog 39 = some [.int .i64 0, .int .i64 0, .int .u32 0, .bool false, .slice none 0 0, .bool false, .bool false, .int .i64 0, .slice none 0 0] := by kernel_rfl
theorem size40 : sizeB Try.prog 40 9 = true := by kernel_rfl
theorem agg40 : aggB Try.prog 40 9 = true := by kernel_rfl
theorem fld40_0 : fieldB Try.prog 40 0 0 = true := by kernel_rfl
theorem fld40_1 : fieldB Try.prog 40 1 1 = true := by kernel_rfl
theorem fld40_2 : fieldB Try.prog 40 2 2 = true := by kernel_rfl
theorem fld40_3 : fieldB Try.prog 40 3 5 = true := by kernel_rfl
theorem zero40 : zeroOf Try.prog 40 = some [.int .i64 0, .int .i64 0, .int .u32 0, .bool false, .slice none 0 0, .bool false, .bool false, .int .i64 0, .slice none 0 0] := by kernel_rfl
theorem size41 : sizeB Try.prog 41 1 = true := by kernel_rfl
theorem one41 : oneB Try.prog 41 = true := by kernel_rfl
theorem zero41 : zeroOf Try.prog 41 = some [.nilFunc] := by kernel_rfl
theorem size42 : sizeB Try.prog 42 1 = true := by kernel_rfl
theorem one42 : oneB Try.prog 42 = true := by kernel_rfl
theorem zero42 : zeroOf Try.prog 42 = some [.nilFunc] := by kernel_rfl
theorem size43 : sizeB Try.prog 43 4 = true := by kernel_rfl
theorem agg43 : aggB Try.prog 43 4 = true := by kernel_rfl
theorem fld43_0 : fieldB Try.prog 43 0 0 = true := by kernel_rfl
theorem fld43_1 : fieldB Try.prog 43 1 1 = true := by kernel_rfl
theorem zero43 : zeroOf Try.prog 43 = some [.int .i64 0, .int .u32 0, .bool false, .slice none 0 0] := by kernel_rfl
theorem size44 : sizeB Try.prog 44 4 = true := by kernel_rfl
theorem agg44 : aggB Try.prog 44 4 = true := by kernel_rfl
theorem fld44_0 : fieldB Try.prog 44 0 0 = true := by kernel_rfl
theorem fld44_1 : fieldB Try.prog 44 1 1 = true := by kernel_rfl
theorem zero44 : zeroOf Try.prog 44 = some [.int .i64 0, .int .u32 0, .bool false, .slice none 0 0] := by kernel_rfl
theorem size45 : sizeB Try.prog 45 1 = true := by kernel_rfl
theorem one45 : oneB Try.prog 45 = true := by kernel_rfl
theorem zero45 : zeroOf Try.prog 45 = some [.nilFunc] := by kernel_rfl
theorem size46 : sizeB Try.prog 46 1 = true := by kernel_rfl
theorem one46 : oneB Try.prog 46 = true := by kernel_rfl
theorem zero46 : zeroOf Try.prog 46 = some [.nilFunc] := by kernel_rfl
theorem size48 : sizeB Try.prog 48 1 = true := by kernel_rfl
theorem one48 : oneB Try.prog 48 = true := by kernel_rfl
theorem zero48 : zeroOf Try.prog 48 = some [.nilFunc] := by kernel_rfl
theorem size49 : sizeB Try.prog 49 1 = true := by kernel_rfl
theorem one49 : oneB Try.prog 49 = true := by kernel_rfl
theorem zero49 : zeroOf Try.prog 49 = some [.nilFunc] := by kernel_rfl
theorem size50 : sizeB Try.prog 50 1 = true := by kernel_rfl
theorem one50 : oneB Try.prog 50 = true := by kernel_rfl
theorem zero50 : zeroOf Try.prog 50 = some [.nilFunc] := by kernel_rfl
theorem size51 : sizeB Try.prog 51 1 = true := by kernel_rfl
theorem one51 : oneB Try.prog 51 = true := by kernel_rfl
theorem zero51 : zeroOf Try.prog 51 = some [.nilFunc] := by kernel_rfl
theorem size52 : sizeB Try.prog 52 1 = true := by kernel_rfl
theorem one52 : oneB Try.prog 52 = true := by kernel_rfl
theorem zero52 : zeroOf Try.prog 52 = some [.slice none 0 0] := by kernel_rfl
theorem sl52 : SlT Try.prog 52 4 1 1 := SlT.of (by kernel_rfl)
theorem size54 : sizeB Try.prog 54 1 = true := by kernel_rfl
theorem one54 : oneB Try.prog 54 = true := by kernel_rfl
theorem zero54 : zeroOf Try.prog 54 = some [.nilFunc] := by kernel_rfl
theorem size55 : sizeB Try.prog 55 1 = true := by kernel_rfl
theorem one55 : oneB Try.prog 55 = true := by kernel_rfl
theorem zero55 : zeroOf Try.prog 55 = some [.nilFunc] := by kernel_rfl
theorem size56 : sizeB Try.prog 56 1 = true := by kernel_rfl
theorem one56 : oneB Try.prog 56 = true := by kernel_rfl
theorem zero56 : zeroOf Try.prog 56 = some [.nilFunc] := by kernel_rfl
theorem size57 : sizeB Try.prog 57 1 = true := by kernel_rfl
theorem one57 : oneB Try.prog 57 = true := by kernel_rfl
theorem zero57 : zeroOf Try.prog 57 = some [.slice none 0 0] := by kernel_rfl
theorem sl57 : SlT Try.prog 57 69 3 12 := SlT.of (by kernel_rfl)
theorem size58 : sizeB Try.prog 58 1 = true := by kernel_rfl
theorem one58 : oneB Try.prog 58 = true := by kernel_rfl
theorem zero58 : zeroOf Try.prog 58 = some [.nilFunc] := by kernel_rfl
theorem size59 : sizeB Try.prog 59 1 = true := by kernel_rfl
theorem one59 : oneB Try.prog 59 = true := by kernel_rfl
theorem zero59 : zeroOf Try.prog 59 = some [.nilFunc] := by kernel_rfl
theorem size60 : sizeB Try.prog 60 1 = true := by kernel_rfl
theorem one60 : oneB Try.prog 60 = true := by kernel_rfl
theorem zero60 : zeroOf Try.prog 60 = some [.nilFunc] := by kernel_rfl
theorem size62 : sizeB Try.prog 62 1 = true := by kernel_rfl
theorem one62 : oneB Try.prog 62 = true := by kernel_rfl
theorem zero62 : zeroOf Try.prog 62 = some [.nilFunc] := by kernel_rfl
theorem size63 : sizeB Try.prog 63 5 = true := by kernel_rfl
theorem agg63 : aggB Try.prog 63 5 = true := by kernel_rfl
theorem fld63_0 : fieldB Try.prog 63 0 0 = true := by kernel_rfl
theorem fld63_1 : fieldB Try.prog 63 1 1 = true := by kernel_rfl
theorem fld63_2 : fieldB Try.prog 63 2 2 = true := by kernel_rfl
theorem fld63_3 : fieldB Try.prog 63 3 3 = true := by kernel_rfl
theorem fld63_4 : fieldB Try.prog 63 4 4 = true := by kernel_rfl
theorem zero63 : zeroOf Try.prog 63 = some [.int .i64 0, .int .i64 0, .int .i64 0, .int .i64 0, .int .i64 0] := by kernel_rfl
theorem size64 : sizeB Try.prog 64 5 = true := by kernel_rfl
theorem agg64 : aggB Try.prog 64 5 = true := by kernel_rfl
theorem fld64_0 : fieldB Try.prog 64 0 0 = true := by kernel_rfl
theorem fld64_1 : fieldB Try.prog 64 1 1 = true := by kernel_rfl
theorem fld64_2 : fieldB Try.prog 64 2 2 = true := by kernel_rfl
theorem fld64_3 : fieldB Try.prog 64 3 3 = true := by kernel_rfl
theorem fld64_4 : fieldB Try.prog 64 4 4 = true := by kernel_rfl
theorem zero64 : zeroOf Try.prog 64 = some [.int .i64 0, .int .i64 0, .int .i64 0, .int .i64 0, .int .i64 0] := by kernel_rfl
theorem size66 : sizeB Try.prog 66 1 = true := by kernel_rfl
theorem one66 : oneB Try.prog 66 = true := by kernel_rfl
theorem zero66 : zeroOf Try.prog 66 = some [.nilFunc] := by kernel_rfl
theorem size67 : sizeB Try.prog 67 1 = true := by kernel_rfl
theorem one67 : oneB Try.prog 67 = true := by kernel_rfl
theorem zero67 : zeroOf Try.prog 67 = some [.nilFunc] := by kernel_rfl
theorem size68 : sizeB Try.prog 68 3 = true := by kernel_rfl
theorem agg68 : aggB Try.prog 68 3 = true := by kernel_rfl
theorem fld68_0 : fieldB Try.prog 68 0 0 = true := by kernel_rfl
theorem fld68_1 : fieldB Try.prog 68 1 1 = true := by kernel_rfl
theorem fld68_2 : fieldB Try.prog 68 2 2 = true := by kernel_rfl
theorem zero68 : zeroOf Try.prog 68 = some [.bool false, .int .u32 0, .int .u32 0] := by kernel_rfl
theorem size69 : sizeB Try.prog 69 3 = true := by kernel_rfl
theorem agg69 : aggB Try.prog 69 3 = true := by kernel_rfl
theorem fld69_0 : fieldB Try.prog 69 0 0 = true := by kernel_rfl
theorem fld69_1 : fieldB Try.prog 69 1 1 = true := by kernel_rfl
theorem fld69_2 : fieldB Try.prog 69 2 2 = true := by kernel_rfl
theorem zero69 : zeroOf Try.prog 69 = some [.bool false, .int .u32 0, .int .u32 0] := by kernel_rfl
theorem size70 : sizeB Try.prog 70 1 = true := by kernel_rfl
theorem one70 : oneB Try.prog 70 = true := by kernel_rfl
theorem zero70 : zeroOf Try.prog 70 = some [.int .i64 0] := by kernel_rfl
theorem size71 : sizeB Try.prog 71 1 = true := by kernel_rfl
theorem one71 : oneB Try.prog 71 = true := by kernel_rfl
theorem zero71 : zeroOf Try.prog 71 = some [.slice none 0 0] := by kernel_rfl
theorem sl71 : SlT Try.prog 71 78 1 8 := SlT.of (by kernel_rfl)
theorem size72 : sizeB Try.prog 72 1 = true := by kernel_rfl
theorem one72 : oneB Try.prog 72 = true := by kernel_rfl
theorem zero72 : zeroOf Try.prog 72 = some [.slice none 0 0] := by kernel_rfl
theorem sl72 : SlT Try.prog 72 91 4 48 := SlT.of (by kernel_rfl)
theorem size73 : sizeB Try.prog 73 2 = true := by kernel_rfl
theorem agg73 : aggB Try.prog 73 2 = true := by kernel_rfl
theorem fld73_0 : fieldB Try.prog 73 0 0 = true := by kernel_rfl
theorem fld73_1 : fieldB Try.prog 73 1 1 = true := by kernel_rfl
theorem zero73 : zeroOf Try.prog 73 = some [.slice none 0 0, .slice none 0 0] := by kernel_rfl
theorem size74 : sizeB Try.prog 74 2 = true := by kernel_rfl
theorem agg74 : aggB Try.prog 74 2 = true := by kernel_rfl
theorem fld74_0 : fieldB Try.prog 74 0 0 = true := by kernel_rfl
theorem fld74_1 : fieldB Try.prog 74 1 1 = true := by kernel_rfl
theorem zero74 : zeroOf Try.prog 74 = some [.slice none 0 0, .slice none 0 0] := by kernel_rfl
theorem size75 : sizeB Try.prog 75 1 = true := by kernel_rfl
theorem one75 : oneB Try.prog 75 = true := by kernel_rfl
theorem zero75 : zeroOf Try.prog 75 = some [.pointer none] := by kernel_rfl
theorem size77 : sizeB Try.prog 77 1 = true := by kernel_rfl
theorem one77 : oneB Try.prog 77 = true := by kernel_rfl
theorem zero77 : zeroOf Try.prog 77 = some [.nilFunc] := by kernel_rfl
theorem size78 : sizeB Try.prog 78 1 = true := by kernel_rfl
theorem one78 : oneB Try.prog 78 = true := by kernel_rfl
theorem zero78 : zeroOf Try.prog 78 = some [.pointer none] := by kernel_rfl
theorem size79 : sizeB Try.prog 79 1 = true := by kernel_rfl
theorem one79 : oneB Try.prog 79 = true := by kernel_rfl
theorem zero79 : zeroOf Try.prog 79 = some [.nilFunc] := by kernel_rfl
theorem size80 : sizeB Try.prog 80 8 = true := by kernel_rfl
theorem agg80 : aggB Try.prog 80 8 = true := by kernel_rfl
theorem fld80_0 : fieldB Try.prog 80 0 0 = true := by kernel_rfl
theorem fld80_1 : fieldB Try.prog 80 1 1 = true := by kernel_rfl
theorem fld80_2 : fieldB Try.prog 80 2 2 = true := by kernel_rfl
theorem fld80_3 : fieldB Try.prog 80 3 3 = true := by kernel_rfl
theorem zero80 : zeroOf Try.prog 80 = some [.pointer none, .pointer none, .slice none 0 0, .int .i64 0, .int .i64 0, .int .i64 0, .int .i64 0, .int .i64 0] := by kernel_rfl
theorem size81 : sizeB Try.prog 81 8 = true := by kernel_rfl
theorem agg81 : aggB Try.prog 81 8 = true := by kernel_rfl
theorem fld81_0 : fieldB Try.prog 81 0 0 = true := by kernel_rfl
theorem fld81_1 : fieldB Try.prog 81 1 1 = true := by kernel_rfl
theorem fld81_2 : fieldB Try.prog 81 2 2 = true := by kernel_rfl
theorem fld81_3 : fieldB Try.prog 81 3 3 = true := by kernel_rfl
theorem zero81 : zeroOf Try.prog 81 = some [.pointer none, .pointer none, .slice none 0 0, .int .i64 0, .int .i64 0, .int .i64 0, .int .i64 0, .int .i64 0] := by kernel_rfl
theorem size82 : sizeB Try.prog 82 1 = true := by kernel_rfl
theorem one82 : oneB Try.prog 82 = true := by kernel_rfl
theorem zero82 : zeroOf Try.prog 82 = some [.nilFunc] := by kernel_rfl
theorem size83 : sizeB Try.prog 83 1 = true := by kernel_rfl
theorem one83 : oneB Try.prog 83 = true := by kernel_rfl
theorem zero83 : zeroOf Try.prog 83 = some [.nilFunc] := by kernel_rfl
theorem size84 : sizeB Try.prog 84 1 = true := by kernel_rfl
theorem one84 : oneB Try.prog 84 = true := by kernel_rfl
theorem zero84 : zeroOf Try.prog 84 = some [.nilFunc] := by kernel_rfl
theorem size85 : sizeB Try.prog 85 1 = true := by kernel_rfl
theorem one85 : oneB Try.prog 85 = true := by kernel_rfl
theorem zero85 : zeroOf Try.prog 85 = some [.nilFunc] := by kernel_rfl
theorem size87 : sizeB Try.prog 87 1 = true := by kernel_rfl
theorem one87 : oneB Try.prog 87 = true := by kernel_rfl
theorem zero87 : zeroOf Try.prog 87 = some [.nilFunc] := by kernel_rfl
theorem size89 : sizeB Try.prog 89 1 = true := by kernel_rfl
theorem one89 : oneB Try.prog 89 = true := by kernel_rfl
theorem zero89 : zeroOf Try.prog 89 = some [.nilFunc] := by kernel_rfl
theorem size90 : sizeB Try.prog 90 4 = true := by kernel_rfl
theorem agg90 : aggB Try.prog 90 4 = true := by kernel_rfl
theorem fld90_0 : fieldB Try.prog 90 0 0 = true := by kernel_rfl
theorem fld90_1 : fieldB Try.prog 90 1 1 = true := by kernel_rfl
theorem fld90_2 : fieldB Try.prog 90 2 2 = true := by kernel_rfl
theorem fld90_3 : fieldB Try.prog 90 3 3 = true := by kernel_rfl
theorem zero90 : zeroOf Try.prog 90 = some [.int .i64 0, .slice none 0 0, .bool false, .int .i64 0] := by kernel_rfl
theorem size91 : sizeB Try.prog 91 4 = true := by kernel_rfl
theorem agg91 : aggB Try.prog 91 4 = true := by kernel_rfl
theorem fld91_0 : fieldB Try.prog 91 0 0 = true := by kernel_rfl
theorem fld91_1 : fieldB Try.prog 91 1 1 = true := by kernel_rfl
theorem fld91_2 : fieldB Try.prog 91 2 2 = true := by kernel_rfl
theorem fld91_3 : fieldB Try.prog 91 3 3 = true := by kernel_rfl
theorem zero91 : zeroOf Try.prog 91 = some [.int .i64 0, .slice none 0 0, .bool false, .int .i64 0] := by kernel_rfl
theorem size92 : sizeB Try.prog 92 1 = true := by kernel_rfl
theorem one92 : oneB Try.prog 92 = true := by kernel_rfl
theorem zero92 : zeroOf Try.prog 92 = some [.nilFunc] := by kernel_rfl
theorem size93 : sizeB Try.prog 93 1 = true := by kernel_rfl
theorem one93 : oneB Try.prog 93 = true := by kernel_rfl
theorem zero93 : zeroOf Try.prog 93 = some [.nilFunc] := by kernel_rfl
theorem size94 : sizeB Try.prog 94 1 = true := by kernel_rfl
theorem one94 : oneB Try.prog 94 = true := by kernel_rfl
theorem zero94 : zeroOf Try.prog 94 = some [.nilFunc] := by kernel_rfl
theorem size95 : sizeB Try.prog 95 1 = true := by kernel_rfl
theorem one95 : oneB Try.prog 95 = true := by kernel_rfl
theorem zero95 : zeroOf Try.prog 95 = some [.nilFunc] := by kernel_rfl
theorem size96 : sizeB Try.prog 96 1 = true := by kernel_rfl
theorem one96 : oneB Try.prog 96 = true := by kernel_rfl
theorem zero96 : zeroOf Try.prog 96 = some [.nilFunc] := by kernel_rfl
theorem size97 : sizeB Try.prog 97 1 = true := by kernel_rfl
theorem one97 : oneB Try.prog 97 = true := by kernel_rfl
theorem zero97 : zeroOf Try.prog 97 = some [.slice none 0 0] := by kernel_rfl
theorem sl97 : SlT Try.prog 97 35 3 32 := SlT.of (by kernel_rfl)
theorem size98 : sizeB Try.prog 98 3 = true := by kernel_rfl
theorem agg98 : aggB Try.prog 98 3 = true := by kernel_rfl
theorem fld98_0 : fieldB Try.prog 98 0 0 = true := by kernel_rfl
theorem fld98_1 : fieldB Try.prog 98 1 1 = true := by kernel_rfl
theorem fld98_2 : fieldB Try.prog 98 2 2 = true := by kernel_rfl
theorem zero98 : zeroOf Try.prog 98 = some [.slice none 0 0, .int .i64 0, .int .i64 0] := by kernel_rfl
theorem size99 : sizeB Try.prog 99 3 = true := by kernel_rfl
theorem agg99 : aggB Try.prog 99 3 = true := by kernel_rfl
theorem fld99_0 : fieldB Try.prog 99 0 0 = true := by kernel_rfl
theorem fld99_1 : fieldB Try.prog 99 1 1 = true := by kernel_rfl
theorem fld99_2 : fieldB Try.prog 99 2 2 = true := by kernel_rfl
theorem zero99 : zeroOf Try.prog 99 = some [.slice none 0 0, .int .i64 0, .int .i64 0] := by kernel_rfl
theorem size100 : sizeB Try.prog 100 1 = true := by kernel_rfl
theorem one100 : oneB Try.prog 100 = true := by kernel_rfl
theorem zero100 : zeroOf Try.prog 100 = some [.nilIface] := by kernel_rfl
theorem size101 : sizeB Try.prog 101 1 = true := by kernel_rfl
theorem one101 : oneB Try.prog 101 = true := by kernel_rfl
theorem zero101 : zeroOf Try.prog 101 = some [.nilIface] := by kernel_rfl
theorem size102 : sizeB Try.prog 102 1 = true := by kernel_rfl
theorem one102 : oneB Try.prog 102 = true := by kernel_rfl
theorem zero102 : zeroOf Try.prog 102 = some [.nilFunc] := by kernel_rfl
theorem size103 : sizeB Try.prog 103 1 = true := by kernel_rfl
theorem one103 : oneB Try.prog 103 = true := by kernel_rfl
theorem zero103 : zeroOf Try.prog 103 = some [.nilFunc] := by kernel_rfl
theorem size104 : sizeB Try.prog 104 1 = true := by kernel_rfl
theorem one104 : oneB Try.prog 104 = true := by kernel_rfl
theorem zero104 : zeroOf Try.prog 104 = some [.nilFunc] := by kernel_rfl
theorem size106 : sizeB Try.prog 106 1 = true := by kernel_rfl
theorem one106 : oneB Try.prog 106 = true := by kernel_rfl
theorem zero106 : zeroOf Try.prog 106 = some [.nilFunc] := by kernel_rfl
theorem size107 : sizeB Try.prog 107 1 = true := by kernel_rfl
theorem one107 : oneB Try.prog 107 = true := by kernel_rfl
theorem zero107 : zeroOf Try.prog 107 = some [.nilFunc] := by kernel_rfl
theorem size108 : sizeB Try.prog 108 1 = true := by kernel_rfl
theorem one108 : oneB Try.prog 108 = true := by kernel_rfl
theorem zero108 : zeroOf Try.prog 108 = some [.nilFunc] := by kernel_rfl
theorem size109 : sizeB Try.prog 109 1 = true := by kernel_rfl
theorem one109 : oneB Try.prog 109 = true := by kernel_rfl
theorem zero109 : zeroOf Try.prog 109 = some [.nilFunc] := by kernel_rfl
theorem size110 : sizeB Try.prog 110 1 = true := by kernel_rfl
theorem one110 : oneB Try.prog 110 = true := by kernel_rfl
theorem zero110 : zeroOf Try.prog 110 = some [.int .u64 0] := by kernel_rfl
theorem size111 : sizeB Try.prog 111 1 = true := by kernel_rfl
theorem one111 : oneB Try.prog 111 = true := by kernel_rfl
theorem zero111 : zeroOf Try.prog 111 = some [.int .u16 0] := by kernel_rfl
theorem size112 : sizeB Try.prog 112 1 = true := by kernel_rfl
theorem one112 : oneB Try.prog 112 = true := by kernel_rfl
theorem zero112 : zeroOf Try.prog 112 = some [.nilFunc] := by kernel_rfl
theorem size113 : sizeB Try.prog 113 1 = true := by kernel_rfl
theorem one113 : oneB Try.prog 113 = true := by kernel_rfl
theorem zero113 : zeroOf Try.prog 113 = some [.int .u64 0] := by kernel_rfl
theorem size114 : sizeB Try.prog 114 1 = true := by kernel_rfl
theorem one114 : oneB Try.prog 114 = true := by kernel_rfl
theorem zero114 : zeroOf Try.prog 114 = some [.nilFunc] := by kernel_rfl
theorem size115 : sizeB Try.prog 115 1 = true := by kernel_rfl
theorem agg115 : aggB Try.prog 115 1 = true := by kernel_rfl
theorem fld115_0 : fieldB Try.prog 115 0 0 = true := by kernel_rfl
theorem zero115 : zeroOf Try.prog 115 = some [.pointer none] := by kernel_rfl
theorem size116 : sizeB Try.prog 116 1 = true := by kernel_rfl
theorem agg116 : aggB Try.prog 116 1 = true := by kernel_rfl
theorem fld116_0 : fieldB Try.prog 116 0 0 = true := by kernel_rfl
theorem zero116 : zeroOf Try.prog 116 = some [.pointer none] := by kernel_rfl
theorem size117 : sizeB Try.prog 117 1 = true := by kernel_rfl
theorem one117 : oneB Try.prog 117 = true := by kernel_rfl
theorem zero117 : zeroOf Try.prog 117 = some [.pointer none] := by kernel_rfl
theorem size118 : sizeB Try.prog 118 1 = true := by kernel_rfl
theorem one118 : oneB Try.prog 118 = true := by kernel_rfl
theorem zero118 : zeroOf Try.prog 118 = some [.nilIface] := by kernel_rfl
theorem size120 : sizeB Try.prog 120 1 = true := by kernel_rfl
theorem one120 : oneB Try.prog 120 = true := by kernel_rfl
theorem zero120 : zeroOf Try.prog 120 = some [.nilFunc] := by kernel_rfl
theorem size121 : sizeB Try.prog 121 1 = true := by kernel_rfl
theorem one121 : oneB Try.prog 121 = true := by kernel_rfl
theorem zero121 : zeroOf Try.prog 121 = some [.nilIface] := by kernel_rfl
theorem size122 : sizeB Try.prog 122 1 = true := by kernel_rfl
theorem one122 : oneB Try.prog 122 = true := by kernel_rfl
theorem zero122 : zeroOf Try.prog 122 = some [.nilFunc] := by kernel_rfl
theorem size123 : sizeB Try.prog 123 1 = true := by kernel_rfl
theorem one123 : oneB Try.prog 123 = true := by kernel_rfl
theorem zero123 : zeroOf Try.prog 123 = some [.nilIface] := by kernel_rfl
theorem size124 : sizeB Try.prog 124 1 = true := by kernel_rfl
theorem one124 : oneB Try.prog 124 = true := by kernel_rfl
theorem zero124 : zeroOf Try.prog 124 = some [.slice none 0 0] := by kernel_rfl
theorem sl124 : SlT Try.prog 124 27 1 16 := SlT.of (by kernel_rfl)
theorem size125 : sizeB Try.prog 125 1 = true := by kernel_rfl
theorem one125 : oneB Try.prog 125 = true := by kernel_rfl
theorem zero125 : zeroOf Try.prog 125 = some [.nilFunc] := by kernel_rfl
theorem size126 : sizeB Try.prog 126 6 = true := by kernel_rfl
theorem agg126 : aggB Try.prog 126 6 = true := by kernel_rfl
theorem fld126_0 : fieldB Try.prog 126 0 0 = true := by kernel_rfl
theorem fld126_1 : fieldB Try.prog 126 1 1 = true := by kernel_rfl
theorem fld126_2 : fieldB Try.prog 126 2 2 = true := by kernel_rfl
theorem fld126_3 : fieldB Try.prog 126 3 5 = true := by kernel_rfl
theorem zero126 : zeroOf Try.prog 126 = some [.slice none 0 0, .int .i64 0, .int .u32 0, .bool false, .slice none 0 0, .int .i64 0] := by kernel_rfl
theorem size127 : sizeB Try.prog 127 6 = true := by kernel_rfl
theorem agg127 : aggB Try.prog 127 6 = true := by kernel_rfl
theorem fld127_0 : fieldB Try.prog 127 0 0 = true := by kernel_rfl
theorem fld127_1 : fieldB Try.prog 127 1 1 = true := by kernel_rfl
theorem fld127_2 : fieldB Try.prog 127 2 2 = true := by kernel_rfl
theorem fld127_3 : fieldB Try.prog 127 3 5 = true := by kernel_rfl
theorem zero127 : zeroOf Try.prog 127 = some [.slice none 0 0, .int .i64 0, .int .u32 0, .bool false, .slice none 0 0, .int .i64 0] := by kernel_rfl
theorem size128 : sizeB Try.prog 128 1 = true := by kernel_rfl
theorem one128 : oneB Try.prog 128 = true := by kernel_rfl
theorem zero128 : zeroOf Try.prog 128 = some [.nilFunc] := by kernel_rfl
theorem size129 : sizeB Try.prog 129 1 = true := by kernel_rfl
theorem one129 : oneB Try.prog 129 = true := by kernel_rfl
theorem zero129 : zeroOf Try.prog 129 = some [.nilFunc] := by kernel_rfl
theorem size130 : sizeB Try.prog 130 1 = true := by kernel_rfl
theorem one130 : oneB Try.prog 130 = true := by kernel_rfl
theorem zero130 : zeroOf Try.prog 130 = some [.pointer none] := by kernel_rfl
theorem size131 : sizeB Try.prog 131 1 = true := by kernel_rfl
theorem one131 : oneB Try.prog 131 = true := by kernel_rfl
theorem zero131 : zeroOf Try.prog 131 = some [.slice none 0 0] := by kernel_rfl
theorem sl131 : SlT Try.prog 131 122 1 8 := SlT.of (by kernel_rfl)
theorem size132 : sizeB Try.prog 132 1 = true := by kernel_rfl
theorem one132 : oneB Try.prog 132 = true := by kernel_rfl
theorem zero132 : zeroOf Try.prog 132 = some [.nilIface] := by kernel_rfl
theorem size133 : sizeB Try.prog 133 1 = true := by kernel_rfl
theorem one133 : oneB Try.prog 133 = true := by kernel_rfl
theorem zero133 : zeroOf Try.prog 133 = some [.nilIface] := by kernel_rfl
theorem size134 : sizeB Try.prog 134 1 = true := by kernel_rfl
theorem one134 : oneB Try.prog 134 = true := by kernel_rfl
theorem zero134 : zeroOf Try.prog 134 = some [.nilFunc] := by kernel_rfl
theorem size135 : sizeB Try.prog 135 1 = true := by kernel_rfl
theorem one135 : oneB Try.prog 135 = true := by kernel_rfl
theorem zero135 : zeroOf Try.prog 135 = some [.pointer none] := by kernel_rfl
theorem size136 : sizeB Try.prog 136 1 = true := by kernel_rfl
theorem one136 : oneB Try.prog 136 = true := by kernel_rfl
theorem zero136 : zeroOf Try.prog 136 = some [.nilFunc] := by kernel_rfl
theorem size137 : sizeB Try.prog 137 1 = true := by kernel_rfl
theorem one137 : oneB Try.prog 137 = true := by kernel_rfl
theorem zero137 : zeroOf Try.prog 137 = some [.nilFunc] := by kernel_rfl
theorem size138 : sizeB Try.prog 138 1 = true := by kernel_rfl
theorem agg138 : aggB Try.prog 138 1 = true := by kernel_rfl
theorem fld138_0 : fieldB Try.prog 138 0 0 = true := by kernel_rfl
theorem zero138 : zeroOf Try.prog 138 = some [.int .u16 0] := by kernel_rfl
theorem size139 : sizeB Try.prog 139 1 = true := by kernel_rfl
theorem agg139 : aggB Try.prog 139 1 = true := by kernel_rfl
theorem fld139_0 : fieldB Try.prog 139 0 0 = true := by kernel_rfl
theorem zero139 : zeroOf Try.prog 139 = some [.int .u16 0] := by kernel_rfl
theorem size140 : sizeB Try.prog 140 1 = true := by kernel_rfl
theorem agg140 : aggB Try.prog 140 1 = true := by kernel_rfl
theorem fld140_0 : fieldB Try.prog 140 0 0 = true := by kernel_rfl
theorem zero140 : zeroOf Try.prog 140 = some [.int .u16 0] := by kernel_rfl
theorem size141 : sizeB Try.prog 141 1 = true := by kernel_rfl
theorem agg141 : aggB Try.prog 141 1 = true := by kernel_rfl
theorem fld141_0 : fieldB Try.prog 141 0 0 = true := by kernel_rfl
theorem zero141 : zeroOf Try.prog 141 = some [.int .u16 0] := by kernel_rfl
theorem size142 : sizeB Try.prog 142 1 = true := by kernel_rfl
theorem one142 : oneB Try.prog 142 = true := by kernel_rfl
theorem zero142 : zeroOf Try.prog 142 = some [.nilFunc] := by kernel_rfl
theorem size143 : sizeB Try.prog 143 2 = true := by kernel_rfl
theorem agg143 : aggB Try.prog 143 2 = true := by kernel_rfl
theorem fld143_0 : fieldB Try.prog 143 0 0 = true := by kernel_rfl
theorem fld143_1 : fieldB Try.prog 143 1 1 = true := by kernel_rfl
theorem zero143 : zeroOf Try.prog 143 = some [.bool false, .int .i64 0] := by kernel_rfl
theorem size144 : sizeB Try.prog 144 2 = true := by kernel_rfl
theorem agg144 : aggB Try.prog 144 2 = true := by kernel_rfl
theorem fld144_0 : fieldB Try.prog 144 0 0 = true := by kernel_rfl
theorem fld144_1 : fieldB Try.prog 144 1 1 = true := by kernel_rfl
theorem zero144 : zeroOf Try.prog 144 = some [.bool false, .int .i64 0] := by kernel_rfl
theorem size145 : sizeB Try.prog 145 1 = true := by kernel_rfl
theorem one145 : oneB Try.prog 145 = true := by kernel_rfl
theorem zero145 : zeroOf Try.prog 145 = some [.nilFunc] := by kernel_rfl
theorem size146 : sizeB Try.prog 146 3 = true := by kernel_rfl
theorem agg146 : aggB Try.prog 146 3 = true := by kernel_rfl
theorem fld146_0 : fieldB Try.prog 146 0 0 = true := by kernel_rfl
theorem fld146_1 : fieldB Try.prog 146 1 1 = true := by kernel_rfl
theorem fld146_2 : fieldB Try.prog 146 2 2 = true := by kernel_rfl
theorem zero146 : zeroOf Try.prog 146 = some [.int .i64 0, .int .i64 0, .int .i64 0] := by kernel_rfl
theorem size147 : sizeB Try.prog 147 3 = true := by kernel_rfl
theorem agg147 : aggB Try.prog 147 3 = true := by kernel_rfl
theorem fld147_0 : fieldB Try.prog 147 0 0 = true := by kernel_rfl
theorem fld147_1 : fieldB Try.prog 147 1 1 = true := by kernel_rfl
theorem fld147_2 : fieldB Try.prog 147 2 2 = true := by kernel_rfl
theorem zero147 : zeroOf Try.prog 147 = some [.int .i64 0, .int .i64 0, .int .i64 0] := by kernel_rfl
theorem size148 : sizeB Try.prog 148 1 = true := by kernel_rfl
theorem one148 : oneB Try.prog 148 = true := by kernel_rfl
theorem zero148 : zeroOf Try.prog 148 = some [.pointer none] := by kernel_rfl
theorem size149 : sizeB Try.prog 149 1 = true := by kernel_rfl
theorem one149 : oneB Try.prog 149 = true := by kernel_rfl
theorem zero149 : zeroOf Try.prog 149 = some [.pointer none] := by kernel_rfl
theorem size150 : sizeB Try.prog 150 1 = true := by kernel_rfl
theorem one150 : oneB Try.prog 150 = true := by kernel_rfl
theorem zero150 : zeroOf Try.prog 150 = some [.nilFunc] := by kernel_rfl
theorem size151 : sizeB Try.prog 151 4 = true := by kernel_rfl
theorem agg151 : aggB Try.prog 151 4 = true := by kernel_rfl
theorem fld151_0 : fieldB Try.prog 151 0 0 = true := by kernel_rfl
theorem fld151_1 : fieldB Try.prog 151 1 1 = true := by kernel_rfl
theorem fld151_2 : fieldB Try.prog 151 2 2 = true := by kernel_rfl
theorem fld151_3 : fieldB Try.prog 151 3 3 = true := by kernel_rfl
theorem zero151 : zeroOf Try.prog 151 = some [.pointer none, .pointer none, .pointer none, .string ByteArray.empty] := by kernel_rfl
theorem size152 : sizeB Try.prog 152 4 = true := by kernel_rfl
theorem agg152 : aggB Try.prog 152 4 = true := by kernel_rfl
theorem fld152_0 : fieldB Try.prog 152 0 0 = true := by kernel_rfl
theorem fld152_1 : fieldB Try.prog 152 1 1 = true := by kernel_rfl
theorem fld152_2 : fieldB Try.prog 152 2 2 = true := by kernel_rfl
theorem fld152_3 : fieldB Try.prog 152 3 3 = true := by kernel_rfl
theorem zero152 : zeroOf Try.prog 152 = some [.pointer none, .pointer none, .pointer none, .string ByteArray.empty] := by kernel_rfl
theorem size153 : sizeB Try.prog 153 0 = true := by kernel_rfl
theorem agg153 : aggB Try.prog 153 0 = true := by kernel_rfl
theorem zero153 : zeroOf Try.prog 153 = some [] := by kernel_rfl
theorem size154 : sizeB Try.prog 154 0 = true := by kernel_rfl
theorem agg154 : aggB Try.prog 154 0 = true := by kernel_rfl
theorem zero154 : zeroOf Try.prog 154 = some [] := by kernel_rfl
theorem size155 : sizeB Try.prog 155 0 = true := by kernel_rfl
theorem agg155 : aggB Try.prog 155 0 = true := by kernel_rfl
theorem zero155 : zeroOf Try.prog 155 = some [] := by kernel_rfl
theorem size156 : sizeB Try.prog 156 1 = true := by kernel_rfl
theorem one156 : oneB Try.prog 156 = true := by kernel_rfl
theorem zero156 : zeroOf Try.prog 156 = some [.int .u8 0] := by kernel_rfl
theorem size157 : sizeB Try.prog 157 1 = true := by kernel_rfl
theorem one157 : oneB Try.prog 157 = true := by kernel_rfl
theorem zero157 : zeroOf Try.prog 157 = some [.int .u8 0] := by kernel_rfl
theorem size158 : sizeB Try.prog 158 1 = true := by kernel_rfl
theorem one158 : oneB Try.prog 158 = true := by kernel_rfl
theorem zero158 : zeroOf Try.prog 158 = some [.nilFunc] := by kernel_rfl
theorem size159 : sizeB Try.prog 159 1 = true := by kernel_rfl
theorem one159 : oneB Try.prog 159 = true := by kernel_rfl
theorem zero159 : zeroOf Try.prog 159 = some [.pointer none] := by kernel_rfl
theorem size160 : sizeB Try.prog 160 1 = true := by kernel_rfl
theorem one160 : oneB Try.prog 160 = true := by kernel_rfl
theorem zero160 : zeroOf Try.prog 160 = some [.int .i32 0] := by kernel_rfl
theorem size161 : sizeB Try.prog 161 1 = true := by kernel_rfl
theorem one161 : oneB Try.prog 161 = true := by kernel_rfl
theorem zero161 : zeroOf Try.prog 161 = some [.int .i32 0] := by kernel_rfl
theorem size162 : sizeB Try.prog 162 11 = true := by kernel_rfl
theorem agg162 : aggB Try.prog 162 11 = true := by kernel_rfl
theorem fld162_0 : fieldB Try.prog 162 0 0 = true := by kernel_rfl
theorem fld162_1 : fieldB Try.prog 162 1 1 = true := by kernel_rfl
theorem fld162_2 : fieldB Try.prog 162 2 2 = true := by kernel_rfl
theorem fld162_3 : fieldB Try.prog 162 3 3 = true := by kernel_rfl
theorem fld162_4 : fieldB Try.prog 162 4 4 = true := by kernel_rfl
theorem fld162_5 : fieldB Try.prog 162 5 5 = true := by kernel_rfl
theorem fld162_6 : fieldB Try.prog 162 6 6 = true := by kernel_rfl
theorem fld162_7 : fieldB Try.prog 162 7 7 = true := by kernel_rfl
theorem fld162_8 : fieldB Try.prog 162 8 8 = true := by kernel_rfl
theorem fld162_9 : fieldB Try.prog 162 9 9 = true := by kernel_rfl
theorem fld162_10 : fieldB Try.prog 162 10 10 = true := by kernel_rfl
theorem zero162 : zeroOf Try.prog 162 = some [.int .u64 0, .int .u64 0, .int .u32 0, .int .u8 0, .int .u8 0, .int .u8 0, .int .u8 0, .nilFunc, .pointer none, .int .i32 0, .int .i32 0] := by kernel_rfl
theorem size163 : sizeB Try.prog 163 11 = true := by kernel_rfl
theorem agg163 : aggB Try.prog 163 11 = true := by kernel_rfl
theorem fld163_0 : fieldB Try.prog 163 0 0 = true := by kernel_rfl
theorem fld163_1 : fieldB Try.prog 163 1 1 = true := by kernel_rfl
theorem fld163_2 : fieldB Try.prog 163 2 2 = true := by kernel_rfl
theorem fld163_3 : fieldB Try.prog 163 3 3 = true := by kernel_rfl
theorem fld163_4 : fieldB Try.prog 163 4 4 = true := by kernel_rfl
theorem fld163_5 : fieldB Try.prog 163 5 5 = true := by kernel_rfl
theorem fld163_6 : fieldB Try.prog 163 6 6 = true := by kernel_rfl
theorem fld163_7 : fieldB Try.prog 163 7 7 = true := by kernel_rfl
theorem fld163_8 : fieldB Try.prog 163 8 8 = true := by kernel_rfl
theorem fld163_9 : fieldB Try.prog 163 9 9 = true := by kernel_rfl
theorem fld163_10 : fieldB Try.prog 163 10 10 = true := by kernel_rfl
theorem zero163 : zeroOf Try.prog 163 = some [.int .u64 0, .int .u64 0, .int .u32 0, .int .u8 0, .int .u8 0, .int .u8 0, .int .u8 0, .nilFunc, .pointer none, .int .i32 0, .int .i32 0] := by kernel_rfl
theorem size164 : sizeB Try.prog 164 1 = true := by kernel_rfl
theorem one164 : oneB Try.prog 164 = true := by kernel_rfl
theorem zero164 : zeroOf Try.prog 164 = some [.nilFunc] := by kernel_rfl
theorem size165 : sizeB Try.prog 165 1 = true := by kernel_rfl
theorem one165 : oneB Try.prog 165 = true := by kernel_rfl
theorem zero165 : zeroOf Try.prog 165 = some [.nilFunc] := by kernel_rfl
theorem size166 : sizeB Try.prog 166 1 = true := by kernel_rfl
theorem one166 : oneB Try.prog 166 = true := by kernel_rfl
theorem zero166 : zeroOf Try.prog 166 = some [.nilFunc] := by kernel_rfl
theorem size167 : sizeB Try.prog 167 1 = true := by kernel_rfl
theorem one167 : oneB Try.prog 167 = true := by kernel_rfl
theorem zero167 : zeroOf Try.prog 167 = some [.nilFunc] := by kernel_rfl
theorem size168 : sizeB Try.prog 168 1 = true := by kernel_rfl
theorem one168 : oneB Try.prog 168 = true := by kernel_rfl
theorem zero168 : zeroOf Try.prog 168 = some [.nilFunc] := by kernel_rfl
theorem size169 : sizeB Try.prog 169 1 = true := by kernel_rfl
theorem one169 : oneB Try.prog 169 = true := by kernel_rfl
theorem zero169 : zeroOf Try.prog 169 = some [.nilFunc] := by kernel_rfl
theorem size170 : sizeB Try.prog 170 2 = true := by kernel_rfl
theorem agg170 : aggB Try.prog 170 2 = true := by kernel_rfl
theorem fld170_0 : fieldB Try.prog 170 0 0 = true := by kernel_rfl
theorem fld170_1 : fieldB Try.prog 170 1 1 = true := by kernel_rfl
theorem zero170 : zeroOf Try.prog 170 = some [.string ByteArray.empty, .int .u8 0] := by kernel_rfl
theorem size171 : sizeB Try.prog 171 2 = true := by kernel_rfl
theorem agg171 : aggB Try.prog 171 2 = true := by kernel_rfl
theorem fld171_0 : fieldB Try.prog 171 0 0 = true := by kernel_rfl
theorem fld171_1 : fieldB Try.prog 171 1 1 = true := by kernel_rfl
theorem zero171 : zeroOf Try.prog 171 = some [.string ByteArray.empty, .int .u8 0] := by kernel_rfl
theorem size172 : sizeB Try.prog 172 1 = true := by kernel_rfl
theorem one172 : oneB Try.prog 172 = true := by kernel_rfl
theorem zero172 : zeroOf Try.prog 172 = some [.pointer none] := by kernel_rfl
theorem size173 : sizeB Try.prog 173 1 = true := by kernel_rfl
theorem one173 : oneB Try.prog 173 = true := by kernel_rfl
theorem zero173 : zeroOf Try.prog 173 = some [.pointer none] := by kernel_rfl
theorem size174 : sizeB Try.prog 174 1 = true := by kernel_rfl
theorem one174 : oneB Try.prog 174 = true := by kernel_rfl
theorem zero174 : zeroOf Try.prog 174 = some [.nilFunc] := by kernel_rfl
theorem size175 : sizeB Try.prog 175 5 = true := by kernel_rfl
theorem agg175 : aggB Try.prog 175 5 = true := by kernel_rfl
theorem fld175_0 : fieldB Try.prog 175 0 0 = true := by kernel_rfl
theorem fld175_1 : fieldB Try.prog 175 1 1 = true := by kernel_rfl
theorem fld175_2 : fieldB Try.prog 175 2 2 = true := by kernel_rfl
theorem fld175_3 : fieldB Try.prog 175 3 3 = true := by kernel_rfl
theorem fld175_4 : fieldB Try.prog 175 4 4 = true := by kernel_rfl
theorem zero175 : zeroOf Try.prog 175 = some [.int .i32 0, .int .u16 0, .int .u16 0, .int .u32 0, .int .u32 0] := by kernel_rfl
theorem size176 : sizeB Try.prog 176 5 = true := by kernel_rfl
theorem agg176 : aggB Try.prog 176 5 = true := by kernel_rfl
theorem fld176_0 : fieldB Try.prog 176 0 0 = true := by kernel_rfl
theorem fld176_1 : fieldB Try.prog 176 1 1 = true := by kernel_rfl
theorem fld176_2 : fieldB Try.prog 176 2 2 = true := by kernel_rfl
theorem fld176_3 : fieldB Try.prog 176 3 3 = true := by kernel_rfl
theorem fld176_4 : fieldB Try.prog 176 4 4 = true := by kernel_rfl
theorem zero176 : zeroOf Try.prog 176 = some [.int .i32 0, .int .u16 0, .int .u16 0, .int .u32 0, .int .u32 0] := by kernel_rfl
theorem size177 : sizeB Try.prog 177 1 = true := by kernel_rfl
theorem one177 : oneB Try.prog 177 = true := by kernel_rfl
theorem zero177 : zeroOf Try.prog 177 = some [.slice none 0 0] := by kernel_rfl
theorem sl177 : SlT Try.prog 177 180 4 16 := SlT.of (by kernel_rfl)
theorem size178 : sizeB Try.prog 178 1 = true := by kernel_rfl
theorem one178 : oneB Try.prog 178 = true := by kernel_rfl
theorem zero178 : zeroOf Try.prog 178 = some [.int .i32 0] := by kernel_rfl
theorem size179 : sizeB Try.prog 179 4 = true := by kernel_rfl
theorem agg179 : aggB Try.prog 179 4 = true := by kernel_rfl
theorem fld179_0 : fieldB Try.prog 179 0 0 = true := by kernel_rfl
theorem fld179_1 : fieldB Try.prog 179 1 1 = true := by kernel_rfl
theorem fld179_2 : fieldB Try.prog 179 2 2 = true := by kernel_rfl
theorem fld179_3 : fieldB Try.prog 179 3 3 = true := by kernel_rfl
theorem zero179 : zeroOf Try.prog 179 = some [.int .i32 0, .int .i32 0, .int .i32 0, .int .i32 0] := by kernel_rfl
theorem size180 : sizeB Try.prog 180 4 = true := by kernel_rfl
theorem agg180 : aggB Try.prog 180 4 = true := by kernel_rfl
theorem fld180_0 : fieldB Try.prog 180 0 0 = true := by kernel_rfl
theorem fld180_1 : fieldB Try.prog 180 1 1 = true := by kernel_rfl
theorem fld180_2 : fieldB Try.prog 180 2 2 = true := by kernel_rfl
theorem fld180_3 : fieldB Try.prog 180 3 3 = true := by kernel_rfl
theorem zero180 : zeroOf Try.prog 180 = some [.int .i32 0, .int .i32 0, .int .i32 0, .int .i32 0] := by kernel_rfl
theorem fo64 : Try.prog.underlying 64 = some (.struct (Try.prog.fieldsOf 64)) := by kernel_rfl
theorem fs64 : (Try.prog.fieldsOf 64).toList = [{ name := "Sent", type := 3, offset := 0, byteOffset := 0, embedded := false, tag := "", pkgPath := "" }, { name := "Taken", type := 3, offset := 1, byteOffset := 8, embedded := false, tag := "", pkgPath := "" }, { name := "Refused", type := 3, offset := 2, byteOffset := 16, embedded := false, tag := "", pkgPath := "" }, { name := "Damaged", type := 3, offset := 3, byteOffset := 24, embedded := false, tag := "", pkgPath := "" }, { name := "Dropped", type := 3, offset := 4, byteOffset := 32, embedded := false, tag := "", pkgPath := "" }] := by kernel_rfl
theorem si64 : Try.prog.stoodInHeld 64 = false := by kernel_rfl
theorem eg64 : Try.prog.eqGuardType Try.prog.depth 64 = false := by kernel_rfl
theorem eqi64 (d : Nat) (w : World) (a0 b0 : Int) (a1 b1 : Int) (a2 b2 : Int) (a3 b3 : Int) (a4 b4 : Int) : (Op.equalIn (d + 2) 64 (.agg #[.int .i64 a0, .int .i64 a1, .int .i64 a2, .int .i64 a3, .int .i64 a4]) (.agg #[.int .i64 b0, .int .i64 b1, .int .i64 b2, .int .i64 b3, .int .i64 b4])).run Try.prog w = .ok (decide (a0 = b0) && decide (a1 = b1) && decide (a2 = b2) && decide (a3 = b3) && decide (a4 = b4)) w := by
  rw [run_equalIn_struct w (d + 1) 64 _ _ fo64 si64]
  simp [fs64, Op.eqFields, part, Sem.run_bind, Result.andThen, Sem.run, pure, isAgg_one one3, run_equalIn_int w _ 3 .i64 .i64 _ _ Try.underlying3, beq_dec a0 b0, beq_dec a1 b1, beq_dec a2 b2, beq_dec a3 b3, beq_dec a4 b4]
  by_cases h0 : a0 = b0 <;> by_cases h1 : a1 = b1 <;> by_cases h2 : a2 = b2 <;> by_cases h3 : a3 = b3 <;> by_cases h4 : a4 = b4 <;> simp [*]
theorem eqs64 {x y : Operand} {a0 b0 : Int} {a1 b1 : Int} {a2 b2 : Int} {a3 b3 : Int} {a4 b4 : Int} : Pure Try.prog (binSem .eql 64 x y (.agg #[.int .i64 a0, .int .i64 a1, .int .i64 a2, .int .i64 a3, .int .i64 a4]) (.agg #[.int .i64 b0, .int .i64 b1, .int .i64 b2, .int .i64 b3, .int .i64 b4])) (.bool ((decide (a0 = b0) && decide (a1 = b1) && decide (a2 = b2) && decide (a3 = b3) && decide (a4 = b4)))) := fun w => by
  simp [binSem, eqGuard, binOp, Op.equal, Op.maxDepth, eg64, eqi64 9998, Sem.run_bind, Result.andThen, program, Sem.run, pure]
theorem nes64 {x y : Operand} {a0 b0 : Int} {a1 b1 : Int} {a2 b2 : Int} {a3 b3 : Int} {a4 b4 : Int} : Pure Try.prog (binSem .neq 64 x y (.agg #[.int .i64 a0, .int .i64 a1, .int .i64 a2, .int .i64 a3, .int .i64 a4]) (.agg #[.int .i64 b0, .int .i64 b1, .int .i64 b2, .int .i64 b3, .int .i64 b4])) (.bool (!(decide (a0 = b0) && decide (a1 = b1) && decide (a2 = b2) && decide (a3 = b3) && decide (a4 = b4)))) := fun w => by
  simp [binSem, eqGuard, binOp, Op.equal, Op.maxDepth, eg64, eqi64 9998, Sem.run_bind, Result.andThen, program, Sem.run, pure]
theorem pl3 : plainFn Try.prog 3 = true := by kernel_rfl
theorem pl4 : plainFn Try.prog 4 = true := by kernel_rfl
theorem pl5 : plainFn Try.prog 5 = true := by kernel_rfl
theorem pl6 : plainFn Try.prog 6 = true := by kernel_rfl
theorem pl7 : plainFn Try.prog 7 = true := by kernel_rfl
theorem pl8 : plainFn Try.prog 8 = true := by kernel_rfl
theorem pl9 : plainFn Try.prog 9 = true := by kernel_rfl
theorem pl10 : plainFn Try.prog 10 = true := by kernel_rfl
theorem pl11 : plainFn Try.prog 11 = true := by kernel_rfl
theorem pl12 : plainFn Try.prog 12 = true := by kernel_rfl
theorem pl13 : plainFn Try.prog 13 = true := by kernel_rfl
theorem pl14 : plainFn Try.prog 14 = true := by kernel_rfl
theorem pl15 : plainFn Try.prog 15 = true := by kernel_rfl
theorem pl16 : plainFn Try.prog 16 = true := by kernel_rfl
theorem pl17 : plainFn Try.prog 17 = true := by kernel_rfl
theorem pl18 : plainFn Try.prog 18 = true := by kernel_rfl
theorem pl19 : plainFn Try.prog 19 = true := by kernel_rfl
theorem pl20 : plainFn Try.prog 20 = true := by kernel_rfl
theorem pl21 : plainFn Try.prog 21 = true := by kernel_rfl
theorem pl22 : plainFn Try.prog 22 = true := by kernel_rfl
theorem pl23 : plainFn Try.prog 23 = true := by kernel_rfl
theorem pl24 : plainFn Try.prog 24 = true := by kernel_rfl
theorem pl25 : plainFn Try.prog 25 = true := by kernel_rfl
theorem pl26 : plainFn Try.prog 26 = true := by kernel_rfl
theorem pl27 : plainFn Try.prog 27 = true := by kernel_rfl
theorem pl28 : plainFn Try.prog 28 = true := by kernel_rfl
theorem pl29 : plainFn Try.prog 29 = true := by kernel_rfl
theorem pl30 : plainFn Try.prog 30 = true := by kernel_rfl
theorem pl31 : plainFn Try.prog 31 = true := by kernel_rfl
theorem pl32 : plainFn Try.prog 32 = true := by kernel_rfl
theorem pl33 : plainFn Try.prog 33 = true := by kernel_rfl
theorem pl34 : plainFn Try.prog 34 = true := by kernel_rfl
theorem pl35 : plainFn Try.prog 35 = true := by kernel_rfl
theorem pl36 : plainFn Try.prog 36 = true := by kernel_rfl
theorem pl37 : plainFn Try.prog 37 = true := by kernel_rfl
theorem pl38 : plainFn Try.prog 38 = true := by kernel_rfl
theorem pl39 : plainFn Try.prog 39 = true := by kernel_rfl
theorem pl41 : plainFn Try.prog 41 = true := by kernel_rfl
theorem pl42 : plainFn Try.prog 42 = true := by kernel_rfl
theorem pl43 : plainFn Try.prog 43 = true := by kernel_rfl
theorem pl44 : plainFn Try.prog 44 = true := by kernel_rfl
theorem pl45 : plainFn Try.prog 45 = true := by kernel_rfl
theorem pl46 : plainFn Try.prog 46 = true := by kernel_rfl
theorem pl47 : plainFn Try.prog 47 = true := by kernel_rfl
theorem pl48 : plainFn Try.prog 48 = true := by kernel_rfl
theorem pl49 : plainFn Try.prog 49 = true := by kernel_rfl
theorem pl50 : plainFn Try.prog 50 = true := by kernel_rfl
theorem pl51 : plainFn Try.prog 51 = true := by kernel_rfl
theorem pl52 : plainFn Try.prog 52 = true := by kernel_rfl
theorem pl53 : plainFn Try.prog 53 = true := by kernel_rfl
theorem pl54 : plainFn Try.prog 54 = true := by kernel_rfl
theorem pl55 : plainFn Try.prog 55 = true := by kernel_rfl
theorem pl56 : plainFn Try.prog 56 = true := by kernel_rfl
theorem pl57 : plainFn Try.prog 57 = true := by kernel_rfl
theorem pl58 : plainFn Try.prog 58 = true := by kernel_rfl
theorem pl59 : plainFn Try.prog 59 = true := by kernel_rfl
theorem pl60 : plainFn Try.prog 60 = true := by kernel_rfl
theorem pl61 : plainFn Try.prog 61 = true := by kernel_rfl
theorem pl62 : plainFn Try.prog 62 = true := by kernel_rfl
theorem pl79 : plainFn Try.prog 79 = true := by kernel_rfl
theorem pl93 : plainFn Try.prog 93 = true := by kernel_rfl
end Go.Proofs.Ytfdjkdiebabimaa.Sh
