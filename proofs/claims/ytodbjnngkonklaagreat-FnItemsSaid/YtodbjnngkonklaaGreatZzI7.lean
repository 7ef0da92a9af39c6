/- Parts of the proof, together: What the program's types are, for simp. Lists of records in memory, over abstract states; numbers within bounds. Contracts of the smallest functions, both packages. No conditions. -/
import Derived.Test.YtodbjnngkonklaaGreatZzI6
import Derived.Test.YtodbjnngkonklaaGreatRows
import Derived.IntWalk
namespace Go.Proofs.YtodbjnngkonklaaGreat
open Go.RowKit
@[simp] theorem qL2 : qLoad Tryz.prog 2 = some none := by kernel_rfl
@[simp] theorem qS2 : qSize Tryz.prog 2 = some 1 := by kernel_rfl
@[simp] theorem qZ2 : qZero Tryz.prog 2 = some [.int .i64 0] := by kernel_rfl
@[simp] theorem qL3 : qLoad Tryz.prog 3 = some none := by kernel_rfl
@[simp] theorem qS3 : qSize Tryz.prog 3 = some 1 := by kernel_rfl
@[simp] theorem qZ3 : qZero Tryz.prog 3 = some [.int .i64 0] := by kernel_rfl
@[simp] theorem qL4 : qLoad Tryz.prog 4 = some none := by kernel_rfl
@[simp] theorem qS4 : qSize Tryz.prog 4 = some 1 := by kernel_rfl
@[simp] theorem qZ4 : qZero Tryz.prog 4 = some [.bool false] := by kernel_rfl
@[simp] theorem qQ4 {x y : Bool} : binV Tryz.prog .eql 4 (.bool x) (.bool y) = some (.bool (x == y)) := by simp [binV, eqV, Tryz.underlying4]
@[simp] theorem qR4 {x y : Bool} : binV Tryz.prog .neq 4 (.bool x) (.bool y) = some (.bool (!(x == y))) := by simp [binV, eqV, Tryz.underlying4]
@[simp] theorem qL5 : qLoad Tryz.prog 5 = some none := by kernel_rfl
@[simp] theorem qS5 : qSize Tryz.prog 5 = some 1 := by kernel_rfl
@[simp] theorem qZ5 : qZero Tryz.prog 5 = some [.int .u8 0] := by kernel_rfl
@[simp] theorem qL9 : qLoad Tryz.prog 9 = some none := by kernel_rfl
@[simp] theorem qS9 : qSize Tryz.prog 9 = some 1 := by kernel_rfl
@[simp] theorem qZ9 : qZero Tryz.prog 9 = some [.string ByteArray.empty] := by kernel_rfl
@[simp] theorem qN9 {S : St} {K : Value → Mem → Prop} {s : ByteArray} : lenK Tryz.prog S K 9 (.string s) = K (.int .i64 (s.size : Int)) S.M := lenK_str Tryz.underlying9
@[simp] theorem qU9 : Tryz.prog.underlying 9 = some .string := Tryz.underlying9
@[simp] theorem qL12 : qLoad Tryz.prog 12 = some none := by kernel_rfl
@[simp] theorem qS12 : qSize Tryz.prog 12 = some 1 := by kernel_rfl
@[simp] theorem qZ12 : qZero Tryz.prog 12 = some [.int .u64 0] := by kernel_rfl
@[simp] theorem qL13 : qLoad Tryz.prog 13 = some (some 2) := by kernel_rfl
@[simp] theorem qS13 : qSize Tryz.prog 13 = some 2 := by kernel_rfl
@[simp] theorem qZ13 : qZero Tryz.prog 13 = some [.string ByteArray.empty, .int .u64 0] := by kernel_rfl
@[simp] theorem qF13_0 : qField Tryz.prog 13 0 = some (0, none) := by kernel_rfl
@[simp] theorem qF13_1 : qField Tryz.prog 13 1 = some (1, none) := by kernel_rfl
@[simp] theorem qB13 : qBuild Tryz.prog 13 = some (#[.string ByteArray.empty, .int .u64 0], #[(0, 1), (1, 1)]) := by kernel_rfl
@[simp] theorem qL21 : qLoad Tryz.prog 21 = some none := by kernel_rfl
@[simp] theorem qS21 : qSize Tryz.prog 21 = some 1 := by kernel_rfl
@[simp] theorem qZ21 : qZero Tryz.prog 21 = some [.int .i32 0] := by kernel_rfl
@[simp] theorem qL22 : qLoad Tryz.prog 22 = some none := by kernel_rfl
@[simp] theorem qS22 : qSize Tryz.prog 22 = some 1 := by kernel_rfl
@[simp] theorem qZ22 : qZero Tryz.prog 22 = some [.slice none 0 0] := by kernel_rfl
@[simp] theorem qE22 : qSlice Tryz.prog 22 = some (5, 1, 1) := by kernel_rfl
@[simp] theorem qN22 {S : St} {K : Value → Mem → Prop} {q : Option Addr} {m c : Nat} : lenK Tryz.prog S K 22 (.slice q m c) = K (.int .i64 (m : Int)) S.M := lenK_sl Tryz.underlying22
@[simp] theorem qI22 : (Tryz.prog.info? 5).any (fun i => i.zero.any fun z => z.cells.size == 1) = true := by kernel_rfl
@[simp] theorem qL24 : qLoad Tryz.prog 24 = some none := by kernel_rfl
@[simp] theorem qS24 : qSize Tryz.prog 24 = some 1 := by kernel_rfl
@[simp] theorem qZ24 : qZero Tryz.prog 24 = some [.slice none 0 0] := by kernel_rfl
@[simp] theorem qE24 : qSlice Tryz.prog 24 = some (36, 7, 56) := by kernel_rfl
@[simp] theorem qN24 {S : St} {K : Value → Mem → Prop} {q : Option Addr} {m c : Nat} : lenK Tryz.prog S K 24 (.slice q m c) = K (.int .i64 (m : Int)) S.M := lenK_sl Tryz.underlying24
@[simp] theorem qI24 : (Tryz.prog.info? 36).any (fun i => i.zero.any fun z => z.cells.size == 7) = true := by kernel_rfl
@[simp] theorem qL25 : qLoad Tryz.prog 25 = some (some 1) := by kernel_rfl
@[simp] theorem qS25 : qSize Tryz.prog 25 = some 1 := by kernel_rfl
@[simp] theorem qZ25 : qZero Tryz.prog 25 = some [.slice none 0 0] := by kernel_rfl
@[simp] theorem qF25_0 : qField Tryz.prog 25 0 = some (0, none) := by kernel_rfl
@[simp] theorem qB25 : qBuild Tryz.prog 25 = some (#[.slice none 0 0], #[(0, 1)]) := by kernel_rfl
@[simp] theorem qL26 : qLoad Tryz.prog 26 = some (some 1) := by kernel_rfl
@[simp] theorem qS26 : qSize Tryz.prog 26 = some 1 := by kernel_rfl
@[simp] theorem qZ26 : qZero Tryz.prog 26 = some [.slice none 0 0] := by kernel_rfl
@[simp] theorem qF26_0 : qField Tryz.prog 26 0 = some (0, none) := by kernel_rfl
@[simp] theorem qB26 : qBuild Tryz.prog 26 = some (#[.slice none 0 0], #[(0, 1)]) := by kernel_rfl
@[simp] theorem qL29 : qLoad Tryz.prog 29 = some none := by kernel_rfl
@[simp] theorem qS29 : qSize Tryz.prog 29 = some 1 := by kernel_rfl
@[simp] theorem qZ29 : qZero Tryz.prog 29 = some [.slice none 0 0] := by kernel_rfl
@[simp] theorem qE29 : qSlice Tryz.prog 29 = some (60, 8, 80) := by kernel_rfl
@[simp] theorem qN29 {S : St} {K : Value → Mem → Prop} {q : Option Addr} {m c : Nat} : lenK Tryz.prog S K 29 (.slice q m c) = K (.int .i64 (m : Int)) S.M := lenK_sl Tryz.underlying29
@[simp] theorem qI29 : (Tryz.prog.info? 60).any (fun i => i.zero.any fun z => z.cells.size == 8) = true := by kernel_rfl
@[simp] theorem qL33 : qLoad Tryz.prog 33 = some (some 2) := by kernel_rfl
@[simp] theorem qS33 : qSize Tryz.prog 33 = some 2 := by kernel_rfl
@[simp] theorem qZ33 : qZero Tryz.prog 33 = some [.int .i64 0, .int .i64 0] := by kernel_rfl
@[simp] theorem qF33_0 : qField Tryz.prog 33 0 = some (0, none) := by kernel_rfl
@[simp] theorem qF33_1 : qField Tryz.prog 33 1 = some (1, none) := by kernel_rfl
@[simp] theorem qB33 : qBuild Tryz.prog 33 = some (#[.int .i64 0, .int .i64 0], #[(0, 1), (1, 1)]) := by kernel_rfl
@[simp] theorem qL34 : qLoad Tryz.prog 34 = some (some 2) := by kernel_rfl
@[simp] theorem qS34 : qSize Tryz.prog 34 = some 2 := by kernel_rfl
@[simp] theorem qZ34 : qZero Tryz.prog 34 = some [.int .i64 0, .int .i64 0] := by kernel_rfl
@[simp] theorem qF34_0 : qField Tryz.prog 34 0 = some (0, none) := by kernel_rfl
@[simp] theorem qF34_1 : qField Tryz.prog 34 1 = some (1, none) := by kernel_rfl
@[simp] theorem qB34 : qBuild Tryz.prog 34 = some (#[.int .i64 0, .int .i64 0], #[(0, 1), (1, 1)]) := by kernel_rfl
@[simp] theorem qL35 : qLoad Tryz.prog 35 = some (some 7) := by kernel_rfl
@[simp] theorem qS35 : qSize Tryz.prog 35 = some 7 := by kernel_rfl
@[simp] theorem qZ35 : qZero Tryz.prog 35 = some [.int .i64 0, .int .i64 0, .int .i64 0, .int .i64 0, .int .i64 0, .int .i64 0, .int .i64 0] := by kernel_rfl
@[simp] theorem qF35_0 : qField Tryz.prog 35 0 = some (0, some 2) := by kernel_rfl
@[simp] theorem qF35_1 : qField Tryz.prog 35 1 = some (2, some 2) := by kernel_rfl
@[simp] theorem qF35_2 : qField Tryz.prog 35 2 = some (4, none) := by kernel_rfl
@[simp] theorem qF35_3 : qField Tryz.prog 35 3 = some (5, none) := by kernel_rfl
@[simp] theorem qF35_4 : qField Tryz.prog 35 4 = some (6, none) := by kernel_rfl
@[simp] theorem qB35 : qBuild Tryz.prog 35 = some (#[.int .i64 0, .int .i64 0, .int .i64 0, .int .i64 0, .int .i64 0, .int .i64 0, .int .i64 0], #[(0, 2), (2, 2), (4, 1), (5, 1), (6, 1)]) := by kernel_rfl
@[simp] theorem qL36 : qLoad Tryz.prog 36 = some (some 7) := by kernel_rfl
@[simp] theorem qS36 : qSize Tryz.prog 36 = some 7 := by kernel_rfl
@[simp] theorem qZ36 : qZero Tryz.prog 36 = some [.int .i64 0, .int .i64 0, .int .i64 0, .int .i64 0, .int .i64 0, .int .i64 0, .int .i64 0] := by kernel_rfl
@[simp] theorem qF36_0 : qField Tryz.prog 36 0 = some (0, some 2) := by kernel_rfl
@[simp] theorem qF36_1 : qField Tryz.prog 36 1 = some (2, some 2) := by kernel_rfl
@[simp] theorem qF36_2 : qField Tryz.prog 36 2 = some (4, none) := by kernel_rfl
@[simp] theorem qF36_3 : qField Tryz.prog 36 3 = some (5, none) := by kernel_rfl
@[simp] theorem qF36_4 : qField Tryz.prog 36 4 = some (6, none) := by kernel_rfl
@[simp] theorem qB36 : qBuild Tryz.prog 36 = some (#[.int .i64 0, .int .i64 0, .int .i64 0, .int .i64 0, .int .i64 0, .int .i64 0, .int .i64 0], #[(0, 2), (2, 2), (4, 1), (5, 1), (6, 1)]) := by kernel_rfl
@[simp] theorem qL40 : qLoad Tryz.prog 40 = some none := by kernel_rfl
@[simp] theorem qS40 : qSize Tryz.prog 40 = some 1 := by kernel_rfl
@[simp] theorem qZ40 : qZero Tryz.prog 40 = some [.pointer none] := by kernel_rfl
@[simp] theorem qL43 : qLoad Tryz.prog 43 = some none := by kernel_rfl
@[simp] theorem qS43 : qSize Tryz.prog 43 = some 1 := by kernel_rfl
@[simp] theorem qZ43 : qZero Tryz.prog 43 = some [.slice none 0 0] := by kernel_rfl
@[simp] theorem qE43 : qSlice Tryz.prog 43 = some (2, 1, 8) := by kernel_rfl
@[simp] theorem qN43 {S : St} {K : Value → Mem → Prop} {q : Option Addr} {m c : Nat} : lenK Tryz.prog S K 43 (.slice q m c) = K (.int .i64 (m : Int)) S.M := lenK_sl Tryz.underlying43
@[simp] theorem qI43 : (Tryz.prog.info? 2).any (fun i => i.zero.any fun z => z.cells.size == 1) = true := by kernel_rfl
@[simp] theorem qL50 : qLoad Tryz.prog 50 = some none := by kernel_rfl
@[simp] theorem qS50 : qSize Tryz.prog 50 = some 1 := by kernel_rfl
@[simp] theorem qZ50 : qZero Tryz.prog 50 = some [.slice none 0 0] := by kernel_rfl
@[simp] theorem qE50 : qSlice Tryz.prog 50 = some (24, 1, 24) := by kernel_rfl
@[simp] theorem qN50 {S : St} {K : Value → Mem → Prop} {q : Option Addr} {m c : Nat} : lenK Tryz.prog S K 50 (.slice q m c) = K (.int .i64 (m : Int)) S.M := lenK_sl Tryz.underlying50
@[simp] theorem qI50 : (Tryz.prog.info? 24).any (fun i => i.zero.any fun z => z.cells.size == 1) = true := by kernel_rfl
@[simp] theorem qL56 : qLoad Tryz.prog 56 = some none := by kernel_rfl
@[simp] theorem qS56 : qSize Tryz.prog 56 = some 1 := by kernel_rfl
@[simp] theorem qZ56 : qZero Tryz.prog 56 = some [.slice none 0 0] := by kernel_rfl
@[simp] theorem qE56 : qSlice Tryz.prog 56 = some (62, 3, 24) := by kernel_rfl
@[simp] theorem qN56 {S : St} {K : Value → Mem → Prop} {q : Option Addr} {m c : Nat} : lenK Tryz.prog S K 56 (.slice q m c) = K (.int .i64 (m : Int)) S.M := lenK_sl Tryz.underlying56
@[simp] theorem qI56 : (Tryz.prog.info? 62).any (fun i => i.zero.any fun z => z.cells.size == 3) = true := by kernel_rfl
@[simp] theorem qL57 : qLoad Tryz.prog 57 = some (some 2) := by kernel_rfl
@[simp] theorem qS57 : qSize Tryz.prog 57 = some 2 := by kernel_rfl
@[simp] theorem qZ57 : qZero Tryz.prog 57 = some [.int .i64 0, .int .i64 0] := by kernel_rfl
@[simp] theorem qF57_0 : qField Tryz.prog 57 0 = some (0, none) := by kernel_rfl
@[simp] theorem qF57_1 : qField Tryz.prog 57 1 = some (1, none) := by kernel_rfl
@[simp] theorem qB57 : qBuild Tryz.prog 57 = some (#[.int .i64 0, .int .i64 0], #[(0, 1), (1, 1)]) := by kernel_rfl
@[simp] theorem qL58 : qLoad Tryz.prog 58 = some (some 2) := by kernel_rfl
@[simp] theorem qS58 : qSize Tryz.prog 58 = some 2 := by kernel_rfl
@[simp] theorem qZ58 : qZero Tryz.prog 58 = some [.int .i64 0, .int .i64 0] := by kernel_rfl
@[simp] theorem qF58_0 : qField Tryz.prog 58 0 = some (0, none) := by kernel_rfl
@[simp] theorem qF58_1 : qField Tryz.prog 58 1 = some (1, none) := by kernel_rfl
@[simp] theorem qB58 : qBuild Tryz.prog 58 = some (#[.int .i64 0, .int .i64 0], #[(0, 1), (1, 1)]) := by kernel_rfl
@[simp] theorem qL59 : qLoad Tryz.prog 59 = some (some 8) := by kernel_rfl
@[simp] theorem qS59 : qSize Tryz.prog 59 = some 8 := by kernel_rfl
@[simp] theorem qZ59 : qZero Tryz.prog 59 = some [.int .i64 0, .slice none 0 0, .int .i64 0, .int .i64 0, .int .i64 0, .int .i64 0, .int .i64 0, .int .i64 0] := by kernel_rfl
@[simp] theorem qF59_0 : qField Tryz.prog 59 0 = some (0, none) := by kernel_rfl
@[simp] theorem qF59_1 : qField Tryz.prog 59 1 = some (1, none) := by kernel_rfl
@[simp] theorem qF59_2 : qField Tryz.prog 59 2 = some (2, some 2) := by kernel_rfl
@[simp] theorem qF59_3 : qField Tryz.prog 59 3 = some (4, none) := by kernel_rfl
@[simp] theorem qF59_4 : qField Tryz.prog 59 4 = some (5, some 2) := by kernel_rfl
@[simp] theorem qF59_5 : qField Tryz.prog 59 5 = some (7, none) := by kernel_rfl
@[simp] theorem qB59 : qBuild Tryz.prog 59 = some (#[.int .i64 0, .slice none 0 0, .int .i64 0, .int .i64 0, .int .i64 0, .int .i64 0, .int .i64 0, .int .i64 0], #[(0, 1), (1, 1), (2, 2), (4, 1), (5, 2), (7, 1)]) := by kernel_rfl
@[simp] theorem qL60 : qLoad Tryz.prog 60 = some (some 8) := by kernel_rfl
@[simp] theorem qS60 : qSize Tryz.prog 60 = some 8 := by kernel_rfl
@[simp] theorem qZ60 : qZero Tryz.prog 60 = some [.int .i64 0, .slice none 0 0, .int .i64 0, .int .i64 0, .int .i64 0, .int .i64 0, .int .i64 0, .int .i64 0] := by kernel_rfl
@[simp] theorem qF60_0 : qField Tryz.prog 60 0 = some (0, none) := by kernel_rfl
@[simp] theorem qF60_1 : qField Tryz.prog 60 1 = some (1, none) := by kernel_rfl
@[simp] theorem qF60_2 : qField Tryz.prog 60 2 = some (2, some 2) := by kernel_rfl
@[simp] theorem qF60_3 : qField Tryz.prog 60 3 = some (4, none) := by kernel_rfl
@[simp] theorem qF60_4 : qField Tryz.prog 60 4 = some (5, some 2) := by kernel_rfl
@[simp] theorem qF60_5 : qField Tryz.prog 60 5 = some (7, none) := by kernel_rfl
@[simp] theorem qB60 : qBuild Tryz.prog 60 = some (#[.int .i64 0, .slice none 0 0, .int .i64 0, .int .i64 0, .int .i64 0, .int .i64 0, .int .i64 0, .int .i64 0], #[(0, 1), (1, 1), (2, 2), (4, 1), (5, 2), (7, 1)]) := by kernel_rfl
@[simp] theorem qL61 : qLoad Tryz.prog 61 = some (some 3) := by kernel_rfl
@[simp] theorem qS61 : qSize Tryz.prog 61 = some 3 := by kernel_rfl
@[simp] theorem qZ61 : qZero Tryz.prog 61 = some [.int .i64 0, .int .i64 0, .int .i64 0] := by kernel_rfl
@[simp] theorem qF61_0 : qField Tryz.prog 61 0 = some (0, none) := by kernel_rfl
@[simp] theorem qF61_1 : qField Tryz.prog 61 1 = some (1, none) := by kernel_rfl
@[simp] theorem qF61_2 : qField Tryz.prog 61 2 = some (2, none) := by kernel_rfl
@[simp] theorem qB61 : qBuild Tryz.prog 61 = some (#[.int .i64 0, .int .i64 0, .int .i64 0], #[(0, 1), (1, 1), (2, 1)]) := by kernel_rfl
@[simp] theorem qL62 : qLoad Tryz.prog 62 = some (some 3) := by kernel_rfl
@[simp] theorem qS62 : qSize Tryz.prog 62 = some 3 := by kernel_rfl
@[simp] theorem qZ62 : qZero Tryz.prog 62 = some [.int .i64 0, .int .i64 0, .int .i64 0] := by kernel_rfl
@[simp] theorem qF62_0 : qField Tryz.prog 62 0 = some (0, none) := by kernel_rfl
@[simp] theorem qF62_1 : qField Tryz.prog 62 1 = some (1, none) := by kernel_rfl
@[simp] theorem qF62_2 : qField Tryz.prog 62 2 = some (2, none) := by kernel_rfl
@[simp] theorem qB62 : qBuild Tryz.prog 62 = some (#[.int .i64 0, .int .i64 0, .int .i64 0], #[(0, 1), (1, 1), (2, 1)]) := by kernel_rfl
@[simp] theorem qL74 : qLoad Tryz.prog 74 = some none := by kernel_rfl
@[simp] theorem qS74 : qSize Tryz.prog 74 = some 1 := by kernel_rfl
@[simp] theorem qZ74 : qZero Tryz.prog 74 = some [.pointer none] := by kernel_rfl
@[simp] theorem qL75 : qLoad Tryz.prog 75 = some none := by kernel_rfl
@[simp] theorem qS75 : qSize Tryz.prog 75 = some 1 := by kernel_rfl
@[simp] theorem qZ75 : qZero Tryz.prog 75 = some [.int .u64 0] := by kernel_rfl
@[simp] theorem qL76 : qLoad Tryz.prog 76 = some (some 3) := by kernel_rfl
@[simp] theorem qS76 : qSize Tryz.prog 76 = some 3 := by kernel_rfl
@[simp] theorem qZ76 : qZero Tryz.prog 76 = some [.slice none 0 0, .int .i64 0, .int .u64 0] := by kernel_rfl
@[simp] theorem qF76_0 : qField Tryz.prog 76 0 = some (0, none) := by kernel_rfl
@[simp] theorem qF76_1 : qField Tryz.prog 76 1 = some (1, none) := by kernel_rfl
@[simp] theorem qF76_2 : qField Tryz.prog 76 2 = some (2, none) := by kernel_rfl
@[simp] theorem qB76 : qBuild Tryz.prog 76 = some (#[.slice none 0 0, .int .i64 0, .int .u64 0], #[(0, 1), (1, 1), (2, 1)]) := by kernel_rfl
@[simp] theorem qL77 : qLoad Tryz.prog 77 = some (some 3) := by kernel_rfl
@[simp] theorem qS77 : qSize Tryz.prog 77 = some 3 := by kernel_rfl
@[simp] theorem qZ77 : qZero Tryz.prog 77 = some [.slice none 0 0, .int .i64 0, .int .u64 0] := by kernel_rfl
@[simp] theorem qF77_0 : qField Tryz.prog 77 0 = some (0, none) := by kernel_rfl
@[simp] theorem qF77_1 : qField Tryz.prog 77 1 = some (1, none) := by kernel_rfl
@[simp] theorem qF77_2 : qField Tryz.prog 77 2 = some (2, none) := by kernel_rfl
@[simp] theorem qB77 : qBuild Tryz.prog 77 = some (#[.slice none 0 0, .int .i64 0, .int .u64 0], #[(0, 1), (1, 1), (2, 1)]) := by kernel_rfl
@[simp] theorem qL83 : qLoad Tryz.prog 83 = some none := by kernel_rfl
@[simp] theorem qS83 : qSize Tryz.prog 83 = some 1 := by kernel_rfl
@[simp] theorem qZ83 : qZero Tryz.prog 83 = some [.pointer none] := by kernel_rfl
@[simp] theorem qL113 : qLoad Tryz.prog 113 = some none := by kernel_rfl
@[simp] theorem qS113 : qSize Tryz.prog 113 = some 1 := by kernel_rfl
@[simp] theorem qZ113 : qZero Tryz.prog 113 = some [.slice none 0 0] := by kernel_rfl
@[simp] theorem qE113 : qSlice Tryz.prog 113 = some (9, 1, 16) := by kernel_rfl
@[simp] theorem qN113 {S : St} {K : Value → Mem → Prop} {q : Option Addr} {m c : Nat} : lenK Tryz.prog S K 113 (.slice q m c) = K (.int .i64 (m : Int)) S.M := lenK_sl Tryz.underlying113
@[simp] theorem qI113 : (Tryz.prog.info? 9).any (fun i => i.zero.any fun z => z.cells.size == 1) = true := by kernel_rfl
@[simp] theorem qL114 : qLoad Tryz.prog 114 = some none := by kernel_rfl
@[simp] theorem qS114 : qSize Tryz.prog 114 = some 1 := by kernel_rfl
@[simp] theorem qZ114 : qZero Tryz.prog 114 = some [.slice none 0 0] := by kernel_rfl
@[simp] theorem qE114 : qSlice Tryz.prog 114 = some (34, 2, 16) := by kernel_rfl
@[simp] theorem qN114 {S : St} {K : Value → Mem → Prop} {q : Option Addr} {m c : Nat} : lenK Tryz.prog S K 114 (.slice q m c) = K (.int .i64 (m : Int)) S.M := lenK_sl Tryz.underlying114
@[simp] theorem qI114 : (Tryz.prog.info? 34).any (fun i => i.zero.any fun z => z.cells.size == 2) = true := by kernel_rfl
@[simp] theorem qL123 : qLoad Tryz.prog 123 = some none := by kernel_rfl
@[simp] theorem qS123 : qSize Tryz.prog 123 = some 1 := by kernel_rfl
@[simp] theorem qZ123 : qZero Tryz.prog 123 = some [.int .u64 0] := by kernel_rfl
@[simp] theorem qL143 : qLoad Tryz.prog 143 = some none := by kernel_rfl
@[simp] theorem qS143 : qSize Tryz.prog 143 = some 1 := by kernel_rfl
@[simp] theorem qZ143 : qZero Tryz.prog 143 = some [.int .u32 0] := by kernel_rfl
@[simp] theorem qL147 : qLoad Tryz.prog 147 = some none := by kernel_rfl
@[simp] theorem qS147 : qSize Tryz.prog 147 = some 1 := by kernel_rfl
@[simp] theorem qZ147 : qZero Tryz.prog 147 = some [.pointer none] := by kernel_rfl
@[simp] theorem qC2_2 {k : IntKind} {z : Int} : convV Tryz.prog 2 2 (.int k z) = some (.int .i64 (IntKind.i64.wrap z)) := convV_int Tryz.underlying2 Tryz.underlying2
@[simp] theorem qC2_3 {k : IntKind} {z : Int} : convV Tryz.prog 2 3 (.int k z) = some (.int .i64 (IntKind.i64.wrap z)) := convV_int Tryz.underlying2 Tryz.underlying3
@[simp] theorem qC2_5 {k : IntKind} {z : Int} : convV Tryz.prog 2 5 (.int k z) = some (.int .u8 (IntKind.u8.wrap z)) := convV_int Tryz.underlying2 Tryz.underlying5
@[simp] theorem qC2_12 {k : IntKind} {z : Int} : convV Tryz.prog 2 12 (.int k z) = some (.int .u64 (IntKind.u64.wrap z)) := convV_int Tryz.underlying2 Tryz.underlying12
@[simp] theorem qC2_21 {k : IntKind} {z : Int} : convV Tryz.prog 2 21 (.int k z) = some (.int .i32 (IntKind.i32.wrap z)) := convV_int Tryz.underlying2 Tryz.underlying21
@[simp] theorem qC2_75 {k : IntKind} {z : Int} : convV Tryz.prog 2 75 (.int k z) = some (.int .u64 (IntKind.u64.wrap z)) := convV_int Tryz.underlying2 Tryz.underlying75
@[simp] theorem qC2_123 {k : IntKind} {z : Int} : convV Tryz.prog 2 123 (.int k z) = some (.int .u64 (IntKind.u64.wrap z)) := convV_int Tryz.underlying2 Tryz.underlying123
@[simp] theorem qC2_143 {k : IntKind} {z : Int} : convV Tryz.prog 2 143 (.int k z) = some (.int .u32 (IntKind.u32.wrap z)) := convV_int Tryz.underlying2 Tryz.underlying143
@[simp] theorem qC3_2 {k : IntKind} {z : Int} : convV Tryz.prog 3 2 (.int k z) = some (.int .i64 (IntKind.i64.wrap z)) := convV_int Tryz.underlying3 Tryz.underlying2
@[simp] theorem qC3_3 {k : IntKind} {z : Int} : convV Tryz.prog 3 3 (.int k z) = some (.int .i64 (IntKind.i64.wrap z)) := convV_int Tryz.underlying3 Tryz.underlying3
@[simp] theorem qC3_5 {k : IntKind} {z : Int} : convV Tryz.prog 3 5 (.int k z) = some (.int .u8 (IntKind.u8.wrap z)) := convV_int Tryz.underlying3 Tryz.underlying5
@[simp] theorem qC3_12 {k : IntKind} {z : Int} : convV Tryz.prog 3 12 (.int k z) = some (.int .u64 (IntKind.u64.wrap z)) := convV_int Tryz.underlying3 Tryz.underlying12
@[simp] theorem qC3_21 {k : IntKind} {z : Int} : convV Tryz.prog 3 21 (.int k z) = some (.int .i32 (IntKind.i32.wrap z)) := convV_int Tryz.underlying3 Tryz.underlying21
@[simp] theorem qC3_75 {k : IntKind} {z : Int} : convV Tryz.prog 3 75 (.int k z) = some (.int .u64 (IntKind.u64.wrap z)) := convV_int Tryz.underlying3 Tryz.underlying75
@[simp] theorem qC3_123 {k : IntKind} {z : Int} : convV Tryz.prog 3 123 (.int k z) = some (.int .u64 (IntKind.u64.wrap z)) := convV_int Tryz.underlying3 Tryz.underlying123
@[simp] theorem qC3_143 {k : IntKind} {z : Int} : convV Tryz.prog 3 143 (.int k z) = some (.int .u32 (IntKind.u32.wrap z)) := convV_int Tryz.underlying3 Tryz.underlying143
@[simp] theorem qC5_2 {k : IntKind} {z : Int} : convV Tryz.prog 5 2 (.int k z) = some (.int .i64 (IntKind.i64.wrap z)) := convV_int Tryz.underlying5 Tryz.underlying2
@[simp] theorem qC5_3 {k : IntKind} {z : Int} : convV Tryz.prog 5 3 (.int k z) = some (.int .i64 (IntKind.i64.wrap z)) := convV_int Tryz.underlying5 Tryz.underlying3
@[simp] theorem qC5_5 {k : IntKind} {z : Int} : convV Tryz.prog 5 5 (.int k z) = some (.int .u8 (IntKind.u8.wrap z)) := convV_int Tryz.underlying5 Tryz.underlying5
@[simp] theorem qC5_12 {k : IntKind} {z : Int} : convV Tryz.prog 5 12 (.int k z) = some (.int .u64 (IntKind.u64.wrap z)) := convV_int Tryz.underlying5 Tryz.underlying12
@[simp] theorem qC5_21 {k : IntKind} {z : Int} : convV Tryz.prog 5 21 (.int k z) = some (.int .i32 (IntKind.i32.wrap z)) := convV_int Tryz.underlying5 Tryz.underlying21
@[simp] theorem qC5_75 {k : IntKind} {z : Int} : convV Tryz.prog 5 75 (.int k z) = some (.int .u64 (IntKind.u64.wrap z)) := convV_int Tryz.underlying5 Tryz.underlying75
@[simp] theorem qC5_123 {k : IntKind} {z : Int} : convV Tryz.prog 5 123 (.int k z) = some (.int .u64 (IntKind.u64.wrap z)) := convV_int Tryz.underlying5 Tryz.underlying123
@[simp] theorem qC5_143 {k : IntKind} {z : Int} : convV Tryz.prog 5 143 (.int k z) = some (.int .u32 (IntKind.u32.wrap z)) := convV_int Tryz.underlying5 Tryz.underlying143
@[simp] theorem qC12_2 {k : IntKind} {z : Int} : convV Tryz.prog 12 2 (.int k z) = some (.int .i64 (IntKind.i64.wrap z)) := convV_int Tryz.underlying12 Tryz.underlying2
@[simp] theorem qC12_3 {k : IntKind} {z : Int} : convV Tryz.prog 12 3 (.int k z) = some (.int .i64 (IntKind.i64.wrap z)) := convV_int Tryz.underlying12 Tryz.underlying3
@[simp] theorem qC12_5 {k : IntKind} {z : Int} : convV Tryz.prog 12 5 (.int k z) = some (.int .u8 (IntKind.u8.wrap z)) := convV_int Tryz.underlying12 Tryz.underlying5
@[simp] theorem qC12_12 {k : IntKind} {z : Int} : convV Tryz.prog 12 12 (.int k z) = some (.int .u64 (IntKind.u64.wrap z)) := convV_int Tryz.underlying12 Tryz.underlying12
@[simp] theorem qC12_21 {k : IntKind} {z : Int} : convV Tryz.prog 12 21 (.int k z) = some (.int .i32 (IntKind.i32.wrap z)) := convV_int Tryz.underlying12 Tryz.underlying21
@[simp] theorem qC12_75 {k : IntKind} {z : Int} : convV Tryz.prog 12 75 (.int k z) = some (.int .u64 (IntKind.u64.wrap z)) := convV_int Tryz.underlying12 Tryz.underlying75
@[simp] theorem qC12_123 {k : IntKind} {z : Int} : convV Tryz.prog 12 123 (.int k z) = some (.int .u64 (IntKind.u64.wrap z)) := convV_int Tryz.underlying12 Tryz.underlying123
@[simp] theorem qC12_143 {k : IntKind} {z : Int} : convV Tryz.prog 12 143 (.int k z) = some (.int .u32 (IntKind.u32.wrap z)) := convV_int Tryz.underlying12 Tryz.underlying143
@[simp] theorem qC21_2 {k : IntKind} {z : Int} : convV Tryz.prog 21 2 (.int k z) = some (.int .i64 (IntKind.i64.wrap z)) := convV_int Tryz.underlying21 Tryz.underlying2
@[simp] theorem qC21_3 {k : IntKind} {z : Int} : convV Tryz.prog 21 3 (.int k z) = some (.int .i64 (IntKind.i64.wrap z)) := convV_int Tryz.underlying21 Tryz.underlying3
@[simp] theorem qC21_5 {k : IntKind} {z : Int} : convV Tryz.prog 21 5 (.int k z) = some (.int .u8 (IntKind.u8.wrap z)) := convV_int Tryz.underlying21 Tryz.underlying5
@[simp] theorem qC21_12 {k : IntKind} {z : Int} : convV Tryz.prog 21 12 (.int k z) = some (.int .u64 (IntKind.u64.wrap z)) := convV_int Tryz.underlying21 Tryz.underlying12
@[simp] theorem qC21_21 {k : IntKind} {z : Int} : convV Tryz.prog 21 21 (.int k z) = some (.int .i32 (IntKind.i32.wrap z)) := convV_int Tryz.underlying21 Tryz.underlying21
@[simp] theorem qC21_75 {k : IntKind} {z : Int} : convV Tryz.prog 21 75 (.int k z) = some (.int .u64 (IntKind.u64.wrap z)) := convV_int Tryz.underlying21 Tryz.underlying75
@[simp] theorem qC21_123 {k : IntKind} {z : Int} : convV Tryz.prog 21 123 (.int k z) = some (.int .u64 (IntKind.u64.wrap z)) := convV_int Tryz.underlying21 Tryz.underlying123
@[simp] theorem qC21_143 {k : IntKind} {z : Int} : convV Tryz.prog 21 143 (.int k z) = some (.int .u32 (IntKind.u32.wrap z)) := convV_int Tryz.underlying21 Tryz.underlying143
@[simp] theorem qC75_2 {k : IntKind} {z : Int} : convV Tryz.prog 75 2 (.int k z) = some (.int .i64 (IntKind.i64.wrap z)) := convV_int Tryz.underlying75 Tryz.underlying2
@[simp] theorem qC75_3 {k : IntKind} {z : Int} : convV Tryz.prog 75 3 (.int k z) = some (.int .i64 (IntKind.i64.wrap z)) := convV_int Tryz.underlying75 Tryz.underlying3
@[simp] theorem qC75_5 {k : IntKind} {z : Int} : convV Tryz.prog 75 5 (.int k z) = some (.int .u8 (IntKind.u8.wrap z)) := convV_int Tryz.underlying75 Tryz.underlying5
@[simp] theorem qC75_12 {k : IntKind} {z : Int} : convV Tryz.prog 75 12 (.int k z) = some (.int .u64 (IntKind.u64.wrap z)) := convV_int Tryz.underlying75 Tryz.underlying12
@[simp] theorem qC75_21 {k : IntKind} {z : Int} : convV Tryz.prog 75 21 (.int k z) = some (.int .i32 (IntKind.i32.wrap z)) := convV_int Tryz.underlying75 Tryz.underlying21
@[simp] theorem qC75_75 {k : IntKind} {z : Int} : convV Tryz.prog 75 75 (.int k z) = some (.int .u64 (IntKind.u64.wrap z)) := convV_int Tryz.underlying75 Tryz.underlying75
@[simp] theorem qC75_123 {k : IntKind} {z : Int} : convV Tryz.prog 75 123 (.int k z) = some (.int .u64 (IntKind.u64.wrap z)) := convV_int Tryz.underlying75 Tryz.underlying123
@[simp] theorem qC75_143 {k : IntKind} {z : Int} : convV Tryz.prog 75 143 (.int k z) = some (.int .u32 (IntKind.u32.wrap z)) := convV_int Tryz.underlying75 Tryz.underlying143
@[simp] theorem qC123_2 {k : IntKind} {z : Int} : convV Tryz.prog 123 2 (.int k z) = some (.int .i64 (IntKind.i64.wrap z)) := convV_int Tryz.underlying123 Tryz.underlying2
@[simp] theorem qC123_3 {k : IntKind} {z : Int} : convV Tryz.prog 123 3 (.int k z) = some (.int .i64 (IntKind.i64.wrap z)) := convV_int Tryz.underlying123 Tryz.underlying3
@[simp] theorem qC123_5 {k : IntKind} {z : Int} : convV Tryz.prog 123 5 (.int k z) = some (.int .u8 (IntKind.u8.wrap z)) := convV_int Tryz.underlying123 Tryz.underlying5
@[simp] theorem qC123_12 {k : IntKind} {z : Int} : convV Tryz.prog 123 12 (.int k z) = some (.int .u64 (IntKind.u64.wrap z)) := convV_int Tryz.underlying123 Tryz.underlying12
@[simp] theorem qC123_21 {k : IntKind} {z : Int} : convV Tryz.prog 123 21 (.int k z) = some (.int .i32 (IntKind.i32.wrap z)) := convV_int Tryz.underlying123 Tryz.underlying21
@[simp] theorem qC123_75 {k : IntKind} {z : Int} : convV Tryz.prog 123 75 (.int k z) = some (.int .u64 (IntKind.u64.wrap z)) := convV_int Tryz.underlying123 Tryz.underlying75
@[simp] theorem qC123_123 {k : IntKind} {z : Int} : convV Tryz.prog 123 123 (.int k z) = some (.int .u64 (IntKind.u64.wrap z)) := convV_int Tryz.underlying123 Tryz.underlying123
@[simp] theorem qC123_143 {k : IntKind} {z : Int} : convV Tryz.prog 123 143 (.int k z) = some (.int .u32 (IntKind.u32.wrap z)) := convV_int Tryz.underlying123 Tryz.underlying143
@[simp] theorem qC143_2 {k : IntKind} {z : Int} : convV Tryz.prog 143 2 (.int k z) = some (.int .i64 (IntKind.i64.wrap z)) := convV_int Tryz.underlying143 Tryz.underlying2
@[simp] theorem qC143_3 {k : IntKind} {z : Int} : convV Tryz.prog 143 3 (.int k z) = some (.int .i64 (IntKind.i64.wrap z)) := convV_int Tryz.underlying143 Tryz.underlying3
@[simp] theorem qC143_5 {k : IntKind} {z : Int} : convV Tryz.prog 143 5 (.int k z) = some (.int .u8 (IntKind.u8.wrap z)) := convV_int Tryz.underlying143 Tryz.underlying5
@[simp] theorem qC143_12 {k : IntKind} {z : Int} : convV Tryz.prog 143 12 (.int k z) = some (.int .u64 (IntKind.u64.wrap z)) := convV_int Tryz.underlying143 Tryz.underlying12
@[simp] theorem qC143_21 {k : IntKind} {z : Int} : convV Tryz.prog 143 21 (.int k z) = some (.int .i32 (IntKind.i32.wrap z)) := convV_int Tryz.underlying143 Tryz.underlying21
@[simp] theorem qC143_75 {k : IntKind} {z : Int} : convV Tryz.prog 143 75 (.int k z) = some (.int .u64 (IntKind.u64.wrap z)) := convV_int Tryz.underlying143 Tryz.underlying75
@[simp] theorem qC143_123 {k : IntKind} {z : Int} : convV Tryz.prog 143 123 (.int k z) = some (.int .u64 (IntKind.u64.wrap z)) := convV_int Tryz.underlying143 Tryz.underlying123
@[simp] theorem qC143_143 {k : IntKind} {z : Int} : convV Tryz.prog 143 143 (.int k z) = some (.int .u32 (IntKind.u32.wrap z)) := convV_int Tryz.underlying143 Tryz.underlying143
@[simp] theorem qG9_9 {S : St} {K : Value → Mem → Prop} {s : ByteArray} : s2K Tryz.prog S K 9 9 s = K (.string s) S.M := s2K_str Tryz.underlying9 Tryz.underlying9
@[simp] theorem qH9_22 {S : St} {K : Value → Mem → Prop} {s : ByteArray} : s2K Tryz.prog S K 9 22 s = (s.size ≤ 1099511627776 ∧ K (.slice (some ⟨S.M.length, 0, none⟩) s.size s.size) (S.M ++ [.live ⟨byteCells s, true, false, 5, 1⟩])) := s2K_sl Tryz.underlying9 Tryz.underlying22 Tryz.underlying5
end Go.Proofs.YtodbjnngkonklaaGreat

namespace Go.Proofs.YtodbjnngkonklaaGreat
open Go.RowKit
set_option linter.unusedVariables false
set_option linter.unusedSimpArgs false
set_option maxRecDepth 100000
attribute [local simp] List.getElem?_cons_zero
attribute [local irreducible] awCond awCall awLoop awDraw ow retQ retC resQ Keeps

abbrev iv (n : Int) : Value := .int .i64 n
/-- A record of k cells. -/
structure RecV (α : Type) (k : Nat) where
  row : α → List Value
  len : ∀ a, (row a).length = k
def el {α : Type} [Inhabited α] (l : List α) (i : Nat) : α := l.getD i default
section
variable {α : Type} {k : Nat}
theorem el_eq [Inhabited α] {l : List α} {i : Nat} (h : i < l.length) : l[i] = el l i := by simp [el, h]
theorem take_el [Inhabited α] {l : List α} {i : Nat} (h : i < l.length) : l.take (i + 1) = l.take i ++ [el l i] := by
  rw [List.take_succ_eq_append_getElem h, el_eq]
theorem drop_el [Inhabited α] {l : List α} {i : Nat} (h : i < l.length) : l.drop i = el l i :: l.drop (i + 1) := by
  rw [List.drop_eq_getElem_cons h, el_eq]
theorem el_append_left [Inhabited α] {l m : List α} {i : Nat} (h : i < l.length) : el (l ++ m) i = el l i := by
  unfold el; simp only [List.getD_eq_getElem?_getD]; rw [List.getElem?_append_left h]
theorem el_append_right [Inhabited α] {l m : List α} {i : Nat} (h : l.length ≤ i) : el (l ++ m) i = el m (i - l.length) := by
  unfold el; simp only [List.getD_eq_getElem?_getD]; rw [List.getElem?_append_right h]
theorem el_mem [Inhabited α] {l : List α} {i : Nat} (h : i < l.length) : el l i ∈ l := by rw [← el_eq h]; exact List.getElem_mem h
def cellsL (R : RecV α k) (l : List α) : List Value := l.flatMap R.row
theorem cellsL_len (R : RecV α k) (l : List α) : (cellsL R l).length = l.length * k := by
  unfold cellsL
  induction l with
  | nil => simp
  | cons a l ih => rw [List.flatMap_cons, List.length_append, ih, R.len, List.length_cons, Nat.add_mul]; omega
theorem cellsL_cons (R : RecV α k) (a : α) (l : List α) : cellsL R (a :: l) = R.row a ++ cellsL R l := by simp [cellsL]
theorem cellsL_append (R : RecV α k) (l m : List α) : cellsL R (l ++ m) = cellsL R l ++ cellsL R m := by simp [cellsL]
theorem cellsL_snoc (R : RecV α k) (l : List α) (a : α) : cellsL R (l ++ [a]) = cellsL R l ++ R.row a := by simp [cellsL]
theorem cellsL_get [Inhabited α] (R : RecV α k) {l : List α} {i j : Nat} (hi : i < l.length) (hj : j < k) : (cellsL R l)[i * k + j]? = (R.row (el l i))[j]? := by
  have h1 : l = l.take i ++ (el l i :: l.drop (i + 1)) := by
    conv => lhs; rw [← List.take_append_drop i l, drop_el hi]
  have h2 : cellsL R l = cellsL R (l.take i) ++ (R.row (el l i) ++ cellsL R (l.drop (i + 1))) := by
    conv => lhs; rw [h1]
    rw [cellsL_append, cellsL_cons]
  rw [h2]
  have hl : (cellsL R (l.take i)).length = i * k := by rw [cellsL_len, List.length_take, Nat.min_eq_left (by omega)]
  rw [List.getElem?_append_right (by omega), hl, List.getElem?_append_left (by rw [R.len]; omega)]
  congr 1
  omega
/-- Cells that lie behind a place. -/
def Cl (M : Mem) (id off : Nat) (xs : List Value) : Prop := ∀ (j : Nat) x, xs[j]? = some x → cellAt M id (off + j) = some x
theorem Cl.app {M : Mem} {id off : Nat} {xs : List Value} (h : Cl M id off xs) (L : Mem) : Cl (M ++ L) id off xs := fun j x hx => cellAt_app (h j x hx) L
theorem cellAt_keeps {M M' : Mem} {id off : Nat} {v : Value} (hk : Keeps M M') (h : cellAt M id off = some v) : cellAt M' id off = some v := by
  unfold cellAt at h ⊢
  cases hm : M[id]? with
  | none => rw [hm] at h; cases h
  | some s => rw [hk.get hm]; rw [hm] at h; exact h
theorem Cl.keeps {M M' : Mem} {id off : Nat} {xs : List Value} (h : Cl M id off xs) (hk : Keeps M M') : Cl M' id off xs := fun j x hx => cellAt_keeps hk (h j x hx)
theorem cellsAt_of {M : Mem} {id off n : Nat} {xs : List Value} (h : Cl M id off xs) (hl : xs.length = n) (h0 : 0 < n) : cellsAt M id off n = some xs := by
  have hx0 : xs[0]? = some xs[0] := List.getElem?_eq_getElem (by omega)
  have h1 := h 0 _ hx0
  unfold cellAt at h1
  unfold cellsAt
  cases hm : M[id]? with
  | none => rw [hm] at h1; cases h1
  | some s =>
    cases s with
    | live r =>
      have at_ : ∀ (j : Nat) x, xs[j]? = some x → r.cells[off + j]? = some x := fun j x hx => by
        have := h j x hx
        unfold cellAt at this
        rw [hm] at this
        exact this
      have hle : off + n ≤ r.cells.length := by
        have hl1 : xs[n - 1]? = some (xs[n - 1]'(by omega)) := List.getElem?_eq_getElem (by omega)
        have := (List.getElem?_eq_some_iff.1 (at_ _ _ hl1)).1
        omega
      simp only
      rw [if_pos hle]
      congr 1
      apply List.ext_getElem?
      intro j
      by_cases hj : j < n
      · rw [List.getElem?_take, if_pos hj, List.getElem?_drop]
        have hxj : xs[j]? = some (xs[j]'(by omega)) := List.getElem?_eq_getElem (by omega)
        rw [at_ j _ hxj, hxj]
      · rw [List.getElem?_take, if_neg hj, List.getElem?_eq_none (by omega)]
    | dead => rw [hm] at h1; cases h1
    | hole => rw [hm] at h1; cases h1
    | mp r es => rw [hm] at h1; cases h1

/-- The slice .slice A n c reads in M as the records l. -/
def Sl (R : RecV α k) (M : Mem) (A : Option Addr) (n : Nat) (l : List α) : Prop :=
  l.length = n ∧ (0 < n → ∃ id off, A = some ⟨id, off, none⟩ ∧ rowEsz M id = some k ∧ Cl M id off (cellsL R l))
theorem Sl.at_ [Inhabited α] {R : RecV α k} {M : Mem} {A : Option Addr} {n : Nat} {l : List α} (h : Sl R M A n l) {i : Nat} (hi : i < n) :
    ∃ id off, A = some ⟨id, off, none⟩ ∧ rowEsz M id = some k ∧ Cl M id (off + i * k) (R.row (el l i)) := by
  obtain ⟨id, off, e, he, hc⟩ := h.2 (by omega)
  refine ⟨id, off, e, he, fun j x hx => ?_⟩
  have hj : j < k := by have := (List.getElem?_eq_some_iff.1 hx).1; rwa [R.len] at this
  rw [Nat.add_assoc]
  exact hc _ _ (by rw [cellsL_get R (by rw [h.1]; exact hi) hj]; exact hx)
theorem rowEsz_keeps {M M' : Mem} {id k : Nat} (hk : Keeps M M') (h : rowEsz M id = some k) : rowEsz M' id = some k := by
  unfold rowEsz at h ⊢
  cases hm : M[id]? with
  | none => rw [hm] at h; cases h
  | some s => rw [hk.get hm]; rw [hm] at h; exact h
theorem Sl.keeps {R : RecV α k} {M M' : Mem} {A : Option Addr} {n : Nat} {l : List α} (h : Sl R M A n l) (hk : Keeps M M') : Sl R M' A n l :=
  ⟨h.1, fun hn => by
    obtain ⟨id, off, e, he, hc⟩ := h.2 hn
    exact ⟨id, off, e, rowEsz_keeps hk he, hc.keeps hk⟩⟩
theorem Sl.app {R : RecV α k} {M : Mem} {A : Option Addr} {n : Nat} {l : List α} (h : Sl R M A n l) (L : Mem) : Sl R (M ++ L) A n l := h.keeps (keeps_app L)
theorem splice_app : ∀ (ws xs ys : List Value), ws.length ≤ ys.length → splice (xs ++ ys) xs.length ws = xs ++ (ws ++ ys.drop ws.length)
  | [], xs, ys, _ => by simp
  | w :: ws, xs, [], h => by simp at h
  | w :: ws, xs, y :: ys, h => by
    rw [splice_cons]
    have e : (xs ++ y :: ys).set xs.length w = (xs ++ [w]) ++ ys := by simp [List.set_append_right]
    have := splice_app ws (xs ++ [w]) ys (by simpa using h)
    rw [e, show xs.length + 1 = (xs ++ [w]).length by simp, this]
    simp
theorem Sl.new {R : RecV α k} {M : Mem} {l : List α} {o t : Bool} {e : TypeId} {n : Nat} (hn : l.length = n) : Sl R (M ++ [.live ⟨cellsL R l, o, t, e, k⟩]) (some ⟨M.length, 0, none⟩) n l :=
  ⟨hn, fun _ => ⟨M.length, 0, rfl, by simp [rowEsz], fun j x hx => by simp [cellAt, hx]⟩⟩
def Ownd (M : Mem) (A : Option Addr) (n : Nat) : Prop := 0 < n → ∃ id off r, A = some ⟨id, off, none⟩ ∧ M[id]? = some (.live r) ∧ r.own = true
/-- A result that lies in new memory. -/
def Fresh (R : RecV α k) (M : Mem) (v : Value) (M' : Mem) (l : List α) : Prop :=
  ∃ A n c, v = .slice A n c ∧ n ≤ 1099511627776 ∧ Sl R M' A n l ∧ (∀ a, A = some a → M.length ≤ a.block) ∧ Ownd M' A n ∧ Keeps M M'
theorem Fresh.new {R : RecV α k} {M : Mem} {l : List α} {t : Bool} {e : TypeId} {n c : Nat} (hn : l.length = n) (hb : n ≤ 1099511627776) : Fresh R M (.slice (some ⟨M.length, 0, none⟩) n c) (M ++ [.live ⟨cellsL R l, true, t, e, k⟩]) l :=
  ⟨_, _, _, rfl, hb, Sl.new hn, fun a h => by injection h with h; subst h; exact Nat.le_refl _, fun _ => ⟨_, _, _, rfl, getElem?_snoc_eq, rfl⟩, keeps_app _⟩
theorem Sl.lt {R : RecV α k} {M : Mem} {A : Option Addr} {n : Nat} {l : List α} (h : Sl R M A n l) (hn : 0 < n) : ∃ a, A = some a ∧ a.block < M.length := by
  obtain ⟨id, off, e, he, _⟩ := h.2 hn
  refine ⟨_, e, ?_⟩
  unfold rowEsz at he
  cases hm : M[id]? with
  | none => rw [hm] at he; cases he
  | some s => exact (List.getElem?_eq_some_iff.1 hm).1
theorem Keeps.len {M M' : Mem} (h : Keeps M M') : M.length ≤ M'.length := by
  rcases Nat.eq_zero_or_pos M.length with h0 | h0
  · omega
  · have := h.get (List.getElem?_eq_getElem (show M.length - 1 < M.length by omega))
    have := (List.getElem?_eq_some_iff.1 this).1
    omega
/-- Only the row of A may have turned. -/
def Turned (A : Option Addr) (n : Nat) (M M' : Mem) : Prop := M'.length = M.length ∧ ∀ (i : Nat) s, M[i]? = some s → (∀ a, A = some a → 0 < n → i ≠ a.block) → M'[i]? = some s
theorem Turned.keeps {M0 M M' : Mem} {A : Option Addr} {n : Nat} (h : Turned A n M M') (hk : Keeps M0 M) (ha : ∀ a, A = some a → M0.length ≤ a.block) : Keeps M0 M' := by
  unfold Keeps
  exact fun i s hs => h.2 i s (hk.get hs) fun a e _ => by have := ha a e; have := (List.getElem?_eq_some_iff.1 hs).1; omega
theorem Sl.turn {R : RecV α k} {M M' : Mem} {A B : Option Addr} {n m : Nat} {l : List α} (h : Sl R M B m l) (ht : Turned A n M M') (hd : ∀ a b, A = some a → B = some b → 0 < n → 0 < m → b.block ≠ a.block) : Sl R M' B m l := by
  refine ⟨h.1, fun hm => ?_⟩
  obtain ⟨id, off, e, he, hc⟩ := h.2 hm
  have hi : M'[id]? = M[id]? := by
    cases hs : M[id]? with
    | none => unfold rowEsz at he; rw [hs] at he; cases he
    | some s => exact ht.2 id s hs fun a ea hn => hd a _ ea e hn hm
  refine ⟨id, off, e, by unfold rowEsz at he ⊢; rw [hi]; exact he, fun j x hx => ?_⟩
  have := hc j x hx
  unfold cellAt at this ⊢
  rw [hi]; exact this
theorem Ownd.turn {M M' : Mem} {A B : Option Addr} {n m : Nat} (h : Ownd M B m) (ht : Turned A n M M') (hd : ∀ a b, A = some a → B = some b → 0 < n → 0 < m → b.block ≠ a.block) : Ownd M' B m := fun hm => by
  obtain ⟨id, off, r, e, hr, ho⟩ := h hm
  exact ⟨id, off, r, e, ht.2 id _ hr fun a ea hn => hd a _ ea e hn hm, ho⟩
theorem Ownd.keeps {M M' : Mem} {A : Option Addr} {n : Nat} (h : Ownd M A n) (hk : Keeps M M') : Ownd M' A n := fun hn => by
  obtain ⟨id, off, r, e, hr, ho⟩ := h hn
  exact ⟨id, off, r, e, hk.get hr, ho⟩
theorem Sl.cells {R : RecV α k} {M : Mem} {id off n : Nat} {l : List α} {r : Row} (h : Sl R M (some ⟨id, off, none⟩) n l) (hr : M[id]? = some (.live r)) (hn : 0 < n) (hk : 0 < k) : r.esz = k ∧ off + n * k ≤ r.cells.length := by
  obtain ⟨_, _, e, he, hc⟩ := h.2 hn
  injection e with e
  injection e with e1 e2
  subst e1; subst e2
  refine ⟨by unfold rowEsz at he; rw [hr] at he; simpa using he, ?_⟩
  have hnk : 0 < n * k := Nat.mul_pos hn hk
  have hl : (cellsL R l).length = n * k := by rw [cellsL_len, h.1]
  have hx : (cellsL R l)[n * k - 1]? = some ((cellsL R l)[n * k - 1]'(by omega)) := List.getElem?_eq_getElem (by omega)
  have := hc _ _ hx
  unfold cellAt at this
  rw [hr] at this
  have := (List.getElem?_eq_some_iff.1 this).1
  omega
theorem put_set {b : Nat} {M : Mem} {id p : Nat} {v : Value} {cs : List Value} {t : Bool} {e : TypeId} {z : Nat} (hid : id < M.length) (hb : b ≤ id) (hp : p < cs.length) (h1 : oneV v = true) :
    putCells b (M.set id (.live ⟨cs, true, t, e, z⟩)) id p [v] = some (M.set id (.live ⟨cs.set p v, true, t, e, z⟩)) := by
  unfold putCells
  rw [List.getElem?_set_self hid]
  simp only
  rw [if_pos (by simp [hb, h1]; omega)]
  simp [splice]
theorem Sl.set {R : RecV α k} {M : Mem} {id off n : Nat} {pre post : List Value} {l : List α} {o t : Bool} {e : TypeId} (hid : id < M.length) (hp : pre.length = off) (hl : l.length = n) :
    Sl R (M.set id (.live ⟨pre ++ cellsL R l ++ post, o, t, e, k⟩)) (some ⟨id, off, none⟩) n l :=
  ⟨hl, fun _ => ⟨id, off, rfl, by simp [rowEsz, List.getElem?_set_self hid], fun j x hx => by
    simp only [cellAt, List.getElem?_set_self hid]
    rw [List.append_assoc, List.getElem?_append_right (by omega), hp, show off + j - off = j by omega, List.getElem?_append_left (List.getElem?_eq_some_iff.1 hx).1]
    exact hx⟩⟩
/-- A slice value that reads as records, its row's id from lo up to hi. -/
def RdL (R : RecV α k) (lo hi : Nat) (M : Mem) (v : Value) (l : List α) : Prop :=
  ∃ A n c, v = .slice A n c ∧ n ≤ 9223372036854775807 ∧ Sl R M A n l ∧ (∀ a, A = some a → 0 < n → lo ≤ a.block ∧ a.block < hi)
/-- It may be written. -/
def OwL (R : RecV α k) (lo hi : Nat) (M : Mem) (v : Value) (l : List α) : Prop :=
  ∃ A n c, v = .slice A n c ∧ n ≤ 1099511627776 ∧ Sl R M A n l ∧ (∀ a, A = some a → 0 < n → lo ≤ a.block ∧ a.block < hi) ∧ Ownd M A n
/-- Only rows with ids from lo up to hi may have turned. -/
def Turn (lo hi : Nat) (M M' : Mem) : Prop := M.length ≤ M'.length ∧ ∀ (i : Nat) s, M[i]? = some s → (i < lo ∨ hi ≤ i) → M'[i]? = some s
theorem OwL.rd {R : RecV α k} {lo hi : Nat} {M : Mem} {v : Value} {l : List α} (h : OwL R lo hi M v l) : RdL R lo hi M v l := by
  obtain ⟨A, n, c, h1, h2, h3, h4, _⟩ := h
  exact ⟨A, n, c, h1, by omega, h3, h4⟩
theorem RdL.keeps {R : RecV α k} {lo hi : Nat} {M M' : Mem} {v : Value} {l : List α} (h : RdL R lo hi M v l) (hk : Keeps M M') : RdL R lo hi M' v l := by
  obtain ⟨A, n, c, h1, h2, h3, h4⟩ := h
  exact ⟨A, n, c, h1, h2, h3.keeps hk, h4⟩
theorem OwL.keeps {R : RecV α k} {lo hi : Nat} {M M' : Mem} {v : Value} {l : List α} (h : OwL R lo hi M v l) (hk : Keeps M M') : OwL R lo hi M' v l := by
  obtain ⟨A, n, c, h1, h2, h3, h4, h5⟩ := h
  exact ⟨A, n, c, h1, h2, h3.keeps hk, h4, h5.keeps hk⟩
theorem Sl.turn' {R : RecV α k} {M M' : Mem} {B : Option Addr} {m lo hi : Nat} {l : List α} (h : Sl R M B m l) (ht : Turn lo hi M M') (hd : ∀ b, B = some b → 0 < m → b.block < lo ∨ hi ≤ b.block) : Sl R M' B m l := by
  refine ⟨h.1, fun hm => ?_⟩
  obtain ⟨id, off, e, he, hc⟩ := h.2 hm
  have hi' : M'[id]? = M[id]? := by
    cases hs : M[id]? with
    | none => unfold rowEsz at he; rw [hs] at he; cases he
    | some s => exact ht.2 id s hs (hd _ e hm)
  refine ⟨id, off, e, by unfold rowEsz at he ⊢; rw [hi']; exact he, fun j x hx => ?_⟩
  have := hc j x hx
  unfold cellAt at this ⊢
  rw [hi']; exact this
theorem Ownd.turn' {M M' : Mem} {B : Option Addr} {m lo hi : Nat} (h : Ownd M B m) (ht : Turn lo hi M M') (hd : ∀ b, B = some b → 0 < m → b.block < lo ∨ hi ≤ b.block) : Ownd M' B m := fun hm => by
  obtain ⟨id, off, r, e, hr, ho⟩ := h hm
  exact ⟨id, off, r, e, ht.2 id _ hr (hd _ e hm), ho⟩
theorem RdL.turn {R : RecV α k} {lo hi lo' hi' : Nat} {M M' : Mem} {v : Value} {l : List α} (h : RdL R lo hi M v l) (ht : Turn lo' hi' M M') (hd : hi ≤ lo' ∨ hi' ≤ lo) : RdL R lo hi M' v l := by
  obtain ⟨A, n, c, h1, h2, h3, h4⟩ := h
  exact ⟨A, n, c, h1, h2, h3.turn' ht fun b e hm => by have := h4 b e hm; omega, h4⟩
theorem OwL.turn {R : RecV α k} {lo hi lo' hi' : Nat} {M M' : Mem} {v : Value} {l : List α} (h : OwL R lo hi M v l) (ht : Turn lo' hi' M M') (hd : hi ≤ lo' ∨ hi' ≤ lo) : OwL R lo hi M' v l := by
  obtain ⟨A, n, c, h1, h2, h3, h4, h5⟩ := h
  exact ⟨A, n, c, h1, h2, h3.turn' ht fun b e hm => (by have := h4 b e hm; omega), h4, h5.turn' ht fun b e hm => (by have := h4 b e hm; omega)⟩
theorem Turn.keeps {M0 M M' : Mem} {lo hi : Nat} (h : Turn lo hi M M') (hk : Keeps M0 M) (ha : M0.length ≤ lo) : Keeps M0 M' := by
  unfold Keeps
  exact fun i s hs => h.2 i s (hk.get hs) (.inl (by have := (List.getElem?_eq_some_iff.1 hs).1; omega))
theorem RdL.of_sl {R : RecV α k} {M : Mem} {B : Option Addr} {n : Nat} {l : List α} (hn : n ≤ maxLen) (hs : Sl R M B n l) (c : Nat) : RdL R 0 M.length M (.slice B n c) l :=
  ⟨B, n, c, rfl, by unfold maxLen at hn; omega, hs, fun a e hp => ⟨Nat.zero_le _, by obtain ⟨a', e', h⟩ := hs.lt hp; rw [e] at e'; injection e' with e'; subst e'; exact h⟩⟩
theorem RdL.up {R : RecV α k} {lo : Nat} {M : Mem} {v : Value} {l : List α} (h : RdL R lo M.length M v l) (L : Mem) : RdL R lo (M ++ L).length (M ++ L) v l := by
  obtain ⟨A, n, c, h1, h2, h3, h4⟩ := h
  exact ⟨A, n, c, h1, h2, h3.app L, fun a e hp => by have := h4 a e hp; simp; omega⟩
theorem Fresh.ow {R : RecV α k} {M M' : Mem} {v : Value} {l : List α} (h : Fresh R M v M' l) : OwL R M.length M'.length M' v l ∧ Keeps M M' := by
  obtain ⟨A, n, c, h1, h2, h3, h4, h5, h6⟩ := h
  exact ⟨⟨A, n, c, h1, h2, h3, fun a e hn => ⟨h4 a e, by obtain ⟨a', e', h⟩ := h3.lt hn; rw [e] at e'; injection e' with e'; subst e'; exact h⟩, h5⟩, h6⟩
theorem cellsAt_keeps {M M' : Mem} {id off n : Nat} {vs : List Value} (hk : Keeps M M') (h : cellsAt M id off n = some vs) : cellsAt M' id off n = some vs := by
  unfold cellsAt at h ⊢
  cases hm : M[id]? with
  | none => rw [hm] at h; cases h
  | some s => rw [hk.get hm]; rw [hm] at h; exact h
theorem Keeps.split {A B : Mem} (h : Keeps A B) : ∃ C, B = A ++ C := by
  refine ⟨B.drop A.length, ?_⟩
  have hl := h.len
  apply List.ext_getElem?
  intro i
  by_cases hi : i < A.length
  · rw [List.getElem?_append_left hi, h.get (List.getElem?_eq_getElem hi), List.getElem?_eq_getElem hi]
  · rw [List.getElem?_append_right (by omega), List.getElem?_drop, show A.length + (i - A.length) = i by omega]
theorem OwL.wide {R : RecV α k} {lo hi lo' hi' : Nat} {M : Mem} {v : Value} {l : List α} (h : OwL R lo hi M v l) (h1 : lo' ≤ lo) (h2 : hi ≤ hi') : OwL R lo' hi' M v l := by
  obtain ⟨A, n, c, e1, e2, e3, e4, e5⟩ := h
  exact ⟨A, n, c, e1, e2, e3, fun a e hn => by have := e4 a e hn; omega, e5⟩
theorem OwL.isSlice {R : RecV α k} {lo hi : Nat} {M : Mem} {v : Value} {l : List α} (h : OwL R lo hi M v l) : ∃ A n c, v = .slice A n c := by
  obtain ⟨A, n, c, e1, _⟩ := h
  exact ⟨A, n, c, e1⟩
theorem OwL.one {R : RecV α k} {lo hi : Nat} {M : Mem} {v : Value} {l : List α} (h : OwL R lo hi M v l) : oneV v = true := by
  obtain ⟨A, n, c, rfl⟩ := h.isSlice
  rfl
theorem Turn.app {lo hi : Nat} {M M' L : Mem} (h : Turn lo hi (M ++ L) M') : Turn lo hi M M' :=
  ⟨Nat.le_trans (by simp) h.1, fun i s hs hd => h.2 i s (by rw [List.getElem?_append_left (List.getElem?_eq_some_iff.1 hs).1]; exact hs) hd⟩
end
def intR : RecV Int 1 := ⟨fun n => [iv n], fun _ => rfl⟩
theorem wrap_in {x : Int} (h1 : -9223372036854775808 ≤ x) (h2 : x ≤ 9223372036854775807) : IntKind.i64.wrap x = x := IntWalk.i64_in _ ⟨h1, h2⟩
theorem keeps_set {M M' : Mem} {id : Nat} {s : Slot} (hK : Keeps M M') (h : M.length ≤ id) : Keeps M (M'.set id s) := by
  unfold Keeps
  exact fun i s hs => by rw [List.getElem?_set_ne (by have := (List.getElem?_eq_some_iff.1 hs).1; omega)]; exact hK.get hs
theorem splice_whole {cs vs : List Value} (h : vs.length = cs.length) : splice cs 0 vs = vs := by
  have := splice_app vs [] cs (by omega)
  simpa [h] using this
theorem put_whole {b : Nat} {M : Mem} {id : Nat} {vs cs : List Value} {t : Bool} {e : TypeId} {z : Nat} (hr : M[id]? = some (.live ⟨cs, true, t, e, z⟩)) (hb : b ≤ id) (hl : vs.length = cs.length) (h1 : vs.all oneV = true) :
    putCells b M id 0 vs = some (M.set id (.live ⟨vs, true, t, e, z⟩)) := by
  unfold putCells
  rw [hr]
  simp only
  rw [if_pos ⟨hb, trivial, by omega, h1⟩, splice_whole hl]
def inB (n lo hi : Int) : Bool := decide (lo ≤ n) && decide (n ≤ hi)
theorem inB_iff {n lo hi : Int} : inB n lo hi = true ↔ lo ≤ n ∧ n ≤ hi := by simp [inB]
end Go.Proofs.YtodbjnngkonklaaGreat

namespace Go.Proofs.YtodbjnngkonklaaGreat
open Go.RowKit
set_option linter.unusedVariables false
set_option linter.unusedSimpArgs false
set_option maxRecDepth 100000
attribute [local simp] List.getElem?_cons_zero
attribute [local irreducible] awCond awCall awLoop awDraw ow retQ retC resQ Keeps
theorem within_a {M : Mem} (n lo hi : Int) : Det Tryz.prog M.length 21 [iv n, iv lo, iv hi] M (.bool (inB n lo hi)) M := by
  first | (refine det_fn Tryz.func21 rfl Tryz.ntmps21 Tryz.results21 rfl rfl rfl (by simp) ?_) | (refine det_fnC Tryz.func21 rfl Tryz.ntmps21 Tryz.results21 rfl rfl (by simp) ?_)
  simp
  repeat' (first | (refine guardV_split ?_ ?_ <;> intro _) | (simp [*]))
  all_goals (simp_all [inB, Keeps.refl] <;> omega)
theorem l00In_a {M : Mem} (n lo hi : Int) : Det Tryz.prog M.length 42 [iv n, iv lo, iv hi] M (.bool (inB n lo hi)) M := by
  first | (refine det_fn Tryz.func42 rfl Tryz.ntmps42 Tryz.results42 rfl rfl rfl (by simp) ?_) | (refine det_fnC Tryz.func42 rfl Tryz.ntmps42 Tryz.results42 rfl rfl (by simp) ?_)
  simp
  repeat' (first | (refine guardV_split ?_ ?_ <;> intro _) | (simp [*]))
  all_goals (simp_all [inB, Keeps.refl] <;> omega)
theorem isKey_a {M : Mem} (n : Int) : Det Tryz.prog M.length 89 [iv n] M (.bool (inB n 0 127)) M := by
  first | (refine det_fn Tryz.func89 rfl Tryz.ntmps89 Tryz.results89 rfl rfl rfl (by simp) ?_) | (refine det_fnC Tryz.func89 rfl Tryz.ntmps89 Tryz.results89 rfl rfl (by simp) ?_)
  simp
  refine awCall_det' (within_a _ _ _) (by simp) ?_
  simp [Keeps.refl]
end Go.Proofs.YtodbjnngkonklaaGreat
