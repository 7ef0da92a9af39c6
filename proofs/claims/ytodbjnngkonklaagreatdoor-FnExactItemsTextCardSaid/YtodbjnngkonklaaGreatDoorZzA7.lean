/- Parts of the proof, together: What the program's types are, for simp. Lists of records in memory, over abstract states; numbers within bounds. No conditions. -/
import Derived.Test.YtodbjnngkonklaaGreatDoorZzA6
import Derived.Test.YtodbjnngkonklaaGreatDoorRows
import Derived.IntWalk
namespace Go.Proofs.YtodbjnngkonklaaGreatDoor
open Go.RowKit
@[simp] theorem qL2 : qLoad Tryz.prog 2 = some none := by kernel_rfl
@[simp] theorem qS2 : qSize Tryz.prog 2 = some 1 := by kernel_rfl
@[simp] theorem qZ2 : qZero Tryz.prog 2 = some [.int .i64 0] := by kernel_rfl
@[simp] theorem qL3 : qLoad Tryz.prog 3 = some none := by kernel_rfl
@[simp] theorem qS3 : qSize Tryz.prog 3 = some 1 := by kernel_rfl
@[simp] theorem qZ3 : qZero Tryz.prog 3 = some [.int .i64 0] := by kernel_rfl
@[simp] theorem qL4 : qLoad Tryz.prog 4 = some none := by kernel_rfl
@[simp] theorem qS4 : qSize Tryz.prog 4 = some 1 := by kernel_rfl
@[simp] theorem qZ4 : qZero Tryz.prog 4 = some [.bool false] := by kernel_rfl
@[simp] theorem qQ4 {x y : Bool} : binV Tryz.prog .eql 4 (.bool x) (.bool y) = some (.bool (x == y)) := by simp [binV, eqV, Tryz.underlying4]
@[simp] theorem qR4 {x y : Bool} : binV Tryz.prog .neq 4 (.bool x) (.bool y) = some (.bool (!(x == y))) := by simp [binV, eqV, Tryz.underlying4]
@[simp] theorem qL5 : qLoad Tryz.prog 5 = some none := by kernel_rfl
@[simp] theorem qS5 : qSize Tryz.prog 5 = some 1 := by kernel_rfl
@[simp] theorem qZ5 : qZero Tryz.prog 5 = some [.int .u8 0] := by kernel_rfl
@[simp] theorem qL9 : qLoad Tryz.prog 9 = some none := by kernel_rfl
@[simp] theorem qS9 : qSize Tryz.prog 9 = some 1 := by kernel_rfl
@[simp] theorem qZ9 : qZero Tryz.prog 9 = some [.string ByteArray.empty] := by kernel_rfl
@[simp] theorem qN9 {S : St} {K : Value → Mem → Prop} {s : ByteArray} : lenK Tryz.prog S K 9 (.string s) = K (.int .i64 (s.size : Int)) S.M := lenK_str Tryz.underlying9
@[simp] theorem qU9 : Tryz.prog.underlying 9 = some .string := Tryz.underlying9
@[simp] theorem qL12 : qLoad Tryz.prog 12 = some none := by kernel_rfl
@[simp] theorem qS12 : qSize Tryz.prog 12 = some 1 := by kernel_rfl
@[simp] theorem qZ12 : qZero Tryz.prog 12 = some [.int .u64 0] := by kernel_rfl
@[simp] theorem qL13 : qLoad Tryz.prog 13 = some (some 2) := by kernel_rfl
@[simp] theorem qS13 : qSize Tryz.prog 13 = some 2 := by kernel_rfl
@[simp] theorem qZ13 : qZero Tryz.prog 13 = some [.string ByteArray.empty, .int .u64 0] := by kernel_rfl
@[simp] theorem qF13_0 : qField Tryz.prog 13 0 = some (0, none) := by kernel_rfl
@[simp] theorem qF13_1 : qField Tryz.prog 13 1 = some (1, none) := by kernel_rfl
@[simp] theorem qB13 : qBuild Tryz.prog 13 = some (#[.string ByteArray.empty, .int .u64 0], #[(0, 1), (1, 1)]) := by kernel_rfl
@[simp] theorem qL21 : qLoad Tryz.prog 21 = some none := by kernel_rfl
@[simp] theorem qS21 : qSize Tryz.prog 21 = some 1 := by kernel_rfl
@[simp] theorem qZ21 : qZero Tryz.prog 21 = some [.int .i32 0] := by kernel_rfl
@[simp] theorem qL22 : qLoad Tryz.prog 22 = some none := by kernel_rfl
@[simp] theorem qS22 : qSize Tryz.prog 22 = some 1 := by kernel_rfl
@[simp] theorem qZ22 : qZero Tryz.prog 22 = some [.slice none 0 0] := by kernel_rfl
@[simp] theorem qE22 : qSlice Tryz.prog 22 = some (36, 8, 80) := by kernel_rfl
@[simp] theorem qN22 {S : St} {K : Value → Mem → Prop} {q : Option Addr} {m c : Nat} : lenK Tryz.prog S K 22 (.slice q m c) = K (.int .i64 (m : Int)) S.M := lenK_sl Tryz.underlying22
@[simp] theorem qI22 : (Tryz.prog.info? 36).any (fun i => i.zero.any fun z => z.cells.size == 8) = true := by kernel_rfl
@[simp] theorem qL25 : qLoad Tryz.prog 25 = some none := by kernel_rfl
@[simp] theorem qS25 : qSize Tryz.prog 25 = some 1 := by kernel_rfl
@[simp] theorem qZ25 : qZero Tryz.prog 25 = some [.slice none 0 0] := by kernel_rfl
@[simp] theorem qE25 : qSlice Tryz.prog 25 = some (42, 8, 80) := by kernel_rfl
@[simp] theorem qN25 {S : St} {K : Value → Mem → Prop} {q : Option Addr} {m c : Nat} : lenK Tryz.prog S K 25 (.slice q m c) = K (.int .i64 (m : Int)) S.M := lenK_sl Tryz.underlying25
@[simp] theorem qI25 : (Tryz.prog.info? 42).any (fun i => i.zero.any fun z => z.cells.size == 8) = true := by kernel_rfl
@[simp] theorem qL30 : qLoad Tryz.prog 30 = some none := by kernel_rfl
@[simp] theorem qS30 : qSize Tryz.prog 30 = some 1 := by kernel_rfl
@[simp] theorem qZ30 : qZero Tryz.prog 30 = some [.slice none 0 0] := by kernel_rfl
@[simp] theorem qE30 : qSlice Tryz.prog 30 = some (75, 3, 24) := by kernel_rfl
@[simp] theorem qN30 {S : St} {K : Value → Mem → Prop} {q : Option Addr} {m c : Nat} : lenK Tryz.prog S K 30 (.slice q m c) = K (.int .i64 (m : Int)) S.M := lenK_sl Tryz.underlying30
@[simp] theorem qI30 : (Tryz.prog.info? 75).any (fun i => i.zero.any fun z => z.cells.size == 3) = true := by kernel_rfl
@[simp] theorem qL31 : qLoad Tryz.prog 31 = some (some 2) := by kernel_rfl
@[simp] theorem qS31 : qSize Tryz.prog 31 = some 2 := by kernel_rfl
@[simp] theorem qZ31 : qZero Tryz.prog 31 = some [.int .i64 0, .int .i64 0] := by kernel_rfl
@[simp] theorem qF31_0 : qField Tryz.prog 31 0 = some (0, none) := by kernel_rfl
@[simp] theorem qF31_1 : qField Tryz.prog 31 1 = some (1, none) := by kernel_rfl
@[simp] theorem qB31 : qBuild Tryz.prog 31 = some (#[.int .i64 0, .int .i64 0], #[(0, 1), (1, 1)]) := by kernel_rfl
@[simp] theorem qL32 : qLoad Tryz.prog 32 = some (some 2) := by kernel_rfl
@[simp] theorem qS32 : qSize Tryz.prog 32 = some 2 := by kernel_rfl
@[simp] theorem qZ32 : qZero Tryz.prog 32 = some [.int .i64 0, .int .i64 0] := by kernel_rfl
@[simp] theorem qF32_0 : qField Tryz.prog 32 0 = some (0, none) := by kernel_rfl
@[simp] theorem qF32_1 : qField Tryz.prog 32 1 = some (1, none) := by kernel_rfl
@[simp] theorem qB32 : qBuild Tryz.prog 32 = some (#[.int .i64 0, .int .i64 0], #[(0, 1), (1, 1)]) := by kernel_rfl
@[simp] theorem qL33 : qLoad Tryz.prog 33 = some (some 2) := by kernel_rfl
@[simp] theorem qS33 : qSize Tryz.prog 33 = some 2 := by kernel_rfl
@[simp] theorem qZ33 : qZero Tryz.prog 33 = some [.int .i64 0, .int .i64 0] := by kernel_rfl
@[simp] theorem qF33_0 : qField Tryz.prog 33 0 = some (0, none) := by kernel_rfl
@[simp] theorem qF33_1 : qField Tryz.prog 33 1 = some (1, none) := by kernel_rfl
@[simp] theorem qB33 : qBuild Tryz.prog 33 = some (#[.int .i64 0, .int .i64 0], #[(0, 1), (1, 1)]) := by kernel_rfl
@[simp] theorem qL34 : qLoad Tryz.prog 34 = some (some 2) := by kernel_rfl
@[simp] theorem qS34 : qSize Tryz.prog 34 = some 2 := by kernel_rfl
@[simp] theorem qZ34 : qZero Tryz.prog 34 = some [.int .i64 0, .int .i64 0] := by kernel_rfl
@[simp] theorem qF34_0 : qField Tryz.prog 34 0 = some (0, none) := by kernel_rfl
@[simp] theorem qF34_1 : qField Tryz.prog 34 1 = some (1, none) := by kernel_rfl
@[simp] theorem qB34 : qBuild Tryz.prog 34 = some (#[.int .i64 0, .int .i64 0], #[(0, 1), (1, 1)]) := by kernel_rfl
@[simp] theorem qL35 : qLoad Tryz.prog 35 = some (some 8) := by kernel_rfl
@[simp] theorem qS35 : qSize Tryz.prog 35 = some 8 := by kernel_rfl
@[simp] theorem qZ35 : qZero Tryz.prog 35 = some [.int .i64 0, .slice none 0 0, .int .i64 0, .int .i64 0, .int .i64 0, .int .i64 0, .int .i64 0, .int .i64 0] := by kernel_rfl
@[simp] theorem qF35_0 : qField Tryz.prog 35 0 = some (0, none) := by kernel_rfl
@[simp] theorem qF35_1 : qField Tryz.prog 35 1 = some (1, none) := by kernel_rfl
@[simp] theorem qF35_2 : qField Tryz.prog 35 2 = some (2, some 2) := by kernel_rfl
@[simp] theorem qF35_3 : qField Tryz.prog 35 3 = some (4, none) := by kernel_rfl
@[simp] theorem qF35_4 : qField Tryz.prog 35 4 = some (5, some 2) := by kernel_rfl
@[simp] theorem qF35_5 : qField Tryz.prog 35 5 = some (7, none) := by kernel_rfl
@[simp] theorem qB35 : qBuild Tryz.prog 35 = some (#[.int .i64 0, .slice none 0 0, .int .i64 0, .int .i64 0, .int .i64 0, .int .i64 0, .int .i64 0, .int .i64 0], #[(0, 1), (1, 1), (2, 2), (4, 1), (5, 2), (7, 1)]) := by kernel_rfl
@[simp] theorem qL36 : qLoad Tryz.prog 36 = some (some 8) := by kernel_rfl
@[simp] theorem qS36 : qSize Tryz.prog 36 = some 8 := by kernel_rfl
@[simp] theorem qZ36 : qZero Tryz.prog 36 = some [.int .i64 0, .slice none 0 0, .int .i64 0, .int .i64 0, .int .i64 0, .int .i64 0, .int .i64 0, .int .i64 0] := by kernel_rfl
@[simp] theorem qF36_0 : qField Tryz.prog 36 0 = some (0, none) := by kernel_rfl
@[simp] theorem qF36_1 : qField Tryz.prog 36 1 = some (1, none) := by kernel_rfl
@[simp] theorem qF36_2 : qField Tryz.prog 36 2 = some (2, some 2) := by kernel_rfl
@[simp] theorem qF36_3 : qField Tryz.prog 36 3 = some (4, none) := by kernel_rfl
@[simp] theorem qF36_4 : qField Tryz.prog 36 4 = some (5, some 2) := by kernel_rfl
@[simp] theorem qF36_5 : qField Tryz.prog 36 5 = some (7, none) := by kernel_rfl
@[simp] theorem qB36 : qBuild Tryz.prog 36 = some (#[.int .i64 0, .slice none 0 0, .int .i64 0, .int .i64 0, .int .i64 0, .int .i64 0, .int .i64 0, .int .i64 0], #[(0, 1), (1, 1), (2, 2), (4, 1), (5, 2), (7, 1)]) := by kernel_rfl
@[simp] theorem qL38 : qLoad Tryz.prog 38 = some none := by kernel_rfl
@[simp] theorem qS38 : qSize Tryz.prog 38 = some 1 := by kernel_rfl
@[simp] theorem qZ38 : qZero Tryz.prog 38 = some [.slice none 0 0] := by kernel_rfl
@[simp] theorem qE38 : qSlice Tryz.prog 38 = some (51, 3, 24) := by kernel_rfl
@[simp] theorem qN38 {S : St} {K : Value → Mem → Prop} {q : Option Addr} {m c : Nat} : lenK Tryz.prog S K 38 (.slice q m c) = K (.int .i64 (m : Int)) S.M := lenK_sl Tryz.underlying38
@[simp] theorem qI38 : (Tryz.prog.info? 51).any (fun i => i.zero.any fun z => z.cells.size == 3) = true := by kernel_rfl
@[simp] theorem qL39 : qLoad Tryz.prog 39 = some (some 2) := by kernel_rfl
@[simp] theorem qS39 : qSize Tryz.prog 39 = some 2 := by kernel_rfl
@[simp] theorem qZ39 : qZero Tryz.prog 39 = some [.int .i64 0, .int .i64 0] := by kernel_rfl
@[simp] theorem qF39_0 : qField Tryz.prog 39 0 = some (0, none) := by kernel_rfl
@[simp] theorem qF39_1 : qField Tryz.prog 39 1 = some (1, none) := by kernel_rfl
@[simp] theorem qB39 : qBuild Tryz.prog 39 = some (#[.int .i64 0, .int .i64 0], #[(0, 1), (1, 1)]) := by kernel_rfl
@[simp] theorem qL40 : qLoad Tryz.prog 40 = some (some 2) := by kernel_rfl
@[simp] theorem qS40 : qSize Tryz.prog 40 = some 2 := by kernel_rfl
@[simp] theorem qZ40 : qZero Tryz.prog 40 = some [.int .i64 0, .int .i64 0] := by kernel_rfl
@[simp] theorem qF40_0 : qField Tryz.prog 40 0 = some (0, none) := by kernel_rfl
@[simp] theorem qF40_1 : qField Tryz.prog 40 1 = some (1, none) := by kernel_rfl
@[simp] theorem qB40 : qBuild Tryz.prog 40 = some (#[.int .i64 0, .int .i64 0], #[(0, 1), (1, 1)]) := by kernel_rfl
@[simp] theorem qL41 : qLoad Tryz.prog 41 = some (some 8) := by kernel_rfl
@[simp] theorem qS41 : qSize Tryz.prog 41 = some 8 := by kernel_rfl
@[simp] theorem qZ41 : qZero Tryz.prog 41 = some [.int .i64 0, .slice none 0 0, .int .i64 0, .int .i64 0, .int .i64 0, .int .i64 0, .int .i64 0, .int .i64 0] := by kernel_rfl
@[simp] theorem qF41_0 : qField Tryz.prog 41 0 = some (0, none) := by kernel_rfl
@[simp] theorem qF41_1 : qField Tryz.prog 41 1 = some (1, none) := by kernel_rfl
@[simp] theorem qF41_2 : qField Tryz.prog 41 2 = some (2, some 2) := by kernel_rfl
@[simp] theorem qF41_3 : qField Tryz.prog 41 3 = some (4, none) := by kernel_rfl
@[simp] theorem qF41_4 : qField Tryz.prog 41 4 = some (5, some 2) := by kernel_rfl
@[simp] theorem qF41_5 : qField Tryz.prog 41 5 = some (7, none) := by kernel_rfl
@[simp] theorem qB41 : qBuild Tryz.prog 41 = some (#[.int .i64 0, .slice none 0 0, .int .i64 0, .int .i64 0, .int .i64 0, .int .i64 0, .int .i64 0, .int .i64 0], #[(0, 1), (1, 1), (2, 2), (4, 1), (5, 2), (7, 1)]) := by kernel_rfl
@[simp] theorem qL42 : qLoad Tryz.prog 42 = some (some 8) := by kernel_rfl
@[simp] theorem qS42 : qSize Tryz.prog 42 = some 8 := by kernel_rfl
@[simp] theorem qZ42 : qZero Tryz.prog 42 = some [.int .i64 0, .slice none 0 0, .int .i64 0, .int .i64 0, .int .i64 0, .int .i64 0, .int .i64 0, .int .i64 0] := by kernel_rfl
@[simp] theorem qF42_0 : qField Tryz.prog 42 0 = some (0, none) := by kernel_rfl
@[simp] theorem qF42_1 : qField Tryz.prog 42 1 = some (1, none) := by kernel_rfl
@[simp] theorem qF42_2 : qField Tryz.prog 42 2 = some (2, some 2) := by kernel_rfl
@[simp] theorem qF42_3 : qField Tryz.prog 42 3 = some (4, none) := by kernel_rfl
@[simp] theorem qF42_4 : qField Tryz.prog 42 4 = some (5, some 2) := by kernel_rfl
@[simp] theorem qF42_5 : qField Tryz.prog 42 5 = some (7, none) := by kernel_rfl
@[simp] theorem qB42 : qBuild Tryz.prog 42 = some (#[.int .i64 0, .slice none 0 0, .int .i64 0, .int .i64 0, .int .i64 0, .int .i64 0, .int .i64 0, .int .i64 0], #[(0, 1), (1, 1), (2, 2), (4, 1), (5, 2), (7, 1)]) := by kernel_rfl
@[simp] theorem qL47 : qLoad Tryz.prog 47 = some none := by kernel_rfl
@[simp] theorem qS47 : qSize Tryz.prog 47 = some 1 := by kernel_rfl
@[simp] theorem qZ47 : qZero Tryz.prog 47 = some [.slice none 0 0] := by kernel_rfl
@[simp] theorem qE47 : qSlice Tryz.prog 47 = some (5, 1, 1) := by kernel_rfl
@[simp] theorem qN47 {S : St} {K : Value → Mem → Prop} {q : Option Addr} {m c : Nat} : lenK Tryz.prog S K 47 (.slice q m c) = K (.int .i64 (m : Int)) S.M := lenK_sl Tryz.underlying47
@[simp] theorem qI47 : (Tryz.prog.info? 5).any (fun i => i.zero.any fun z => z.cells.size == 1) = true := by kernel_rfl
@[simp] theorem qL48 : qLoad Tryz.prog 48 = some none := by kernel_rfl
@[simp] theorem qS48 : qSize Tryz.prog 48 = some 1 := by kernel_rfl
@[simp] theorem qZ48 : qZero Tryz.prog 48 = some [.pointer none] := by kernel_rfl
@[simp] theorem qL50 : qLoad Tryz.prog 50 = some (some 3) := by kernel_rfl
@[simp] theorem qS50 : qSize Tryz.prog 50 = some 3 := by kernel_rfl
@[simp] theorem qZ50 : qZero Tryz.prog 50 = some [.int .i64 0, .int .i64 0, .int .i64 0] := by kernel_rfl
@[simp] theorem qF50_0 : qField Tryz.prog 50 0 = some (0, none) := by kernel_rfl
@[simp] theorem qF50_1 : qField Tryz.prog 50 1 = some (1, none) := by kernel_rfl
@[simp] theorem qF50_2 : qField Tryz.prog 50 2 = some (2, none) := by kernel_rfl
@[simp] theorem qB50 : qBuild Tryz.prog 50 = some (#[.int .i64 0, .int .i64 0, .int .i64 0], #[(0, 1), (1, 1), (2, 1)]) := by kernel_rfl
@[simp] theorem qL51 : qLoad Tryz.prog 51 = some (some 3) := by kernel_rfl
@[simp] theorem qS51 : qSize Tryz.prog 51 = some 3 := by kernel_rfl
@[simp] theorem qZ51 : qZero Tryz.prog 51 = some [.int .i64 0, .int .i64 0, .int .i64 0] := by kernel_rfl
@[simp] theorem qF51_0 : qField Tryz.prog 51 0 = some (0, none) := by kernel_rfl
@[simp] theorem qF51_1 : qField Tryz.prog 51 1 = some (1, none) := by kernel_rfl
@[simp] theorem qF51_2 : qField Tryz.prog 51 2 = some (2, none) := by kernel_rfl
@[simp] theorem qB51 : qBuild Tryz.prog 51 = some (#[.int .i64 0, .int .i64 0, .int .i64 0], #[(0, 1), (1, 1), (2, 1)]) := by kernel_rfl
@[simp] theorem qL60 : qLoad Tryz.prog 60 = some none := by kernel_rfl
@[simp] theorem qS60 : qSize Tryz.prog 60 = some 1 := by kernel_rfl
@[simp] theorem qZ60 : qZero Tryz.prog 60 = some [.slice none 0 0] := by kernel_rfl
@[simp] theorem qE60 : qSlice Tryz.prog 60 = some (9, 1, 16) := by kernel_rfl
@[simp] theorem qN60 {S : St} {K : Value → Mem → Prop} {q : Option Addr} {m c : Nat} : lenK Tryz.prog S K 60 (.slice q m c) = K (.int .i64 (m : Int)) S.M := lenK_sl Tryz.underlying60
@[simp] theorem qI60 : (Tryz.prog.info? 9).any (fun i => i.zero.any fun z => z.cells.size == 1) = true := by kernel_rfl
@[simp] theorem qL75 : qLoad Tryz.prog 75 = some (some 3) := by kernel_rfl
@[simp] theorem qS75 : qSize Tryz.prog 75 = some 3 := by kernel_rfl
@[simp] theorem qZ75 : qZero Tryz.prog 75 = some [.int .i64 0, .int .i64 0, .int .i64 0] := by kernel_rfl
@[simp] theorem qF75_0 : qField Tryz.prog 75 0 = some (0, none) := by kernel_rfl
@[simp] theorem qF75_1 : qField Tryz.prog 75 1 = some (1, none) := by kernel_rfl
@[simp] theorem qF75_2 : qField Tryz.prog 75 2 = some (2, none) := by kernel_rfl
@[simp] theorem qB75 : qBuild Tryz.prog 75 = some (#[.int .i64 0, .int .i64 0, .int .i64 0], #[(0, 1), (1, 1), (2, 1)]) := by kernel_rfl
@[simp] theorem qL81 : qLoad Tryz.prog 81 = some none := by kernel_rfl
@[simp] theorem qS81 : qSize Tryz.prog 81 = some 1 := by kernel_rfl
@[simp] theorem qZ81 : qZero Tryz.prog 81 = some [.pointer none] := by kernel_rfl
@[simp] theorem qL82 : qLoad Tryz.prog 82 = some (some 2) := by kernel_rfl
@[simp] theorem qS82 : qSize Tryz.prog 82 = some 2 := by kernel_rfl
@[simp] theorem qZ82 : qZero Tryz.prog 82 = some [.pointer none, .slice none 0 0] := by kernel_rfl
@[simp] theorem qF82_0 : qField Tryz.prog 82 0 = some (0, none) := by kernel_rfl
@[simp] theorem qF82_1 : qField Tryz.prog 82 1 = some (1, none) := by kernel_rfl
@[simp] theorem qB82 : qBuild Tryz.prog 82 = some (#[.pointer none, .slice none 0 0], #[(0, 1), (1, 1)]) := by kernel_rfl
@[simp] theorem qL83 : qLoad Tryz.prog 83 = some (some 2) := by kernel_rfl
@[simp] theorem qS83 : qSize Tryz.prog 83 = some 2 := by kernel_rfl
@[simp] theorem qZ83 : qZero Tryz.prog 83 = some [.pointer none, .slice none 0 0] := by kernel_rfl
@[simp] theorem qF83_0 : qField Tryz.prog 83 0 = some (0, none) := by kernel_rfl
@[simp] theorem qF83_1 : qField Tryz.prog 83 1 = some (1, none) := by kernel_rfl
@[simp] theorem qB83 : qBuild Tryz.prog 83 = some (#[.pointer none, .slice none 0 0], #[(0, 1), (1, 1)]) := by kernel_rfl
@[simp] theorem qL95 : qLoad Tryz.prog 95 = some none := by kernel_rfl
@[simp] theorem qS95 : qSize Tryz.prog 95 = some 1 := by kernel_rfl
@[simp] theorem qZ95 : qZero Tryz.prog 95 = some [.pointer none] := by kernel_rfl
@[simp] theorem qL96 : qLoad Tryz.prog 96 = some none := by kernel_rfl
@[simp] theorem qS96 : qSize Tryz.prog 96 = some 1 := by kernel_rfl
@[simp] theorem qZ96 : qZero Tryz.prog 96 = some [.slice none 0 0] := by kernel_rfl
@[simp] theorem qE96 : qSlice Tryz.prog 96 = some (2, 1, 8) := by kernel_rfl
@[simp] theorem qN96 {S : St} {K : Value → Mem → Prop} {q : Option Addr} {m c : Nat} : lenK Tryz.prog S K 96 (.slice q m c) = K (.int .i64 (m : Int)) S.M := lenK_sl Tryz.underlying96
@[simp] theorem qI96 : (Tryz.prog.info? 2).any (fun i => i.zero.any fun z => z.cells.size == 1) = true := by kernel_rfl
@[simp] theorem qL100 : qLoad Tryz.prog 100 = some none := by kernel_rfl
@[simp] theorem qS100 : qSize Tryz.prog 100 = some 1 := by kernel_rfl
@[simp] theorem qZ100 : qZero Tryz.prog 100 = some [.int .u64 0] := by kernel_rfl
@[simp] theorem qL113 : qLoad Tryz.prog 113 = some none := by kernel_rfl
@[simp] theorem qS113 : qSize Tryz.prog 113 = some 1 := by kernel_rfl
@[simp] theorem qZ113 : qZero Tryz.prog 113 = some [.int .u64 0] := by kernel_rfl
@[simp] theorem qL121 : qLoad Tryz.prog 121 = some none := by kernel_rfl
@[simp] theorem qS121 : qSize Tryz.prog 121 = some 1 := by kernel_rfl
@[simp] theorem qZ121 : qZero Tryz.prog 121 = some [.int .u32 0] := by kernel_rfl
@[simp] theorem qC2_2 {k : IntKind} {z : Int} : convV Tryz.prog 2 2 (.int k z) = some (.int .i64 (IntKind.i64.wrap z)) := convV_int Tryz.underlying2 Tryz.underlying2
@[simp] theorem qC2_3 {k : IntKind} {z : Int} : convV Tryz.prog 2 3 (.int k z) = some (.int .i64 (IntKind.i64.wrap z)) := convV_int Tryz.underlying2 Tryz.underlying3
@[simp] theorem qC2_5 {k : IntKind} {z : Int} : convV Tryz.prog 2 5 (.int k z) = some (.int .u8 (IntKind.u8.wrap z)) := convV_int Tryz.underlying2 Tryz.underlying5
@[simp] theorem qC2_12 {k : IntKind} {z : Int} : convV Tryz.prog 2 12 (.int k z) = some (.int .u64 (IntKind.u64.wrap z)) := convV_int Tryz.underlying2 Tryz.underlying12
@[simp] theorem qC2_21 {k : IntKind} {z : Int} : convV Tryz.prog 2 21 (.int k z) = some (.int .i32 (IntKind.i32.wrap z)) := convV_int Tryz.underlying2 Tryz.underlying21
@[simp] theorem qC2_100 {k : IntKind} {z : Int} : convV Tryz.prog 2 100 (.int k z) = some (.int .u64 (IntKind.u64.wrap z)) := convV_int Tryz.underlying2 Tryz.underlying100
@[simp] theorem qC2_113 {k : IntKind} {z : Int} : convV Tryz.prog 2 113 (.int k z) = some (.int .u64 (IntKind.u64.wrap z)) := convV_int Tryz.underlying2 Tryz.underlying113
@[simp] theorem qC2_121 {k : IntKind} {z : Int} : convV Tryz.prog 2 121 (.int k z) = some (.int .u32 (IntKind.u32.wrap z)) := convV_int Tryz.underlying2 Tryz.underlying121
@[simp] theorem qC3_2 {k : IntKind} {z : Int} : convV Tryz.prog 3 2 (.int k z) = some (.int .i64 (IntKind.i64.wrap z)) := convV_int Tryz.underlying3 Tryz.underlying2
@[simp] theorem qC3_3 {k : IntKind} {z : Int} : convV Tryz.prog 3 3 (.int k z) = some (.int .i64 (IntKind.i64.wrap z)) := convV_int Tryz.underlying3 Tryz.underlying3
@[simp] theorem qC3_5 {k : IntKind} {z : Int} : convV Tryz.prog 3 5 (.int k z) = some (.int .u8 (IntKind.u8.wrap z)) := convV_int Tryz.underlying3 Tryz.underlying5
@[simp] theorem qC3_12 {k : IntKind} {z : Int} : convV Tryz.prog 3 12 (.int k z) = some (.int .u64 (IntKind.u64.wrap z)) := convV_int Tryz.underlying3 Tryz.underlying12
@[simp] theorem qC3_21 {k : IntKind} {z : Int} : convV Tryz.prog 3 21 (.int k z) = some (.int .i32 (IntKind.i32.wrap z)) := convV_int Tryz.underlying3 Tryz.underlying21
@[simp] theorem qC3_100 {k : IntKind} {z : Int} : convV Tryz.prog 3 100 (.int k z) = some (.int .u64 (IntKind.u64.wrap z)) := convV_int Tryz.underlying3 Tryz.underlying100
@[simp] theorem qC3_113 {k : IntKind} {z : Int} : convV Tryz.prog 3 113 (.int k z) = some (.int .u64 (IntKind.u64.wrap z)) := convV_int Tryz.underlying3 Tryz.underlying113
@[simp] theorem qC3_121 {k : IntKind} {z : Int} : convV Tryz.prog 3 121 (.int k z) = some (.int .u32 (IntKind.u32.wrap z)) := convV_int Tryz.underlying3 Tryz.underlying121
@[simp] theorem qC5_2 {k : IntKind} {z : Int} : convV Tryz.prog 5 2 (.int k z) = some (.int .i64 (IntKind.i64.wrap z)) := convV_int Tryz.underlying5 Tryz.underlying2
@[simp] theorem qC5_3 {k : IntKind} {z : Int} : convV Tryz.prog 5 3 (.int k z) = some (.int .i64 (IntKind.i64.wrap z)) := convV_int Tryz.underlying5 Tryz.underlying3
@[simp] theorem qC5_5 {k : IntKind} {z : Int} : convV Tryz.prog 5 5 (.int k z) = some (.int .u8 (IntKind.u8.wrap z)) := convV_int Tryz.underlying5 Tryz.underlying5
@[simp] theorem qC5_12 {k : IntKind} {z : Int} : convV Tryz.prog 5 12 (.int k z) = some (.int .u64 (IntKind.u64.wrap z)) := convV_int Tryz.underlying5 Tryz.underlying12
@[simp] theorem qC5_21 {k : IntKind} {z : Int} : convV Tryz.prog 5 21 (.int k z) = some (.int .i32 (IntKind.i32.wrap z)) := convV_int Tryz.underlying5 Tryz.underlying21
@[simp] theorem qC5_100 {k : IntKind} {z : Int} : convV Tryz.prog 5 100 (.int k z) = some (.int .u64 (IntKind.u64.wrap z)) := convV_int Tryz.underlying5 Tryz.underlying100
@[simp] theorem qC5_113 {k : IntKind} {z : Int} : convV Tryz.prog 5 113 (.int k z) = some (.int .u64 (IntKind.u64.wrap z)) := convV_int Tryz.underlying5 Tryz.underlying113
@[simp] theorem qC5_121 {k : IntKind} {z : Int} : convV Tryz.prog 5 121 (.int k z) = some (.int .u32 (IntKind.u32.wrap z)) := convV_int Tryz.underlying5 Tryz.underlying121
@[simp] theorem qC12_2 {k : IntKind} {z : Int} : convV Tryz.prog 12 2 (.int k z) = some (.int .i64 (IntKind.i64.wrap z)) := convV_int Tryz.underlying12 Tryz.underlying2
@[simp] theorem qC12_3 {k : IntKind} {z : Int} : convV Tryz.prog 12 3 (.int k z) = some (.int .i64 (IntKind.i64.wrap z)) := convV_int Tryz.underlying12 Tryz.underlying3
@[simp] theorem qC12_5 {k : IntKind} {z : Int} : convV Tryz.prog 12 5 (.int k z) = some (.int .u8 (IntKind.u8.wrap z)) := convV_int Tryz.underlying12 Tryz.underlying5
@[simp] theorem qC12_12 {k : IntKind} {z : Int} : convV Tryz.prog 12 12 (.int k z) = some (.int .u64 (IntKind.u64.wrap z)) := convV_int Tryz.underlying12 Tryz.underlying12
@[simp] theorem qC12_21 {k : IntKind} {z : Int} : convV Tryz.prog 12 21 (.int k z) = some (.int .i32 (IntKind.i32.wrap z)) := convV_int Tryz.underlying12 Tryz.underlying21
@[simp] theorem qC12_100 {k : IntKind} {z : Int} : convV Tryz.prog 12 100 (.int k z) = some (.int .u64 (IntKind.u64.wrap z)) := convV_int Tryz.underlying12 Tryz.underlying100
@[simp] theorem qC12_113 {k : IntKind} {z : Int} : convV Tryz.prog 12 113 (.int k z) = some (.int .u64 (IntKind.u64.wrap z)) := convV_int Tryz.underlying12 Tryz.underlying113
@[simp] theorem qC12_121 {k : IntKind} {z : Int} : convV Tryz.prog 12 121 (.int k z) = some (.int .u32 (IntKind.u32.wrap z)) := convV_int Tryz.underlying12 Tryz.underlying121
@[simp] theorem qC21_2 {k : IntKind} {z : Int} : convV Tryz.prog 21 2 (.int k z) = some (.int .i64 (IntKind.i64.wrap z)) := convV_int Tryz.underlying21 Tryz.underlying2
@[simp] theorem qC21_3 {k : IntKind} {z : Int} : convV Tryz.prog 21 3 (.int k z) = some (.int .i64 (IntKind.i64.wrap z)) := convV_int Tryz.underlying21 Tryz.underlying3
@[simp] theorem qC21_5 {k : IntKind} {z : Int} : convV Tryz.prog 21 5 (.int k z) = some (.int .u8 (IntKind.u8.wrap z)) := convV_int Tryz.underlying21 Tryz.underlying5
@[simp] theorem qC21_12 {k : IntKind} {z : Int} : convV Tryz.prog 21 12 (.int k z) = some (.int .u64 (IntKind.u64.wrap z)) := convV_int Tryz.underlying21 Tryz.underlying12
@[simp] theorem qC21_21 {k : IntKind} {z : Int} : convV Tryz.prog 21 21 (.int k z) = some (.int .i32 (IntKind.i32.wrap z)) := convV_int Tryz.underlying21 Tryz.underlying21
@[simp] theorem qC21_100 {k : IntKind} {z : Int} : convV Tryz.prog 21 100 (.int k z) = some (.int .u64 (IntKind.u64.wrap z)) := convV_int Tryz.underlying21 Tryz.underlying100
@[simp] theorem qC21_113 {k : IntKind} {z : Int} : convV Tryz.prog 21 113 (.int k z) = some (.int .u64 (IntKind.u64.wrap z)) := convV_int Tryz.underlying21 Tryz.underlying113
@[simp] theorem qC21_121 {k : IntKind} {z : Int} : convV Tryz.prog 21 121 (.int k z) = some (.int .u32 (IntKind.u32.wrap z)) := convV_int Tryz.underlying21 Tryz.underlying121
@[simp] theorem qC100_2 {k : IntKind} {z : Int} : convV Tryz.prog 100 2 (.int k z) = some (.int .i64 (IntKind.i64.wrap z)) := convV_int Tryz.underlying100 Tryz.underlying2
@[simp] theorem qC100_3 {k : IntKind} {z : Int} : convV Tryz.prog 100 3 (.int k z) = some (.int .i64 (IntKind.i64.wrap z)) := convV_int Tryz.underlying100 Tryz.underlying3
@[simp] theorem qC100_5 {k : IntKind} {z : Int} : convV Tryz.prog 100 5 (.int k z) = some (.int .u8 (IntKind.u8.wrap z)) := convV_int Tryz.underlying100 Tryz.underlying5
@[simp] theorem qC100_12 {k : IntKind} {z : Int} : convV Tryz.prog 100 12 (.int k z) = some (.int .u64 (IntKind.u64.wrap z)) := convV_int Tryz.underlying100 Tryz.underlying12
@[simp] theorem qC100_21 {k : IntKind} {z : Int} : convV Tryz.prog 100 21 (.int k z) = some (.int .i32 (IntKind.i32.wrap z)) := convV_int Tryz.underlying100 Tryz.underlying21
@[simp] theorem qC100_100 {k : IntKind} {z : Int} : convV Tryz.prog 100 100 (.int k z) = some (.int .u64 (IntKind.u64.wrap z)) := convV_int Tryz.underlying100 Tryz.underlying100
@[simp] theorem qC100_113 {k : IntKind} {z : Int} : convV Tryz.prog 100 113 (.int k z) = some (.int .u64 (IntKind.u64.wrap z)) := convV_int Tryz.underlying100 Tryz.underlying113
@[simp] theorem qC100_121 {k : IntKind} {z : Int} : convV Tryz.prog 100 121 (.int k z) = some (.int .u32 (IntKind.u32.wrap z)) := convV_int Tryz.underlying100 Tryz.underlying121
@[simp] theorem qC113_2 {k : IntKind} {z : Int} : convV Tryz.prog 113 2 (.int k z) = some (.int .i64 (IntKind.i64.wrap z)) := convV_int Tryz.underlying113 Tryz.underlying2
@[simp] theorem qC113_3 {k : IntKind} {z : Int} : convV Tryz.prog 113 3 (.int k z) = some (.int .i64 (IntKind.i64.wrap z)) := convV_int Tryz.underlying113 Tryz.underlying3
@[simp] theorem qC113_5 {k : IntKind} {z : Int} : convV Tryz.prog 113 5 (.int k z) = some (.int .u8 (IntKind.u8.wrap z)) := convV_int Tryz.underlying113 Tryz.underlying5
@[simp] theorem qC113_12 {k : IntKind} {z : Int} : convV Tryz.prog 113 12 (.int k z) = some (.int .u64 (IntKind.u64.wrap z)) := convV_int Tryz.underlying113 Tryz.underlying12
@[simp] theorem qC113_21 {k : IntKind} {z : Int} : convV Tryz.prog 113 21 (.int k z) = some (.int .i32 (IntKind.i32.wrap z)) := convV_int Tryz.underlying113 Tryz.underlying21
@[simp] theorem qC113_100 {k : IntKind} {z : Int} : convV Tryz.prog 113 100 (.int k z) = some (.int .u64 (IntKind.u64.wrap z)) := convV_int Tryz.underlying113 Tryz.underlying100
@[simp] theorem qC113_113 {k : IntKind} {z : Int} : convV Tryz.prog 113 113 (.int k z) = some (.int .u64 (IntKind.u64.wrap z)) := convV_int Tryz.underlying113 Tryz.underlying113
@[simp] theorem qC113_121 {k : IntKind} {z : Int} : convV Tryz.prog 113 121 (.int k z) = some (.int .u32 (IntKind.u32.wrap z)) := convV_int Tryz.underlying113 Tryz.underlying121
@[simp] theorem qC121_2 {k : IntKind} {z : Int} : convV Tryz.prog 121 2 (.int k z) = some (.int .i64 (IntKind.i64.wrap z)) := convV_int Tryz.underlying121 Tryz.underlying2
@[simp] theorem qC121_3 {k : IntKind} {z : Int} : convV Tryz.prog 121 3 (.int k z) = some (.int .i64 (IntKind.i64.wrap z)) := convV_int Tryz.underlying121 Tryz.underlying3
@[simp] theorem qC121_5 {k : IntKind} {z : Int} : convV Tryz.prog 121 5 (.int k z) = some (.int .u8 (IntKind.u8.wrap z)) := convV_int Tryz.underlying121 Tryz.underlying5
@[simp] theorem qC121_12 {k : IntKind} {z : Int} : convV Tryz.prog 121 12 (.int k z) = some (.int .u64 (IntKind.u64.wrap z)) := convV_int Tryz.underlying121 Tryz.underlying12
@[simp] theorem qC121_21 {k : IntKind} {z : Int} : convV Tryz.prog 121 21 (.int k z) = some (.int .i32 (IntKind.i32.wrap z)) := convV_int Tryz.underlying121 Tryz.underlying21
@[simp] theorem qC121_100 {k : IntKind} {z : Int} : convV Tryz.prog 121 100 (.int k z) = some (.int .u64 (IntKind.u64.wrap z)) := convV_int Tryz.underlying121 Tryz.underlying100
@[simp] theorem qC121_113 {k : IntKind} {z : Int} : convV Tryz.prog 121 113 (.int k z) = some (.int .u64 (IntKind.u64.wrap z)) := convV_int Tryz.underlying121 Tryz.underlying113
@[simp] theorem qC121_121 {k : IntKind} {z : Int} : convV Tryz.prog 121 121 (.int k z) = some (.int .u32 (IntKind.u32.wrap z)) := convV_int Tryz.underlying121 Tryz.underlying121
@[simp] theorem qG9_9 {S : St} {K : Value → Mem → Prop} {s : ByteArray} : s2K Tryz.prog S K 9 9 s = K (.string s) S.M := s2K_str Tryz.underlying9 Tryz.underlying9
@[simp] theorem qH9_47 {S : St} {K : Value → Mem → Prop} {s : ByteArray} : s2K Tryz.prog S K 9 47 s = (s.size ≤ 1099511627776 ∧ K (.slice (some ⟨S.M.length, 0, none⟩) s.size s.size) (S.M ++ [.live ⟨byteCells s, true, false, 5, 1⟩])) := s2K_sl Tryz.underlying9 Tryz.underlying47 Tryz.underlying5
end Go.Proofs.YtodbjnngkonklaaGreatDoor

namespace Go.Proofs.YtodbjnngkonklaaGreatDoor
open Go.RowKit
set_option linter.unusedVariables false
set_option linter.unusedSimpArgs false
set_option maxRecDepth 100000
attribute [local simp] List.getElem?_cons_zero
attribute [local irreducible] awCond awCall awLoop awDraw ow retQ retC resQ Keeps

abbrev iv (n : Int) : Value := .int .i64 n
/-- A record of k cells. -/
structure RecV (α : Type) (k : Nat) where
  row : α → List Value
  len : ∀ a, (row a).length = k
def el {α : Type} [Inhabited α] (l : List α) (i : Nat) : α := l.getD i default
section
variable {α : Type} {k : Nat}
theorem el_eq [Inhabited α] {l : List α} {i : Nat} (h : i < l.length) : l[i] = el l i := by simp [el, h]
theorem el_some [Inhabited α] {l : List α} {i : Nat} (h : i < l.length) : l[i]? = some (el l i) := by rw [List.getElem?_eq_getElem h, el_eq h]
theorem take_el [Inhabited α] {l : List α} {i : Nat} (h : i < l.length) : l.take (i + 1) = l.take i ++ [el l i] := by
  rw [List.take_succ_eq_append_getElem h, el_eq]
theorem drop_el [Inhabited α] {l : List α} {i : Nat} (h : i < l.length) : l.drop i = el l i :: l.drop (i + 1) := by
  rw [List.drop_eq_getElem_cons h, el_eq]
theorem el_append_left [Inhabited α] {l m : List α} {i : Nat} (h : i < l.length) : el (l ++ m) i = el l i := by
  unfold el; simp only [List.getD_eq_getElem?_getD]; rw [List.getElem?_append_left h]
theorem el_append_right [Inhabited α] {l m : List α} {i : Nat} (h : l.length ≤ i) : el (l ++ m) i = el m (i - l.length) := by
  unfold el; simp only [List.getD_eq_getElem?_getD]; rw [List.getElem?_append_right h]
theorem el_mem [Inhabited α] {l : List α} {i : Nat} (h : i < l.length) : el l i ∈ l := by rw [← el_eq h]; exact List.getElem_mem h
def cellsL (R : RecV α k) (l : List α) : List Value := l.flatMap R.row
theorem cellsL_len (R : RecV α k) (l : List α) : (cellsL R l).length = l.length * k := by
  unfold cellsL
  induction l with
  | nil => simp
  | cons a l ih => rw [List.flatMap_cons, List.length_append, ih, R.len, List.length_cons, Nat.add_mul]; omega
theorem cellsL_nil (R : RecV α k) : cellsL R [] = [] := rfl
theorem cellsL_cons (R : RecV α k) (a : α) (l : List α) : cellsL R (a :: l) = R.row a ++ cellsL R l := by simp [cellsL]
theorem cellsL_append (R : RecV α k) (l m : List α) : cellsL R (l ++ m) = cellsL R l ++ cellsL R m := by simp [cellsL]
theorem cellsL_snoc (R : RecV α k) (l : List α) (a : α) : cellsL R (l ++ [a]) = cellsL R l ++ R.row a := by simp [cellsL]
theorem cellsL_take (R : RecV α k) : ∀ (l : List α) (n : Nat), cellsL R (l.take n) = (cellsL R l).take (n * k)
  | [], n => by simp [cellsL]
  | a :: l, 0 => by simp [cellsL]
  | a :: l, n + 1 => by
    rw [List.take_succ_cons, cellsL_cons, cellsL_cons, cellsL_take R l n, List.take_append, R.len, Nat.add_mul, Nat.one_mul, List.take_of_length_le (l := R.row a) (by rw [R.len]; omega), show n * k + k - k = n * k by omega]
theorem cellsL_drop (R : RecV α k) : ∀ (l : List α) (n : Nat), cellsL R (l.drop n) = (cellsL R l).drop (n * k)
  | [], n => by simp [cellsL]
  | a :: l, 0 => by simp
  | a :: l, n + 1 => by
    rw [List.drop_succ_cons, cellsL_cons, cellsL_drop R l n, List.drop_append, R.len, Nat.add_mul, Nat.one_mul, List.drop_of_length_le (l := R.row a) (by rw [R.len]; omega), show n * k + k - k = n * k by omega, List.nil_append]
theorem cellsL_get [Inhabited α] (R : RecV α k) {l : List α} {i j : Nat} (hi : i < l.length) (hj : j < k) : (cellsL R l)[i * k + j]? = (R.row (el l i))[j]? := by
  have h1 : l = l.take i ++ (el l i :: l.drop (i + 1)) := by
    conv => lhs; rw [← List.take_append_drop i l, drop_el hi]
  have h2 : cellsL R l = cellsL R (l.take i) ++ (R.row (el l i) ++ cellsL R (l.drop (i + 1))) := by
    conv => lhs; rw [h1]
    rw [cellsL_append, cellsL_cons]
  rw [h2]
  have hl : (cellsL R (l.take i)).length = i * k := by rw [cellsL_len, List.length_take, Nat.min_eq_left (by omega)]
  rw [List.getElem?_append_right (by omega), hl, List.getElem?_append_left (by rw [R.len]; omega)]
  congr 1
  omega
theorem cellsL_zrow (R : RecV α k) (a : α) : ∀ n, zrow (R.row a) n = cellsL R (List.replicate n a)
  | 0 => rfl
  | n + 1 => by rw [zrow_succ, List.replicate_succ, cellsL_cons, cellsL_zrow R a n]

/-- Cells that lie behind a place. -/
def Cl (M : Mem) (id off : Nat) (xs : List Value) : Prop := ∀ (j : Nat) x, xs[j]? = some x → cellAt M id (off + j) = some x
theorem Cl.app {M : Mem} {id off : Nat} {xs : List Value} (h : Cl M id off xs) (L : Mem) : Cl (M ++ L) id off xs := fun j x hx => cellAt_app (h j x hx) L
theorem cellAt_keeps {M M' : Mem} {id off : Nat} {v : Value} (hk : Keeps M M') (h : cellAt M id off = some v) : cellAt M' id off = some v := by
  unfold cellAt at h ⊢
  cases hm : M[id]? with
  | none => rw [hm] at h; cases h
  | some s => rw [hk.get hm]; rw [hm] at h; exact h
theorem Cl.keeps {M M' : Mem} {id off : Nat} {xs : List Value} (h : Cl M id off xs) (hk : Keeps M M') : Cl M' id off xs := fun j x hx => cellAt_keeps hk (h j x hx)
theorem cellsAt_of {M : Mem} {id off n : Nat} {xs : List Value} (h : Cl M id off xs) (hl : xs.length = n) (h0 : 0 < n) : cellsAt M id off n = some xs := by
  have hx0 : xs[0]? = some xs[0] := List.getElem?_eq_getElem (by omega)
  have h1 := h 0 _ hx0
  unfold cellAt at h1
  unfold cellsAt
  cases hm : M[id]? with
  | none => rw [hm] at h1; cases h1
  | some s =>
    cases s with
    | live r =>
      have at_ : ∀ (j : Nat) x, xs[j]? = some x → r.cells[off + j]? = some x := fun j x hx => by
        have := h j x hx
        unfold cellAt at this
        rw [hm] at this
        exact this
      have hle : off + n ≤ r.cells.length := by
        have hl1 : xs[n - 1]? = some (xs[n - 1]'(by omega)) := List.getElem?_eq_getElem (by omega)
        have := (List.getElem?_eq_some_iff.1 (at_ _ _ hl1)).1
        omega
      simp only
      rw [if_pos hle]
      congr 1
      apply List.ext_getElem?
      intro j
      by_cases hj : j < n
      · rw [List.getElem?_take, if_pos hj, List.getElem?_drop]
        have hxj : xs[j]? = some (xs[j]'(by omega)) := List.getElem?_eq_getElem (by omega)
        rw [at_ j _ hxj, hxj]
      · rw [List.getElem?_take, if_neg hj, List.getElem?_eq_none (by omega)]
    | dead => rw [hm] at h1; cases h1
    | hole => rw [hm] at h1; cases h1
    | mp r es => rw [hm] at h1; cases h1

/-- The slice .slice A n c reads in M as the records l. -/
def Sl (R : RecV α k) (M : Mem) (A : Option Addr) (n : Nat) (l : List α) : Prop :=
  l.length = n ∧ (0 < n → ∃ id off, A = some ⟨id, off, none⟩ ∧ rowEsz M id = some k ∧ Cl M id off (cellsL R l))
theorem Sl.at_ [Inhabited α] {R : RecV α k} {M : Mem} {A : Option Addr} {n : Nat} {l : List α} (h : Sl R M A n l) {i : Nat} (hi : i < n) :
    ∃ id off, A = some ⟨id, off, none⟩ ∧ rowEsz M id = some k ∧ Cl M id (off + i * k) (R.row (el l i)) := by
  obtain ⟨id, off, e, he, hc⟩ := h.2 (by omega)
  refine ⟨id, off, e, he, fun j x hx => ?_⟩
  have hj : j < k := by have := (List.getElem?_eq_some_iff.1 hx).1; rwa [R.len] at this
  rw [Nat.add_assoc]
  exact hc _ _ (by rw [cellsL_get R (by rw [h.1]; exact hi) hj]; exact hx)
theorem rowEsz_keeps {M M' : Mem} {id k : Nat} (hk : Keeps M M') (h : rowEsz M id = some k) : rowEsz M' id = some k := by
  unfold rowEsz at h ⊢
  cases hm : M[id]? with
  | none => rw [hm] at h; cases h
  | some s => rw [hk.get hm]; rw [hm] at h; exact h
theorem Sl.keeps {R : RecV α k} {M M' : Mem} {A : Option Addr} {n : Nat} {l : List α} (h : Sl R M A n l) (hk : Keeps M M') : Sl R M' A n l :=
  ⟨h.1, fun hn => by
    obtain ⟨id, off, e, he, hc⟩ := h.2 hn
    exact ⟨id, off, e, rowEsz_keeps hk he, hc.keeps hk⟩⟩
theorem Sl.app {R : RecV α k} {M : Mem} {A : Option Addr} {n : Nat} {l : List α} (h : Sl R M A n l) (L : Mem) : Sl R (M ++ L) A n l := h.keeps (keeps_app L)
theorem splice_app : ∀ (ws xs ys : List Value), ws.length ≤ ys.length → splice (xs ++ ys) xs.length ws = xs ++ (ws ++ ys.drop ws.length)
  | [], xs, ys, _ => by simp
  | w :: ws, xs, [], h => by simp at h
  | w :: ws, xs, y :: ys, h => by
    rw [splice_cons]
    have e : (xs ++ y :: ys).set xs.length w = (xs ++ [w]) ++ ys := by simp [List.set_append_right]
    have := splice_app ws (xs ++ [w]) ys (by simpa using h)
    rw [e, show xs.length + 1 = (xs ++ [w]).length by simp, this]
    simp
theorem splice_rec (R : RecV α k) {xs : List α} {m : Nat} {z : List Value} {a : α} (hz : z.length = k) : splice (cellsL R xs ++ zrow z (m + 1)) (xs.length * k) (R.row a) = cellsL R (xs ++ [a]) ++ zrow z m := by
  rw [← cellsL_len R xs, splice_app _ _ _ (by rw [R.len, zrow_succ, List.length_append]; omega), R.len, zrow_succ, List.drop_append_of_le_length (by omega), List.drop_of_length_le (by omega), cellsL_snoc]
  simp
theorem all_oneV_of {vs : List Value} (h : ∀ v ∈ vs, oneV v = true) : vs.all oneV = true := List.all_eq_true.2 h
theorem putCells_rec (R : RecV α k) {b : Nat} {M : Mem} {xs : List α} {m i : Nat} {z : List Value} {a : α} {t : Bool} {e : TypeId} (hb : b ≤ M.length) (hz : z.length = k) (hi : xs.length = i) (h1 : (R.row a).all oneV = true) :
    putCells b (M ++ [.live ⟨cellsL R xs ++ zrow z (m + 1), true, t, e, k⟩]) M.length (i * k) (R.row a) = some (M ++ [.live ⟨cellsL R (xs ++ [a]) ++ zrow z m, true, t, e, k⟩]) := by
  subst hi
  rw [putCells_new0 hb, putL_zero, splice_rec R hz, if_pos ⟨rfl, by simp only [List.length_append, cellsL_len, R.len, zrow_succ]; omega, h1⟩]
  rfl
theorem Sl.new {R : RecV α k} {M : Mem} {l : List α} {o t : Bool} {e : TypeId} {n : Nat} (hn : l.length = n) : Sl R (M ++ [.live ⟨cellsL R l, o, t, e, k⟩]) (some ⟨M.length, 0, none⟩) n l :=
  ⟨hn, fun _ => ⟨M.length, 0, rfl, by simp [rowEsz], fun j x hx => by simp [cellAt, hx]⟩⟩
def Ownd (M : Mem) (A : Option Addr) (n : Nat) : Prop := 0 < n → ∃ id off r, A = some ⟨id, off, none⟩ ∧ M[id]? = some (.live r) ∧ r.own = true
/-- A result that lies in new memory. -/
def Fresh (R : RecV α k) (M : Mem) (v : Value) (M' : Mem) (l : List α) : Prop :=
  ∃ A n c, v = .slice A n c ∧ n ≤ 1099511627776 ∧ Sl R M' A n l ∧ (∀ a, A = some a → M.length ≤ a.block) ∧ Ownd M' A n ∧ Keeps M M'
theorem Fresh.new {R : RecV α k} {M : Mem} {l : List α} {t : Bool} {e : TypeId} {n c : Nat} (hn : l.length = n) (hb : n ≤ 1099511627776) : Fresh R M (.slice (some ⟨M.length, 0, none⟩) n c) (M ++ [.live ⟨cellsL R l, true, t, e, k⟩]) l :=
  ⟨_, _, _, rfl, hb, Sl.new hn, fun a h => by injection h with h; subst h; exact Nat.le_refl _, fun _ => ⟨_, _, _, rfl, getElem?_snoc_eq, rfl⟩, keeps_app _⟩
theorem Sl.lt {R : RecV α k} {M : Mem} {A : Option Addr} {n : Nat} {l : List α} (h : Sl R M A n l) (hn : 0 < n) : ∃ a, A = some a ∧ a.block < M.length := by
  obtain ⟨id, off, e, he, _⟩ := h.2 hn
  refine ⟨_, e, ?_⟩
  unfold rowEsz at he
  cases hm : M[id]? with
  | none => rw [hm] at he; cases he
  | some s => exact (List.getElem?_eq_some_iff.1 hm).1
theorem Keeps.len {M M' : Mem} (h : Keeps M M') : M.length ≤ M'.length := by
  rcases Nat.eq_zero_or_pos M.length with h0 | h0
  · omega
  · have := h.get (List.getElem?_eq_getElem (show M.length - 1 < M.length by omega))
    have := (List.getElem?_eq_some_iff.1 this).1
    omega
/-- Only the row of A may have turned. -/
def Turned (A : Option Addr) (n : Nat) (M M' : Mem) : Prop := M'.length = M.length ∧ ∀ (i : Nat) s, M[i]? = some s → (∀ a, A = some a → 0 < n → i ≠ a.block) → M'[i]? = some s
theorem Turned.keeps {M0 M M' : Mem} {A : Option Addr} {n : Nat} (h : Turned A n M M') (hk : Keeps M0 M) (ha : ∀ a, A = some a → M0.length ≤ a.block) : Keeps M0 M' := by
  unfold Keeps
  exact fun i s hs => h.2 i s (hk.get hs) fun a e _ => by have := ha a e; have := (List.getElem?_eq_some_iff.1 hs).1; omega
theorem Sl.turn {R : RecV α k} {M M' : Mem} {A B : Option Addr} {n m : Nat} {l : List α} (h : Sl R M B m l) (ht : Turned A n M M') (hd : ∀ a b, A = some a → B = some b → 0 < n → 0 < m → b.block ≠ a.block) : Sl R M' B m l := by
  refine ⟨h.1, fun hm => ?_⟩
  obtain ⟨id, off, e, he, hc⟩ := h.2 hm
  have hi : M'[id]? = M[id]? := by
    cases hs : M[id]? with
    | none => unfold rowEsz at he; rw [hs] at he; cases he
    | some s => exact ht.2 id s hs fun a ea hn => hd a _ ea e hn hm
  refine ⟨id, off, e, by unfold rowEsz at he ⊢; rw [hi]; exact he, fun j x hx => ?_⟩
  have := hc j x hx
  unfold cellAt at this ⊢
  rw [hi]; exact this
theorem Ownd.turn {M M' : Mem} {A B : Option Addr} {n m : Nat} (h : Ownd M B m) (ht : Turned A n M M') (hd : ∀ a b, A = some a → B = some b → 0 < n → 0 < m → b.block ≠ a.block) : Ownd M' B m := fun hm => by
  obtain ⟨id, off, r, e, hr, ho⟩ := h hm
  exact ⟨id, off, r, e, ht.2 id _ hr fun a ea hn => hd a _ ea e hn hm, ho⟩
theorem Ownd.keeps {M M' : Mem} {A : Option Addr} {n : Nat} (h : Ownd M A n) (hk : Keeps M M') : Ownd M' A n := fun hn => by
  obtain ⟨id, off, r, e, hr, ho⟩ := h hn
  exact ⟨id, off, r, e, hk.get hr, ho⟩
theorem Sl.cells {R : RecV α k} {M : Mem} {id off n : Nat} {l : List α} {r : Row} (h : Sl R M (some ⟨id, off, none⟩) n l) (hr : M[id]? = some (.live r)) (hn : 0 < n) (hk : 0 < k) : r.esz = k ∧ off + n * k ≤ r.cells.length := by
  obtain ⟨_, _, e, he, hc⟩ := h.2 hn
  injection e with e
  injection e with e1 e2
  subst e1; subst e2
  refine ⟨by unfold rowEsz at he; rw [hr] at he; simpa using he, ?_⟩
  have hnk : 0 < n * k := Nat.mul_pos hn hk
  have hl : (cellsL R l).length = n * k := by rw [cellsL_len, h.1]
  have hx : (cellsL R l)[n * k - 1]? = some ((cellsL R l)[n * k - 1]'(by omega)) := List.getElem?_eq_getElem (by omega)
  have := hc _ _ hx
  unfold cellAt at this
  rw [hr] at this
  have := (List.getElem?_eq_some_iff.1 this).1
  omega
theorem put_set {b : Nat} {M : Mem} {id p : Nat} {v : Value} {cs : List Value} {t : Bool} {e : TypeId} {z : Nat} (hid : id < M.length) (hb : b ≤ id) (hp : p < cs.length) (h1 : oneV v = true) :
    putCells b (M.set id (.live ⟨cs, true, t, e, z⟩)) id p [v] = some (M.set id (.live ⟨cs.set p v, true, t, e, z⟩)) := by
  unfold putCells
  rw [List.getElem?_set_self hid]
  simp only
  rw [if_pos (by simp [hb, h1]; omega)]
  simp [splice]
theorem rowEsz_set {M : Mem} {id : Nat} {r : Row} (hid : id < M.length) : rowEsz (M.set id (.live r)) id = some r.esz := by simp [rowEsz, List.getElem?_set_self hid]
theorem splice_mid (R : RecV α k) {cs : List Value} {off j : Nat} {l : List α} {a : α} (hl : l.length = j) (h : off + (j + 1) * k ≤ cs.length) :
    splice (cs.take off ++ cellsL R l ++ cs.drop (off + j * k)) (off + j * k) (R.row a) = cs.take off ++ cellsL R (l ++ [a]) ++ cs.drop (off + (j + 1) * k) := by
  rw [Nat.add_mul, Nat.one_mul] at h ⊢
  have e : off + j * k = (cs.take off ++ cellsL R l).length := by rw [List.length_append, cellsL_len, List.length_take, hl]; omega
  conv => lhs; rw [e]
  rw [← e, e, splice_app _ _ _ (by rw [R.len, List.length_drop]; omega), R.len, List.drop_drop, cellsL_snoc, ← e]
  simp [Nat.add_assoc]
theorem set_turned {M : Mem} {id off : Nat} {s : Slot} {n : Nat} (hn : 0 < n) : Turned (some ⟨id, off, none⟩) n M (M.set id s) :=
  ⟨by simp, fun i s hs h => by rw [List.getElem?_set_ne (by have := h _ rfl hn; simpa using this.symm)]; exact hs⟩
theorem Sl.set {R : RecV α k} {M : Mem} {id off n : Nat} {pre post : List Value} {l : List α} {o t : Bool} {e : TypeId} (hid : id < M.length) (hp : pre.length = off) (hl : l.length = n) :
    Sl R (M.set id (.live ⟨pre ++ cellsL R l ++ post, o, t, e, k⟩)) (some ⟨id, off, none⟩) n l :=
  ⟨hl, fun _ => ⟨id, off, rfl, by simp [rowEsz, List.getElem?_set_self hid], fun j x hx => by
    simp only [cellAt, List.getElem?_set_self hid]
    rw [List.append_assoc, List.getElem?_append_right (by omega), hp, show off + j - off = j by omega, List.getElem?_append_left (List.getElem?_eq_some_iff.1 hx).1]
    exact hx⟩⟩
/-- A slice value that reads as records, its row's id from lo up to hi. -/
def RdL (R : RecV α k) (lo hi : Nat) (M : Mem) (v : Value) (l : List α) : Prop :=
  ∃ A n c, v = .slice A n c ∧ n ≤ 9223372036854775807 ∧ Sl R M A n l ∧ (∀ a, A = some a → 0 < n → lo ≤ a.block ∧ a.block < hi)
/-- It may be written. -/
def OwL (R : RecV α k) (lo hi : Nat) (M : Mem) (v : Value) (l : List α) : Prop :=
  ∃ A n c, v = .slice A n c ∧ n ≤ 1099511627776 ∧ Sl R M A n l ∧ (∀ a, A = some a → 0 < n → lo ≤ a.block ∧ a.block < hi) ∧ Ownd M A n
/-- Only rows with ids from lo up to hi may have turned. -/
def Turn (lo hi : Nat) (M M' : Mem) : Prop := M.length ≤ M'.length ∧ ∀ (i : Nat) s, M[i]? = some s → (i < lo ∨ hi ≤ i) → M'[i]? = some s
theorem OwL.rd {R : RecV α k} {lo hi : Nat} {M : Mem} {v : Value} {l : List α} (h : OwL R lo hi M v l) : RdL R lo hi M v l := by
  obtain ⟨A, n, c, h1, h2, h3, h4, _⟩ := h
  exact ⟨A, n, c, h1, by omega, h3, h4⟩
theorem RdL.keeps {R : RecV α k} {lo hi : Nat} {M M' : Mem} {v : Value} {l : List α} (h : RdL R lo hi M v l) (hk : Keeps M M') : RdL R lo hi M' v l := by
  obtain ⟨A, n, c, h1, h2, h3, h4⟩ := h
  exact ⟨A, n, c, h1, h2, h3.keeps hk, h4⟩
theorem OwL.keeps {R : RecV α k} {lo hi : Nat} {M M' : Mem} {v : Value} {l : List α} (h : OwL R lo hi M v l) (hk : Keeps M M') : OwL R lo hi M' v l := by
  obtain ⟨A, n, c, h1, h2, h3, h4, h5⟩ := h
  exact ⟨A, n, c, h1, h2, h3.keeps hk, h4, h5.keeps hk⟩
theorem Sl.turn' {R : RecV α k} {M M' : Mem} {B : Option Addr} {m lo hi : Nat} {l : List α} (h : Sl R M B m l) (ht : Turn lo hi M M') (hd : ∀ b, B = some b → 0 < m → b.block < lo ∨ hi ≤ b.block) : Sl R M' B m l := by
  refine ⟨h.1, fun hm => ?_⟩
  obtain ⟨id, off, e, he, hc⟩ := h.2 hm
  have hi' : M'[id]? = M[id]? := by
    cases hs : M[id]? with
    | none => unfold rowEsz at he; rw [hs] at he; cases he
    | some s => exact ht.2 id s hs (hd _ e hm)
  refine ⟨id, off, e, by unfold rowEsz at he ⊢; rw [hi']; exact he, fun j x hx => ?_⟩
  have := hc j x hx
  unfold cellAt at this ⊢
  rw [hi']; exact this
theorem Ownd.turn' {M M' : Mem} {B : Option Addr} {m lo hi : Nat} (h : Ownd M B m) (ht : Turn lo hi M M') (hd : ∀ b, B = some b → 0 < m → b.block < lo ∨ hi ≤ b.block) : Ownd M' B m := fun hm => by
  obtain ⟨id, off, r, e, hr, ho⟩ := h hm
  exact ⟨id, off, r, e, ht.2 id _ hr (hd _ e hm), ho⟩
theorem RdL.turn {R : RecV α k} {lo hi lo' hi' : Nat} {M M' : Mem} {v : Value} {l : List α} (h : RdL R lo hi M v l) (ht : Turn lo' hi' M M') (hd : hi ≤ lo' ∨ hi' ≤ lo) : RdL R lo hi M' v l := by
  obtain ⟨A, n, c, h1, h2, h3, h4⟩ := h
  exact ⟨A, n, c, h1, h2, h3.turn' ht fun b e hm => by have := h4 b e hm; omega, h4⟩
theorem OwL.turn {R : RecV α k} {lo hi lo' hi' : Nat} {M M' : Mem} {v : Value} {l : List α} (h : OwL R lo hi M v l) (ht : Turn lo' hi' M M') (hd : hi ≤ lo' ∨ hi' ≤ lo) : OwL R lo hi M' v l := by
  obtain ⟨A, n, c, h1, h2, h3, h4, h5⟩ := h
  exact ⟨A, n, c, h1, h2, h3.turn' ht fun b e hm => (by have := h4 b e hm; omega), h4, h5.turn' ht fun b e hm => (by have := h4 b e hm; omega)⟩
theorem Turn.keeps {M0 M M' : Mem} {lo hi : Nat} (h : Turn lo hi M M') (hk : Keeps M0 M) (ha : M0.length ≤ lo) : Keeps M0 M' := by
  unfold Keeps
  exact fun i s hs => h.2 i s (hk.get hs) (.inl (by have := (List.getElem?_eq_some_iff.1 hs).1; omega))
theorem RdL.of_sl {R : RecV α k} {M : Mem} {B : Option Addr} {n : Nat} {l : List α} (hn : n ≤ maxLen) (hs : Sl R M B n l) (c : Nat) : RdL R 0 M.length M (.slice B n c) l :=
  ⟨B, n, c, rfl, by unfold maxLen at hn; omega, hs, fun a e hp => ⟨Nat.zero_le _, by obtain ⟨a', e', h⟩ := hs.lt hp; rw [e] at e'; injection e' with e'; subst e'; exact h⟩⟩
theorem RdL.up {R : RecV α k} {lo : Nat} {M : Mem} {v : Value} {l : List α} (h : RdL R lo M.length M v l) (L : Mem) : RdL R lo (M ++ L).length (M ++ L) v l := by
  obtain ⟨A, n, c, h1, h2, h3, h4⟩ := h
  exact ⟨A, n, c, h1, h2, h3.app L, fun a e hp => by have := h4 a e hp; simp; omega⟩
theorem Fresh.ow {R : RecV α k} {M M' : Mem} {v : Value} {l : List α} (h : Fresh R M v M' l) : OwL R M.length M'.length M' v l ∧ Keeps M M' := by
  obtain ⟨A, n, c, h1, h2, h3, h4, h5, h6⟩ := h
  exact ⟨⟨A, n, c, h1, h2, h3, fun a e hn => ⟨h4 a e, by obtain ⟨a', e', h⟩ := h3.lt hn; rw [e] at e'; injection e' with e'; subst e'; exact h⟩, h5⟩, h6⟩
theorem cellsAt_keeps {M M' : Mem} {id off n : Nat} {vs : List Value} (hk : Keeps M M') (h : cellsAt M id off n = some vs) : cellsAt M' id off n = some vs := by
  unfold cellsAt at h ⊢
  cases hm : M[id]? with
  | none => rw [hm] at h; cases h
  | some s => rw [hk.get hm]; rw [hm] at h; exact h
theorem cellsAt_turn {M M' : Mem} {id off n lo hi : Nat} {vs : List Value} (ht : Turn lo hi M M') (hi' : id < lo) (h : cellsAt M id off n = some vs) : cellsAt M' id off n = some vs := by
  unfold cellsAt at h ⊢
  cases hm : M[id]? with
  | none => rw [hm] at h; cases h
  | some s => rw [ht.2 id s hm (.inl hi')]; rw [hm] at h; exact h
theorem cellsAt_turn2 {M M' : Mem} {id off n lo hi : Nat} {vs : List Value} (ht : Turn lo hi M M') (hi' : id < lo ∨ hi ≤ id) (h : cellsAt M id off n = some vs) : cellsAt M' id off n = some vs := by
  unfold cellsAt at h ⊢
  cases hm : M[id]? with
  | none => rw [hm] at h; cases h
  | some s => rw [ht.2 id s hm hi']; rw [hm] at h; exact h
theorem Keeps.split {A B : Mem} (h : Keeps A B) : ∃ C, B = A ++ C := by
  refine ⟨B.drop A.length, ?_⟩
  have hl := h.len
  apply List.ext_getElem?
  intro i
  by_cases hi : i < A.length
  · rw [List.getElem?_append_left hi, h.get (List.getElem?_eq_getElem hi), List.getElem?_eq_getElem hi]
  · rw [List.getElem?_append_right (by omega), List.getElem?_drop, show A.length + (i - A.length) = i by omega]
theorem turn_mid {M A B C : Mem} (h : A.length = B.length) : Turn M.length (M.length + A.length) (M ++ (A ++ C)) (M ++ (B ++ C)) := by
  refine ⟨by simp [h], fun i s hs hd => ?_⟩
  rcases hd with hd | hd
  · rw [List.getElem?_append_left hd] at hs ⊢; exact hs
  · rw [List.getElem?_append_right (by omega), List.getElem?_append_right (by omega)] at hs ⊢
    rw [← h]; exact hs
theorem turn_mid3 {M C : Mem} {a b c a' b' c' : Slot} : Turn M.length (M.length + 3) (M ++ a :: b :: c :: C) (M ++ a' :: b' :: c' :: C) := turn_mid (A := [a, b, c]) (B := [a', b', c']) rfl
theorem OwL.wide {R : RecV α k} {lo hi lo' hi' : Nat} {M : Mem} {v : Value} {l : List α} (h : OwL R lo hi M v l) (h1 : lo' ≤ lo) (h2 : hi ≤ hi') : OwL R lo' hi' M v l := by
  obtain ⟨A, n, c, e1, e2, e3, e4, e5⟩ := h
  exact ⟨A, n, c, e1, e2, e3, fun a e hn => by have := e4 a e hn; omega, e5⟩
theorem OwL.isSlice {R : RecV α k} {lo hi : Nat} {M : Mem} {v : Value} {l : List α} (h : OwL R lo hi M v l) : ∃ A n c, v = .slice A n c := by
  obtain ⟨A, n, c, e1, _⟩ := h
  exact ⟨A, n, c, e1⟩
theorem OwL.one {R : RecV α k} {lo hi : Nat} {M : Mem} {v : Value} {l : List α} (h : OwL R lo hi M v l) : oneV v = true := by
  obtain ⟨A, n, c, rfl⟩ := h.isSlice
  rfl
theorem Turn.app {lo hi : Nat} {M M' L : Mem} (h : Turn lo hi (M ++ L) M') : Turn lo hi M M' :=
  ⟨Nat.le_trans (by simp) h.1, fun i s hs hd => h.2 i s (by rw [List.getElem?_append_left (List.getElem?_eq_some_iff.1 hs).1]; exact hs) hd⟩
end
def fstI {α : Type} (p : α → Bool) (l : List α) : Int := match l.findIdx? p with | some i => (i : Int) | none => -1
theorem fstI_none {α : Type} [Inhabited α] {p : α → Bool} {l : List α} (h : ∀ i, i < l.length → p (el l i) = false) : fstI p l = -1 := by
  unfold fstI
  rw [List.findIdx?_eq_none_iff.2]
  intro x hx
  obtain ⟨i, hi, rfl⟩ := List.getElem_of_mem hx
  have := h i hi
  rw [← el_eq hi] at this
  simpa using this
theorem fstI_some {α : Type} [Inhabited α] {p : α → Bool} {l : List α} {i : Nat} (hi : i < l.length) (hp : p (el l i) = true) (h : ∀ j, j < i → p (el l j) = false) : fstI p l = i := by
  unfold fstI
  rw [List.findIdx?_eq_some_iff_getElem.2 (?_ : ∃ h : i < l.length, p l[i] = true ∧ ∀ j (hj : j < i), ¬ p (l[j]'(Nat.lt_trans hj h)) = true)]
  exact ⟨hi, by rw [el_eq hi]; exact hp, fun j hj => by have := h j hj; rw [← el_eq (by omega)] at this; simpa using this⟩
def intR : RecV Int 1 := ⟨fun n => [iv n], fun _ => rfl⟩
theorem wrap_in {x : Int} (h1 : -9223372036854775808 ≤ x) (h2 : x ≤ 9223372036854775807) : IntKind.i64.wrap x = x := IntWalk.i64_in _ ⟨h1, h2⟩
theorem keeps_set {M M' : Mem} {id : Nat} {s : Slot} (hK : Keeps M M') (h : M.length ≤ id) : Keeps M (M'.set id s) := by
  unfold Keeps
  exact fun i s hs => by rw [List.getElem?_set_ne (by have := (List.getElem?_eq_some_iff.1 hs).1; omega)]; exact hK.get hs
theorem splice_whole {cs vs : List Value} (h : vs.length = cs.length) : splice cs 0 vs = vs := by
  have := splice_app vs [] cs (by omega)
  simpa [h] using this
theorem put_whole {b : Nat} {M : Mem} {id : Nat} {vs cs : List Value} {t : Bool} {e : TypeId} {z : Nat} (hr : M[id]? = some (.live ⟨cs, true, t, e, z⟩)) (hb : b ≤ id) (hl : vs.length = cs.length) (h1 : vs.all oneV = true) :
    putCells b M id 0 vs = some (M.set id (.live ⟨vs, true, t, e, z⟩)) := by
  unfold putCells
  rw [hr]
  simp only
  rw [if_pos ⟨hb, trivial, by omega, h1⟩, splice_whole hl]
theorem str_same (s : ByteArray) : strV .neq s s = some (.bool false) := by
  show some (Value.bool (!(s.toList == s.toList))) = _
  rw [beq_self_eq_true]
  rfl
theorem dec_neg {x : Int} (h : 0 ≤ x) : decide (x < 0) = false := decide_eq_false (by omega)
def inB (n lo hi : Int) : Bool := decide (lo ≤ n) && decide (n ≤ hi)
theorem inB_iff {n lo hi : Int} : inB n lo hi = true ↔ lo ≤ n ∧ n ≤ hi := by simp [inB]
end Go.Proofs.YtodbjnngkonklaaGreatDoor
