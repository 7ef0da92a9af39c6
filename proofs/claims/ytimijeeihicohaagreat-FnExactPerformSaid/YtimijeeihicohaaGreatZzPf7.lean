/- What the program's types are, for simp. No conditions. -/
import Derived.Test.YtimijeeihicohaaGreatZzPf6
import Derived.Test.YtimijeeihicohaaGreatRows
namespace Go.Proofs.YtimijeeihicohaaGreat
open Go.RowKit
@[simp] theorem qL2 : qLoad Tryz.prog 2 = some none := by kernel_rfl
@[simp] theorem qS2 : qSize Tryz.prog 2 = some 1 := by kernel_rfl
@[simp] theorem qZ2 : qZero Tryz.prog 2 = some [.int .i64 0] := by kernel_rfl
@[simp] theorem qL3 : qLoad Tryz.prog 3 = some none := by kernel_rfl
@[simp] theorem qS3 : qSize Tryz.prog 3 = some 1 := by kernel_rfl
@[simp] theorem qZ3 : qZero Tryz.prog 3 = some [.int .i64 0] := by kernel_rfl
@[simp] theorem qL4 : qLoad Tryz.prog 4 = some none := by kernel_rfl
@[simp] theorem qS4 : qSize Tryz.prog 4 = some 1 := by kernel_rfl
@[simp] theorem qZ4 : qZero Tryz.prog 4 = some [.bool false] := by kernel_rfl
@[simp] theorem qQ4 {x y : Bool} : binV Tryz.prog .eql 4 (.bool x) (.bool y) = some (.bool (x == y)) := by simp [binV, eqV, Tryz.underlying4]
@[simp] theorem qR4 {x y : Bool} : binV Tryz.prog .neq 4 (.bool x) (.bool y) = some (.bool (!(x == y))) := by simp [binV, eqV, Tryz.underlying4]
@[simp] theorem qL5 : qLoad Tryz.prog 5 = some none := by kernel_rfl
@[simp] theorem qS5 : qSize Tryz.prog 5 = some 1 := by kernel_rfl
@[simp] theorem qZ5 : qZero Tryz.prog 5 = some [.int .u8 0] := by kernel_rfl
@[simp] theorem qL9 : qLoad Tryz.prog 9 = some none := by kernel_rfl
@[simp] theorem qS9 : qSize Tryz.prog 9 = some 1 := by kernel_rfl
@[simp] theorem qZ9 : qZero Tryz.prog 9 = some [.string ByteArray.empty] := by kernel_rfl
@[simp] theorem qN9 {S : St} {K : Value → Mem → Prop} {s : ByteArray} : lenK Tryz.prog S K 9 (.string s) = K (.int .i64 (s.size : Int)) S.M := lenK_str Tryz.underlying9
@[simp] theorem qU9 : Tryz.prog.underlying 9 = some .string := Tryz.underlying9
@[simp] theorem qL12 : qLoad Tryz.prog 12 = some none := by kernel_rfl
@[simp] theorem qS12 : qSize Tryz.prog 12 = some 1 := by kernel_rfl
@[simp] theorem qZ12 : qZero Tryz.prog 12 = some [.int .u64 0] := by kernel_rfl
@[simp] theorem qL13 : qLoad Tryz.prog 13 = some (some 2) := by kernel_rfl
@[simp] theorem qS13 : qSize Tryz.prog 13 = some 2 := by kernel_rfl
@[simp] theorem qZ13 : qZero Tryz.prog 13 = some [.string ByteArray.empty, .int .u64 0] := by kernel_rfl
@[simp] theorem qF13_0 : qField Tryz.prog 13 0 = some (0, none) := by kernel_rfl
@[simp] theorem qF13_1 : qField Tryz.prog 13 1 = some (1, none) := by kernel_rfl
@[simp] theorem qB13 : qBuild Tryz.prog 13 = some (#[.string ByteArray.empty, .int .u64 0], #[(0, 1), (1, 1)]) := by kernel_rfl
@[simp] theorem qL21 : qLoad Tryz.prog 21 = some none := by kernel_rfl
@[simp] theorem qS21 : qSize Tryz.prog 21 = some 1 := by kernel_rfl
@[simp] theorem qZ21 : qZero Tryz.prog 21 = some [.int .i32 0] := by kernel_rfl
@[simp] theorem qL22 : qLoad Tryz.prog 22 = some none := by kernel_rfl
@[simp] theorem qS22 : qSize Tryz.prog 22 = some 1 := by kernel_rfl
@[simp] theorem qZ22 : qZero Tryz.prog 22 = some [.slice none 0 0] := by kernel_rfl
@[simp] theorem qE22 : qSlice Tryz.prog 22 = some (24, 1, 24) := by kernel_rfl
@[simp] theorem qN22 {S : St} {K : Value → Mem → Prop} {q : Option Addr} {m c : Nat} : lenK Tryz.prog S K 22 (.slice q m c) = K (.int .i64 (m : Int)) S.M := lenK_sl Tryz.underlying22
@[simp] theorem qI22 : (Tryz.prog.info? 24).any (fun i => i.zero.any fun z => z.cells.size == 1) = true := by kernel_rfl
@[simp] theorem qL23 : qLoad Tryz.prog 23 = some none := by kernel_rfl
@[simp] theorem qS23 : qSize Tryz.prog 23 = some 1 := by kernel_rfl
@[simp] theorem qZ23 : qZero Tryz.prog 23 = some [.slice none 0 0] := by kernel_rfl
@[simp] theorem qE23 : qSlice Tryz.prog 23 = some (193, 4, 48) := by kernel_rfl
@[simp] theorem qN23 {S : St} {K : Value → Mem → Prop} {q : Option Addr} {m c : Nat} : lenK Tryz.prog S K 23 (.slice q m c) = K (.int .i64 (m : Int)) S.M := lenK_sl Tryz.underlying23
@[simp] theorem qI23 : (Tryz.prog.info? 193).any (fun i => i.zero.any fun z => z.cells.size == 4) = true := by kernel_rfl
@[simp] theorem qL24 : qLoad Tryz.prog 24 = some none := by kernel_rfl
@[simp] theorem qS24 : qSize Tryz.prog 24 = some 1 := by kernel_rfl
@[simp] theorem qZ24 : qZero Tryz.prog 24 = some [.slice none 0 0] := by kernel_rfl
@[simp] theorem qE24 : qSlice Tryz.prog 24 = some (2, 1, 8) := by kernel_rfl
@[simp] theorem qN24 {S : St} {K : Value → Mem → Prop} {q : Option Addr} {m c : Nat} : lenK Tryz.prog S K 24 (.slice q m c) = K (.int .i64 (m : Int)) S.M := lenK_sl Tryz.underlying24
@[simp] theorem qI24 : (Tryz.prog.info? 2).any (fun i => i.zero.any fun z => z.cells.size == 1) = true := by kernel_rfl
@[simp] theorem qL25 : qLoad Tryz.prog 25 = some (some 4) := by kernel_rfl
@[simp] theorem qS25 : qSize Tryz.prog 25 = some 4 := by kernel_rfl
@[simp] theorem qZ25 : qZero Tryz.prog 25 = some [.int .i64 0, .slice none 0 0, .slice none 0 0, .slice none 0 0] := by kernel_rfl
@[simp] theorem qF25_0 : qField Tryz.prog 25 0 = some (0, none) := by kernel_rfl
@[simp] theorem qF25_1 : qField Tryz.prog 25 1 = some (1, none) := by kernel_rfl
@[simp] theorem qF25_2 : qField Tryz.prog 25 2 = some (2, none) := by kernel_rfl
@[simp] theorem qF25_3 : qField Tryz.prog 25 3 = some (3, none) := by kernel_rfl
@[simp] theorem qB25 : qBuild Tryz.prog 25 = some (#[.int .i64 0, .slice none 0 0, .slice none 0 0, .slice none 0 0], #[(0, 1), (1, 1), (2, 1), (3, 1)]) := by kernel_rfl
@[simp] theorem qL26 : qLoad Tryz.prog 26 = some (some 4) := by kernel_rfl
@[simp] theorem qS26 : qSize Tryz.prog 26 = some 4 := by kernel_rfl
@[simp] theorem qZ26 : qZero Tryz.prog 26 = some [.int .i64 0, .slice none 0 0, .slice none 0 0, .slice none 0 0] := by kernel_rfl
@[simp] theorem qF26_0 : qField Tryz.prog 26 0 = some (0, none) := by kernel_rfl
@[simp] theorem qF26_1 : qField Tryz.prog 26 1 = some (1, none) := by kernel_rfl
@[simp] theorem qF26_2 : qField Tryz.prog 26 2 = some (2, none) := by kernel_rfl
@[simp] theorem qF26_3 : qField Tryz.prog 26 3 = some (3, none) := by kernel_rfl
@[simp] theorem qB26 : qBuild Tryz.prog 26 = some (#[.int .i64 0, .slice none 0 0, .slice none 0 0, .slice none 0 0], #[(0, 1), (1, 1), (2, 1), (3, 1)]) := by kernel_rfl
@[simp] theorem qL27 : qLoad Tryz.prog 27 = some none := by kernel_rfl
@[simp] theorem qS27 : qSize Tryz.prog 27 = some 1 := by kernel_rfl
@[simp] theorem qZ27 : qZero Tryz.prog 27 = some [.slice none 0 0] := by kernel_rfl
@[simp] theorem qE27 : qSlice Tryz.prog 27 = some (203, 2, 16) := by kernel_rfl
@[simp] theorem qN27 {S : St} {K : Value → Mem → Prop} {q : Option Addr} {m c : Nat} : lenK Tryz.prog S K 27 (.slice q m c) = K (.int .i64 (m : Int)) S.M := lenK_sl Tryz.underlying27
@[simp] theorem qI27 : (Tryz.prog.info? 203).any (fun i => i.zero.any fun z => z.cells.size == 2) = true := by kernel_rfl
@[simp] theorem qL28 : qLoad Tryz.prog 28 = some (some 3) := by kernel_rfl
@[simp] theorem qS28 : qSize Tryz.prog 28 = some 3 := by kernel_rfl
@[simp] theorem qZ28 : qZero Tryz.prog 28 = some [.int .i64 0, .slice none 0 0, .int .i64 0] := by kernel_rfl
@[simp] theorem qF28_0 : qField Tryz.prog 28 0 = some (0, none) := by kernel_rfl
@[simp] theorem qF28_1 : qField Tryz.prog 28 1 = some (1, none) := by kernel_rfl
@[simp] theorem qF28_2 : qField Tryz.prog 28 2 = some (2, none) := by kernel_rfl
@[simp] theorem qB28 : qBuild Tryz.prog 28 = some (#[.int .i64 0, .slice none 0 0, .int .i64 0], #[(0, 1), (1, 1), (2, 1)]) := by kernel_rfl
@[simp] theorem qL29 : qLoad Tryz.prog 29 = some (some 3) := by kernel_rfl
@[simp] theorem qS29 : qSize Tryz.prog 29 = some 3 := by kernel_rfl
@[simp] theorem qZ29 : qZero Tryz.prog 29 = some [.int .i64 0, .slice none 0 0, .int .i64 0] := by kernel_rfl
@[simp] theorem qF29_0 : qField Tryz.prog 29 0 = some (0, none) := by kernel_rfl
@[simp] theorem qF29_1 : qField Tryz.prog 29 1 = some (1, none) := by kernel_rfl
@[simp] theorem qF29_2 : qField Tryz.prog 29 2 = some (2, none) := by kernel_rfl
@[simp] theorem qB29 : qBuild Tryz.prog 29 = some (#[.int .i64 0, .slice none 0 0, .int .i64 0], #[(0, 1), (1, 1), (2, 1)]) := by kernel_rfl
@[simp] theorem qL30 : qLoad Tryz.prog 30 = some (some 8) := by kernel_rfl
@[simp] theorem qS30 : qSize Tryz.prog 30 = some 8 := by kernel_rfl
@[simp] theorem qZ30 : qZero Tryz.prog 30 = some [.int .i64 0, .slice none 0 0, .slice none 0 0, .slice none 0 0, .int .i64 0, .slice none 0 0, .int .i64 0, .slice none 0 0] := by kernel_rfl
@[simp] theorem qF30_0 : qField Tryz.prog 30 0 = some (0, some 4) := by kernel_rfl
@[simp] theorem qF30_1 : qField Tryz.prog 30 1 = some (4, some 3) := by kernel_rfl
@[simp] theorem qF30_2 : qField Tryz.prog 30 2 = some (7, none) := by kernel_rfl
@[simp] theorem qB30 : qBuild Tryz.prog 30 = some (#[.int .i64 0, .slice none 0 0, .slice none 0 0, .slice none 0 0, .int .i64 0, .slice none 0 0, .int .i64 0, .slice none 0 0], #[(0, 4), (4, 3), (7, 1)]) := by kernel_rfl
@[simp] theorem qL31 : qLoad Tryz.prog 31 = some (some 8) := by kernel_rfl
@[simp] theorem qS31 : qSize Tryz.prog 31 = some 8 := by kernel_rfl
@[simp] theorem qZ31 : qZero Tryz.prog 31 = some [.int .i64 0, .slice none 0 0, .slice none 0 0, .slice none 0 0, .int .i64 0, .slice none 0 0, .int .i64 0, .slice none 0 0] := by kernel_rfl
@[simp] theorem qF31_0 : qField Tryz.prog 31 0 = some (0, some 4) := by kernel_rfl
@[simp] theorem qF31_1 : qField Tryz.prog 31 1 = some (4, some 3) := by kernel_rfl
@[simp] theorem qF31_2 : qField Tryz.prog 31 2 = some (7, none) := by kernel_rfl
@[simp] theorem qB31 : qBuild Tryz.prog 31 = some (#[.int .i64 0, .slice none 0 0, .slice none 0 0, .slice none 0 0, .int .i64 0, .slice none 0 0, .int .i64 0, .slice none 0 0], #[(0, 4), (4, 3), (7, 1)]) := by kernel_rfl
@[simp] theorem qL32 : qLoad Tryz.prog 32 = some none := by kernel_rfl
@[simp] theorem qS32 : qSize Tryz.prog 32 = some 1 := by kernel_rfl
@[simp] theorem qZ32 : qZero Tryz.prog 32 = some [.slice none 0 0] := by kernel_rfl
@[simp] theorem qE32 : qSlice Tryz.prog 32 = some (92, 5, 40) := by kernel_rfl
@[simp] theorem qN32 {S : St} {K : Value → Mem → Prop} {q : Option Addr} {m c : Nat} : lenK Tryz.prog S K 32 (.slice q m c) = K (.int .i64 (m : Int)) S.M := lenK_sl Tryz.underlying32
@[simp] theorem qI32 : (Tryz.prog.info? 92).any (fun i => i.zero.any fun z => z.cells.size == 5) = true := by kernel_rfl
@[simp] theorem qL37 : qLoad Tryz.prog 37 = some none := by kernel_rfl
@[simp] theorem qS37 : qSize Tryz.prog 37 = some 1 := by kernel_rfl
@[simp] theorem qZ37 : qZero Tryz.prog 37 = some [.slice none 0 0] := by kernel_rfl
@[simp] theorem qE37 : qSlice Tryz.prog 37 = some (198, 4, 48) := by kernel_rfl
@[simp] theorem qN37 {S : St} {K : Value → Mem → Prop} {q : Option Addr} {m c : Nat} : lenK Tryz.prog S K 37 (.slice q m c) = K (.int .i64 (m : Int)) S.M := lenK_sl Tryz.underlying37
@[simp] theorem qI37 : (Tryz.prog.info? 198).any (fun i => i.zero.any fun z => z.cells.size == 4) = true := by kernel_rfl
@[simp] theorem qL38 : qLoad Tryz.prog 38 = some (some 4) := by kernel_rfl
@[simp] theorem qS38 : qSize Tryz.prog 38 = some 4 := by kernel_rfl
@[simp] theorem qZ38 : qZero Tryz.prog 38 = some [.int .i64 0, .slice none 0 0, .slice none 0 0, .slice none 0 0] := by kernel_rfl
@[simp] theorem qF38_0 : qField Tryz.prog 38 0 = some (0, none) := by kernel_rfl
@[simp] theorem qF38_1 : qField Tryz.prog 38 1 = some (1, none) := by kernel_rfl
@[simp] theorem qF38_2 : qField Tryz.prog 38 2 = some (2, none) := by kernel_rfl
@[simp] theorem qF38_3 : qField Tryz.prog 38 3 = some (3, none) := by kernel_rfl
@[simp] theorem qB38 : qBuild Tryz.prog 38 = some (#[.int .i64 0, .slice none 0 0, .slice none 0 0, .slice none 0 0], #[(0, 1), (1, 1), (2, 1), (3, 1)]) := by kernel_rfl
@[simp] theorem qL39 : qLoad Tryz.prog 39 = some (some 4) := by kernel_rfl
@[simp] theorem qS39 : qSize Tryz.prog 39 = some 4 := by kernel_rfl
@[simp] theorem qZ39 : qZero Tryz.prog 39 = some [.int .i64 0, .slice none 0 0, .slice none 0 0, .slice none 0 0] := by kernel_rfl
@[simp] theorem qF39_0 : qField Tryz.prog 39 0 = some (0, none) := by kernel_rfl
@[simp] theorem qF39_1 : qField Tryz.prog 39 1 = some (1, none) := by kernel_rfl
@[simp] theorem qF39_2 : qField Tryz.prog 39 2 = some (2, none) := by kernel_rfl
@[simp] theorem qF39_3 : qField Tryz.prog 39 3 = some (3, none) := by kernel_rfl
@[simp] theorem qB39 : qBuild Tryz.prog 39 = some (#[.int .i64 0, .slice none 0 0, .slice none 0 0, .slice none 0 0], #[(0, 1), (1, 1), (2, 1), (3, 1)]) := by kernel_rfl
@[simp] theorem qL40 : qLoad Tryz.prog 40 = some none := by kernel_rfl
@[simp] theorem qS40 : qSize Tryz.prog 40 = some 1 := by kernel_rfl
@[simp] theorem qZ40 : qZero Tryz.prog 40 = some [.slice none 0 0] := by kernel_rfl
@[simp] theorem qE40 : qSlice Tryz.prog 40 = some (201, 2, 16) := by kernel_rfl
@[simp] theorem qN40 {S : St} {K : Value → Mem → Prop} {q : Option Addr} {m c : Nat} : lenK Tryz.prog S K 40 (.slice q m c) = K (.int .i64 (m : Int)) S.M := lenK_sl Tryz.underlying40
@[simp] theorem qI40 : (Tryz.prog.info? 201).any (fun i => i.zero.any fun z => z.cells.size == 2) = true := by kernel_rfl
@[simp] theorem qL41 : qLoad Tryz.prog 41 = some (some 3) := by kernel_rfl
@[simp] theorem qS41 : qSize Tryz.prog 41 = some 3 := by kernel_rfl
@[simp] theorem qZ41 : qZero Tryz.prog 41 = some [.int .i64 0, .slice none 0 0, .int .i64 0] := by kernel_rfl
@[simp] theorem qF41_0 : qField Tryz.prog 41 0 = some (0, none) := by kernel_rfl
@[simp] theorem qF41_1 : qField Tryz.prog 41 1 = some (1, none) := by kernel_rfl
@[simp] theorem qF41_2 : qField Tryz.prog 41 2 = some (2, none) := by kernel_rfl
@[simp] theorem qB41 : qBuild Tryz.prog 41 = some (#[.int .i64 0, .slice none 0 0, .int .i64 0], #[(0, 1), (1, 1), (2, 1)]) := by kernel_rfl
@[simp] theorem qL42 : qLoad Tryz.prog 42 = some (some 3) := by kernel_rfl
@[simp] theorem qS42 : qSize Tryz.prog 42 = some 3 := by kernel_rfl
@[simp] theorem qZ42 : qZero Tryz.prog 42 = some [.int .i64 0, .slice none 0 0, .int .i64 0] := by kernel_rfl
@[simp] theorem qF42_0 : qField Tryz.prog 42 0 = some (0, none) := by kernel_rfl
@[simp] theorem qF42_1 : qField Tryz.prog 42 1 = some (1, none) := by kernel_rfl
@[simp] theorem qF42_2 : qField Tryz.prog 42 2 = some (2, none) := by kernel_rfl
@[simp] theorem qB42 : qBuild Tryz.prog 42 = some (#[.int .i64 0, .slice none 0 0, .int .i64 0], #[(0, 1), (1, 1), (2, 1)]) := by kernel_rfl
@[simp] theorem qL43 : qLoad Tryz.prog 43 = some (some 8) := by kernel_rfl
@[simp] theorem qS43 : qSize Tryz.prog 43 = some 8 := by kernel_rfl
@[simp] theorem qZ43 : qZero Tryz.prog 43 = some [.int .i64 0, .slice none 0 0, .slice none 0 0, .slice none 0 0, .int .i64 0, .slice none 0 0, .int .i64 0, .slice none 0 0] := by kernel_rfl
@[simp] theorem qF43_0 : qField Tryz.prog 43 0 = some (0, some 4) := by kernel_rfl
@[simp] theorem qF43_1 : qField Tryz.prog 43 1 = some (4, some 3) := by kernel_rfl
@[simp] theorem qF43_2 : qField Tryz.prog 43 2 = some (7, none) := by kernel_rfl
@[simp] theorem qB43 : qBuild Tryz.prog 43 = some (#[.int .i64 0, .slice none 0 0, .slice none 0 0, .slice none 0 0, .int .i64 0, .slice none 0 0, .int .i64 0, .slice none 0 0], #[(0, 4), (4, 3), (7, 1)]) := by kernel_rfl
@[simp] theorem qL44 : qLoad Tryz.prog 44 = some (some 8) := by kernel_rfl
@[simp] theorem qS44 : qSize Tryz.prog 44 = some 8 := by kernel_rfl
@[simp] theorem qZ44 : qZero Tryz.prog 44 = some [.int .i64 0, .slice none 0 0, .slice none 0 0, .slice none 0 0, .int .i64 0, .slice none 0 0, .int .i64 0, .slice none 0 0] := by kernel_rfl
@[simp] theorem qF44_0 : qField Tryz.prog 44 0 = some (0, some 4) := by kernel_rfl
@[simp] theorem qF44_1 : qField Tryz.prog 44 1 = some (4, some 3) := by kernel_rfl
@[simp] theorem qF44_2 : qField Tryz.prog 44 2 = some (7, none) := by kernel_rfl
@[simp] theorem qB44 : qBuild Tryz.prog 44 = some (#[.int .i64 0, .slice none 0 0, .slice none 0 0, .slice none 0 0, .int .i64 0, .slice none 0 0, .int .i64 0, .slice none 0 0], #[(0, 4), (4, 3), (7, 1)]) := by kernel_rfl
@[simp] theorem qL46 : qLoad Tryz.prog 46 = some none := by kernel_rfl
@[simp] theorem qS46 : qSize Tryz.prog 46 = some 1 := by kernel_rfl
@[simp] theorem qZ46 : qZero Tryz.prog 46 = some [.slice none 0 0] := by kernel_rfl
@[simp] theorem qE46 : qSlice Tryz.prog 46 = some (90, 5, 40) := by kernel_rfl
@[simp] theorem qN46 {S : St} {K : Value → Mem → Prop} {q : Option Addr} {m c : Nat} : lenK Tryz.prog S K 46 (.slice q m c) = K (.int .i64 (m : Int)) S.M := lenK_sl Tryz.underlying46
@[simp] theorem qI46 : (Tryz.prog.info? 90).any (fun i => i.zero.any fun z => z.cells.size == 5) = true := by kernel_rfl
@[simp] theorem qL59 : qLoad Tryz.prog 59 = some none := by kernel_rfl
@[simp] theorem qS59 : qSize Tryz.prog 59 = some 1 := by kernel_rfl
@[simp] theorem qZ59 : qZero Tryz.prog 59 = some [.slice none 0 0] := by kernel_rfl
@[simp] theorem qE59 : qSlice Tryz.prog 59 = some (167, 7, 56) := by kernel_rfl
@[simp] theorem qN59 {S : St} {K : Value → Mem → Prop} {q : Option Addr} {m c : Nat} : lenK Tryz.prog S K 59 (.slice q m c) = K (.int .i64 (m : Int)) S.M := lenK_sl Tryz.underlying59
@[simp] theorem qI59 : (Tryz.prog.info? 167).any (fun i => i.zero.any fun z => z.cells.size == 7) = true := by kernel_rfl
@[simp] theorem qL60 : qLoad Tryz.prog 60 = some (some 1) := by kernel_rfl
@[simp] theorem qS60 : qSize Tryz.prog 60 = some 1 := by kernel_rfl
@[simp] theorem qZ60 : qZero Tryz.prog 60 = some [.slice none 0 0] := by kernel_rfl
@[simp] theorem qF60_0 : qField Tryz.prog 60 0 = some (0, none) := by kernel_rfl
@[simp] theorem qB60 : qBuild Tryz.prog 60 = some (#[.slice none 0 0], #[(0, 1)]) := by kernel_rfl
@[simp] theorem qL61 : qLoad Tryz.prog 61 = some (some 1) := by kernel_rfl
@[simp] theorem qS61 : qSize Tryz.prog 61 = some 1 := by kernel_rfl
@[simp] theorem qZ61 : qZero Tryz.prog 61 = some [.slice none 0 0] := by kernel_rfl
@[simp] theorem qF61_0 : qField Tryz.prog 61 0 = some (0, none) := by kernel_rfl
@[simp] theorem qB61 : qBuild Tryz.prog 61 = some (#[.slice none 0 0], #[(0, 1)]) := by kernel_rfl
@[simp] theorem qL62 : qLoad Tryz.prog 62 = some none := by kernel_rfl
@[simp] theorem qS62 : qSize Tryz.prog 62 = some 1 := by kernel_rfl
@[simp] theorem qZ62 : qZero Tryz.prog 62 = some [.slice none 0 0] := by kernel_rfl
@[simp] theorem qE62 : qSlice Tryz.prog 62 = some (172, 3, 24) := by kernel_rfl
@[simp] theorem qN62 {S : St} {K : Value → Mem → Prop} {q : Option Addr} {m c : Nat} : lenK Tryz.prog S K 62 (.slice q m c) = K (.int .i64 (m : Int)) S.M := lenK_sl Tryz.underlying62
@[simp] theorem qI62 : (Tryz.prog.info? 172).any (fun i => i.zero.any fun z => z.cells.size == 3) = true := by kernel_rfl
@[simp] theorem qL63 : qLoad Tryz.prog 63 = some (some 1) := by kernel_rfl
@[simp] theorem qS63 : qSize Tryz.prog 63 = some 1 := by kernel_rfl
@[simp] theorem qZ63 : qZero Tryz.prog 63 = some [.slice none 0 0] := by kernel_rfl
@[simp] theorem qF63_0 : qField Tryz.prog 63 0 = some (0, none) := by kernel_rfl
@[simp] theorem qB63 : qBuild Tryz.prog 63 = some (#[.slice none 0 0], #[(0, 1)]) := by kernel_rfl
@[simp] theorem qL64 : qLoad Tryz.prog 64 = some (some 1) := by kernel_rfl
@[simp] theorem qS64 : qSize Tryz.prog 64 = some 1 := by kernel_rfl
@[simp] theorem qZ64 : qZero Tryz.prog 64 = some [.slice none 0 0] := by kernel_rfl
@[simp] theorem qF64_0 : qField Tryz.prog 64 0 = some (0, none) := by kernel_rfl
@[simp] theorem qB64 : qBuild Tryz.prog 64 = some (#[.slice none 0 0], #[(0, 1)]) := by kernel_rfl
@[simp] theorem qL68 : qLoad Tryz.prog 68 = some none := by kernel_rfl
@[simp] theorem qS68 : qSize Tryz.prog 68 = some 1 := by kernel_rfl
@[simp] theorem qZ68 : qZero Tryz.prog 68 = some [.slice none 0 0] := by kernel_rfl
@[simp] theorem qE68 : qSlice Tryz.prog 68 = some (154, 7, 56) := by kernel_rfl
@[simp] theorem qN68 {S : St} {K : Value → Mem → Prop} {q : Option Addr} {m c : Nat} : lenK Tryz.prog S K 68 (.slice q m c) = K (.int .i64 (m : Int)) S.M := lenK_sl Tryz.underlying68
@[simp] theorem qI68 : (Tryz.prog.info? 154).any (fun i => i.zero.any fun z => z.cells.size == 7) = true := by kernel_rfl
@[simp] theorem qL69 : qLoad Tryz.prog 69 = some (some 1) := by kernel_rfl
@[simp] theorem qS69 : qSize Tryz.prog 69 = some 1 := by kernel_rfl
@[simp] theorem qZ69 : qZero Tryz.prog 69 = some [.slice none 0 0] := by kernel_rfl
@[simp] theorem qF69_0 : qField Tryz.prog 69 0 = some (0, none) := by kernel_rfl
@[simp] theorem qB69 : qBuild Tryz.prog 69 = some (#[.slice none 0 0], #[(0, 1)]) := by kernel_rfl
@[simp] theorem qL70 : qLoad Tryz.prog 70 = some (some 1) := by kernel_rfl
@[simp] theorem qS70 : qSize Tryz.prog 70 = some 1 := by kernel_rfl
@[simp] theorem qZ70 : qZero Tryz.prog 70 = some [.slice none 0 0] := by kernel_rfl
@[simp] theorem qF70_0 : qField Tryz.prog 70 0 = some (0, none) := by kernel_rfl
@[simp] theorem qB70 : qBuild Tryz.prog 70 = some (#[.slice none 0 0], #[(0, 1)]) := by kernel_rfl
@[simp] theorem qL72 : qLoad Tryz.prog 72 = some none := by kernel_rfl
@[simp] theorem qS72 : qSize Tryz.prog 72 = some 1 := by kernel_rfl
@[simp] theorem qZ72 : qZero Tryz.prog 72 = some [.slice none 0 0] := by kernel_rfl
@[simp] theorem qE72 : qSlice Tryz.prog 72 = some (169, 3, 24) := by kernel_rfl
@[simp] theorem qN72 {S : St} {K : Value → Mem → Prop} {q : Option Addr} {m c : Nat} : lenK Tryz.prog S K 72 (.slice q m c) = K (.int .i64 (m : Int)) S.M := lenK_sl Tryz.underlying72
@[simp] theorem qI72 : (Tryz.prog.info? 169).any (fun i => i.zero.any fun z => z.cells.size == 3) = true := by kernel_rfl
@[simp] theorem qL73 : qLoad Tryz.prog 73 = some (some 1) := by kernel_rfl
@[simp] theorem qS73 : qSize Tryz.prog 73 = some 1 := by kernel_rfl
@[simp] theorem qZ73 : qZero Tryz.prog 73 = some [.slice none 0 0] := by kernel_rfl
@[simp] theorem qF73_0 : qField Tryz.prog 73 0 = some (0, none) := by kernel_rfl
@[simp] theorem qB73 : qBuild Tryz.prog 73 = some (#[.slice none 0 0], #[(0, 1)]) := by kernel_rfl
@[simp] theorem qL74 : qLoad Tryz.prog 74 = some (some 1) := by kernel_rfl
@[simp] theorem qS74 : qSize Tryz.prog 74 = some 1 := by kernel_rfl
@[simp] theorem qZ74 : qZero Tryz.prog 74 = some [.slice none 0 0] := by kernel_rfl
@[simp] theorem qF74_0 : qField Tryz.prog 74 0 = some (0, none) := by kernel_rfl
@[simp] theorem qB74 : qBuild Tryz.prog 74 = some (#[.slice none 0 0], #[(0, 1)]) := by kernel_rfl
@[simp] theorem qL84 : qLoad Tryz.prog 84 = some none := by kernel_rfl
@[simp] theorem qS84 : qSize Tryz.prog 84 = some 1 := by kernel_rfl
@[simp] theorem qZ84 : qZero Tryz.prog 84 = some [.pointer none] := by kernel_rfl
@[simp] theorem qL89 : qLoad Tryz.prog 89 = some (some 5) := by kernel_rfl
@[simp] theorem qS89 : qSize Tryz.prog 89 = some 5 := by kernel_rfl
@[simp] theorem qZ89 : qZero Tryz.prog 89 = some [.int .i64 0, .int .i64 0, .int .i64 0, .int .i64 0, .int .i64 0] := by kernel_rfl
@[simp] theorem qF89_0 : qField Tryz.prog 89 0 = some (0, none) := by kernel_rfl
@[simp] theorem qF89_1 : qField Tryz.prog 89 1 = some (1, none) := by kernel_rfl
@[simp] theorem qF89_2 : qField Tryz.prog 89 2 = some (2, none) := by kernel_rfl
@[simp] theorem qF89_3 : qField Tryz.prog 89 3 = some (3, none) := by kernel_rfl
@[simp] theorem qF89_4 : qField Tryz.prog 89 4 = some (4, none) := by kernel_rfl
@[simp] theorem qB89 : qBuild Tryz.prog 89 = some (#[.int .i64 0, .int .i64 0, .int .i64 0, .int .i64 0, .int .i64 0], #[(0, 1), (1, 1), (2, 1), (3, 1), (4, 1)]) := by kernel_rfl
@[simp] theorem qL90 : qLoad Tryz.prog 90 = some (some 5) := by kernel_rfl
@[simp] theorem qS90 : qSize Tryz.prog 90 = some 5 := by kernel_rfl
@[simp] theorem qZ90 : qZero Tryz.prog 90 = some [.int .i64 0, .int .i64 0, .int .i64 0, .int .i64 0, .int .i64 0] := by kernel_rfl
@[simp] theorem qF90_0 : qField Tryz.prog 90 0 = some (0, none) := by kernel_rfl
@[simp] theorem qF90_1 : qField Tryz.prog 90 1 = some (1, none) := by kernel_rfl
@[simp] theorem qF90_2 : qField Tryz.prog 90 2 = some (2, none) := by kernel_rfl
@[simp] theorem qF90_3 : qField Tryz.prog 90 3 = some (3, none) := by kernel_rfl
@[simp] theorem qF90_4 : qField Tryz.prog 90 4 = some (4, none) := by kernel_rfl
@[simp] theorem qB90 : qBuild Tryz.prog 90 = some (#[.int .i64 0, .int .i64 0, .int .i64 0, .int .i64 0, .int .i64 0], #[(0, 1), (1, 1), (2, 1), (3, 1), (4, 1)]) := by kernel_rfl
@[simp] theorem qL92 : qLoad Tryz.prog 92 = some (some 5) := by kernel_rfl
@[simp] theorem qS92 : qSize Tryz.prog 92 = some 5 := by kernel_rfl
@[simp] theorem qZ92 : qZero Tryz.prog 92 = some [.int .i64 0, .int .i64 0, .int .i64 0, .int .i64 0, .int .i64 0] := by kernel_rfl
@[simp] theorem qF92_0 : qField Tryz.prog 92 0 = some (0, none) := by kernel_rfl
@[simp] theorem qF92_1 : qField Tryz.prog 92 1 = some (1, none) := by kernel_rfl
@[simp] theorem qF92_2 : qField Tryz.prog 92 2 = some (2, none) := by kernel_rfl
@[simp] theorem qF92_3 : qField Tryz.prog 92 3 = some (3, none) := by kernel_rfl
@[simp] theorem qF92_4 : qField Tryz.prog 92 4 = some (4, none) := by kernel_rfl
@[simp] theorem qB92 : qBuild Tryz.prog 92 = some (#[.int .i64 0, .int .i64 0, .int .i64 0, .int .i64 0, .int .i64 0], #[(0, 1), (1, 1), (2, 1), (3, 1), (4, 1)]) := by kernel_rfl
@[simp] theorem qL106 : qLoad Tryz.prog 106 = some none := by kernel_rfl
@[simp] theorem qS106 : qSize Tryz.prog 106 = some 1 := by kernel_rfl
@[simp] theorem qZ106 : qZero Tryz.prog 106 = some [.pointer none] := by kernel_rfl
@[simp] theorem qL108 : qLoad Tryz.prog 108 = some none := by kernel_rfl
@[simp] theorem qS108 : qSize Tryz.prog 108 = some 1 := by kernel_rfl
@[simp] theorem qZ108 : qZero Tryz.prog 108 = some [.pointer none] := by kernel_rfl
@[simp] theorem qL127 : qLoad Tryz.prog 127 = some none := by kernel_rfl
@[simp] theorem qS127 : qSize Tryz.prog 127 = some 1 := by kernel_rfl
@[simp] theorem qZ127 : qZero Tryz.prog 127 = some [.pointer none] := by kernel_rfl
@[simp] theorem qL130 : qLoad Tryz.prog 130 = some none := by kernel_rfl
@[simp] theorem qS130 : qSize Tryz.prog 130 = some 1 := by kernel_rfl
@[simp] theorem qZ130 : qZero Tryz.prog 130 = some [.pointer none] := by kernel_rfl
@[simp] theorem qL141 : qLoad Tryz.prog 141 = some none := by kernel_rfl
@[simp] theorem qS141 : qSize Tryz.prog 141 = some 1 := by kernel_rfl
@[simp] theorem qZ141 : qZero Tryz.prog 141 = some [.pointer none] := by kernel_rfl
@[simp] theorem qL150 : qLoad Tryz.prog 150 = some none := by kernel_rfl
@[simp] theorem qS150 : qSize Tryz.prog 150 = some 1 := by kernel_rfl
@[simp] theorem qZ150 : qZero Tryz.prog 150 = some [.pointer none] := by kernel_rfl
@[simp] theorem qL151 : qLoad Tryz.prog 151 = some (some 2) := by kernel_rfl
@[simp] theorem qS151 : qSize Tryz.prog 151 = some 2 := by kernel_rfl
@[simp] theorem qZ151 : qZero Tryz.prog 151 = some [.int .i64 0, .int .i64 0] := by kernel_rfl
@[simp] theorem qF151_0 : qField Tryz.prog 151 0 = some (0, none) := by kernel_rfl
@[simp] theorem qF151_1 : qField Tryz.prog 151 1 = some (1, none) := by kernel_rfl
@[simp] theorem qB151 : qBuild Tryz.prog 151 = some (#[.int .i64 0, .int .i64 0], #[(0, 1), (1, 1)]) := by kernel_rfl
@[simp] theorem qL152 : qLoad Tryz.prog 152 = some (some 2) := by kernel_rfl
@[simp] theorem qS152 : qSize Tryz.prog 152 = some 2 := by kernel_rfl
@[simp] theorem qZ152 : qZero Tryz.prog 152 = some [.int .i64 0, .int .i64 0] := by kernel_rfl
@[simp] theorem qF152_0 : qField Tryz.prog 152 0 = some (0, none) := by kernel_rfl
@[simp] theorem qF152_1 : qField Tryz.prog 152 1 = some (1, none) := by kernel_rfl
@[simp] theorem qB152 : qBuild Tryz.prog 152 = some (#[.int .i64 0, .int .i64 0], #[(0, 1), (1, 1)]) := by kernel_rfl
@[simp] theorem qL153 : qLoad Tryz.prog 153 = some (some 7) := by kernel_rfl
@[simp] theorem qS153 : qSize Tryz.prog 153 = some 7 := by kernel_rfl
@[simp] theorem qZ153 : qZero Tryz.prog 153 = some [.int .i64 0, .int .i64 0, .int .i64 0, .int .i64 0, .int .i64 0, .int .i64 0, .int .i64 0] := by kernel_rfl
@[simp] theorem qF153_0 : qField Tryz.prog 153 0 = some (0, some 2) := by kernel_rfl
@[simp] theorem qF153_1 : qField Tryz.prog 153 1 = some (2, some 2) := by kernel_rfl
@[simp] theorem qF153_2 : qField Tryz.prog 153 2 = some (4, none) := by kernel_rfl
@[simp] theorem qF153_3 : qField Tryz.prog 153 3 = some (5, none) := by kernel_rfl
@[simp] theorem qF153_4 : qField Tryz.prog 153 4 = some (6, none) := by kernel_rfl
@[simp] theorem qB153 : qBuild Tryz.prog 153 = some (#[.int .i64 0, .int .i64 0, .int .i64 0, .int .i64 0, .int .i64 0, .int .i64 0, .int .i64 0], #[(0, 2), (2, 2), (4, 1), (5, 1), (6, 1)]) := by kernel_rfl
@[simp] theorem qL154 : qLoad Tryz.prog 154 = some (some 7) := by kernel_rfl
@[simp] theorem qS154 : qSize Tryz.prog 154 = some 7 := by kernel_rfl
@[simp] theorem qZ154 : qZero Tryz.prog 154 = some [.int .i64 0, .int .i64 0, .int .i64 0, .int .i64 0, .int .i64 0, .int .i64 0, .int .i64 0] := by kernel_rfl
@[simp] theorem qF154_0 : qField Tryz.prog 154 0 = some (0, some 2) := by kernel_rfl
@[simp] theorem qF154_1 : qField Tryz.prog 154 1 = some (2, some 2) := by kernel_rfl
@[simp] theorem qF154_2 : qField Tryz.prog 154 2 = some (4, none) := by kernel_rfl
@[simp] theorem qF154_3 : qField Tryz.prog 154 3 = some (5, none) := by kernel_rfl
@[simp] theorem qF154_4 : qField Tryz.prog 154 4 = some (6, none) := by kernel_rfl
@[simp] theorem qB154 : qBuild Tryz.prog 154 = some (#[.int .i64 0, .int .i64 0, .int .i64 0, .int .i64 0, .int .i64 0, .int .i64 0, .int .i64 0], #[(0, 2), (2, 2), (4, 1), (5, 1), (6, 1)]) := by kernel_rfl
@[simp] theorem qL156 : qLoad Tryz.prog 156 = some none := by kernel_rfl
@[simp] theorem qS156 : qSize Tryz.prog 156 = some 1 := by kernel_rfl
@[simp] theorem qZ156 : qZero Tryz.prog 156 = some [.slice none 0 0] := by kernel_rfl
@[simp] theorem qE156 : qSlice Tryz.prog 156 = some (152, 2, 16) := by kernel_rfl
@[simp] theorem qN156 {S : St} {K : Value → Mem → Prop} {q : Option Addr} {m c : Nat} : lenK Tryz.prog S K 156 (.slice q m c) = K (.int .i64 (m : Int)) S.M := lenK_sl Tryz.underlying156
@[simp] theorem qI156 : (Tryz.prog.info? 152).any (fun i => i.zero.any fun z => z.cells.size == 2) = true := by kernel_rfl
@[simp] theorem qL165 : qLoad Tryz.prog 165 = some (some 2) := by kernel_rfl
@[simp] theorem qS165 : qSize Tryz.prog 165 = some 2 := by kernel_rfl
@[simp] theorem qZ165 : qZero Tryz.prog 165 = some [.int .i64 0, .int .i64 0] := by kernel_rfl
@[simp] theorem qF165_0 : qField Tryz.prog 165 0 = some (0, none) := by kernel_rfl
@[simp] theorem qF165_1 : qField Tryz.prog 165 1 = some (1, none) := by kernel_rfl
@[simp] theorem qB165 : qBuild Tryz.prog 165 = some (#[.int .i64 0, .int .i64 0], #[(0, 1), (1, 1)]) := by kernel_rfl
@[simp] theorem qL166 : qLoad Tryz.prog 166 = some (some 7) := by kernel_rfl
@[simp] theorem qS166 : qSize Tryz.prog 166 = some 7 := by kernel_rfl
@[simp] theorem qZ166 : qZero Tryz.prog 166 = some [.int .i64 0, .int .i64 0, .int .i64 0, .int .i64 0, .int .i64 0, .int .i64 0, .int .i64 0] := by kernel_rfl
@[simp] theorem qF166_0 : qField Tryz.prog 166 0 = some (0, some 2) := by kernel_rfl
@[simp] theorem qF166_1 : qField Tryz.prog 166 1 = some (2, some 2) := by kernel_rfl
@[simp] theorem qF166_2 : qField Tryz.prog 166 2 = some (4, none) := by kernel_rfl
@[simp] theorem qF166_3 : qField Tryz.prog 166 3 = some (5, none) := by kernel_rfl
@[simp] theorem qF166_4 : qField Tryz.prog 166 4 = some (6, none) := by kernel_rfl
@[simp] theorem qB166 : qBuild Tryz.prog 166 = some (#[.int .i64 0, .int .i64 0, .int .i64 0, .int .i64 0, .int .i64 0, .int .i64 0, .int .i64 0], #[(0, 2), (2, 2), (4, 1), (5, 1), (6, 1)]) := by kernel_rfl
@[simp] theorem qL167 : qLoad Tryz.prog 167 = some (some 7) := by kernel_rfl
@[simp] theorem qS167 : qSize Tryz.prog 167 = some 7 := by kernel_rfl
@[simp] theorem qZ167 : qZero Tryz.prog 167 = some [.int .i64 0, .int .i64 0, .int .i64 0, .int .i64 0, .int .i64 0, .int .i64 0, .int .i64 0] := by kernel_rfl
@[simp] theorem qF167_0 : qField Tryz.prog 167 0 = some (0, some 2) := by kernel_rfl
@[simp] theorem qF167_1 : qField Tryz.prog 167 1 = some (2, some 2) := by kernel_rfl
@[simp] theorem qF167_2 : qField Tryz.prog 167 2 = some (4, none) := by kernel_rfl
@[simp] theorem qF167_3 : qField Tryz.prog 167 3 = some (5, none) := by kernel_rfl
@[simp] theorem qF167_4 : qField Tryz.prog 167 4 = some (6, none) := by kernel_rfl
@[simp] theorem qB167 : qBuild Tryz.prog 167 = some (#[.int .i64 0, .int .i64 0, .int .i64 0, .int .i64 0, .int .i64 0, .int .i64 0, .int .i64 0], #[(0, 2), (2, 2), (4, 1), (5, 1), (6, 1)]) := by kernel_rfl
@[simp] theorem qL168 : qLoad Tryz.prog 168 = some (some 3) := by kernel_rfl
@[simp] theorem qS168 : qSize Tryz.prog 168 = some 3 := by kernel_rfl
@[simp] theorem qZ168 : qZero Tryz.prog 168 = some [.int .i64 0, .int .i64 0, .int .i64 0] := by kernel_rfl
@[simp] theorem qF168_0 : qField Tryz.prog 168 0 = some (0, some 2) := by kernel_rfl
@[simp] theorem qF168_1 : qField Tryz.prog 168 1 = some (2, none) := by kernel_rfl
@[simp] theorem qB168 : qBuild Tryz.prog 168 = some (#[.int .i64 0, .int .i64 0, .int .i64 0], #[(0, 2), (2, 1)]) := by kernel_rfl
@[simp] theorem qL169 : qLoad Tryz.prog 169 = some (some 3) := by kernel_rfl
@[simp] theorem qS169 : qSize Tryz.prog 169 = some 3 := by kernel_rfl
@[simp] theorem qZ169 : qZero Tryz.prog 169 = some [.int .i64 0, .int .i64 0, .int .i64 0] := by kernel_rfl
@[simp] theorem qF169_0 : qField Tryz.prog 169 0 = some (0, some 2) := by kernel_rfl
@[simp] theorem qF169_1 : qField Tryz.prog 169 1 = some (2, none) := by kernel_rfl
@[simp] theorem qB169 : qBuild Tryz.prog 169 = some (#[.int .i64 0, .int .i64 0, .int .i64 0], #[(0, 2), (2, 1)]) := by kernel_rfl
@[simp] theorem qL171 : qLoad Tryz.prog 171 = some (some 3) := by kernel_rfl
@[simp] theorem qS171 : qSize Tryz.prog 171 = some 3 := by kernel_rfl
@[simp] theorem qZ171 : qZero Tryz.prog 171 = some [.int .i64 0, .int .i64 0, .int .i64 0] := by kernel_rfl
@[simp] theorem qF171_0 : qField Tryz.prog 171 0 = some (0, some 2) := by kernel_rfl
@[simp] theorem qF171_1 : qField Tryz.prog 171 1 = some (2, none) := by kernel_rfl
@[simp] theorem qB171 : qBuild Tryz.prog 171 = some (#[.int .i64 0, .int .i64 0, .int .i64 0], #[(0, 2), (2, 1)]) := by kernel_rfl
@[simp] theorem qL172 : qLoad Tryz.prog 172 = some (some 3) := by kernel_rfl
@[simp] theorem qS172 : qSize Tryz.prog 172 = some 3 := by kernel_rfl
@[simp] theorem qZ172 : qZero Tryz.prog 172 = some [.int .i64 0, .int .i64 0, .int .i64 0] := by kernel_rfl
@[simp] theorem qF172_0 : qField Tryz.prog 172 0 = some (0, some 2) := by kernel_rfl
@[simp] theorem qF172_1 : qField Tryz.prog 172 1 = some (2, none) := by kernel_rfl
@[simp] theorem qB172 : qBuild Tryz.prog 172 = some (#[.int .i64 0, .int .i64 0, .int .i64 0], #[(0, 2), (2, 1)]) := by kernel_rfl
@[simp] theorem qL182 : qLoad Tryz.prog 182 = some none := by kernel_rfl
@[simp] theorem qS182 : qSize Tryz.prog 182 = some 1 := by kernel_rfl
@[simp] theorem qZ182 : qZero Tryz.prog 182 = some [.pointer none] := by kernel_rfl
@[simp] theorem qL184 : qLoad Tryz.prog 184 = some none := by kernel_rfl
@[simp] theorem qS184 : qSize Tryz.prog 184 = some 1 := by kernel_rfl
@[simp] theorem qZ184 : qZero Tryz.prog 184 = some [.slice none 0 0] := by kernel_rfl
@[simp] theorem qE184 : qSlice Tryz.prog 184 = some (4, 1, 1) := by kernel_rfl
@[simp] theorem qN184 {S : St} {K : Value → Mem → Prop} {q : Option Addr} {m c : Nat} : lenK Tryz.prog S K 184 (.slice q m c) = K (.int .i64 (m : Int)) S.M := lenK_sl Tryz.underlying184
@[simp] theorem qI184 : (Tryz.prog.info? 4).any (fun i => i.zero.any fun z => z.cells.size == 1) = true := by kernel_rfl
@[simp] theorem qL185 : qLoad Tryz.prog 185 = some none := by kernel_rfl
@[simp] theorem qS185 : qSize Tryz.prog 185 = some 1 := by kernel_rfl
@[simp] theorem qZ185 : qZero Tryz.prog 185 = some [.slice none 0 0] := by kernel_rfl
@[simp] theorem qE185 : qSlice Tryz.prog 185 = some (3, 1, 8) := by kernel_rfl
@[simp] theorem qN185 {S : St} {K : Value → Mem → Prop} {q : Option Addr} {m c : Nat} : lenK Tryz.prog S K 185 (.slice q m c) = K (.int .i64 (m : Int)) S.M := lenK_sl Tryz.underlying185
@[simp] theorem qI185 : (Tryz.prog.info? 3).any (fun i => i.zero.any fun z => z.cells.size == 1) = true := by kernel_rfl
@[simp] theorem qL186 : qLoad Tryz.prog 186 = some (some 4) := by kernel_rfl
@[simp] theorem qS186 : qSize Tryz.prog 186 = some 4 := by kernel_rfl
@[simp] theorem qZ186 : qZero Tryz.prog 186 = some [.slice none 0 0, .slice none 0 0, .slice none 0 0, .int .i64 0] := by kernel_rfl
@[simp] theorem qF186_0 : qField Tryz.prog 186 0 = some (0, none) := by kernel_rfl
@[simp] theorem qF186_1 : qField Tryz.prog 186 1 = some (1, none) := by kernel_rfl
@[simp] theorem qF186_2 : qField Tryz.prog 186 2 = some (2, none) := by kernel_rfl
@[simp] theorem qF186_3 : qField Tryz.prog 186 3 = some (3, none) := by kernel_rfl
@[simp] theorem qB186 : qBuild Tryz.prog 186 = some (#[.slice none 0 0, .slice none 0 0, .slice none 0 0, .int .i64 0], #[(0, 1), (1, 1), (2, 1), (3, 1)]) := by kernel_rfl
@[simp] theorem qL187 : qLoad Tryz.prog 187 = some (some 4) := by kernel_rfl
@[simp] theorem qS187 : qSize Tryz.prog 187 = some 4 := by kernel_rfl
@[simp] theorem qZ187 : qZero Tryz.prog 187 = some [.slice none 0 0, .slice none 0 0, .slice none 0 0, .int .i64 0] := by kernel_rfl
@[simp] theorem qF187_0 : qField Tryz.prog 187 0 = some (0, none) := by kernel_rfl
@[simp] theorem qF187_1 : qField Tryz.prog 187 1 = some (1, none) := by kernel_rfl
@[simp] theorem qF187_2 : qField Tryz.prog 187 2 = some (2, none) := by kernel_rfl
@[simp] theorem qF187_3 : qField Tryz.prog 187 3 = some (3, none) := by kernel_rfl
@[simp] theorem qB187 : qBuild Tryz.prog 187 = some (#[.slice none 0 0, .slice none 0 0, .slice none 0 0, .int .i64 0], #[(0, 1), (1, 1), (2, 1), (3, 1)]) := by kernel_rfl
@[simp] theorem qL192 : qLoad Tryz.prog 192 = some (some 4) := by kernel_rfl
@[simp] theorem qS192 : qSize Tryz.prog 192 = some 4 := by kernel_rfl
@[simp] theorem qZ192 : qZero Tryz.prog 192 = some [.int .i64 0, .int .i64 0, .int .i64 0, .slice none 0 0] := by kernel_rfl
@[simp] theorem qF192_0 : qField Tryz.prog 192 0 = some (0, none) := by kernel_rfl
@[simp] theorem qF192_1 : qField Tryz.prog 192 1 = some (1, none) := by kernel_rfl
@[simp] theorem qF192_2 : qField Tryz.prog 192 2 = some (2, none) := by kernel_rfl
@[simp] theorem qF192_3 : qField Tryz.prog 192 3 = some (3, none) := by kernel_rfl
@[simp] theorem qB192 : qBuild Tryz.prog 192 = some (#[.int .i64 0, .int .i64 0, .int .i64 0, .slice none 0 0], #[(0, 1), (1, 1), (2, 1), (3, 1)]) := by kernel_rfl
@[simp] theorem qL193 : qLoad Tryz.prog 193 = some (some 4) := by kernel_rfl
@[simp] theorem qS193 : qSize Tryz.prog 193 = some 4 := by kernel_rfl
@[simp] theorem qZ193 : qZero Tryz.prog 193 = some [.int .i64 0, .int .i64 0, .int .i64 0, .slice none 0 0] := by kernel_rfl
@[simp] theorem qF193_0 : qField Tryz.prog 193 0 = some (0, none) := by kernel_rfl
@[simp] theorem qF193_1 : qField Tryz.prog 193 1 = some (1, none) := by kernel_rfl
@[simp] theorem qF193_2 : qField Tryz.prog 193 2 = some (2, none) := by kernel_rfl
@[simp] theorem qF193_3 : qField Tryz.prog 193 3 = some (3, none) := by kernel_rfl
@[simp] theorem qB193 : qBuild Tryz.prog 193 = some (#[.int .i64 0, .int .i64 0, .int .i64 0, .slice none 0 0], #[(0, 1), (1, 1), (2, 1), (3, 1)]) := by kernel_rfl
@[simp] theorem qL195 : qLoad Tryz.prog 195 = some none := by kernel_rfl
@[simp] theorem qS195 : qSize Tryz.prog 195 = some 1 := by kernel_rfl
@[simp] theorem qZ195 : qZero Tryz.prog 195 = some [.int .u64 0] := by kernel_rfl
@[simp] theorem qL198 : qLoad Tryz.prog 198 = some (some 4) := by kernel_rfl
@[simp] theorem qS198 : qSize Tryz.prog 198 = some 4 := by kernel_rfl
@[simp] theorem qZ198 : qZero Tryz.prog 198 = some [.int .i64 0, .int .i64 0, .int .i64 0, .slice none 0 0] := by kernel_rfl
@[simp] theorem qF198_0 : qField Tryz.prog 198 0 = some (0, none) := by kernel_rfl
@[simp] theorem qF198_1 : qField Tryz.prog 198 1 = some (1, none) := by kernel_rfl
@[simp] theorem qF198_2 : qField Tryz.prog 198 2 = some (2, none) := by kernel_rfl
@[simp] theorem qF198_3 : qField Tryz.prog 198 3 = some (3, none) := by kernel_rfl
@[simp] theorem qB198 : qBuild Tryz.prog 198 = some (#[.int .i64 0, .int .i64 0, .int .i64 0, .slice none 0 0], #[(0, 1), (1, 1), (2, 1), (3, 1)]) := by kernel_rfl
@[simp] theorem qL200 : qLoad Tryz.prog 200 = some (some 2) := by kernel_rfl
@[simp] theorem qS200 : qSize Tryz.prog 200 = some 2 := by kernel_rfl
@[simp] theorem qZ200 : qZero Tryz.prog 200 = some [.int .i64 0, .int .i64 0] := by kernel_rfl
@[simp] theorem qF200_0 : qField Tryz.prog 200 0 = some (0, none) := by kernel_rfl
@[simp] theorem qF200_1 : qField Tryz.prog 200 1 = some (1, none) := by kernel_rfl
@[simp] theorem qB200 : qBuild Tryz.prog 200 = some (#[.int .i64 0, .int .i64 0], #[(0, 1), (1, 1)]) := by kernel_rfl
@[simp] theorem qL201 : qLoad Tryz.prog 201 = some (some 2) := by kernel_rfl
@[simp] theorem qS201 : qSize Tryz.prog 201 = some 2 := by kernel_rfl
@[simp] theorem qZ201 : qZero Tryz.prog 201 = some [.int .i64 0, .int .i64 0] := by kernel_rfl
@[simp] theorem qF201_0 : qField Tryz.prog 201 0 = some (0, none) := by kernel_rfl
@[simp] theorem qF201_1 : qField Tryz.prog 201 1 = some (1, none) := by kernel_rfl
@[simp] theorem qB201 : qBuild Tryz.prog 201 = some (#[.int .i64 0, .int .i64 0], #[(0, 1), (1, 1)]) := by kernel_rfl
@[simp] theorem qL203 : qLoad Tryz.prog 203 = some (some 2) := by kernel_rfl
@[simp] theorem qS203 : qSize Tryz.prog 203 = some 2 := by kernel_rfl
@[simp] theorem qZ203 : qZero Tryz.prog 203 = some [.int .i64 0, .int .i64 0] := by kernel_rfl
@[simp] theorem qF203_0 : qField Tryz.prog 203 0 = some (0, none) := by kernel_rfl
@[simp] theorem qF203_1 : qField Tryz.prog 203 1 = some (1, none) := by kernel_rfl
@[simp] theorem qB203 : qBuild Tryz.prog 203 = some (#[.int .i64 0, .int .i64 0], #[(0, 1), (1, 1)]) := by kernel_rfl
@[simp] theorem qL208 : qLoad Tryz.prog 208 = some (some 1) := by kernel_rfl
@[simp] theorem qS208 : qSize Tryz.prog 208 = some 1 := by kernel_rfl
@[simp] theorem qZ208 : qZero Tryz.prog 208 = some [.slice none 0 0] := by kernel_rfl
@[simp] theorem qF208_0 : qField Tryz.prog 208 0 = some (0, none) := by kernel_rfl
@[simp] theorem qB208 : qBuild Tryz.prog 208 = some (#[.slice none 0 0], #[(0, 1)]) := by kernel_rfl
@[simp] theorem qL209 : qLoad Tryz.prog 209 = some (some 1) := by kernel_rfl
@[simp] theorem qS209 : qSize Tryz.prog 209 = some 1 := by kernel_rfl
@[simp] theorem qZ209 : qZero Tryz.prog 209 = some [.slice none 0 0] := by kernel_rfl
@[simp] theorem qF209_0 : qField Tryz.prog 209 0 = some (0, none) := by kernel_rfl
@[simp] theorem qB209 : qBuild Tryz.prog 209 = some (#[.slice none 0 0], #[(0, 1)]) := by kernel_rfl
@[simp] theorem qL212 : qLoad Tryz.prog 212 = some none := by kernel_rfl
@[simp] theorem qS212 : qSize Tryz.prog 212 = some 1 := by kernel_rfl
@[simp] theorem qZ212 : qZero Tryz.prog 212 = some [.pointer none] := by kernel_rfl
@[simp] theorem qL213 : qLoad Tryz.prog 213 = some none := by kernel_rfl
@[simp] theorem qS213 : qSize Tryz.prog 213 = some 1 := by kernel_rfl
@[simp] theorem qZ213 : qZero Tryz.prog 213 = some [.pointer none] := by kernel_rfl
@[simp] theorem qL235 : qLoad Tryz.prog 235 = some none := by kernel_rfl
@[simp] theorem qS235 : qSize Tryz.prog 235 = some 1 := by kernel_rfl
@[simp] theorem qZ235 : qZero Tryz.prog 235 = some [.pointer none] := by kernel_rfl
@[simp] theorem qL239 : qLoad Tryz.prog 239 = some (some 7) := by kernel_rfl
@[simp] theorem qS239 : qSize Tryz.prog 239 = some 7 := by kernel_rfl
@[simp] theorem qZ239 : qZero Tryz.prog 239 = some [.int .i64 0, .slice none 0 0, .slice none 0 0, .slice none 0 0, .slice none 0 0, .slice none 0 0, .slice none 0 0] := by kernel_rfl
@[simp] theorem qF239_0 : qField Tryz.prog 239 0 = some (0, some 4) := by kernel_rfl
@[simp] theorem qF239_1 : qField Tryz.prog 239 1 = some (4, none) := by kernel_rfl
@[simp] theorem qF239_2 : qField Tryz.prog 239 2 = some (5, none) := by kernel_rfl
@[simp] theorem qF239_3 : qField Tryz.prog 239 3 = some (6, none) := by kernel_rfl
@[simp] theorem qB239 : qBuild Tryz.prog 239 = some (#[.int .i64 0, .slice none 0 0, .slice none 0 0, .slice none 0 0, .slice none 0 0, .slice none 0 0, .slice none 0 0], #[(0, 4), (4, 1), (5, 1), (6, 1)]) := by kernel_rfl
@[simp] theorem qL240 : qLoad Tryz.prog 240 = some (some 7) := by kernel_rfl
@[simp] theorem qS240 : qSize Tryz.prog 240 = some 7 := by kernel_rfl
@[simp] theorem qZ240 : qZero Tryz.prog 240 = some [.int .i64 0, .slice none 0 0, .slice none 0 0, .slice none 0 0, .slice none 0 0, .slice none 0 0, .slice none 0 0] := by kernel_rfl
@[simp] theorem qF240_0 : qField Tryz.prog 240 0 = some (0, some 4) := by kernel_rfl
@[simp] theorem qF240_1 : qField Tryz.prog 240 1 = some (4, none) := by kernel_rfl
@[simp] theorem qF240_2 : qField Tryz.prog 240 2 = some (5, none) := by kernel_rfl
@[simp] theorem qF240_3 : qField Tryz.prog 240 3 = some (6, none) := by kernel_rfl
@[simp] theorem qB240 : qBuild Tryz.prog 240 = some (#[.int .i64 0, .slice none 0 0, .slice none 0 0, .slice none 0 0, .slice none 0 0, .slice none 0 0, .slice none 0 0], #[(0, 4), (4, 1), (5, 1), (6, 1)]) := by kernel_rfl
@[simp] theorem qL247 : qLoad Tryz.prog 247 = some none := by kernel_rfl
@[simp] theorem qS247 : qSize Tryz.prog 247 = some 1 := by kernel_rfl
@[simp] theorem qZ247 : qZero Tryz.prog 247 = some [.int .u64 0] := by kernel_rfl
@[simp] theorem qL263 : qLoad Tryz.prog 263 = some (some 6) := by kernel_rfl
@[simp] theorem qS263 : qSize Tryz.prog 263 = some 6 := by kernel_rfl
@[simp] theorem qZ263 : qZero Tryz.prog 263 = some [.string ByteArray.empty, .int .i64 0, .int .i64 0, .int .i64 0, .bool false, .bool false] := by kernel_rfl
@[simp] theorem qF263_0 : qField Tryz.prog 263 0 = some (0, none) := by kernel_rfl
@[simp] theorem qF263_1 : qField Tryz.prog 263 1 = some (1, none) := by kernel_rfl
@[simp] theorem qF263_2 : qField Tryz.prog 263 2 = some (2, none) := by kernel_rfl
@[simp] theorem qF263_3 : qField Tryz.prog 263 3 = some (3, none) := by kernel_rfl
@[simp] theorem qF263_4 : qField Tryz.prog 263 4 = some (4, none) := by kernel_rfl
@[simp] theorem qF263_5 : qField Tryz.prog 263 5 = some (5, none) := by kernel_rfl
@[simp] theorem qB263 : qBuild Tryz.prog 263 = some (#[.string ByteArray.empty, .int .i64 0, .int .i64 0, .int .i64 0, .bool false, .bool false], #[(0, 1), (1, 1), (2, 1), (3, 1), (4, 1), (5, 1)]) := by kernel_rfl
@[simp] theorem qL264 : qLoad Tryz.prog 264 = some (some 6) := by kernel_rfl
@[simp] theorem qS264 : qSize Tryz.prog 264 = some 6 := by kernel_rfl
@[simp] theorem qZ264 : qZero Tryz.prog 264 = some [.string ByteArray.empty, .int .i64 0, .int .i64 0, .int .i64 0, .bool false, .bool false] := by kernel_rfl
@[simp] theorem qF264_0 : qField Tryz.prog 264 0 = some (0, none) := by kernel_rfl
@[simp] theorem qF264_1 : qField Tryz.prog 264 1 = some (1, none) := by kernel_rfl
@[simp] theorem qF264_2 : qField Tryz.prog 264 2 = some (2, none) := by kernel_rfl
@[simp] theorem qF264_3 : qField Tryz.prog 264 3 = some (3, none) := by kernel_rfl
@[simp] theorem qF264_4 : qField Tryz.prog 264 4 = some (4, none) := by kernel_rfl
@[simp] theorem qF264_5 : qField Tryz.prog 264 5 = some (5, none) := by kernel_rfl
@[simp] theorem qB264 : qBuild Tryz.prog 264 = some (#[.string ByteArray.empty, .int .i64 0, .int .i64 0, .int .i64 0, .bool false, .bool false], #[(0, 1), (1, 1), (2, 1), (3, 1), (4, 1), (5, 1)]) := by kernel_rfl
@[simp] theorem qL265 : qLoad Tryz.prog 265 = some none := by kernel_rfl
@[simp] theorem qS265 : qSize Tryz.prog 265 = some 1 := by kernel_rfl
@[simp] theorem qZ265 : qZero Tryz.prog 265 = some [.slice none 0 0] := by kernel_rfl
@[simp] theorem qE265 : qSlice Tryz.prog 265 = some (264, 6, 48) := by kernel_rfl
@[simp] theorem qN265 {S : St} {K : Value → Mem → Prop} {q : Option Addr} {m c : Nat} : lenK Tryz.prog S K 265 (.slice q m c) = K (.int .i64 (m : Int)) S.M := lenK_sl Tryz.underlying265
@[simp] theorem qI265 : (Tryz.prog.info? 264).any (fun i => i.zero.any fun z => z.cells.size == 6) = true := by kernel_rfl
@[simp] theorem qL268 : qLoad Tryz.prog 268 = some none := by kernel_rfl
@[simp] theorem qS268 : qSize Tryz.prog 268 = some 1 := by kernel_rfl
@[simp] theorem qZ268 : qZero Tryz.prog 268 = some [.slice none 0 0] := by kernel_rfl
@[simp] theorem qE268 : qSlice Tryz.prog 268 = some (74, 1, 24) := by kernel_rfl
@[simp] theorem qN268 {S : St} {K : Value → Mem → Prop} {q : Option Addr} {m c : Nat} : lenK Tryz.prog S K 268 (.slice q m c) = K (.int .i64 (m : Int)) S.M := lenK_sl Tryz.underlying268
@[simp] theorem qI268 : (Tryz.prog.info? 74).any (fun i => i.zero.any fun z => z.cells.size == 1) = true := by kernel_rfl
@[simp] theorem qL270 : qLoad Tryz.prog 270 = some none := by kernel_rfl
@[simp] theorem qS270 : qSize Tryz.prog 270 = some 1 := by kernel_rfl
@[simp] theorem qZ270 : qZero Tryz.prog 270 = some [.int .u32 0] := by kernel_rfl
@[simp] theorem qL281 : qLoad Tryz.prog 281 = some none := by kernel_rfl
@[simp] theorem qS281 : qSize Tryz.prog 281 = some 1 := by kernel_rfl
@[simp] theorem qZ281 : qZero Tryz.prog 281 = some [.pointer none] := by kernel_rfl
@[simp] theorem qC2_2 {k : IntKind} {z : Int} : convV Tryz.prog 2 2 (.int k z) = some (.int .i64 (IntKind.i64.wrap z)) := convV_int Tryz.underlying2 Tryz.underlying2
@[simp] theorem qC2_3 {k : IntKind} {z : Int} : convV Tryz.prog 2 3 (.int k z) = some (.int .i64 (IntKind.i64.wrap z)) := convV_int Tryz.underlying2 Tryz.underlying3
@[simp] theorem qC2_5 {k : IntKind} {z : Int} : convV Tryz.prog 2 5 (.int k z) = some (.int .u8 (IntKind.u8.wrap z)) := convV_int Tryz.underlying2 Tryz.underlying5
@[simp] theorem qC2_12 {k : IntKind} {z : Int} : convV Tryz.prog 2 12 (.int k z) = some (.int .u64 (IntKind.u64.wrap z)) := convV_int Tryz.underlying2 Tryz.underlying12
@[simp] theorem qC2_21 {k : IntKind} {z : Int} : convV Tryz.prog 2 21 (.int k z) = some (.int .i32 (IntKind.i32.wrap z)) := convV_int Tryz.underlying2 Tryz.underlying21
@[simp] theorem qC2_195 {k : IntKind} {z : Int} : convV Tryz.prog 2 195 (.int k z) = some (.int .u64 (IntKind.u64.wrap z)) := convV_int Tryz.underlying2 Tryz.underlying195
@[simp] theorem qC2_247 {k : IntKind} {z : Int} : convV Tryz.prog 2 247 (.int k z) = some (.int .u64 (IntKind.u64.wrap z)) := convV_int Tryz.underlying2 Tryz.underlying247
@[simp] theorem qC2_270 {k : IntKind} {z : Int} : convV Tryz.prog 2 270 (.int k z) = some (.int .u32 (IntKind.u32.wrap z)) := convV_int Tryz.underlying2 Tryz.underlying270
@[simp] theorem qC3_2 {k : IntKind} {z : Int} : convV Tryz.prog 3 2 (.int k z) = some (.int .i64 (IntKind.i64.wrap z)) := convV_int Tryz.underlying3 Tryz.underlying2
@[simp] theorem qC3_3 {k : IntKind} {z : Int} : convV Tryz.prog 3 3 (.int k z) = some (.int .i64 (IntKind.i64.wrap z)) := convV_int Tryz.underlying3 Tryz.underlying3
@[simp] theorem qC3_5 {k : IntKind} {z : Int} : convV Tryz.prog 3 5 (.int k z) = some (.int .u8 (IntKind.u8.wrap z)) := convV_int Tryz.underlying3 Tryz.underlying5
@[simp] theorem qC3_12 {k : IntKind} {z : Int} : convV Tryz.prog 3 12 (.int k z) = some (.int .u64 (IntKind.u64.wrap z)) := convV_int Tryz.underlying3 Tryz.underlying12
@[simp] theorem qC3_21 {k : IntKind} {z : Int} : convV Tryz.prog 3 21 (.int k z) = some (.int .i32 (IntKind.i32.wrap z)) := convV_int Tryz.underlying3 Tryz.underlying21
@[simp] theorem qC3_195 {k : IntKind} {z : Int} : convV Tryz.prog 3 195 (.int k z) = some (.int .u64 (IntKind.u64.wrap z)) := convV_int Tryz.underlying3 Tryz.underlying195
@[simp] theorem qC3_247 {k : IntKind} {z : Int} : convV Tryz.prog 3 247 (.int k z) = some (.int .u64 (IntKind.u64.wrap z)) := convV_int Tryz.underlying3 Tryz.underlying247
@[simp] theorem qC3_270 {k : IntKind} {z : Int} : convV Tryz.prog 3 270 (.int k z) = some (.int .u32 (IntKind.u32.wrap z)) := convV_int Tryz.underlying3 Tryz.underlying270
@[simp] theorem qC5_2 {k : IntKind} {z : Int} : convV Tryz.prog 5 2 (.int k z) = some (.int .i64 (IntKind.i64.wrap z)) := convV_int Tryz.underlying5 Tryz.underlying2
@[simp] theorem qC5_3 {k : IntKind} {z : Int} : convV Tryz.prog 5 3 (.int k z) = some (.int .i64 (IntKind.i64.wrap z)) := convV_int Tryz.underlying5 Tryz.underlying3
@[simp] theorem qC5_5 {k : IntKind} {z : Int} : convV Tryz.prog 5 5 (.int k z) = some (.int .u8 (IntKind.u8.wrap z)) := convV_int Tryz.underlying5 Tryz.underlying5
@[simp] theorem qC5_12 {k : IntKind} {z : Int} : convV Tryz.prog 5 12 (.int k z) = some (.int .u64 (IntKind.u64.wrap z)) := convV_int Tryz.underlying5 Tryz.underlying12
@[simp] theorem qC5_21 {k : IntKind} {z : Int} : convV Tryz.prog 5 21 (.int k z) = some (.int .i32 (IntKind.i32.wrap z)) := convV_int Tryz.underlying5 Tryz.underlying21
@[simp] theorem qC5_195 {k : IntKind} {z : Int} : convV Tryz.prog 5 195 (.int k z) = some (.int .u64 (IntKind.u64.wrap z)) := convV_int Tryz.underlying5 Tryz.underlying195
@[simp] theorem qC5_247 {k : IntKind} {z : Int} : convV Tryz.prog 5 247 (.int k z) = some (.int .u64 (IntKind.u64.wrap z)) := convV_int Tryz.underlying5 Tryz.underlying247
@[simp] theorem qC5_270 {k : IntKind} {z : Int} : convV Tryz.prog 5 270 (.int k z) = some (.int .u32 (IntKind.u32.wrap z)) := convV_int Tryz.underlying5 Tryz.underlying270
@[simp] theorem qC12_2 {k : IntKind} {z : Int} : convV Tryz.prog 12 2 (.int k z) = some (.int .i64 (IntKind.i64.wrap z)) := convV_int Tryz.underlying12 Tryz.underlying2
@[simp] theorem qC12_3 {k : IntKind} {z : Int} : convV Tryz.prog 12 3 (.int k z) = some (.int .i64 (IntKind.i64.wrap z)) := convV_int Tryz.underlying12 Tryz.underlying3
@[simp] theorem qC12_5 {k : IntKind} {z : Int} : convV Tryz.prog 12 5 (.int k z) = some (.int .u8 (IntKind.u8.wrap z)) := convV_int Tryz.underlying12 Tryz.underlying5
@[simp] theorem qC12_12 {k : IntKind} {z : Int} : convV Tryz.prog 12 12 (.int k z) = some (.int .u64 (IntKind.u64.wrap z)) := convV_int Tryz.underlying12 Tryz.underlying12
@[simp] theorem qC12_21 {k : IntKind} {z : Int} : convV Tryz.prog 12 21 (.int k z) = some (.int .i32 (IntKind.i32.wrap z)) := convV_int Tryz.underlying12 Tryz.underlying21
@[simp] theorem qC12_195 {k : IntKind} {z : Int} : convV Tryz.prog 12 195 (.int k z) = some (.int .u64 (IntKind.u64.wrap z)) := convV_int Tryz.underlying12 Tryz.underlying195
@[simp] theorem qC12_247 {k : IntKind} {z : Int} : convV Tryz.prog 12 247 (.int k z) = some (.int .u64 (IntKind.u64.wrap z)) := convV_int Tryz.underlying12 Tryz.underlying247
@[simp] theorem qC12_270 {k : IntKind} {z : Int} : convV Tryz.prog 12 270 (.int k z) = some (.int .u32 (IntKind.u32.wrap z)) := convV_int Tryz.underlying12 Tryz.underlying270
@[simp] theorem qC21_2 {k : IntKind} {z : Int} : convV Tryz.prog 21 2 (.int k z) = some (.int .i64 (IntKind.i64.wrap z)) := convV_int Tryz.underlying21 Tryz.underlying2
@[simp] theorem qC21_3 {k : IntKind} {z : Int} : convV Tryz.prog 21 3 (.int k z) = some (.int .i64 (IntKind.i64.wrap z)) := convV_int Tryz.underlying21 Tryz.underlying3
@[simp] theorem qC21_5 {k : IntKind} {z : Int} : convV Tryz.prog 21 5 (.int k z) = some (.int .u8 (IntKind.u8.wrap z)) := convV_int Tryz.underlying21 Tryz.underlying5
@[simp] theorem qC21_12 {k : IntKind} {z : Int} : convV Tryz.prog 21 12 (.int k z) = some (.int .u64 (IntKind.u64.wrap z)) := convV_int Tryz.underlying21 Tryz.underlying12
@[simp] theorem qC21_21 {k : IntKind} {z : Int} : convV Tryz.prog 21 21 (.int k z) = some (.int .i32 (IntKind.i32.wrap z)) := convV_int Tryz.underlying21 Tryz.underlying21
@[simp] theorem qC21_195 {k : IntKind} {z : Int} : convV Tryz.prog 21 195 (.int k z) = some (.int .u64 (IntKind.u64.wrap z)) := convV_int Tryz.underlying21 Tryz.underlying195
@[simp] theorem qC21_247 {k : IntKind} {z : Int} : convV Tryz.prog 21 247 (.int k z) = some (.int .u64 (IntKind.u64.wrap z)) := convV_int Tryz.underlying21 Tryz.underlying247
@[simp] theorem qC21_270 {k : IntKind} {z : Int} : convV Tryz.prog 21 270 (.int k z) = some (.int .u32 (IntKind.u32.wrap z)) := convV_int Tryz.underlying21 Tryz.underlying270
@[simp] theorem qC195_2 {k : IntKind} {z : Int} : convV Tryz.prog 195 2 (.int k z) = some (.int .i64 (IntKind.i64.wrap z)) := convV_int Tryz.underlying195 Tryz.underlying2
@[simp] theorem qC195_3 {k : IntKind} {z : Int} : convV Tryz.prog 195 3 (.int k z) = some (.int .i64 (IntKind.i64.wrap z)) := convV_int Tryz.underlying195 Tryz.underlying3
@[simp] theorem qC195_5 {k : IntKind} {z : Int} : convV Tryz.prog 195 5 (.int k z) = some (.int .u8 (IntKind.u8.wrap z)) := convV_int Tryz.underlying195 Tryz.underlying5
@[simp] theorem qC195_12 {k : IntKind} {z : Int} : convV Tryz.prog 195 12 (.int k z) = some (.int .u64 (IntKind.u64.wrap z)) := convV_int Tryz.underlying195 Tryz.underlying12
@[simp] theorem qC195_21 {k : IntKind} {z : Int} : convV Tryz.prog 195 21 (.int k z) = some (.int .i32 (IntKind.i32.wrap z)) := convV_int Tryz.underlying195 Tryz.underlying21
@[simp] theorem qC195_195 {k : IntKind} {z : Int} : convV Tryz.prog 195 195 (.int k z) = some (.int .u64 (IntKind.u64.wrap z)) := convV_int Tryz.underlying195 Tryz.underlying195
@[simp] theorem qC195_247 {k : IntKind} {z : Int} : convV Tryz.prog 195 247 (.int k z) = some (.int .u64 (IntKind.u64.wrap z)) := convV_int Tryz.underlying195 Tryz.underlying247
@[simp] theorem qC195_270 {k : IntKind} {z : Int} : convV Tryz.prog 195 270 (.int k z) = some (.int .u32 (IntKind.u32.wrap z)) := convV_int Tryz.underlying195 Tryz.underlying270
@[simp] theorem qC247_2 {k : IntKind} {z : Int} : convV Tryz.prog 247 2 (.int k z) = some (.int .i64 (IntKind.i64.wrap z)) := convV_int Tryz.underlying247 Tryz.underlying2
@[simp] theorem qC247_3 {k : IntKind} {z : Int} : convV Tryz.prog 247 3 (.int k z) = some (.int .i64 (IntKind.i64.wrap z)) := convV_int Tryz.underlying247 Tryz.underlying3
@[simp] theorem qC247_5 {k : IntKind} {z : Int} : convV Tryz.prog 247 5 (.int k z) = some (.int .u8 (IntKind.u8.wrap z)) := convV_int Tryz.underlying247 Tryz.underlying5
@[simp] theorem qC247_12 {k : IntKind} {z : Int} : convV Tryz.prog 247 12 (.int k z) = some (.int .u64 (IntKind.u64.wrap z)) := convV_int Tryz.underlying247 Tryz.underlying12
@[simp] theorem qC247_21 {k : IntKind} {z : Int} : convV Tryz.prog 247 21 (.int k z) = some (.int .i32 (IntKind.i32.wrap z)) := convV_int Tryz.underlying247 Tryz.underlying21
@[simp] theorem qC247_195 {k : IntKind} {z : Int} : convV Tryz.prog 247 195 (.int k z) = some (.int .u64 (IntKind.u64.wrap z)) := convV_int Tryz.underlying247 Tryz.underlying195
@[simp] theorem qC247_247 {k : IntKind} {z : Int} : convV Tryz.prog 247 247 (.int k z) = some (.int .u64 (IntKind.u64.wrap z)) := convV_int Tryz.underlying247 Tryz.underlying247
@[simp] theorem qC247_270 {k : IntKind} {z : Int} : convV Tryz.prog 247 270 (.int k z) = some (.int .u32 (IntKind.u32.wrap z)) := convV_int Tryz.underlying247 Tryz.underlying270
@[simp] theorem qC270_2 {k : IntKind} {z : Int} : convV Tryz.prog 270 2 (.int k z) = some (.int .i64 (IntKind.i64.wrap z)) := convV_int Tryz.underlying270 Tryz.underlying2
@[simp] theorem qC270_3 {k : IntKind} {z : Int} : convV Tryz.prog 270 3 (.int k z) = some (.int .i64 (IntKind.i64.wrap z)) := convV_int Tryz.underlying270 Tryz.underlying3
@[simp] theorem qC270_5 {k : IntKind} {z : Int} : convV Tryz.prog 270 5 (.int k z) = some (.int .u8 (IntKind.u8.wrap z)) := convV_int Tryz.underlying270 Tryz.underlying5
@[simp] theorem qC270_12 {k : IntKind} {z : Int} : convV Tryz.prog 270 12 (.int k z) = some (.int .u64 (IntKind.u64.wrap z)) := convV_int Tryz.underlying270 Tryz.underlying12
@[simp] theorem qC270_21 {k : IntKind} {z : Int} : convV Tryz.prog 270 21 (.int k z) = some (.int .i32 (IntKind.i32.wrap z)) := convV_int Tryz.underlying270 Tryz.underlying21
@[simp] theorem qC270_195 {k : IntKind} {z : Int} : convV Tryz.prog 270 195 (.int k z) = some (.int .u64 (IntKind.u64.wrap z)) := convV_int Tryz.underlying270 Tryz.underlying195
@[simp] theorem qC270_247 {k : IntKind} {z : Int} : convV Tryz.prog 270 247 (.int k z) = some (.int .u64 (IntKind.u64.wrap z)) := convV_int Tryz.underlying270 Tryz.underlying247
@[simp] theorem qC270_270 {k : IntKind} {z : Int} : convV Tryz.prog 270 270 (.int k z) = some (.int .u32 (IntKind.u32.wrap z)) := convV_int Tryz.underlying270 Tryz.underlying270
@[simp] theorem qG9_9 {S : St} {K : Value → Mem → Prop} {s : ByteArray} : s2K Tryz.prog S K 9 9 s = K (.string s) S.M := s2K_str Tryz.underlying9 Tryz.underlying9
end Go.Proofs.YtimijeeihicohaaGreat
