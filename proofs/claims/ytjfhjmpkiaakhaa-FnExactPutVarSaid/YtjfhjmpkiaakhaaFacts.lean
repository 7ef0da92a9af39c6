/- What the program's types are, for simp. No conditions. -/
import Derived.Test.YtjfhjmpkiaakhaaAw17
import Derived.Test.YtjfhjmpkiaakhaaRows
namespace Go.Proofs.Ytjfhjmpkiaakhaa
open Go.RowKit
@[simp] theorem qL2 : qLoad Try.prog 2 = some none := by kernel_rfl
@[simp] theorem qS2 : qSize Try.prog 2 = some 1 := by kernel_rfl
@[simp] theorem qZ2 : qZero Try.prog 2 = some [.int .i64 0] := by kernel_rfl
@[simp] theorem qL3 : qLoad Try.prog 3 = some none := by kernel_rfl
@[simp] theorem qS3 : qSize Try.prog 3 = some 1 := by kernel_rfl
@[simp] theorem qZ3 : qZero Try.prog 3 = some [.int .i64 0] := by kernel_rfl
@[simp] theorem qL4 : qLoad Try.prog 4 = some none := by kernel_rfl
@[simp] theorem qS4 : qSize Try.prog 4 = some 1 := by kernel_rfl
@[simp] theorem qZ4 : qZero Try.prog 4 = some [.bool false] := by kernel_rfl
@[simp] theorem qQ4 {x y : Bool} : binV Try.prog .eql 4 (.bool x) (.bool y) = some (.bool (x == y)) := by simp [binV, eqV, Try.underlying4]
@[simp] theorem qR4 {x y : Bool} : binV Try.prog .neq 4 (.bool x) (.bool y) = some (.bool (!(x == y))) := by simp [binV, eqV, Try.underlying4]
@[simp] theorem qL5 : qLoad Try.prog 5 = some none := by kernel_rfl
@[simp] theorem qS5 : qSize Try.prog 5 = some 1 := by kernel_rfl
@[simp] theorem qZ5 : qZero Try.prog 5 = some [.int .u8 0] := by kernel_rfl
@[simp] theorem qL9 : qLoad Try.prog 9 = some none := by kernel_rfl
@[simp] theorem qS9 : qSize Try.prog 9 = some 1 := by kernel_rfl
@[simp] theorem qZ9 : qZero Try.prog 9 = some [.string ByteArray.empty] := by kernel_rfl
@[simp] theorem qN9 {S : St} {K : Value → Mem → Prop} {s : ByteArray} : lenK Try.prog S K 9 (.string s) = K (.int .i64 (s.size : Int)) S.M := lenK_str Try.underlying9
@[simp] theorem qU9 : Try.prog.underlying 9 = some .string := Try.underlying9
@[simp] theorem qL12 : qLoad Try.prog 12 = some none := by kernel_rfl
@[simp] theorem qS12 : qSize Try.prog 12 = some 1 := by kernel_rfl
@[simp] theorem qZ12 : qZero Try.prog 12 = some [.int .u64 0] := by kernel_rfl
@[simp] theorem qL13 : qLoad Try.prog 13 = some (some 2) := by kernel_rfl
@[simp] theorem qS13 : qSize Try.prog 13 = some 2 := by kernel_rfl
@[simp] theorem qZ13 : qZero Try.prog 13 = some [.string ByteArray.empty, .int .u64 0] := by kernel_rfl
@[simp] theorem qF13_0 : qField Try.prog 13 0 = some (0, none) := by kernel_rfl
@[simp] theorem qF13_1 : qField Try.prog 13 1 = some (1, none) := by kernel_rfl
@[simp] theorem qB13 : qBuild Try.prog 13 = some (#[.string ByteArray.empty, .int .u64 0], #[(0, 1), (1, 1)]) := by kernel_rfl
@[simp] theorem qL21 : qLoad Try.prog 21 = some none := by kernel_rfl
@[simp] theorem qS21 : qSize Try.prog 21 = some 1 := by kernel_rfl
@[simp] theorem qZ21 : qZero Try.prog 21 = some [.int .i32 0] := by kernel_rfl
@[simp] theorem qL22 : qLoad Try.prog 22 = some (some 5) := by kernel_rfl
@[simp] theorem qS22 : qSize Try.prog 22 = some 5 := by kernel_rfl
@[simp] theorem qZ22 : qZero Try.prog 22 = some [.int .i64 0, .int .i64 0, .int .i64 0, .int .i64 0, .int .i64 0] := by kernel_rfl
@[simp] theorem qF22_0 : qField Try.prog 22 0 = some (0, none) := by kernel_rfl
@[simp] theorem qF22_1 : qField Try.prog 22 1 = some (1, none) := by kernel_rfl
@[simp] theorem qF22_2 : qField Try.prog 22 2 = some (2, none) := by kernel_rfl
@[simp] theorem qF22_3 : qField Try.prog 22 3 = some (3, none) := by kernel_rfl
@[simp] theorem qF22_4 : qField Try.prog 22 4 = some (4, none) := by kernel_rfl
@[simp] theorem qB22 : qBuild Try.prog 22 = some (#[.int .i64 0, .int .i64 0, .int .i64 0, .int .i64 0, .int .i64 0], #[(0, 1), (1, 1), (2, 1), (3, 1), (4, 1)]) := by kernel_rfl
@[simp] theorem qL23 : qLoad Try.prog 23 = some (some 5) := by kernel_rfl
@[simp] theorem qS23 : qSize Try.prog 23 = some 5 := by kernel_rfl
@[simp] theorem qZ23 : qZero Try.prog 23 = some [.int .i64 0, .int .i64 0, .int .i64 0, .int .i64 0, .int .i64 0] := by kernel_rfl
@[simp] theorem qF23_0 : qField Try.prog 23 0 = some (0, none) := by kernel_rfl
@[simp] theorem qF23_1 : qField Try.prog 23 1 = some (1, none) := by kernel_rfl
@[simp] theorem qF23_2 : qField Try.prog 23 2 = some (2, none) := by kernel_rfl
@[simp] theorem qF23_3 : qField Try.prog 23 3 = some (3, none) := by kernel_rfl
@[simp] theorem qF23_4 : qField Try.prog 23 4 = some (4, none) := by kernel_rfl
@[simp] theorem qB23 : qBuild Try.prog 23 = some (#[.int .i64 0, .int .i64 0, .int .i64 0, .int .i64 0, .int .i64 0], #[(0, 1), (1, 1), (2, 1), (3, 1), (4, 1)]) := by kernel_rfl
@[simp] theorem qL25 : qLoad Try.prog 25 = some (some 5) := by kernel_rfl
@[simp] theorem qS25 : qSize Try.prog 25 = some 5 := by kernel_rfl
@[simp] theorem qZ25 : qZero Try.prog 25 = some [.int .i64 0, .int .i64 0, .int .i64 0, .int .i64 0, .int .i64 0] := by kernel_rfl
@[simp] theorem qF25_0 : qField Try.prog 25 0 = some (0, none) := by kernel_rfl
@[simp] theorem qF25_1 : qField Try.prog 25 1 = some (1, none) := by kernel_rfl
@[simp] theorem qF25_2 : qField Try.prog 25 2 = some (2, none) := by kernel_rfl
@[simp] theorem qF25_3 : qField Try.prog 25 3 = some (3, none) := by kernel_rfl
@[simp] theorem qF25_4 : qField Try.prog 25 4 = some (4, none) := by kernel_rfl
@[simp] theorem qB25 : qBuild Try.prog 25 = some (#[.int .i64 0, .int .i64 0, .int .i64 0, .int .i64 0, .int .i64 0], #[(0, 1), (1, 1), (2, 1), (3, 1), (4, 1)]) := by kernel_rfl
@[simp] theorem qL33 : qLoad Try.prog 33 = some none := by kernel_rfl
@[simp] theorem qS33 : qSize Try.prog 33 = some 1 := by kernel_rfl
@[simp] theorem qZ33 : qZero Try.prog 33 = some [.slice none 0 0] := by kernel_rfl
@[simp] theorem qE33 : qSlice Try.prog 33 = some (2, 1, 8) := by kernel_rfl
@[simp] theorem qN33 {S : St} {K : Value → Mem → Prop} {q : Option Addr} {m c : Nat} : lenK Try.prog S K 33 (.slice q m c) = K (.int .i64 (m : Int)) S.M := lenK_sl Try.underlying33
@[simp] theorem qI33 : (Try.prog.info? 2).any (fun i => i.zero.any fun z => z.cells.size == 1) = true := by kernel_rfl
@[simp] theorem qL41 : qLoad Try.prog 41 = some none := by kernel_rfl
@[simp] theorem qS41 : qSize Try.prog 41 = some 1 := by kernel_rfl
@[simp] theorem qZ41 : qZero Try.prog 41 = some [.pointer none] := by kernel_rfl
@[simp] theorem qL43 : qLoad Try.prog 43 = some none := by kernel_rfl
@[simp] theorem qS43 : qSize Try.prog 43 = some 1 := by kernel_rfl
@[simp] theorem qZ43 : qZero Try.prog 43 = some [.slice none 0 0] := by kernel_rfl
@[simp] theorem qE43 : qSlice Try.prog 43 = some (5, 1, 1) := by kernel_rfl
@[simp] theorem qN43 {S : St} {K : Value → Mem → Prop} {q : Option Addr} {m c : Nat} : lenK Try.prog S K 43 (.slice q m c) = K (.int .i64 (m : Int)) S.M := lenK_sl Try.underlying43
@[simp] theorem qI43 : (Try.prog.info? 5).any (fun i => i.zero.any fun z => z.cells.size == 1) = true := by kernel_rfl
@[simp] theorem qL56 : qLoad Try.prog 56 = some none := by kernel_rfl
@[simp] theorem qS56 : qSize Try.prog 56 = some 1 := by kernel_rfl
@[simp] theorem qZ56 : qZero Try.prog 56 = some [.int .u32 0] := by kernel_rfl
@[simp] theorem qL60 : qLoad Try.prog 60 = some none := by kernel_rfl
@[simp] theorem qS60 : qSize Try.prog 60 = some 1 := by kernel_rfl
@[simp] theorem qZ60 : qZero Try.prog 60 = some [.pointer none] := by kernel_rfl
@[simp] theorem qC2_2 {k : IntKind} {z : Int} : convV Try.prog 2 2 (.int k z) = some (.int .i64 (IntKind.i64.wrap z)) := convV_int Try.underlying2 Try.underlying2
@[simp] theorem qC2_3 {k : IntKind} {z : Int} : convV Try.prog 2 3 (.int k z) = some (.int .i64 (IntKind.i64.wrap z)) := convV_int Try.underlying2 Try.underlying3
@[simp] theorem qC2_5 {k : IntKind} {z : Int} : convV Try.prog 2 5 (.int k z) = some (.int .u8 (IntKind.u8.wrap z)) := convV_int Try.underlying2 Try.underlying5
@[simp] theorem qC2_12 {k : IntKind} {z : Int} : convV Try.prog 2 12 (.int k z) = some (.int .u64 (IntKind.u64.wrap z)) := convV_int Try.underlying2 Try.underlying12
@[simp] theorem qC2_21 {k : IntKind} {z : Int} : convV Try.prog 2 21 (.int k z) = some (.int .i32 (IntKind.i32.wrap z)) := convV_int Try.underlying2 Try.underlying21
@[simp] theorem qC2_56 {k : IntKind} {z : Int} : convV Try.prog 2 56 (.int k z) = some (.int .u32 (IntKind.u32.wrap z)) := convV_int Try.underlying2 Try.underlying56
@[simp] theorem qC3_2 {k : IntKind} {z : Int} : convV Try.prog 3 2 (.int k z) = some (.int .i64 (IntKind.i64.wrap z)) := convV_int Try.underlying3 Try.underlying2
@[simp] theorem qC3_3 {k : IntKind} {z : Int} : convV Try.prog 3 3 (.int k z) = some (.int .i64 (IntKind.i64.wrap z)) := convV_int Try.underlying3 Try.underlying3
@[simp] theorem qC3_5 {k : IntKind} {z : Int} : convV Try.prog 3 5 (.int k z) = some (.int .u8 (IntKind.u8.wrap z)) := convV_int Try.underlying3 Try.underlying5
@[simp] theorem qC3_12 {k : IntKind} {z : Int} : convV Try.prog 3 12 (.int k z) = some (.int .u64 (IntKind.u64.wrap z)) := convV_int Try.underlying3 Try.underlying12
@[simp] theorem qC3_21 {k : IntKind} {z : Int} : convV Try.prog 3 21 (.int k z) = some (.int .i32 (IntKind.i32.wrap z)) := convV_int Try.underlying3 Try.underlying21
@[simp] theorem qC3_56 {k : IntKind} {z : Int} : convV Try.prog 3 56 (.int k z) = some (.int .u32 (IntKind.u32.wrap z)) := convV_int Try.underlying3 Try.underlying56
@[simp] theorem qC5_2 {k : IntKind} {z : Int} : convV Try.prog 5 2 (.int k z) = some (.int .i64 (IntKind.i64.wrap z)) := convV_int Try.underlying5 Try.underlying2
@[simp] theorem qC5_3 {k : IntKind} {z : Int} : convV Try.prog 5 3 (.int k z) = some (.int .i64 (IntKind.i64.wrap z)) := convV_int Try.underlying5 Try.underlying3
@[simp] theorem qC5_5 {k : IntKind} {z : Int} : convV Try.prog 5 5 (.int k z) = some (.int .u8 (IntKind.u8.wrap z)) := convV_int Try.underlying5 Try.underlying5
@[simp] theorem qC5_12 {k : IntKind} {z : Int} : convV Try.prog 5 12 (.int k z) = some (.int .u64 (IntKind.u64.wrap z)) := convV_int Try.underlying5 Try.underlying12
@[simp] theorem qC5_21 {k : IntKind} {z : Int} : convV Try.prog 5 21 (.int k z) = some (.int .i32 (IntKind.i32.wrap z)) := convV_int Try.underlying5 Try.underlying21
@[simp] theorem qC5_56 {k : IntKind} {z : Int} : convV Try.prog 5 56 (.int k z) = some (.int .u32 (IntKind.u32.wrap z)) := convV_int Try.underlying5 Try.underlying56
@[simp] theorem qC12_2 {k : IntKind} {z : Int} : convV Try.prog 12 2 (.int k z) = some (.int .i64 (IntKind.i64.wrap z)) := convV_int Try.underlying12 Try.underlying2
@[simp] theorem qC12_3 {k : IntKind} {z : Int} : convV Try.prog 12 3 (.int k z) = some (.int .i64 (IntKind.i64.wrap z)) := convV_int Try.underlying12 Try.underlying3
@[simp] theorem qC12_5 {k : IntKind} {z : Int} : convV Try.prog 12 5 (.int k z) = some (.int .u8 (IntKind.u8.wrap z)) := convV_int Try.underlying12 Try.underlying5
@[simp] theorem qC12_12 {k : IntKind} {z : Int} : convV Try.prog 12 12 (.int k z) = some (.int .u64 (IntKind.u64.wrap z)) := convV_int Try.underlying12 Try.underlying12
@[simp] theorem qC12_21 {k : IntKind} {z : Int} : convV Try.prog 12 21 (.int k z) = some (.int .i32 (IntKind.i32.wrap z)) := convV_int Try.underlying12 Try.underlying21
@[simp] theorem qC12_56 {k : IntKind} {z : Int} : convV Try.prog 12 56 (.int k z) = some (.int .u32 (IntKind.u32.wrap z)) := convV_int Try.underlying12 Try.underlying56
@[simp] theorem qC21_2 {k : IntKind} {z : Int} : convV Try.prog 21 2 (.int k z) = some (.int .i64 (IntKind.i64.wrap z)) := convV_int Try.underlying21 Try.underlying2
@[simp] theorem qC21_3 {k : IntKind} {z : Int} : convV Try.prog 21 3 (.int k z) = some (.int .i64 (IntKind.i64.wrap z)) := convV_int Try.underlying21 Try.underlying3
@[simp] theorem qC21_5 {k : IntKind} {z : Int} : convV Try.prog 21 5 (.int k z) = some (.int .u8 (IntKind.u8.wrap z)) := convV_int Try.underlying21 Try.underlying5
@[simp] theorem qC21_12 {k : IntKind} {z : Int} : convV Try.prog 21 12 (.int k z) = some (.int .u64 (IntKind.u64.wrap z)) := convV_int Try.underlying21 Try.underlying12
@[simp] theorem qC21_21 {k : IntKind} {z : Int} : convV Try.prog 21 21 (.int k z) = some (.int .i32 (IntKind.i32.wrap z)) := convV_int Try.underlying21 Try.underlying21
@[simp] theorem qC21_56 {k : IntKind} {z : Int} : convV Try.prog 21 56 (.int k z) = some (.int .u32 (IntKind.u32.wrap z)) := convV_int Try.underlying21 Try.underlying56
@[simp] theorem qC56_2 {k : IntKind} {z : Int} : convV Try.prog 56 2 (.int k z) = some (.int .i64 (IntKind.i64.wrap z)) := convV_int Try.underlying56 Try.underlying2
@[simp] theorem qC56_3 {k : IntKind} {z : Int} : convV Try.prog 56 3 (.int k z) = some (.int .i64 (IntKind.i64.wrap z)) := convV_int Try.underlying56 Try.underlying3
@[simp] theorem qC56_5 {k : IntKind} {z : Int} : convV Try.prog 56 5 (.int k z) = some (.int .u8 (IntKind.u8.wrap z)) := convV_int Try.underlying56 Try.underlying5
@[simp] theorem qC56_12 {k : IntKind} {z : Int} : convV Try.prog 56 12 (.int k z) = some (.int .u64 (IntKind.u64.wrap z)) := convV_int Try.underlying56 Try.underlying12
@[simp] theorem qC56_21 {k : IntKind} {z : Int} : convV Try.prog 56 21 (.int k z) = some (.int .i32 (IntKind.i32.wrap z)) := convV_int Try.underlying56 Try.underlying21
@[simp] theorem qC56_56 {k : IntKind} {z : Int} : convV Try.prog 56 56 (.int k z) = some (.int .u32 (IntKind.u32.wrap z)) := convV_int Try.underlying56 Try.underlying56
end Go.Proofs.Ytjfhjmpkiaakhaa
