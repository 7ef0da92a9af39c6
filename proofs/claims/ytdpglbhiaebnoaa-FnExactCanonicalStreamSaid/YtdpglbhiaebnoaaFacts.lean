/- What the program's types are, for simp. No conditions. -/
import Derived.Test.YtdpglbhiaebnoaaAw17
import Derived.Test.YtdpglbhiaebnoaaRows
namespace Go.Proofs.Ytdpglbhiaebnoaa
open Go.RowKit
@[simp] theorem qL2 : qLoad Try.prog 2 = some none := by kernel_rfl
@[simp] theorem qS2 : qSize Try.prog 2 = some 1 := by kernel_rfl
@[simp] theorem qZ2 : qZero Try.prog 2 = some [.int .i64 0] := by kernel_rfl
@[simp] theorem qL3 : qLoad Try.prog 3 = some none := by kernel_rfl
@[simp] theorem qS3 : qSize Try.prog 3 = some 1 := by kernel_rfl
@[simp] theorem qZ3 : qZero Try.prog 3 = some [.int .i64 0] := by kernel_rfl
@[simp] theorem qL4 : qLoad Try.prog 4 = some none := by kernel_rfl
@[simp] theorem qS4 : qSize Try.prog 4 = some 1 := by kernel_rfl
@[simp] theorem qZ4 : qZero Try.prog 4 = some [.bool false] := by kernel_rfl
@[simp] theorem qQ4 {x y : Bool} : binV Try.prog .eql 4 (.bool x) (.bool y) = some (.bool (x == y)) := by simp [binV, eqV, Try.underlying4]
@[simp] theorem qR4 {x y : Bool} : binV Try.prog .neq 4 (.bool x) (.bool y) = some (.bool (!(x == y))) := by simp [binV, eqV, Try.underlying4]
@[simp] theorem qL5 : qLoad Try.prog 5 = some none := by kernel_rfl
@[simp] theorem qS5 : qSize Try.prog 5 = some 1 := by kernel_rfl
@[simp] theorem qZ5 : qZero Try.prog 5 = some [.int .u8 0] := by kernel_rfl
@[simp] theorem qL9 : qLoad Try.prog 9 = some none := by kernel_rfl
@[simp] theorem qS9 : qSize Try.prog 9 = some 1 := by kernel_rfl
@[simp] theorem qZ9 : qZero Try.prog 9 = some [.string ByteArray.empty] := by kernel_rfl
@[simp] theorem qN9 {S : St} {K : Value → Mem → Prop} {s : ByteArray} : lenK Try.prog S K 9 (.string s) = K (.int .i64 (s.size : Int)) S.M := lenK_str Try.underlying9
@[simp] theorem qU9 : Try.prog.underlying 9 = some .string := Try.underlying9
@[simp] theorem qL12 : qLoad Try.prog 12 = some none := by kernel_rfl
@[simp] theorem qS12 : qSize Try.prog 12 = some 1 := by kernel_rfl
@[simp] theorem qZ12 : qZero Try.prog 12 = some [.int .u64 0] := by kernel_rfl
@[simp] theorem qL13 : qLoad Try.prog 13 = some (some 2) := by kernel_rfl
@[simp] theorem qS13 : qSize Try.prog 13 = some 2 := by kernel_rfl
@[simp] theorem qZ13 : qZero Try.prog 13 = some [.string ByteArray.empty, .int .u64 0] := by kernel_rfl
@[simp] theorem qF13_0 : qField Try.prog 13 0 = some (0, none) := by kernel_rfl
@[simp] theorem qF13_1 : qField Try.prog 13 1 = some (1, none) := by kernel_rfl
@[simp] theorem qB13 : qBuild Try.prog 13 = some (#[.string ByteArray.empty, .int .u64 0], #[(0, 1), (1, 1)]) := by kernel_rfl
@[simp] theorem qL21 : qLoad Try.prog 21 = some none := by kernel_rfl
@[simp] theorem qS21 : qSize Try.prog 21 = some 1 := by kernel_rfl
@[simp] theorem qZ21 : qZero Try.prog 21 = some [.int .i32 0] := by kernel_rfl
@[simp] theorem qL22 : qLoad Try.prog 22 = some none := by kernel_rfl
@[simp] theorem qS22 : qSize Try.prog 22 = some 1 := by kernel_rfl
@[simp] theorem qZ22 : qZero Try.prog 22 = some [.slice none 0 0] := by kernel_rfl
@[simp] theorem qE22 : qSlice Try.prog 22 = some (48, 5, 40) := by kernel_rfl
@[simp] theorem qN22 {S : St} {K : Value → Mem → Prop} {q : Option Addr} {m c : Nat} : lenK Try.prog S K 22 (.slice q m c) = K (.int .i64 (m : Int)) S.M := lenK_sl Try.underlying22
@[simp] theorem qI22 : (Try.prog.info? 48).any (fun i => i.zero.any fun z => z.cells.size == 5) = true := by kernel_rfl
@[simp] theorem qL25 : qLoad Try.prog 25 = some none := by kernel_rfl
@[simp] theorem qS25 : qSize Try.prog 25 = some 1 := by kernel_rfl
@[simp] theorem qZ25 : qZero Try.prog 25 = some [.slice none 0 0] := by kernel_rfl
@[simp] theorem qE25 : qSlice Try.prog 25 = some (46, 5, 40) := by kernel_rfl
@[simp] theorem qN25 {S : St} {K : Value → Mem → Prop} {q : Option Addr} {m c : Nat} : lenK Try.prog S K 25 (.slice q m c) = K (.int .i64 (m : Int)) S.M := lenK_sl Try.underlying25
@[simp] theorem qI25 : (Try.prog.info? 46).any (fun i => i.zero.any fun z => z.cells.size == 5) = true := by kernel_rfl
@[simp] theorem qL37 : qLoad Try.prog 37 = some none := by kernel_rfl
@[simp] theorem qS37 : qSize Try.prog 37 = some 1 := by kernel_rfl
@[simp] theorem qZ37 : qZero Try.prog 37 = some [.slice none 0 0] := by kernel_rfl
@[simp] theorem qE37 : qSlice Try.prog 37 = some (5, 1, 1) := by kernel_rfl
@[simp] theorem qN37 {S : St} {K : Value → Mem → Prop} {q : Option Addr} {m c : Nat} : lenK Try.prog S K 37 (.slice q m c) = K (.int .i64 (m : Int)) S.M := lenK_sl Try.underlying37
@[simp] theorem qI37 : (Try.prog.info? 5).any (fun i => i.zero.any fun z => z.cells.size == 1) = true := by kernel_rfl
@[simp] theorem qL45 : qLoad Try.prog 45 = some (some 5) := by kernel_rfl
@[simp] theorem qS45 : qSize Try.prog 45 = some 5 := by kernel_rfl
@[simp] theorem qZ45 : qZero Try.prog 45 = some [.int .i64 0, .int .i64 0, .int .i64 0, .int .i64 0, .int .i64 0] := by kernel_rfl
@[simp] theorem qF45_0 : qField Try.prog 45 0 = some (0, none) := by kernel_rfl
@[simp] theorem qF45_1 : qField Try.prog 45 1 = some (1, none) := by kernel_rfl
@[simp] theorem qF45_2 : qField Try.prog 45 2 = some (2, none) := by kernel_rfl
@[simp] theorem qF45_3 : qField Try.prog 45 3 = some (3, none) := by kernel_rfl
@[simp] theorem qF45_4 : qField Try.prog 45 4 = some (4, none) := by kernel_rfl
@[simp] theorem qB45 : qBuild Try.prog 45 = some (#[.int .i64 0, .int .i64 0, .int .i64 0, .int .i64 0, .int .i64 0], #[(0, 1), (1, 1), (2, 1), (3, 1), (4, 1)]) := by kernel_rfl
@[simp] theorem qL46 : qLoad Try.prog 46 = some (some 5) := by kernel_rfl
@[simp] theorem qS46 : qSize Try.prog 46 = some 5 := by kernel_rfl
@[simp] theorem qZ46 : qZero Try.prog 46 = some [.int .i64 0, .int .i64 0, .int .i64 0, .int .i64 0, .int .i64 0] := by kernel_rfl
@[simp] theorem qF46_0 : qField Try.prog 46 0 = some (0, none) := by kernel_rfl
@[simp] theorem qF46_1 : qField Try.prog 46 1 = some (1, none) := by kernel_rfl
@[simp] theorem qF46_2 : qField Try.prog 46 2 = some (2, none) := by kernel_rfl
@[simp] theorem qF46_3 : qField Try.prog 46 3 = some (3, none) := by kernel_rfl
@[simp] theorem qF46_4 : qField Try.prog 46 4 = some (4, none) := by kernel_rfl
@[simp] theorem qB46 : qBuild Try.prog 46 = some (#[.int .i64 0, .int .i64 0, .int .i64 0, .int .i64 0, .int .i64 0], #[(0, 1), (1, 1), (2, 1), (3, 1), (4, 1)]) := by kernel_rfl
@[simp] theorem qL48 : qLoad Try.prog 48 = some (some 5) := by kernel_rfl
@[simp] theorem qS48 : qSize Try.prog 48 = some 5 := by kernel_rfl
@[simp] theorem qZ48 : qZero Try.prog 48 = some [.int .i64 0, .int .i64 0, .int .i64 0, .int .i64 0, .int .i64 0] := by kernel_rfl
@[simp] theorem qF48_0 : qField Try.prog 48 0 = some (0, none) := by kernel_rfl
@[simp] theorem qF48_1 : qField Try.prog 48 1 = some (1, none) := by kernel_rfl
@[simp] theorem qF48_2 : qField Try.prog 48 2 = some (2, none) := by kernel_rfl
@[simp] theorem qF48_3 : qField Try.prog 48 3 = some (3, none) := by kernel_rfl
@[simp] theorem qF48_4 : qField Try.prog 48 4 = some (4, none) := by kernel_rfl
@[simp] theorem qB48 : qBuild Try.prog 48 = some (#[.int .i64 0, .int .i64 0, .int .i64 0, .int .i64 0, .int .i64 0], #[(0, 1), (1, 1), (2, 1), (3, 1), (4, 1)]) := by kernel_rfl
@[simp] theorem qL51 : qLoad Try.prog 51 = some none := by kernel_rfl
@[simp] theorem qS51 : qSize Try.prog 51 = some 1 := by kernel_rfl
@[simp] theorem qZ51 : qZero Try.prog 51 = some [.pointer none] := by kernel_rfl
@[simp] theorem qL58 : qLoad Try.prog 58 = some none := by kernel_rfl
@[simp] theorem qS58 : qSize Try.prog 58 = some 1 := by kernel_rfl
@[simp] theorem qZ58 : qZero Try.prog 58 = some [.pointer none] := by kernel_rfl
@[simp] theorem qL64 : qLoad Try.prog 64 = some none := by kernel_rfl
@[simp] theorem qS64 : qSize Try.prog 64 = some 1 := by kernel_rfl
@[simp] theorem qZ64 : qZero Try.prog 64 = some [.pointer none] := by kernel_rfl
@[simp] theorem qL65 : qLoad Try.prog 65 = some (some 3) := by kernel_rfl
@[simp] theorem qS65 : qSize Try.prog 65 = some 3 := by kernel_rfl
@[simp] theorem qZ65 : qZero Try.prog 65 = some [.string ByteArray.empty, .int .i64 0, .int .i64 0] := by kernel_rfl
@[simp] theorem qF65_0 : qField Try.prog 65 0 = some (0, none) := by kernel_rfl
@[simp] theorem qF65_1 : qField Try.prog 65 1 = some (1, none) := by kernel_rfl
@[simp] theorem qF65_2 : qField Try.prog 65 2 = some (2, none) := by kernel_rfl
@[simp] theorem qB65 : qBuild Try.prog 65 = some (#[.string ByteArray.empty, .int .i64 0, .int .i64 0], #[(0, 1), (1, 1), (2, 1)]) := by kernel_rfl
@[simp] theorem qL66 : qLoad Try.prog 66 = some (some 3) := by kernel_rfl
@[simp] theorem qS66 : qSize Try.prog 66 = some 3 := by kernel_rfl
@[simp] theorem qZ66 : qZero Try.prog 66 = some [.string ByteArray.empty, .int .i64 0, .int .i64 0] := by kernel_rfl
@[simp] theorem qF66_0 : qField Try.prog 66 0 = some (0, none) := by kernel_rfl
@[simp] theorem qF66_1 : qField Try.prog 66 1 = some (1, none) := by kernel_rfl
@[simp] theorem qF66_2 : qField Try.prog 66 2 = some (2, none) := by kernel_rfl
@[simp] theorem qB66 : qBuild Try.prog 66 = some (#[.string ByteArray.empty, .int .i64 0, .int .i64 0], #[(0, 1), (1, 1), (2, 1)]) := by kernel_rfl
@[simp] theorem qL69 : qLoad Try.prog 69 = some none := by kernel_rfl
@[simp] theorem qS69 : qSize Try.prog 69 = some 1 := by kernel_rfl
@[simp] theorem qZ69 : qZero Try.prog 69 = some [.pointer none] := by kernel_rfl
@[simp] theorem qL70 : qLoad Try.prog 70 = some (some 4) := by kernel_rfl
@[simp] theorem qS70 : qSize Try.prog 70 = some 4 := by kernel_rfl
@[simp] theorem qZ70 : qZero Try.prog 70 = some [.string ByteArray.empty, .int .i64 0, .int .i64 0, .int .i64 0] := by kernel_rfl
@[simp] theorem qF70_0 : qField Try.prog 70 0 = some (0, none) := by kernel_rfl
@[simp] theorem qF70_1 : qField Try.prog 70 1 = some (1, none) := by kernel_rfl
@[simp] theorem qF70_2 : qField Try.prog 70 2 = some (2, none) := by kernel_rfl
@[simp] theorem qF70_3 : qField Try.prog 70 3 = some (3, none) := by kernel_rfl
@[simp] theorem qB70 : qBuild Try.prog 70 = some (#[.string ByteArray.empty, .int .i64 0, .int .i64 0, .int .i64 0], #[(0, 1), (1, 1), (2, 1), (3, 1)]) := by kernel_rfl
@[simp] theorem qL71 : qLoad Try.prog 71 = some (some 4) := by kernel_rfl
@[simp] theorem qS71 : qSize Try.prog 71 = some 4 := by kernel_rfl
@[simp] theorem qZ71 : qZero Try.prog 71 = some [.string ByteArray.empty, .int .i64 0, .int .i64 0, .int .i64 0] := by kernel_rfl
@[simp] theorem qF71_0 : qField Try.prog 71 0 = some (0, none) := by kernel_rfl
@[simp] theorem qF71_1 : qField Try.prog 71 1 = some (1, none) := by kernel_rfl
@[simp] theorem qF71_2 : qField Try.prog 71 2 = some (2, none) := by kernel_rfl
@[simp] theorem qF71_3 : qField Try.prog 71 3 = some (3, none) := by kernel_rfl
@[simp] theorem qB71 : qBuild Try.prog 71 = some (#[.string ByteArray.empty, .int .i64 0, .int .i64 0, .int .i64 0], #[(0, 1), (1, 1), (2, 1), (3, 1)]) := by kernel_rfl
@[simp] theorem qL73 : qLoad Try.prog 73 = some none := by kernel_rfl
@[simp] theorem qS73 : qSize Try.prog 73 = some 1 := by kernel_rfl
@[simp] theorem qZ73 : qZero Try.prog 73 = some [.int .u64 0] := by kernel_rfl
@[simp] theorem qL74 : qLoad Try.prog 74 = some (some 3) := by kernel_rfl
@[simp] theorem qS74 : qSize Try.prog 74 = some 3 := by kernel_rfl
@[simp] theorem qZ74 : qZero Try.prog 74 = some [.slice none 0 0, .int .i64 0, .int .u64 0] := by kernel_rfl
@[simp] theorem qF74_0 : qField Try.prog 74 0 = some (0, none) := by kernel_rfl
@[simp] theorem qF74_1 : qField Try.prog 74 1 = some (1, none) := by kernel_rfl
@[simp] theorem qF74_2 : qField Try.prog 74 2 = some (2, none) := by kernel_rfl
@[simp] theorem qB74 : qBuild Try.prog 74 = some (#[.slice none 0 0, .int .i64 0, .int .u64 0], #[(0, 1), (1, 1), (2, 1)]) := by kernel_rfl
@[simp] theorem qL75 : qLoad Try.prog 75 = some (some 3) := by kernel_rfl
@[simp] theorem qS75 : qSize Try.prog 75 = some 3 := by kernel_rfl
@[simp] theorem qZ75 : qZero Try.prog 75 = some [.slice none 0 0, .int .i64 0, .int .u64 0] := by kernel_rfl
@[simp] theorem qF75_0 : qField Try.prog 75 0 = some (0, none) := by kernel_rfl
@[simp] theorem qF75_1 : qField Try.prog 75 1 = some (1, none) := by kernel_rfl
@[simp] theorem qF75_2 : qField Try.prog 75 2 = some (2, none) := by kernel_rfl
@[simp] theorem qB75 : qBuild Try.prog 75 = some (#[.slice none 0 0, .int .i64 0, .int .u64 0], #[(0, 1), (1, 1), (2, 1)]) := by kernel_rfl
@[simp] theorem qL78 : qLoad Try.prog 78 = some none := by kernel_rfl
@[simp] theorem qS78 : qSize Try.prog 78 = some 1 := by kernel_rfl
@[simp] theorem qZ78 : qZero Try.prog 78 = some [.slice none 0 0] := by kernel_rfl
@[simp] theorem qE78 : qSlice Try.prog 78 = some (2, 1, 8) := by kernel_rfl
@[simp] theorem qN78 {S : St} {K : Value → Mem → Prop} {q : Option Addr} {m c : Nat} : lenK Try.prog S K 78 (.slice q m c) = K (.int .i64 (m : Int)) S.M := lenK_sl Try.underlying78
@[simp] theorem qI78 : (Try.prog.info? 2).any (fun i => i.zero.any fun z => z.cells.size == 1) = true := by kernel_rfl
@[simp] theorem qL80 : qLoad Try.prog 80 = some none := by kernel_rfl
@[simp] theorem qS80 : qSize Try.prog 80 = some 1 := by kernel_rfl
@[simp] theorem qZ80 : qZero Try.prog 80 = some [.slice none 0 0] := by kernel_rfl
@[simp] theorem qE80 : qSlice Try.prog 80 = some (9, 1, 16) := by kernel_rfl
@[simp] theorem qN80 {S : St} {K : Value → Mem → Prop} {q : Option Addr} {m c : Nat} : lenK Try.prog S K 80 (.slice q m c) = K (.int .i64 (m : Int)) S.M := lenK_sl Try.underlying80
@[simp] theorem qI80 : (Try.prog.info? 9).any (fun i => i.zero.any fun z => z.cells.size == 1) = true := by kernel_rfl
@[simp] theorem qL86 : qLoad Try.prog 86 = some none := by kernel_rfl
@[simp] theorem qS86 : qSize Try.prog 86 = some 1 := by kernel_rfl
@[simp] theorem qZ86 : qZero Try.prog 86 = some [.int .u64 0] := by kernel_rfl
@[simp] theorem qL94 : qLoad Try.prog 94 = some none := by kernel_rfl
@[simp] theorem qS94 : qSize Try.prog 94 = some 1 := by kernel_rfl
@[simp] theorem qZ94 : qZero Try.prog 94 = some [.int .u32 0] := by kernel_rfl
@[simp] theorem qL98 : qLoad Try.prog 98 = some none := by kernel_rfl
@[simp] theorem qS98 : qSize Try.prog 98 = some 1 := by kernel_rfl
@[simp] theorem qZ98 : qZero Try.prog 98 = some [.pointer none] := by kernel_rfl
@[simp] theorem qC2_2 {k : IntKind} {z : Int} : convV Try.prog 2 2 (.int k z) = some (.int .i64 (IntKind.i64.wrap z)) := convV_int Try.underlying2 Try.underlying2
@[simp] theorem qC2_3 {k : IntKind} {z : Int} : convV Try.prog 2 3 (.int k z) = some (.int .i64 (IntKind.i64.wrap z)) := convV_int Try.underlying2 Try.underlying3
@[simp] theorem qC2_5 {k : IntKind} {z : Int} : convV Try.prog 2 5 (.int k z) = some (.int .u8 (IntKind.u8.wrap z)) := convV_int Try.underlying2 Try.underlying5
@[simp] theorem qC2_12 {k : IntKind} {z : Int} : convV Try.prog 2 12 (.int k z) = some (.int .u64 (IntKind.u64.wrap z)) := convV_int Try.underlying2 Try.underlying12
@[simp] theorem qC2_21 {k : IntKind} {z : Int} : convV Try.prog 2 21 (.int k z) = some (.int .i32 (IntKind.i32.wrap z)) := convV_int Try.underlying2 Try.underlying21
@[simp] theorem qC2_73 {k : IntKind} {z : Int} : convV Try.prog 2 73 (.int k z) = some (.int .u64 (IntKind.u64.wrap z)) := convV_int Try.underlying2 Try.underlying73
@[simp] theorem qC2_86 {k : IntKind} {z : Int} : convV Try.prog 2 86 (.int k z) = some (.int .u64 (IntKind.u64.wrap z)) := convV_int Try.underlying2 Try.underlying86
@[simp] theorem qC2_94 {k : IntKind} {z : Int} : convV Try.prog 2 94 (.int k z) = some (.int .u32 (IntKind.u32.wrap z)) := convV_int Try.underlying2 Try.underlying94
@[simp] theorem qC3_2 {k : IntKind} {z : Int} : convV Try.prog 3 2 (.int k z) = some (.int .i64 (IntKind.i64.wrap z)) := convV_int Try.underlying3 Try.underlying2
@[simp] theorem qC3_3 {k : IntKind} {z : Int} : convV Try.prog 3 3 (.int k z) = some (.int .i64 (IntKind.i64.wrap z)) := convV_int Try.underlying3 Try.underlying3
@[simp] theorem qC3_5 {k : IntKind} {z : Int} : convV Try.prog 3 5 (.int k z) = some (.int .u8 (IntKind.u8.wrap z)) := convV_int Try.underlying3 Try.underlying5
@[simp] theorem qC3_12 {k : IntKind} {z : Int} : convV Try.prog 3 12 (.int k z) = some (.int .u64 (IntKind.u64.wrap z)) := convV_int Try.underlying3 Try.underlying12
@[simp] theorem qC3_21 {k : IntKind} {z : Int} : convV Try.prog 3 21 (.int k z) = some (.int .i32 (IntKind.i32.wrap z)) := convV_int Try.underlying3 Try.underlying21
@[simp] theorem qC3_73 {k : IntKind} {z : Int} : convV Try.prog 3 73 (.int k z) = some (.int .u64 (IntKind.u64.wrap z)) := convV_int Try.underlying3 Try.underlying73
@[simp] theorem qC3_86 {k : IntKind} {z : Int} : convV Try.prog 3 86 (.int k z) = some (.int .u64 (IntKind.u64.wrap z)) := convV_int Try.underlying3 Try.underlying86
@[simp] theorem qC3_94 {k : IntKind} {z : Int} : convV Try.prog 3 94 (.int k z) = some (.int .u32 (IntKind.u32.wrap z)) := convV_int Try.underlying3 Try.underlying94
@[simp] theorem qC5_2 {k : IntKind} {z : Int} : convV Try.prog 5 2 (.int k z) = some (.int .i64 (IntKind.i64.wrap z)) := convV_int Try.underlying5 Try.underlying2
@[simp] theorem qC5_3 {k : IntKind} {z : Int} : convV Try.prog 5 3 (.int k z) = some (.int .i64 (IntKind.i64.wrap z)) := convV_int Try.underlying5 Try.underlying3
@[simp] theorem qC5_5 {k : IntKind} {z : Int} : convV Try.prog 5 5 (.int k z) = some (.int .u8 (IntKind.u8.wrap z)) := convV_int Try.underlying5 Try.underlying5
@[simp] theorem qC5_12 {k : IntKind} {z : Int} : convV Try.prog 5 12 (.int k z) = some (.int .u64 (IntKind.u64.wrap z)) := convV_int Try.underlying5 Try.underlying12
@[simp] theorem qC5_21 {k : IntKind} {z : Int} : convV Try.prog 5 21 (.int k z) = some (.int .i32 (IntKind.i32.wrap z)) := convV_int Try.underlying5 Try.underlying21
@[simp] theorem qC5_73 {k : IntKind} {z : Int} : convV Try.prog 5 73 (.int k z) = some (.int .u64 (IntKind.u64.wrap z)) := convV_int Try.underlying5 Try.underlying73
@[simp] theorem qC5_86 {k : IntKind} {z : Int} : convV Try.prog 5 86 (.int k z) = some (.int .u64 (IntKind.u64.wrap z)) := convV_int Try.underlying5 Try.underlying86
@[simp] theorem qC5_94 {k : IntKind} {z : Int} : convV Try.prog 5 94 (.int k z) = some (.int .u32 (IntKind.u32.wrap z)) := convV_int Try.underlying5 Try.underlying94
@[simp] theorem qC12_2 {k : IntKind} {z : Int} : convV Try.prog 12 2 (.int k z) = some (.int .i64 (IntKind.i64.wrap z)) := convV_int Try.underlying12 Try.underlying2
@[simp] theorem qC12_3 {k : IntKind} {z : Int} : convV Try.prog 12 3 (.int k z) = some (.int .i64 (IntKind.i64.wrap z)) := convV_int Try.underlying12 Try.underlying3
@[simp] theorem qC12_5 {k : IntKind} {z : Int} : convV Try.prog 12 5 (.int k z) = some (.int .u8 (IntKind.u8.wrap z)) := convV_int Try.underlying12 Try.underlying5
@[simp] theorem qC12_12 {k : IntKind} {z : Int} : convV Try.prog 12 12 (.int k z) = some (.int .u64 (IntKind.u64.wrap z)) := convV_int Try.underlying12 Try.underlying12
@[simp] theorem qC12_21 {k : IntKind} {z : Int} : convV Try.prog 12 21 (.int k z) = some (.int .i32 (IntKind.i32.wrap z)) := convV_int Try.underlying12 Try.underlying21
@[simp] theorem qC12_73 {k : IntKind} {z : Int} : convV Try.prog 12 73 (.int k z) = some (.int .u64 (IntKind.u64.wrap z)) := convV_int Try.underlying12 Try.underlying73
@[simp] theorem qC12_86 {k : IntKind} {z : Int} : convV Try.prog 12 86 (.int k z) = some (.int .u64 (IntKind.u64.wrap z)) := convV_int Try.underlying12 Try.underlying86
@[simp] theorem qC12_94 {k : IntKind} {z : Int} : convV Try.prog 12 94 (.int k z) = some (.int .u32 (IntKind.u32.wrap z)) := convV_int Try.underlying12 Try.underlying94
@[simp] theorem qC21_2 {k : IntKind} {z : Int} : convV Try.prog 21 2 (.int k z) = some (.int .i64 (IntKind.i64.wrap z)) := convV_int Try.underlying21 Try.underlying2
@[simp] theorem qC21_3 {k : IntKind} {z : Int} : convV Try.prog 21 3 (.int k z) = some (.int .i64 (IntKind.i64.wrap z)) := convV_int Try.underlying21 Try.underlying3
@[simp] theorem qC21_5 {k : IntKind} {z : Int} : convV Try.prog 21 5 (.int k z) = some (.int .u8 (IntKind.u8.wrap z)) := convV_int Try.underlying21 Try.underlying5
@[simp] theorem qC21_12 {k : IntKind} {z : Int} : convV Try.prog 21 12 (.int k z) = some (.int .u64 (IntKind.u64.wrap z)) := convV_int Try.underlying21 Try.underlying12
@[simp] theorem qC21_21 {k : IntKind} {z : Int} : convV Try.prog 21 21 (.int k z) = some (.int .i32 (IntKind.i32.wrap z)) := convV_int Try.underlying21 Try.underlying21
@[simp] theorem qC21_73 {k : IntKind} {z : Int} : convV Try.prog 21 73 (.int k z) = some (.int .u64 (IntKind.u64.wrap z)) := convV_int Try.underlying21 Try.underlying73
@[simp] theorem qC21_86 {k : IntKind} {z : Int} : convV Try.prog 21 86 (.int k z) = some (.int .u64 (IntKind.u64.wrap z)) := convV_int Try.underlying21 Try.underlying86
@[simp] theorem qC21_94 {k : IntKind} {z : Int} : convV Try.prog 21 94 (.int k z) = some (.int .u32 (IntKind.u32.wrap z)) := convV_int Try.underlying21 Try.underlying94
@[simp] theorem qC73_2 {k : IntKind} {z : Int} : convV Try.prog 73 2 (.int k z) = some (.int .i64 (IntKind.i64.wrap z)) := convV_int Try.underlying73 Try.underlying2
@[simp] theorem qC73_3 {k : IntKind} {z : Int} : convV Try.prog 73 3 (.int k z) = some (.int .i64 (IntKind.i64.wrap z)) := convV_int Try.underlying73 Try.underlying3
@[simp] theorem qC73_5 {k : IntKind} {z : Int} : convV Try.prog 73 5 (.int k z) = some (.int .u8 (IntKind.u8.wrap z)) := convV_int Try.underlying73 Try.underlying5
@[simp] theorem qC73_12 {k : IntKind} {z : Int} : convV Try.prog 73 12 (.int k z) = some (.int .u64 (IntKind.u64.wrap z)) := convV_int Try.underlying73 Try.underlying12
@[simp] theorem qC73_21 {k : IntKind} {z : Int} : convV Try.prog 73 21 (.int k z) = some (.int .i32 (IntKind.i32.wrap z)) := convV_int Try.underlying73 Try.underlying21
@[simp] theorem qC73_73 {k : IntKind} {z : Int} : convV Try.prog 73 73 (.int k z) = some (.int .u64 (IntKind.u64.wrap z)) := convV_int Try.underlying73 Try.underlying73
@[simp] theorem qC73_86 {k : IntKind} {z : Int} : convV Try.prog 73 86 (.int k z) = some (.int .u64 (IntKind.u64.wrap z)) := convV_int Try.underlying73 Try.underlying86
@[simp] theorem qC73_94 {k : IntKind} {z : Int} : convV Try.prog 73 94 (.int k z) = some (.int .u32 (IntKind.u32.wrap z)) := convV_int Try.underlying73 Try.underlying94
@[simp] theorem qC86_2 {k : IntKind} {z : Int} : convV Try.prog 86 2 (.int k z) = some (.int .i64 (IntKind.i64.wrap z)) := convV_int Try.underlying86 Try.underlying2
@[simp] theorem qC86_3 {k : IntKind} {z : Int} : convV Try.prog 86 3 (.int k z) = some (.int .i64 (IntKind.i64.wrap z)) := convV_int Try.underlying86 Try.underlying3
@[simp] theorem qC86_5 {k : IntKind} {z : Int} : convV Try.prog 86 5 (.int k z) = some (.int .u8 (IntKind.u8.wrap z)) := convV_int Try.underlying86 Try.underlying5
@[simp] theorem qC86_12 {k : IntKind} {z : Int} : convV Try.prog 86 12 (.int k z) = some (.int .u64 (IntKind.u64.wrap z)) := convV_int Try.underlying86 Try.underlying12
@[simp] theorem qC86_21 {k : IntKind} {z : Int} : convV Try.prog 86 21 (.int k z) = some (.int .i32 (IntKind.i32.wrap z)) := convV_int Try.underlying86 Try.underlying21
@[simp] theorem qC86_73 {k : IntKind} {z : Int} : convV Try.prog 86 73 (.int k z) = some (.int .u64 (IntKind.u64.wrap z)) := convV_int Try.underlying86 Try.underlying73
@[simp] theorem qC86_86 {k : IntKind} {z : Int} : convV Try.prog 86 86 (.int k z) = some (.int .u64 (IntKind.u64.wrap z)) := convV_int Try.underlying86 Try.underlying86
@[simp] theorem qC86_94 {k : IntKind} {z : Int} : convV Try.prog 86 94 (.int k z) = some (.int .u32 (IntKind.u32.wrap z)) := convV_int Try.underlying86 Try.underlying94
@[simp] theorem qC94_2 {k : IntKind} {z : Int} : convV Try.prog 94 2 (.int k z) = some (.int .i64 (IntKind.i64.wrap z)) := convV_int Try.underlying94 Try.underlying2
@[simp] theorem qC94_3 {k : IntKind} {z : Int} : convV Try.prog 94 3 (.int k z) = some (.int .i64 (IntKind.i64.wrap z)) := convV_int Try.underlying94 Try.underlying3
@[simp] theorem qC94_5 {k : IntKind} {z : Int} : convV Try.prog 94 5 (.int k z) = some (.int .u8 (IntKind.u8.wrap z)) := convV_int Try.underlying94 Try.underlying5
@[simp] theorem qC94_12 {k : IntKind} {z : Int} : convV Try.prog 94 12 (.int k z) = some (.int .u64 (IntKind.u64.wrap z)) := convV_int Try.underlying94 Try.underlying12
@[simp] theorem qC94_21 {k : IntKind} {z : Int} : convV Try.prog 94 21 (.int k z) = some (.int .i32 (IntKind.i32.wrap z)) := convV_int Try.underlying94 Try.underlying21
@[simp] theorem qC94_73 {k : IntKind} {z : Int} : convV Try.prog 94 73 (.int k z) = some (.int .u64 (IntKind.u64.wrap z)) := convV_int Try.underlying94 Try.underlying73
@[simp] theorem qC94_86 {k : IntKind} {z : Int} : convV Try.prog 94 86 (.int k z) = some (.int .u64 (IntKind.u64.wrap z)) := convV_int Try.underlying94 Try.underlying86
@[simp] theorem qC94_94 {k : IntKind} {z : Int} : convV Try.prog 94 94 (.int k z) = some (.int .u32 (IntKind.u32.wrap z)) := convV_int Try.underlying94 Try.underlying94
end Go.Proofs.Ytdpglbhiaebnoaa
