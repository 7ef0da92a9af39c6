/- What the program's types are, for simp. No conditions. -/
import Derived.Test.YtdcfofaojalilaaAw17
import Derived.Test.YtdcfofaojalilaaRows
namespace Go.Proofs.Ytdcfofaojalilaa
open Go.RowKit
@[simp] theorem qL2 : qLoad Try.prog 2 = some none := by kernel_rfl
@[simp] theorem qS2 : qSize Try.prog 2 = some 1 := by kernel_rfl
@[simp] theorem qZ2 : qZero Try.prog 2 = some [.int .i64 0] := by kernel_rfl
@[simp] theorem qL3 : qLoad Try.prog 3 = some none := by kernel_rfl
@[simp] theorem qS3 : qSize Try.prog 3 = some 1 := by kernel_rfl
@[simp] theorem qZ3 : qZero Try.prog 3 = some [.int .i64 0] := by kernel_rfl
@[simp] theorem qL4 : qLoad Try.prog 4 = some none := by kernel_rfl
@[simp] theorem qS4 : qSize Try.prog 4 = some 1 := by kernel_rfl
@[simp] theorem qZ4 : qZero Try.prog 4 = some [.bool false] := by kernel_rfl
@[simp] theorem qQ4 {x y : Bool} : binV Try.prog .eql 4 (.bool x) (.bool y) = some (.bool (x == y)) := by simp [binV, eqV, Try.underlying4]
@[simp] theorem qR4 {x y : Bool} : binV Try.prog .neq 4 (.bool x) (.bool y) = some (.bool (!(x == y))) := by simp [binV, eqV, Try.underlying4]
@[simp] theorem qL5 : qLoad Try.prog 5 = some none := by kernel_rfl
@[simp] theorem qS5 : qSize Try.prog 5 = some 1 := by kernel_rfl
@[simp] theorem qZ5 : qZero Try.prog 5 = some [.int .u8 0] := by kernel_rfl
@[simp] theorem qL9 : qLoad Try.prog 9 = some none := by kernel_rfl
@[simp] theorem qS9 : qSize Try.prog 9 = some 1 := by kernel_rfl
@[simp] theorem qZ9 : qZero Try.prog 9 = some [.string ByteArray.empty] := by kernel_rfl
@[simp] theorem qN9 {S : St} {K : Value → Mem → Prop} {s : ByteArray} : lenK Try.prog S K 9 (.string s) = K (.int .i64 (s.size : Int)) S.M := lenK_str Try.underlying9
@[simp] theorem qU9 : Try.prog.underlying 9 = some .string := Try.underlying9
@[simp] theorem qL12 : qLoad Try.prog 12 = some none := by kernel_rfl
@[simp] theorem qS12 : qSize Try.prog 12 = some 1 := by kernel_rfl
@[simp] theorem qZ12 : qZero Try.prog 12 = some [.int .u64 0] := by kernel_rfl
@[simp] theorem qL13 : qLoad Try.prog 13 = some (some 2) := by kernel_rfl
@[simp] theorem qS13 : qSize Try.prog 13 = some 2 := by kernel_rfl
@[simp] theorem qZ13 : qZero Try.prog 13 = some [.string ByteArray.empty, .int .u64 0] := by kernel_rfl
@[simp] theorem qF13_0 : qField Try.prog 13 0 = some (0, none) := by kernel_rfl
@[simp] theorem qF13_1 : qField Try.prog 13 1 = some (1, none) := by kernel_rfl
@[simp] theorem qB13 : qBuild Try.prog 13 = some (#[.string ByteArray.empty, .int .u64 0], #[(0, 1), (1, 1)]) := by kernel_rfl
@[simp] theorem qL21 : qLoad Try.prog 21 = some none := by kernel_rfl
@[simp] theorem qS21 : qSize Try.prog 21 = some 1 := by kernel_rfl
@[simp] theorem qZ21 : qZero Try.prog 21 = some [.int .i32 0] := by kernel_rfl
@[simp] theorem qL22 : qLoad Try.prog 22 = some none := by kernel_rfl
@[simp] theorem qS22 : qSize Try.prog 22 = some 1 := by kernel_rfl
@[simp] theorem qZ22 : qZero Try.prog 22 = some [.slice none 0 0] := by kernel_rfl
@[simp] theorem qE22 : qSlice Try.prog 22 = some (47, 5, 40) := by kernel_rfl
@[simp] theorem qN22 {S : St} {K : Value → Mem → Prop} {q : Option Addr} {m c : Nat} : lenK Try.prog S K 22 (.slice q m c) = K (.int .i64 (m : Int)) S.M := lenK_sl Try.underlying22
@[simp] theorem qI22 : (Try.prog.info? 47).any (fun i => i.zero.any fun z => z.cells.size == 5) = true := by kernel_rfl
@[simp] theorem qL25 : qLoad Try.prog 25 = some none := by kernel_rfl
@[simp] theorem qS25 : qSize Try.prog 25 = some 1 := by kernel_rfl
@[simp] theorem qZ25 : qZero Try.prog 25 = some [.slice none 0 0] := by kernel_rfl
@[simp] theorem qE25 : qSlice Try.prog 25 = some (45, 5, 40) := by kernel_rfl
@[simp] theorem qN25 {S : St} {K : Value → Mem → Prop} {q : Option Addr} {m c : Nat} : lenK Try.prog S K 25 (.slice q m c) = K (.int .i64 (m : Int)) S.M := lenK_sl Try.underlying25
@[simp] theorem qI25 : (Try.prog.info? 45).any (fun i => i.zero.any fun z => z.cells.size == 5) = true := by kernel_rfl
@[simp] theorem qL38 : qLoad Try.prog 38 = some none := by kernel_rfl
@[simp] theorem qS38 : qSize Try.prog 38 = some 1 := by kernel_rfl
@[simp] theorem qZ38 : qZero Try.prog 38 = some [.slice none 0 0] := by kernel_rfl
@[simp] theorem qE38 : qSlice Try.prog 38 = some (5, 1, 1) := by kernel_rfl
@[simp] theorem qN38 {S : St} {K : Value → Mem → Prop} {q : Option Addr} {m c : Nat} : lenK Try.prog S K 38 (.slice q m c) = K (.int .i64 (m : Int)) S.M := lenK_sl Try.underlying38
@[simp] theorem qI38 : (Try.prog.info? 5).any (fun i => i.zero.any fun z => z.cells.size == 1) = true := by kernel_rfl
@[simp] theorem qL44 : qLoad Try.prog 44 = some (some 5) := by kernel_rfl
@[simp] theorem qS44 : qSize Try.prog 44 = some 5 := by kernel_rfl
@[simp] theorem qZ44 : qZero Try.prog 44 = some [.int .i64 0, .int .i64 0, .int .i64 0, .int .i64 0, .int .i64 0] := by kernel_rfl
@[simp] theorem qF44_0 : qField Try.prog 44 0 = some (0, none) := by kernel_rfl
@[simp] theorem qF44_1 : qField Try.prog 44 1 = some (1, none) := by kernel_rfl
@[simp] theorem qF44_2 : qField Try.prog 44 2 = some (2, none) := by kernel_rfl
@[simp] theorem qF44_3 : qField Try.prog 44 3 = some (3, none) := by kernel_rfl
@[simp] theorem qF44_4 : qField Try.prog 44 4 = some (4, none) := by kernel_rfl
@[simp] theorem qB44 : qBuild Try.prog 44 = some (#[.int .i64 0, .int .i64 0, .int .i64 0, .int .i64 0, .int .i64 0], #[(0, 1), (1, 1), (2, 1), (3, 1), (4, 1)]) := by kernel_rfl
@[simp] theorem qL45 : qLoad Try.prog 45 = some (some 5) := by kernel_rfl
@[simp] theorem qS45 : qSize Try.prog 45 = some 5 := by kernel_rfl
@[simp] theorem qZ45 : qZero Try.prog 45 = some [.int .i64 0, .int .i64 0, .int .i64 0, .int .i64 0, .int .i64 0] := by kernel_rfl
@[simp] theorem qF45_0 : qField Try.prog 45 0 = some (0, none) := by kernel_rfl
@[simp] theorem qF45_1 : qField Try.prog 45 1 = some (1, none) := by kernel_rfl
@[simp] theorem qF45_2 : qField Try.prog 45 2 = some (2, none) := by kernel_rfl
@[simp] theorem qF45_3 : qField Try.prog 45 3 = some (3, none) := by kernel_rfl
@[simp] theorem qF45_4 : qField Try.prog 45 4 = some (4, none) := by kernel_rfl
@[simp] theorem qB45 : qBuild Try.prog 45 = some (#[.int .i64 0, .int .i64 0, .int .i64 0, .int .i64 0, .int .i64 0], #[(0, 1), (1, 1), (2, 1), (3, 1), (4, 1)]) := by kernel_rfl
@[simp] theorem qL47 : qLoad Try.prog 47 = some (some 5) := by kernel_rfl
@[simp] theorem qS47 : qSize Try.prog 47 = some 5 := by kernel_rfl
@[simp] theorem qZ47 : qZero Try.prog 47 = some [.int .i64 0, .int .i64 0, .int .i64 0, .int .i64 0, .int .i64 0] := by kernel_rfl
@[simp] theorem qF47_0 : qField Try.prog 47 0 = some (0, none) := by kernel_rfl
@[simp] theorem qF47_1 : qField Try.prog 47 1 = some (1, none) := by kernel_rfl
@[simp] theorem qF47_2 : qField Try.prog 47 2 = some (2, none) := by kernel_rfl
@[simp] theorem qF47_3 : qField Try.prog 47 3 = some (3, none) := by kernel_rfl
@[simp] theorem qF47_4 : qField Try.prog 47 4 = some (4, none) := by kernel_rfl
@[simp] theorem qB47 : qBuild Try.prog 47 = some (#[.int .i64 0, .int .i64 0, .int .i64 0, .int .i64 0, .int .i64 0], #[(0, 1), (1, 1), (2, 1), (3, 1), (4, 1)]) := by kernel_rfl
@[simp] theorem qL55 : qLoad Try.prog 55 = some none := by kernel_rfl
@[simp] theorem qS55 : qSize Try.prog 55 = some 1 := by kernel_rfl
@[simp] theorem qZ55 : qZero Try.prog 55 = some [.pointer none] := by kernel_rfl
@[simp] theorem qL59 : qLoad Try.prog 59 = some none := by kernel_rfl
@[simp] theorem qS59 : qSize Try.prog 59 = some 1 := by kernel_rfl
@[simp] theorem qZ59 : qZero Try.prog 59 = some [.pointer none] := by kernel_rfl
@[simp] theorem qL62 : qLoad Try.prog 62 = some none := by kernel_rfl
@[simp] theorem qS62 : qSize Try.prog 62 = some 1 := by kernel_rfl
@[simp] theorem qZ62 : qZero Try.prog 62 = some [.int .u64 0] := by kernel_rfl
@[simp] theorem qL63 : qLoad Try.prog 63 = some (some 3) := by kernel_rfl
@[simp] theorem qS63 : qSize Try.prog 63 = some 3 := by kernel_rfl
@[simp] theorem qZ63 : qZero Try.prog 63 = some [.slice none 0 0, .int .i64 0, .int .u64 0] := by kernel_rfl
@[simp] theorem qF63_0 : qField Try.prog 63 0 = some (0, none) := by kernel_rfl
@[simp] theorem qF63_1 : qField Try.prog 63 1 = some (1, none) := by kernel_rfl
@[simp] theorem qF63_2 : qField Try.prog 63 2 = some (2, none) := by kernel_rfl
@[simp] theorem qB63 : qBuild Try.prog 63 = some (#[.slice none 0 0, .int .i64 0, .int .u64 0], #[(0, 1), (1, 1), (2, 1)]) := by kernel_rfl
@[simp] theorem qL64 : qLoad Try.prog 64 = some (some 3) := by kernel_rfl
@[simp] theorem qS64 : qSize Try.prog 64 = some 3 := by kernel_rfl
@[simp] theorem qZ64 : qZero Try.prog 64 = some [.slice none 0 0, .int .i64 0, .int .u64 0] := by kernel_rfl
@[simp] theorem qF64_0 : qField Try.prog 64 0 = some (0, none) := by kernel_rfl
@[simp] theorem qF64_1 : qField Try.prog 64 1 = some (1, none) := by kernel_rfl
@[simp] theorem qF64_2 : qField Try.prog 64 2 = some (2, none) := by kernel_rfl
@[simp] theorem qB64 : qBuild Try.prog 64 = some (#[.slice none 0 0, .int .i64 0, .int .u64 0], #[(0, 1), (1, 1), (2, 1)]) := by kernel_rfl
@[simp] theorem qL66 : qLoad Try.prog 66 = some none := by kernel_rfl
@[simp] theorem qS66 : qSize Try.prog 66 = some 1 := by kernel_rfl
@[simp] theorem qZ66 : qZero Try.prog 66 = some [.pointer none] := by kernel_rfl
@[simp] theorem qL68 : qLoad Try.prog 68 = some none := by kernel_rfl
@[simp] theorem qS68 : qSize Try.prog 68 = some 1 := by kernel_rfl
@[simp] theorem qZ68 : qZero Try.prog 68 = some [.slice none 0 0] := by kernel_rfl
@[simp] theorem qE68 : qSlice Try.prog 68 = some (4, 1, 1) := by kernel_rfl
@[simp] theorem qN68 {S : St} {K : Value → Mem → Prop} {q : Option Addr} {m c : Nat} : lenK Try.prog S K 68 (.slice q m c) = K (.int .i64 (m : Int)) S.M := lenK_sl Try.underlying68
@[simp] theorem qI68 : (Try.prog.info? 4).any (fun i => i.zero.any fun z => z.cells.size == 1) = true := by kernel_rfl
@[simp] theorem qL69 : qLoad Try.prog 69 = some none := by kernel_rfl
@[simp] theorem qS69 : qSize Try.prog 69 = some 1 := by kernel_rfl
@[simp] theorem qZ69 : qZero Try.prog 69 = some [.slice none 0 0] := by kernel_rfl
@[simp] theorem qE69 : qSlice Try.prog 69 = some (3, 1, 8) := by kernel_rfl
@[simp] theorem qN69 {S : St} {K : Value → Mem → Prop} {q : Option Addr} {m c : Nat} : lenK Try.prog S K 69 (.slice q m c) = K (.int .i64 (m : Int)) S.M := lenK_sl Try.underlying69
@[simp] theorem qI69 : (Try.prog.info? 3).any (fun i => i.zero.any fun z => z.cells.size == 1) = true := by kernel_rfl
@[simp] theorem qL70 : qLoad Try.prog 70 = some (some 4) := by kernel_rfl
@[simp] theorem qS70 : qSize Try.prog 70 = some 4 := by kernel_rfl
@[simp] theorem qZ70 : qZero Try.prog 70 = some [.slice none 0 0, .slice none 0 0, .slice none 0 0, .int .i64 0] := by kernel_rfl
@[simp] theorem qF70_0 : qField Try.prog 70 0 = some (0, none) := by kernel_rfl
@[simp] theorem qF70_1 : qField Try.prog 70 1 = some (1, none) := by kernel_rfl
@[simp] theorem qF70_2 : qField Try.prog 70 2 = some (2, none) := by kernel_rfl
@[simp] theorem qF70_3 : qField Try.prog 70 3 = some (3, none) := by kernel_rfl
@[simp] theorem qB70 : qBuild Try.prog 70 = some (#[.slice none 0 0, .slice none 0 0, .slice none 0 0, .int .i64 0], #[(0, 1), (1, 1), (2, 1), (3, 1)]) := by kernel_rfl
@[simp] theorem qL71 : qLoad Try.prog 71 = some (some 4) := by kernel_rfl
@[simp] theorem qS71 : qSize Try.prog 71 = some 4 := by kernel_rfl
@[simp] theorem qZ71 : qZero Try.prog 71 = some [.slice none 0 0, .slice none 0 0, .slice none 0 0, .int .i64 0] := by kernel_rfl
@[simp] theorem qF71_0 : qField Try.prog 71 0 = some (0, none) := by kernel_rfl
@[simp] theorem qF71_1 : qField Try.prog 71 1 = some (1, none) := by kernel_rfl
@[simp] theorem qF71_2 : qField Try.prog 71 2 = some (2, none) := by kernel_rfl
@[simp] theorem qF71_3 : qField Try.prog 71 3 = some (3, none) := by kernel_rfl
@[simp] theorem qB71 : qBuild Try.prog 71 = some (#[.slice none 0 0, .slice none 0 0, .slice none 0 0, .int .i64 0], #[(0, 1), (1, 1), (2, 1), (3, 1)]) := by kernel_rfl
@[simp] theorem qL76 : qLoad Try.prog 76 = some none := by kernel_rfl
@[simp] theorem qS76 : qSize Try.prog 76 = some 1 := by kernel_rfl
@[simp] theorem qZ76 : qZero Try.prog 76 = some [.int .u64 0] := by kernel_rfl
@[simp] theorem qL84 : qLoad Try.prog 84 = some none := by kernel_rfl
@[simp] theorem qS84 : qSize Try.prog 84 = some 1 := by kernel_rfl
@[simp] theorem qZ84 : qZero Try.prog 84 = some [.int .u32 0] := by kernel_rfl
@[simp] theorem qL88 : qLoad Try.prog 88 = some none := by kernel_rfl
@[simp] theorem qS88 : qSize Try.prog 88 = some 1 := by kernel_rfl
@[simp] theorem qZ88 : qZero Try.prog 88 = some [.pointer none] := by kernel_rfl
@[simp] theorem qC2_2 {k : IntKind} {z : Int} : convV Try.prog 2 2 (.int k z) = some (.int .i64 (IntKind.i64.wrap z)) := convV_int Try.underlying2 Try.underlying2
@[simp] theorem qC2_3 {k : IntKind} {z : Int} : convV Try.prog 2 3 (.int k z) = some (.int .i64 (IntKind.i64.wrap z)) := convV_int Try.underlying2 Try.underlying3
@[simp] theorem qC2_5 {k : IntKind} {z : Int} : convV Try.prog 2 5 (.int k z) = some (.int .u8 (IntKind.u8.wrap z)) := convV_int Try.underlying2 Try.underlying5
@[simp] theorem qC2_12 {k : IntKind} {z : Int} : convV Try.prog 2 12 (.int k z) = some (.int .u64 (IntKind.u64.wrap z)) := convV_int Try.underlying2 Try.underlying12
@[simp] theorem qC2_21 {k : IntKind} {z : Int} : convV Try.prog 2 21 (.int k z) = some (.int .i32 (IntKind.i32.wrap z)) := convV_int Try.underlying2 Try.underlying21
@[simp] theorem qC2_62 {k : IntKind} {z : Int} : convV Try.prog 2 62 (.int k z) = some (.int .u64 (IntKind.u64.wrap z)) := convV_int Try.underlying2 Try.underlying62
@[simp] theorem qC2_76 {k : IntKind} {z : Int} : convV Try.prog 2 76 (.int k z) = some (.int .u64 (IntKind.u64.wrap z)) := convV_int Try.underlying2 Try.underlying76
@[simp] theorem qC2_84 {k : IntKind} {z : Int} : convV Try.prog 2 84 (.int k z) = some (.int .u32 (IntKind.u32.wrap z)) := convV_int Try.underlying2 Try.underlying84
@[simp] theorem qC3_2 {k : IntKind} {z : Int} : convV Try.prog 3 2 (.int k z) = some (.int .i64 (IntKind.i64.wrap z)) := convV_int Try.underlying3 Try.underlying2
@[simp] theorem qC3_3 {k : IntKind} {z : Int} : convV Try.prog 3 3 (.int k z) = some (.int .i64 (IntKind.i64.wrap z)) := convV_int Try.underlying3 Try.underlying3
@[simp] theorem qC3_5 {k : IntKind} {z : Int} : convV Try.prog 3 5 (.int k z) = some (.int .u8 (IntKind.u8.wrap z)) := convV_int Try.underlying3 Try.underlying5
@[simp] theorem qC3_12 {k : IntKind} {z : Int} : convV Try.prog 3 12 (.int k z) = some (.int .u64 (IntKind.u64.wrap z)) := convV_int Try.underlying3 Try.underlying12
@[simp] theorem qC3_21 {k : IntKind} {z : Int} : convV Try.prog 3 21 (.int k z) = some (.int .i32 (IntKind.i32.wrap z)) := convV_int Try.underlying3 Try.underlying21
@[simp] theorem qC3_62 {k : IntKind} {z : Int} : convV Try.prog 3 62 (.int k z) = some (.int .u64 (IntKind.u64.wrap z)) := convV_int Try.underlying3 Try.underlying62
@[simp] theorem qC3_76 {k : IntKind} {z : Int} : convV Try.prog 3 76 (.int k z) = some (.int .u64 (IntKind.u64.wrap z)) := convV_int Try.underlying3 Try.underlying76
@[simp] theorem qC3_84 {k : IntKind} {z : Int} : convV Try.prog 3 84 (.int k z) = some (.int .u32 (IntKind.u32.wrap z)) := convV_int Try.underlying3 Try.underlying84
@[simp] theorem qC5_2 {k : IntKind} {z : Int} : convV Try.prog 5 2 (.int k z) = some (.int .i64 (IntKind.i64.wrap z)) := convV_int Try.underlying5 Try.underlying2
@[simp] theorem qC5_3 {k : IntKind} {z : Int} : convV Try.prog 5 3 (.int k z) = some (.int .i64 (IntKind.i64.wrap z)) := convV_int Try.underlying5 Try.underlying3
@[simp] theorem qC5_5 {k : IntKind} {z : Int} : convV Try.prog 5 5 (.int k z) = some (.int .u8 (IntKind.u8.wrap z)) := convV_int Try.underlying5 Try.underlying5
@[simp] theorem qC5_12 {k : IntKind} {z : Int} : convV Try.prog 5 12 (.int k z) = some (.int .u64 (IntKind.u64.wrap z)) := convV_int Try.underlying5 Try.underlying12
@[simp] theorem qC5_21 {k : IntKind} {z : Int} : convV Try.prog 5 21 (.int k z) = some (.int .i32 (IntKind.i32.wrap z)) := convV_int Try.underlying5 Try.underlying21
@[simp] theorem qC5_62 {k : IntKind} {z : Int} : convV Try.prog 5 62 (.int k z) = some (.int .u64 (IntKind.u64.wrap z)) := convV_int Try.underlying5 Try.underlying62
@[simp] theorem qC5_76 {k : IntKind} {z : Int} : convV Try.prog 5 76 (.int k z) = some (.int .u64 (IntKind.u64.wrap z)) := convV_int Try.underlying5 Try.underlying76
@[simp] theorem qC5_84 {k : IntKind} {z : Int} : convV Try.prog 5 84 (.int k z) = some (.int .u32 (IntKind.u32.wrap z)) := convV_int Try.underlying5 Try.underlying84
@[simp] theorem qC12_2 {k : IntKind} {z : Int} : convV Try.prog 12 2 (.int k z) = some (.int .i64 (IntKind.i64.wrap z)) := convV_int Try.underlying12 Try.underlying2
@[simp] theorem qC12_3 {k : IntKind} {z : Int} : convV Try.prog 12 3 (.int k z) = some (.int .i64 (IntKind.i64.wrap z)) := convV_int Try.underlying12 Try.underlying3
@[simp] theorem qC12_5 {k : IntKind} {z : Int} : convV Try.prog 12 5 (.int k z) = some (.int .u8 (IntKind.u8.wrap z)) := convV_int Try.underlying12 Try.underlying5
@[simp] theorem qC12_12 {k : IntKind} {z : Int} : convV Try.prog 12 12 (.int k z) = some (.int .u64 (IntKind.u64.wrap z)) := convV_int Try.underlying12 Try.underlying12
@[simp] theorem qC12_21 {k : IntKind} {z : Int} : convV Try.prog 12 21 (.int k z) = some (.int .i32 (IntKind.i32.wrap z)) := convV_int Try.underlying12 Try.underlying21
@[simp] theorem qC12_62 {k : IntKind} {z : Int} : convV Try.prog 12 62 (.int k z) = some (.int .u64 (IntKind.u64.wrap z)) := convV_int Try.underlying12 Try.underlying62
@[simp] theorem qC12_76 {k : IntKind} {z : Int} : convV Try.prog 12 76 (.int k z) = some (.int .u64 (IntKind.u64.wrap z)) := convV_int Try.underlying12 Try.underlying76
@[simp] theorem qC12_84 {k : IntKind} {z : Int} : convV Try.prog 12 84 (.int k z) = some (.int .u32 (IntKind.u32.wrap z)) := convV_int Try.underlying12 Try.underlying84
@[simp] theorem qC21_2 {k : IntKind} {z : Int} : convV Try.prog 21 2 (.int k z) = some (.int .i64 (IntKind.i64.wrap z)) := convV_int Try.underlying21 Try.underlying2
@[simp] theorem qC21_3 {k : IntKind} {z : Int} : convV Try.prog 21 3 (.int k z) = some (.int .i64 (IntKind.i64.wrap z)) := convV_int Try.underlying21 Try.underlying3
@[simp] theorem qC21_5 {k : IntKind} {z : Int} : convV Try.prog 21 5 (.int k z) = some (.int .u8 (IntKind.u8.wrap z)) := convV_int Try.underlying21 Try.underlying5
@[simp] theorem qC21_12 {k : IntKind} {z : Int} : convV Try.prog 21 12 (.int k z) = some (.int .u64 (IntKind.u64.wrap z)) := convV_int Try.underlying21 Try.underlying12
@[simp] theorem qC21_21 {k : IntKind} {z : Int} : convV Try.prog 21 21 (.int k z) = some (.int .i32 (IntKind.i32.wrap z)) := convV_int Try.underlying21 Try.underlying21
@[simp] theorem qC21_62 {k : IntKind} {z : Int} : convV Try.prog 21 62 (.int k z) = some (.int .u64 (IntKind.u64.wrap z)) := convV_int Try.underlying21 Try.underlying62
@[simp] theorem qC21_76 {k : IntKind} {z : Int} : convV Try.prog 21 76 (.int k z) = some (.int .u64 (IntKind.u64.wrap z)) := convV_int Try.underlying21 Try.underlying76
@[simp] theorem qC21_84 {k : IntKind} {z : Int} : convV Try.prog 21 84 (.int k z) = some (.int .u32 (IntKind.u32.wrap z)) := convV_int Try.underlying21 Try.underlying84
@[simp] theorem qC62_2 {k : IntKind} {z : Int} : convV Try.prog 62 2 (.int k z) = some (.int .i64 (IntKind.i64.wrap z)) := convV_int Try.underlying62 Try.underlying2
@[simp] theorem qC62_3 {k : IntKind} {z : Int} : convV Try.prog 62 3 (.int k z) = some (.int .i64 (IntKind.i64.wrap z)) := convV_int Try.underlying62 Try.underlying3
@[simp] theorem qC62_5 {k : IntKind} {z : Int} : convV Try.prog 62 5 (.int k z) = some (.int .u8 (IntKind.u8.wrap z)) := convV_int Try.underlying62 Try.underlying5
@[simp] theorem qC62_12 {k : IntKind} {z : Int} : convV Try.prog 62 12 (.int k z) = some (.int .u64 (IntKind.u64.wrap z)) := convV_int Try.underlying62 Try.underlying12
@[simp] theorem qC62_21 {k : IntKind} {z : Int} : convV Try.prog 62 21 (.int k z) = some (.int .i32 (IntKind.i32.wrap z)) := convV_int Try.underlying62 Try.underlying21
@[simp] theorem qC62_62 {k : IntKind} {z : Int} : convV Try.prog 62 62 (.int k z) = some (.int .u64 (IntKind.u64.wrap z)) := convV_int Try.underlying62 Try.underlying62
@[simp] theorem qC62_76 {k : IntKind} {z : Int} : convV Try.prog 62 76 (.int k z) = some (.int .u64 (IntKind.u64.wrap z)) := convV_int Try.underlying62 Try.underlying76
@[simp] theorem qC62_84 {k : IntKind} {z : Int} : convV Try.prog 62 84 (.int k z) = some (.int .u32 (IntKind.u32.wrap z)) := convV_int Try.underlying62 Try.underlying84
@[simp] theorem qC76_2 {k : IntKind} {z : Int} : convV Try.prog 76 2 (.int k z) = some (.int .i64 (IntKind.i64.wrap z)) := convV_int Try.underlying76 Try.underlying2
@[simp] theorem qC76_3 {k : IntKind} {z : Int} : convV Try.prog 76 3 (.int k z) = some (.int .i64 (IntKind.i64.wrap z)) := convV_int Try.underlying76 Try.underlying3
@[simp] theorem qC76_5 {k : IntKind} {z : Int} : convV Try.prog 76 5 (.int k z) = some (.int .u8 (IntKind.u8.wrap z)) := convV_int Try.underlying76 Try.underlying5
@[simp] theorem qC76_12 {k : IntKind} {z : Int} : convV Try.prog 76 12 (.int k z) = some (.int .u64 (IntKind.u64.wrap z)) := convV_int Try.underlying76 Try.underlying12
@[simp] theorem qC76_21 {k : IntKind} {z : Int} : convV Try.prog 76 21 (.int k z) = some (.int .i32 (IntKind.i32.wrap z)) := convV_int Try.underlying76 Try.underlying21
@[simp] theorem qC76_62 {k : IntKind} {z : Int} : convV Try.prog 76 62 (.int k z) = some (.int .u64 (IntKind.u64.wrap z)) := convV_int Try.underlying76 Try.underlying62
@[simp] theorem qC76_76 {k : IntKind} {z : Int} : convV Try.prog 76 76 (.int k z) = some (.int .u64 (IntKind.u64.wrap z)) := convV_int Try.underlying76 Try.underlying76
@[simp] theorem qC76_84 {k : IntKind} {z : Int} : convV Try.prog 76 84 (.int k z) = some (.int .u32 (IntKind.u32.wrap z)) := convV_int Try.underlying76 Try.underlying84
@[simp] theorem qC84_2 {k : IntKind} {z : Int} : convV Try.prog 84 2 (.int k z) = some (.int .i64 (IntKind.i64.wrap z)) := convV_int Try.underlying84 Try.underlying2
@[simp] theorem qC84_3 {k : IntKind} {z : Int} : convV Try.prog 84 3 (.int k z) = some (.int .i64 (IntKind.i64.wrap z)) := convV_int Try.underlying84 Try.underlying3
@[simp] theorem qC84_5 {k : IntKind} {z : Int} : convV Try.prog 84 5 (.int k z) = some (.int .u8 (IntKind.u8.wrap z)) := convV_int Try.underlying84 Try.underlying5
@[simp] theorem qC84_12 {k : IntKind} {z : Int} : convV Try.prog 84 12 (.int k z) = some (.int .u64 (IntKind.u64.wrap z)) := convV_int Try.underlying84 Try.underlying12
@[simp] theorem qC84_21 {k : IntKind} {z : Int} : convV Try.prog 84 21 (.int k z) = some (.int .i32 (IntKind.i32.wrap z)) := convV_int Try.underlying84 Try.underlying21
@[simp] theorem qC84_62 {k : IntKind} {z : Int} : convV Try.prog 84 62 (.int k z) = some (.int .u64 (IntKind.u64.wrap z)) := convV_int Try.underlying84 Try.underlying62
@[simp] theorem qC84_76 {k : IntKind} {z : Int} : convV Try.prog 84 76 (.int k z) = some (.int .u64 (IntKind.u64.wrap z)) := convV_int Try.underlying84 Try.underlying76
@[simp] theorem qC84_84 {k : IntKind} {z : Int} : convV Try.prog 84 84 (.int k z) = some (.int .u32 (IntKind.u32.wrap z)) := convV_int Try.underlying84 Try.underlying84
end Go.Proofs.Ytdcfofaojalilaa
