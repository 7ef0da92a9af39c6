/- What the program's types are, for simp. No conditions. -/
import Derived.Test.YtaacgipfmmomiaaAw17
import Derived.Test.YtaacgipfmmomiaaRows
namespace Go.Proofs.Ytaacgipfmmomiaa
open Go.RowKit
@[simp] theorem qL2 : qLoad Try.prog 2 = some none := by kernel_rfl
@[simp] theorem qS2 : qSize Try.prog 2 = some 1 := by kernel_rfl
@[simp] theorem qZ2 : qZero Try.prog 2 = some [.int .i64 0] := by kernel_rfl
@[simp] theorem qL3 : qLoad Try.prog 3 = some none := by kernel_rfl
@[simp] theorem qS3 : qSize Try.prog 3 = some 1 := by kernel_rfl
@[simp] theorem qZ3 : qZero Try.prog 3 = some [.int .i64 0] := by kernel_rfl
@[simp] theorem qL4 : qLoad Try.prog 4 = some none := by kernel_rfl
@[simp] theorem qS4 : qSize Try.prog 4 = some 1 := by kernel_rfl
@[simp] theorem qZ4 : qZero Try.prog 4 = some [.bool false] := by kernel_rfl
@[simp] theorem qQ4 {x y : Bool} : binV Try.prog .eql 4 (.bool x) (.bool y) = some (.bool (x == y)) := by simp [binV, eqV, Try.underlying4]
@[simp] theorem qR4 {x y : Bool} : binV Try.prog .neq 4 (.bool x) (.bool y) = some (.bool (!(x == y))) := by simp [binV, eqV, Try.underlying4]
@[simp] theorem qL5 : qLoad Try.prog 5 = some none := by kernel_rfl
@[simp] theorem qS5 : qSize Try.prog 5 = some 1 := by kernel_rfl
@[simp] theorem qZ5 : qZero Try.prog 5 = some [.int .u8 0] := by kernel_rfl
@[simp] theorem qL9 : qLoad Try.prog 9 = some none := by kernel_rfl
@[simp] theorem qS9 : qSize Try.prog 9 = some 1 := by kernel_rfl
@[simp] theorem qZ9 : qZero Try.prog 9 = some [.string ByteArray.empty] := by kernel_rfl
@[simp] theorem qN9 {S : St} {K : Value → Mem → Prop} {s : ByteArray} : lenK Try.prog S K 9 (.string s) = K (.int .i64 (s.size : Int)) S.M := lenK_str Try.underlying9
@[simp] theorem qU9 : Try.prog.underlying 9 = some .string := Try.underlying9
@[simp] theorem qL12 : qLoad Try.prog 12 = some none := by kernel_rfl
@[simp] theorem qS12 : qSize Try.prog 12 = some 1 := by kernel_rfl
@[simp] theorem qZ12 : qZero Try.prog 12 = some [.int .u64 0] := by kernel_rfl
@[simp] theorem qL13 : qLoad Try.prog 13 = some (some 2) := by kernel_rfl
@[simp] theorem qS13 : qSize Try.prog 13 = some 2 := by kernel_rfl
@[simp] theorem qZ13 : qZero Try.prog 13 = some [.string ByteArray.empty, .int .u64 0] := by kernel_rfl
@[simp] theorem qF13_0 : qField Try.prog 13 0 = some (0, none) := by kernel_rfl
@[simp] theorem qF13_1 : qField Try.prog 13 1 = some (1, none) := by kernel_rfl
@[simp] theorem qB13 : qBuild Try.prog 13 = some (#[.string ByteArray.empty, .int .u64 0], #[(0, 1), (1, 1)]) := by kernel_rfl
@[simp] theorem qL21 : qLoad Try.prog 21 = some none := by kernel_rfl
@[simp] theorem qS21 : qSize Try.prog 21 = some 1 := by kernel_rfl
@[simp] theorem qZ21 : qZero Try.prog 21 = some [.int .i32 0] := by kernel_rfl
@[simp] theorem qL22 : qLoad Try.prog 22 = some none := by kernel_rfl
@[simp] theorem qS22 : qSize Try.prog 22 = some 1 := by kernel_rfl
@[simp] theorem qZ22 : qZero Try.prog 22 = some [.slice none 0 0] := by kernel_rfl
@[simp] theorem qE22 : qSlice Try.prog 22 = some (54, 5, 40) := by kernel_rfl
@[simp] theorem qN22 {S : St} {K : Value → Mem → Prop} {q : Option Addr} {m c : Nat} : lenK Try.prog S K 22 (.slice q m c) = K (.int .i64 (m : Int)) S.M := lenK_sl Try.underlying22
@[simp] theorem qI22 : (Try.prog.info? 54).any (fun i => i.zero.any fun z => z.cells.size == 5) = true := by kernel_rfl
@[simp] theorem qL23 : qLoad Try.prog 23 = some (some 1) := by kernel_rfl
@[simp] theorem qS23 : qSize Try.prog 23 = some 1 := by kernel_rfl
@[simp] theorem qZ23 : qZero Try.prog 23 = some [.slice none 0 0] := by kernel_rfl
@[simp] theorem qF23_0 : qField Try.prog 23 0 = some (0, none) := by kernel_rfl
@[simp] theorem qB23 : qBuild Try.prog 23 = some (#[.slice none 0 0], #[(0, 1)]) := by kernel_rfl
@[simp] theorem qL24 : qLoad Try.prog 24 = some (some 1) := by kernel_rfl
@[simp] theorem qS24 : qSize Try.prog 24 = some 1 := by kernel_rfl
@[simp] theorem qZ24 : qZero Try.prog 24 = some [.slice none 0 0] := by kernel_rfl
@[simp] theorem qF24_0 : qField Try.prog 24 0 = some (0, none) := by kernel_rfl
@[simp] theorem qB24 : qBuild Try.prog 24 = some (#[.slice none 0 0], #[(0, 1)]) := by kernel_rfl
@[simp] theorem qL27 : qLoad Try.prog 27 = some none := by kernel_rfl
@[simp] theorem qS27 : qSize Try.prog 27 = some 1 := by kernel_rfl
@[simp] theorem qZ27 : qZero Try.prog 27 = some [.slice none 0 0] := by kernel_rfl
@[simp] theorem qE27 : qSlice Try.prog 27 = some (57, 5, 40) := by kernel_rfl
@[simp] theorem qN27 {S : St} {K : Value → Mem → Prop} {q : Option Addr} {m c : Nat} : lenK Try.prog S K 27 (.slice q m c) = K (.int .i64 (m : Int)) S.M := lenK_sl Try.underlying27
@[simp] theorem qI27 : (Try.prog.info? 57).any (fun i => i.zero.any fun z => z.cells.size == 5) = true := by kernel_rfl
@[simp] theorem qL28 : qLoad Try.prog 28 = some (some 1) := by kernel_rfl
@[simp] theorem qS28 : qSize Try.prog 28 = some 1 := by kernel_rfl
@[simp] theorem qZ28 : qZero Try.prog 28 = some [.slice none 0 0] := by kernel_rfl
@[simp] theorem qF28_0 : qField Try.prog 28 0 = some (0, none) := by kernel_rfl
@[simp] theorem qB28 : qBuild Try.prog 28 = some (#[.slice none 0 0], #[(0, 1)]) := by kernel_rfl
@[simp] theorem qL29 : qLoad Try.prog 29 = some (some 1) := by kernel_rfl
@[simp] theorem qS29 : qSize Try.prog 29 = some 1 := by kernel_rfl
@[simp] theorem qZ29 : qZero Try.prog 29 = some [.slice none 0 0] := by kernel_rfl
@[simp] theorem qF29_0 : qField Try.prog 29 0 = some (0, none) := by kernel_rfl
@[simp] theorem qB29 : qBuild Try.prog 29 = some (#[.slice none 0 0], #[(0, 1)]) := by kernel_rfl
@[simp] theorem qL36 : qLoad Try.prog 36 = some none := by kernel_rfl
@[simp] theorem qS36 : qSize Try.prog 36 = some 1 := by kernel_rfl
@[simp] theorem qZ36 : qZero Try.prog 36 = some [.slice none 0 0] := by kernel_rfl
@[simp] theorem qE36 : qSlice Try.prog 36 = some (112, 2, 16) := by kernel_rfl
@[simp] theorem qN36 {S : St} {K : Value → Mem → Prop} {q : Option Addr} {m c : Nat} : lenK Try.prog S K 36 (.slice q m c) = K (.int .i64 (m : Int)) S.M := lenK_sl Try.underlying36
@[simp] theorem qI36 : (Try.prog.info? 112).any (fun i => i.zero.any fun z => z.cells.size == 2) = true := by kernel_rfl
@[simp] theorem qL37 : qLoad Try.prog 37 = some (some 1) := by kernel_rfl
@[simp] theorem qS37 : qSize Try.prog 37 = some 1 := by kernel_rfl
@[simp] theorem qZ37 : qZero Try.prog 37 = some [.slice none 0 0] := by kernel_rfl
@[simp] theorem qF37_0 : qField Try.prog 37 0 = some (0, none) := by kernel_rfl
@[simp] theorem qB37 : qBuild Try.prog 37 = some (#[.slice none 0 0], #[(0, 1)]) := by kernel_rfl
@[simp] theorem qL38 : qLoad Try.prog 38 = some (some 1) := by kernel_rfl
@[simp] theorem qS38 : qSize Try.prog 38 = some 1 := by kernel_rfl
@[simp] theorem qZ38 : qZero Try.prog 38 = some [.slice none 0 0] := by kernel_rfl
@[simp] theorem qF38_0 : qField Try.prog 38 0 = some (0, none) := by kernel_rfl
@[simp] theorem qB38 : qBuild Try.prog 38 = some (#[.slice none 0 0], #[(0, 1)]) := by kernel_rfl
@[simp] theorem qL41 : qLoad Try.prog 41 = some none := by kernel_rfl
@[simp] theorem qS41 : qSize Try.prog 41 = some 1 := by kernel_rfl
@[simp] theorem qZ41 : qZero Try.prog 41 = some [.slice none 0 0] := by kernel_rfl
@[simp] theorem qE41 : qSlice Try.prog 41 = some (83, 2, 16) := by kernel_rfl
@[simp] theorem qN41 {S : St} {K : Value → Mem → Prop} {q : Option Addr} {m c : Nat} : lenK Try.prog S K 41 (.slice q m c) = K (.int .i64 (m : Int)) S.M := lenK_sl Try.underlying41
@[simp] theorem qI41 : (Try.prog.info? 83).any (fun i => i.zero.any fun z => z.cells.size == 2) = true := by kernel_rfl
@[simp] theorem qL42 : qLoad Try.prog 42 = some (some 1) := by kernel_rfl
@[simp] theorem qS42 : qSize Try.prog 42 = some 1 := by kernel_rfl
@[simp] theorem qZ42 : qZero Try.prog 42 = some [.slice none 0 0] := by kernel_rfl
@[simp] theorem qF42_0 : qField Try.prog 42 0 = some (0, none) := by kernel_rfl
@[simp] theorem qB42 : qBuild Try.prog 42 = some (#[.slice none 0 0], #[(0, 1)]) := by kernel_rfl
@[simp] theorem qL43 : qLoad Try.prog 43 = some (some 1) := by kernel_rfl
@[simp] theorem qS43 : qSize Try.prog 43 = some 1 := by kernel_rfl
@[simp] theorem qZ43 : qZero Try.prog 43 = some [.slice none 0 0] := by kernel_rfl
@[simp] theorem qF43_0 : qField Try.prog 43 0 = some (0, none) := by kernel_rfl
@[simp] theorem qB43 : qBuild Try.prog 43 = some (#[.slice none 0 0], #[(0, 1)]) := by kernel_rfl
@[simp] theorem qL53 : qLoad Try.prog 53 = some (some 5) := by kernel_rfl
@[simp] theorem qS53 : qSize Try.prog 53 = some 5 := by kernel_rfl
@[simp] theorem qZ53 : qZero Try.prog 53 = some [.int .i64 0, .int .i64 0, .int .i64 0, .int .i64 0, .int .i64 0] := by kernel_rfl
@[simp] theorem qF53_0 : qField Try.prog 53 0 = some (0, none) := by kernel_rfl
@[simp] theorem qF53_1 : qField Try.prog 53 1 = some (1, none) := by kernel_rfl
@[simp] theorem qF53_2 : qField Try.prog 53 2 = some (2, none) := by kernel_rfl
@[simp] theorem qF53_3 : qField Try.prog 53 3 = some (3, none) := by kernel_rfl
@[simp] theorem qF53_4 : qField Try.prog 53 4 = some (4, none) := by kernel_rfl
@[simp] theorem qB53 : qBuild Try.prog 53 = some (#[.int .i64 0, .int .i64 0, .int .i64 0, .int .i64 0, .int .i64 0], #[(0, 1), (1, 1), (2, 1), (3, 1), (4, 1)]) := by kernel_rfl
@[simp] theorem qL54 : qLoad Try.prog 54 = some (some 5) := by kernel_rfl
@[simp] theorem qS54 : qSize Try.prog 54 = some 5 := by kernel_rfl
@[simp] theorem qZ54 : qZero Try.prog 54 = some [.int .i64 0, .int .i64 0, .int .i64 0, .int .i64 0, .int .i64 0] := by kernel_rfl
@[simp] theorem qF54_0 : qField Try.prog 54 0 = some (0, none) := by kernel_rfl
@[simp] theorem qF54_1 : qField Try.prog 54 1 = some (1, none) := by kernel_rfl
@[simp] theorem qF54_2 : qField Try.prog 54 2 = some (2, none) := by kernel_rfl
@[simp] theorem qF54_3 : qField Try.prog 54 3 = some (3, none) := by kernel_rfl
@[simp] theorem qF54_4 : qField Try.prog 54 4 = some (4, none) := by kernel_rfl
@[simp] theorem qB54 : qBuild Try.prog 54 = some (#[.int .i64 0, .int .i64 0, .int .i64 0, .int .i64 0, .int .i64 0], #[(0, 1), (1, 1), (2, 1), (3, 1), (4, 1)]) := by kernel_rfl
@[simp] theorem qL57 : qLoad Try.prog 57 = some (some 5) := by kernel_rfl
@[simp] theorem qS57 : qSize Try.prog 57 = some 5 := by kernel_rfl
@[simp] theorem qZ57 : qZero Try.prog 57 = some [.int .i64 0, .int .i64 0, .int .i64 0, .int .i64 0, .int .i64 0] := by kernel_rfl
@[simp] theorem qF57_0 : qField Try.prog 57 0 = some (0, none) := by kernel_rfl
@[simp] theorem qF57_1 : qField Try.prog 57 1 = some (1, none) := by kernel_rfl
@[simp] theorem qF57_2 : qField Try.prog 57 2 = some (2, none) := by kernel_rfl
@[simp] theorem qF57_3 : qField Try.prog 57 3 = some (3, none) := by kernel_rfl
@[simp] theorem qF57_4 : qField Try.prog 57 4 = some (4, none) := by kernel_rfl
@[simp] theorem qB57 : qBuild Try.prog 57 = some (#[.int .i64 0, .int .i64 0, .int .i64 0, .int .i64 0, .int .i64 0], #[(0, 1), (1, 1), (2, 1), (3, 1), (4, 1)]) := by kernel_rfl
@[simp] theorem qL64 : qLoad Try.prog 64 = some none := by kernel_rfl
@[simp] theorem qS64 : qSize Try.prog 64 = some 1 := by kernel_rfl
@[simp] theorem qZ64 : qZero Try.prog 64 = some [.slice none 0 0] := by kernel_rfl
@[simp] theorem qE64 : qSlice Try.prog 64 = some (66, 1, 24) := by kernel_rfl
@[simp] theorem qN64 {S : St} {K : Value → Mem → Prop} {q : Option Addr} {m c : Nat} : lenK Try.prog S K 64 (.slice q m c) = K (.int .i64 (m : Int)) S.M := lenK_sl Try.underlying64
@[simp] theorem qI64 : (Try.prog.info? 66).any (fun i => i.zero.any fun z => z.cells.size == 1) = true := by kernel_rfl
@[simp] theorem qL66 : qLoad Try.prog 66 = some none := by kernel_rfl
@[simp] theorem qS66 : qSize Try.prog 66 = some 1 := by kernel_rfl
@[simp] theorem qZ66 : qZero Try.prog 66 = some [.slice none 0 0] := by kernel_rfl
@[simp] theorem qE66 : qSlice Try.prog 66 = some (2, 1, 8) := by kernel_rfl
@[simp] theorem qN66 {S : St} {K : Value → Mem → Prop} {q : Option Addr} {m c : Nat} : lenK Try.prog S K 66 (.slice q m c) = K (.int .i64 (m : Int)) S.M := lenK_sl Try.underlying66
@[simp] theorem qI66 : (Try.prog.info? 2).any (fun i => i.zero.any fun z => z.cells.size == 1) = true := by kernel_rfl
@[simp] theorem qL78 : qLoad Try.prog 78 = some none := by kernel_rfl
@[simp] theorem qS78 : qSize Try.prog 78 = some 1 := by kernel_rfl
@[simp] theorem qZ78 : qZero Try.prog 78 = some [.pointer none] := by kernel_rfl
@[simp] theorem qL82 : qLoad Try.prog 82 = some (some 2) := by kernel_rfl
@[simp] theorem qS82 : qSize Try.prog 82 = some 2 := by kernel_rfl
@[simp] theorem qZ82 : qZero Try.prog 82 = some [.int .i64 0, .int .i64 0] := by kernel_rfl
@[simp] theorem qF82_0 : qField Try.prog 82 0 = some (0, none) := by kernel_rfl
@[simp] theorem qF82_1 : qField Try.prog 82 1 = some (1, none) := by kernel_rfl
@[simp] theorem qB82 : qBuild Try.prog 82 = some (#[.int .i64 0, .int .i64 0], #[(0, 1), (1, 1)]) := by kernel_rfl
@[simp] theorem qL83 : qLoad Try.prog 83 = some (some 2) := by kernel_rfl
@[simp] theorem qS83 : qSize Try.prog 83 = some 2 := by kernel_rfl
@[simp] theorem qZ83 : qZero Try.prog 83 = some [.int .i64 0, .int .i64 0] := by kernel_rfl
@[simp] theorem qF83_0 : qField Try.prog 83 0 = some (0, none) := by kernel_rfl
@[simp] theorem qF83_1 : qField Try.prog 83 1 = some (1, none) := by kernel_rfl
@[simp] theorem qB83 : qBuild Try.prog 83 = some (#[.int .i64 0, .int .i64 0], #[(0, 1), (1, 1)]) := by kernel_rfl
@[simp] theorem qL87 : qLoad Try.prog 87 = some none := by kernel_rfl
@[simp] theorem qS87 : qSize Try.prog 87 = some 1 := by kernel_rfl
@[simp] theorem qZ87 : qZero Try.prog 87 = some [.pointer none] := by kernel_rfl
@[simp] theorem qL95 : qLoad Try.prog 95 = some none := by kernel_rfl
@[simp] theorem qS95 : qSize Try.prog 95 = some 1 := by kernel_rfl
@[simp] theorem qZ95 : qZero Try.prog 95 = some [.pointer none] := by kernel_rfl
@[simp] theorem qL112 : qLoad Try.prog 112 = some (some 2) := by kernel_rfl
@[simp] theorem qS112 : qSize Try.prog 112 = some 2 := by kernel_rfl
@[simp] theorem qZ112 : qZero Try.prog 112 = some [.int .i64 0, .int .i64 0] := by kernel_rfl
@[simp] theorem qF112_0 : qField Try.prog 112 0 = some (0, none) := by kernel_rfl
@[simp] theorem qF112_1 : qField Try.prog 112 1 = some (1, none) := by kernel_rfl
@[simp] theorem qB112 : qBuild Try.prog 112 = some (#[.int .i64 0, .int .i64 0], #[(0, 1), (1, 1)]) := by kernel_rfl
@[simp] theorem qL115 : qLoad Try.prog 115 = some none := by kernel_rfl
@[simp] theorem qS115 : qSize Try.prog 115 = some 1 := by kernel_rfl
@[simp] theorem qZ115 : qZero Try.prog 115 = some [.pointer none] := by kernel_rfl
@[simp] theorem qL136 : qLoad Try.prog 136 = some none := by kernel_rfl
@[simp] theorem qS136 : qSize Try.prog 136 = some 1 := by kernel_rfl
@[simp] theorem qZ136 : qZero Try.prog 136 = some [.int .u32 0] := by kernel_rfl
@[simp] theorem qL140 : qLoad Try.prog 140 = some none := by kernel_rfl
@[simp] theorem qS140 : qSize Try.prog 140 = some 1 := by kernel_rfl
@[simp] theorem qZ140 : qZero Try.prog 140 = some [.pointer none] := by kernel_rfl
@[simp] theorem qC2_2 {k : IntKind} {z : Int} : convV Try.prog 2 2 (.int k z) = some (.int .i64 (IntKind.i64.wrap z)) := convV_int Try.underlying2 Try.underlying2
@[simp] theorem qC2_3 {k : IntKind} {z : Int} : convV Try.prog 2 3 (.int k z) = some (.int .i64 (IntKind.i64.wrap z)) := convV_int Try.underlying2 Try.underlying3
@[simp] theorem qC2_5 {k : IntKind} {z : Int} : convV Try.prog 2 5 (.int k z) = some (.int .u8 (IntKind.u8.wrap z)) := convV_int Try.underlying2 Try.underlying5
@[simp] theorem qC2_12 {k : IntKind} {z : Int} : convV Try.prog 2 12 (.int k z) = some (.int .u64 (IntKind.u64.wrap z)) := convV_int Try.underlying2 Try.underlying12
@[simp] theorem qC2_21 {k : IntKind} {z : Int} : convV Try.prog 2 21 (.int k z) = some (.int .i32 (IntKind.i32.wrap z)) := convV_int Try.underlying2 Try.underlying21
@[simp] theorem qC2_136 {k : IntKind} {z : Int} : convV Try.prog 2 136 (.int k z) = some (.int .u32 (IntKind.u32.wrap z)) := convV_int Try.underlying2 Try.underlying136
@[simp] theorem qC3_2 {k : IntKind} {z : Int} : convV Try.prog 3 2 (.int k z) = some (.int .i64 (IntKind.i64.wrap z)) := convV_int Try.underlying3 Try.underlying2
@[simp] theorem qC3_3 {k : IntKind} {z : Int} : convV Try.prog 3 3 (.int k z) = some (.int .i64 (IntKind.i64.wrap z)) := convV_int Try.underlying3 Try.underlying3
@[simp] theorem qC3_5 {k : IntKind} {z : Int} : convV Try.prog 3 5 (.int k z) = some (.int .u8 (IntKind.u8.wrap z)) := convV_int Try.underlying3 Try.underlying5
@[simp] theorem qC3_12 {k : IntKind} {z : Int} : convV Try.prog 3 12 (.int k z) = some (.int .u64 (IntKind.u64.wrap z)) := convV_int Try.underlying3 Try.underlying12
@[simp] theorem qC3_21 {k : IntKind} {z : Int} : convV Try.prog 3 21 (.int k z) = some (.int .i32 (IntKind.i32.wrap z)) := convV_int Try.underlying3 Try.underlying21
@[simp] theorem qC3_136 {k : IntKind} {z : Int} : convV Try.prog 3 136 (.int k z) = some (.int .u32 (IntKind.u32.wrap z)) := convV_int Try.underlying3 Try.underlying136
@[simp] theorem qC5_2 {k : IntKind} {z : Int} : convV Try.prog 5 2 (.int k z) = some (.int .i64 (IntKind.i64.wrap z)) := convV_int Try.underlying5 Try.underlying2
@[simp] theorem qC5_3 {k : IntKind} {z : Int} : convV Try.prog 5 3 (.int k z) = some (.int .i64 (IntKind.i64.wrap z)) := convV_int Try.underlying5 Try.underlying3
@[simp] theorem qC5_5 {k : IntKind} {z : Int} : convV Try.prog 5 5 (.int k z) = some (.int .u8 (IntKind.u8.wrap z)) := convV_int Try.underlying5 Try.underlying5
@[simp] theorem qC5_12 {k : IntKind} {z : Int} : convV Try.prog 5 12 (.int k z) = some (.int .u64 (IntKind.u64.wrap z)) := convV_int Try.underlying5 Try.underlying12
@[simp] theorem qC5_21 {k : IntKind} {z : Int} : convV Try.prog 5 21 (.int k z) = some (.int .i32 (IntKind.i32.wrap z)) := convV_int Try.underlying5 Try.underlying21
@[simp] theorem qC5_136 {k : IntKind} {z : Int} : convV Try.prog 5 136 (.int k z) = some (.int .u32 (IntKind.u32.wrap z)) := convV_int Try.underlying5 Try.underlying136
@[simp] theorem qC12_2 {k : IntKind} {z : Int} : convV Try.prog 12 2 (.int k z) = some (.int .i64 (IntKind.i64.wrap z)) := convV_int Try.underlying12 Try.underlying2
@[simp] theorem qC12_3 {k : IntKind} {z : Int} : convV Try.prog 12 3 (.int k z) = some (.int .i64 (IntKind.i64.wrap z)) := convV_int Try.underlying12 Try.underlying3
@[simp] theorem qC12_5 {k : IntKind} {z : Int} : convV Try.prog 12 5 (.int k z) = some (.int .u8 (IntKind.u8.wrap z)) := convV_int Try.underlying12 Try.underlying5
@[simp] theorem qC12_12 {k : IntKind} {z : Int} : convV Try.prog 12 12 (.int k z) = some (.int .u64 (IntKind.u64.wrap z)) := convV_int Try.underlying12 Try.underlying12
@[simp] theorem qC12_21 {k : IntKind} {z : Int} : convV Try.prog 12 21 (.int k z) = some (.int .i32 (IntKind.i32.wrap z)) := convV_int Try.underlying12 Try.underlying21
@[simp] theorem qC12_136 {k : IntKind} {z : Int} : convV Try.prog 12 136 (.int k z) = some (.int .u32 (IntKind.u32.wrap z)) := convV_int Try.underlying12 Try.underlying136
@[simp] theorem qC21_2 {k : IntKind} {z : Int} : convV Try.prog 21 2 (.int k z) = some (.int .i64 (IntKind.i64.wrap z)) := convV_int Try.underlying21 Try.underlying2
@[simp] theorem qC21_3 {k : IntKind} {z : Int} : convV Try.prog 21 3 (.int k z) = some (.int .i64 (IntKind.i64.wrap z)) := convV_int Try.underlying21 Try.underlying3
@[simp] theorem qC21_5 {k : IntKind} {z : Int} : convV Try.prog 21 5 (.int k z) = some (.int .u8 (IntKind.u8.wrap z)) := convV_int Try.underlying21 Try.underlying5
@[simp] theorem qC21_12 {k : IntKind} {z : Int} : convV Try.prog 21 12 (.int k z) = some (.int .u64 (IntKind.u64.wrap z)) := convV_int Try.underlying21 Try.underlying12
@[simp] theorem qC21_21 {k : IntKind} {z : Int} : convV Try.prog 21 21 (.int k z) = some (.int .i32 (IntKind.i32.wrap z)) := convV_int Try.underlying21 Try.underlying21
@[simp] theorem qC21_136 {k : IntKind} {z : Int} : convV Try.prog 21 136 (.int k z) = some (.int .u32 (IntKind.u32.wrap z)) := convV_int Try.underlying21 Try.underlying136
@[simp] theorem qC136_2 {k : IntKind} {z : Int} : convV Try.prog 136 2 (.int k z) = some (.int .i64 (IntKind.i64.wrap z)) := convV_int Try.underlying136 Try.underlying2
@[simp] theorem qC136_3 {k : IntKind} {z : Int} : convV Try.prog 136 3 (.int k z) = some (.int .i64 (IntKind.i64.wrap z)) := convV_int Try.underlying136 Try.underlying3
@[simp] theorem qC136_5 {k : IntKind} {z : Int} : convV Try.prog 136 5 (.int k z) = some (.int .u8 (IntKind.u8.wrap z)) := convV_int Try.underlying136 Try.underlying5
@[simp] theorem qC136_12 {k : IntKind} {z : Int} : convV Try.prog 136 12 (.int k z) = some (.int .u64 (IntKind.u64.wrap z)) := convV_int Try.underlying136 Try.underlying12
@[simp] theorem qC136_21 {k : IntKind} {z : Int} : convV Try.prog 136 21 (.int k z) = some (.int .i32 (IntKind.i32.wrap z)) := convV_int Try.underlying136 Try.underlying21
@[simp] theorem qC136_136 {k : IntKind} {z : Int} : convV Try.prog 136 136 (.int k z) = some (.int .u32 (IntKind.u32.wrap z)) := convV_int Try.underlying136 Try.underlying136
end Go.Proofs.Ytaacgipfmmomiaa
