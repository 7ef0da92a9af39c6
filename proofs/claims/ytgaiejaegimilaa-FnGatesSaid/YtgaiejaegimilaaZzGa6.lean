/- What the program's types are, for simp. No conditions. -/
import Derived.Test.YtgaiejaegimilaaZzGa5
import Derived.Test.YtgaiejaegimilaaRows
namespace Go.Proofs.Ytgaiejaegimilaa
open Go.RowKit
@[simp] theorem qL2 : qLoad Try.prog 2 = some none := by kernel_rfl
@[simp] theorem qS2 : qSize Try.prog 2 = some 1 := by kernel_rfl
@[simp] theorem qZ2 : qZero Try.prog 2 = some [.int .i64 0] := by kernel_rfl
@[simp] theorem qL3 : qLoad Try.prog 3 = some none := by kernel_rfl
@[simp] theorem qS3 : qSize Try.prog 3 = some 1 := by kernel_rfl
@[simp] theorem qZ3 : qZero Try.prog 3 = some [.int .i64 0] := by kernel_rfl
@[simp] theorem qL4 : qLoad Try.prog 4 = some none := by kernel_rfl
@[simp] theorem qS4 : qSize Try.prog 4 = some 1 := by kernel_rfl
@[simp] theorem qZ4 : qZero Try.prog 4 = some [.bool false] := by kernel_rfl
@[simp] theorem qQ4 {x y : Bool} : binV Try.prog .eql 4 (.bool x) (.bool y) = some (.bool (x == y)) := by simp [binV, eqV, Try.underlying4]
@[simp] theorem qR4 {x y : Bool} : binV Try.prog .neq 4 (.bool x) (.bool y) = some (.bool (!(x == y))) := by simp [binV, eqV, Try.underlying4]
@[simp] theorem qL5 : qLoad Try.prog 5 = some none := by kernel_rfl
@[simp] theorem qS5 : qSize Try.prog 5 = some 1 := by kernel_rfl
@[simp] theorem qZ5 : qZero Try.prog 5 = some [.int .u8 0] := by kernel_rfl
@[simp] theorem qL9 : qLoad Try.prog 9 = some none := by kernel_rfl
@[simp] theorem qS9 : qSize Try.prog 9 = some 1 := by kernel_rfl
@[simp] theorem qZ9 : qZero Try.prog 9 = some [.string ByteArray.empty] := by kernel_rfl
@[simp] theorem qN9 {S : St} {K : Value → Mem → Prop} {s : ByteArray} : lenK Try.prog S K 9 (.string s) = K (.int .i64 (s.size : Int)) S.M := lenK_str Try.underlying9
@[simp] theorem qU9 : Try.prog.underlying 9 = some .string := Try.underlying9
@[simp] theorem qL12 : qLoad Try.prog 12 = some none := by kernel_rfl
@[simp] theorem qS12 : qSize Try.prog 12 = some 1 := by kernel_rfl
@[simp] theorem qZ12 : qZero Try.prog 12 = some [.int .u64 0] := by kernel_rfl
@[simp] theorem qL13 : qLoad Try.prog 13 = some (some 2) := by kernel_rfl
@[simp] theorem qS13 : qSize Try.prog 13 = some 2 := by kernel_rfl
@[simp] theorem qZ13 : qZero Try.prog 13 = some [.string ByteArray.empty, .int .u64 0] := by kernel_rfl
@[simp] theorem qF13_0 : qField Try.prog 13 0 = some (0, none) := by kernel_rfl
@[simp] theorem qF13_1 : qField Try.prog 13 1 = some (1, none) := by kernel_rfl
@[simp] theorem qB13 : qBuild Try.prog 13 = some (#[.string ByteArray.empty, .int .u64 0], #[(0, 1), (1, 1)]) := by kernel_rfl
@[simp] theorem qL21 : qLoad Try.prog 21 = some none := by kernel_rfl
@[simp] theorem qS21 : qSize Try.prog 21 = some 1 := by kernel_rfl
@[simp] theorem qZ21 : qZero Try.prog 21 = some [.int .i32 0] := by kernel_rfl
@[simp] theorem qL22 : qLoad Try.prog 22 = some none := by kernel_rfl
@[simp] theorem qS22 : qSize Try.prog 22 = some 1 := by kernel_rfl
@[simp] theorem qZ22 : qZero Try.prog 22 = some [.slice none 0 0] := by kernel_rfl
@[simp] theorem qE22 : qSlice Try.prog 22 = some (142, 7, 56) := by kernel_rfl
@[simp] theorem qN22 {S : St} {K : Value → Mem → Prop} {q : Option Addr} {m c : Nat} : lenK Try.prog S K 22 (.slice q m c) = K (.int .i64 (m : Int)) S.M := lenK_sl Try.underlying22
@[simp] theorem qI22 : (Try.prog.info? 142).any (fun i => i.zero.any fun z => z.cells.size == 7) = true := by kernel_rfl
@[simp] theorem qL23 : qLoad Try.prog 23 = some (some 1) := by kernel_rfl
@[simp] theorem qS23 : qSize Try.prog 23 = some 1 := by kernel_rfl
@[simp] theorem qZ23 : qZero Try.prog 23 = some [.slice none 0 0] := by kernel_rfl
@[simp] theorem qF23_0 : qField Try.prog 23 0 = some (0, none) := by kernel_rfl
@[simp] theorem qB23 : qBuild Try.prog 23 = some (#[.slice none 0 0], #[(0, 1)]) := by kernel_rfl
@[simp] theorem qL24 : qLoad Try.prog 24 = some (some 1) := by kernel_rfl
@[simp] theorem qS24 : qSize Try.prog 24 = some 1 := by kernel_rfl
@[simp] theorem qZ24 : qZero Try.prog 24 = some [.slice none 0 0] := by kernel_rfl
@[simp] theorem qF24_0 : qField Try.prog 24 0 = some (0, none) := by kernel_rfl
@[simp] theorem qB24 : qBuild Try.prog 24 = some (#[.slice none 0 0], #[(0, 1)]) := by kernel_rfl
@[simp] theorem qL28 : qLoad Try.prog 28 = some none := by kernel_rfl
@[simp] theorem qS28 : qSize Try.prog 28 = some 1 := by kernel_rfl
@[simp] theorem qZ28 : qZero Try.prog 28 = some [.slice none 0 0] := by kernel_rfl
@[simp] theorem qE28 : qSlice Try.prog 28 = some (62, 7, 56) := by kernel_rfl
@[simp] theorem qN28 {S : St} {K : Value → Mem → Prop} {q : Option Addr} {m c : Nat} : lenK Try.prog S K 28 (.slice q m c) = K (.int .i64 (m : Int)) S.M := lenK_sl Try.underlying28
@[simp] theorem qI28 : (Try.prog.info? 62).any (fun i => i.zero.any fun z => z.cells.size == 7) = true := by kernel_rfl
@[simp] theorem qL29 : qLoad Try.prog 29 = some (some 1) := by kernel_rfl
@[simp] theorem qS29 : qSize Try.prog 29 = some 1 := by kernel_rfl
@[simp] theorem qZ29 : qZero Try.prog 29 = some [.slice none 0 0] := by kernel_rfl
@[simp] theorem qF29_0 : qField Try.prog 29 0 = some (0, none) := by kernel_rfl
@[simp] theorem qB29 : qBuild Try.prog 29 = some (#[.slice none 0 0], #[(0, 1)]) := by kernel_rfl
@[simp] theorem qL30 : qLoad Try.prog 30 = some (some 1) := by kernel_rfl
@[simp] theorem qS30 : qSize Try.prog 30 = some 1 := by kernel_rfl
@[simp] theorem qZ30 : qZero Try.prog 30 = some [.slice none 0 0] := by kernel_rfl
@[simp] theorem qF30_0 : qField Try.prog 30 0 = some (0, none) := by kernel_rfl
@[simp] theorem qB30 : qBuild Try.prog 30 = some (#[.slice none 0 0], #[(0, 1)]) := by kernel_rfl
@[simp] theorem qL34 : qLoad Try.prog 34 = some none := by kernel_rfl
@[simp] theorem qS34 : qSize Try.prog 34 = some 1 := by kernel_rfl
@[simp] theorem qZ34 : qZero Try.prog 34 = some [.slice none 0 0] := by kernel_rfl
@[simp] theorem qE34 : qSlice Try.prog 34 = some (151, 3, 24) := by kernel_rfl
@[simp] theorem qN34 {S : St} {K : Value → Mem → Prop} {q : Option Addr} {m c : Nat} : lenK Try.prog S K 34 (.slice q m c) = K (.int .i64 (m : Int)) S.M := lenK_sl Try.underlying34
@[simp] theorem qI34 : (Try.prog.info? 151).any (fun i => i.zero.any fun z => z.cells.size == 3) = true := by kernel_rfl
@[simp] theorem qL35 : qLoad Try.prog 35 = some (some 1) := by kernel_rfl
@[simp] theorem qS35 : qSize Try.prog 35 = some 1 := by kernel_rfl
@[simp] theorem qZ35 : qZero Try.prog 35 = some [.slice none 0 0] := by kernel_rfl
@[simp] theorem qF35_0 : qField Try.prog 35 0 = some (0, none) := by kernel_rfl
@[simp] theorem qB35 : qBuild Try.prog 35 = some (#[.slice none 0 0], #[(0, 1)]) := by kernel_rfl
@[simp] theorem qL36 : qLoad Try.prog 36 = some (some 1) := by kernel_rfl
@[simp] theorem qS36 : qSize Try.prog 36 = some 1 := by kernel_rfl
@[simp] theorem qZ36 : qZero Try.prog 36 = some [.slice none 0 0] := by kernel_rfl
@[simp] theorem qF36_0 : qField Try.prog 36 0 = some (0, none) := by kernel_rfl
@[simp] theorem qB36 : qBuild Try.prog 36 = some (#[.slice none 0 0], #[(0, 1)]) := by kernel_rfl
@[simp] theorem qL38 : qLoad Try.prog 38 = some none := by kernel_rfl
@[simp] theorem qS38 : qSize Try.prog 38 = some 1 := by kernel_rfl
@[simp] theorem qZ38 : qZero Try.prog 38 = some [.slice none 0 0] := by kernel_rfl
@[simp] theorem qE38 : qSlice Try.prog 38 = some (65, 5, 40) := by kernel_rfl
@[simp] theorem qN38 {S : St} {K : Value → Mem → Prop} {q : Option Addr} {m c : Nat} : lenK Try.prog S K 38 (.slice q m c) = K (.int .i64 (m : Int)) S.M := lenK_sl Try.underlying38
@[simp] theorem qI38 : (Try.prog.info? 65).any (fun i => i.zero.any fun z => z.cells.size == 5) = true := by kernel_rfl
@[simp] theorem qL41 : qLoad Try.prog 41 = some none := by kernel_rfl
@[simp] theorem qS41 : qSize Try.prog 41 = some 1 := by kernel_rfl
@[simp] theorem qZ41 : qZero Try.prog 41 = some [.slice none 0 0] := by kernel_rfl
@[simp] theorem qE41 : qSlice Try.prog 41 = some (148, 3, 24) := by kernel_rfl
@[simp] theorem qN41 {S : St} {K : Value → Mem → Prop} {q : Option Addr} {m c : Nat} : lenK Try.prog S K 41 (.slice q m c) = K (.int .i64 (m : Int)) S.M := lenK_sl Try.underlying41
@[simp] theorem qI41 : (Try.prog.info? 148).any (fun i => i.zero.any fun z => z.cells.size == 3) = true := by kernel_rfl
@[simp] theorem qL42 : qLoad Try.prog 42 = some (some 1) := by kernel_rfl
@[simp] theorem qS42 : qSize Try.prog 42 = some 1 := by kernel_rfl
@[simp] theorem qZ42 : qZero Try.prog 42 = some [.slice none 0 0] := by kernel_rfl
@[simp] theorem qF42_0 : qField Try.prog 42 0 = some (0, none) := by kernel_rfl
@[simp] theorem qB42 : qBuild Try.prog 42 = some (#[.slice none 0 0], #[(0, 1)]) := by kernel_rfl
@[simp] theorem qL43 : qLoad Try.prog 43 = some (some 1) := by kernel_rfl
@[simp] theorem qS43 : qSize Try.prog 43 = some 1 := by kernel_rfl
@[simp] theorem qZ43 : qZero Try.prog 43 = some [.slice none 0 0] := by kernel_rfl
@[simp] theorem qF43_0 : qField Try.prog 43 0 = some (0, none) := by kernel_rfl
@[simp] theorem qB43 : qBuild Try.prog 43 = some (#[.slice none 0 0], #[(0, 1)]) := by kernel_rfl
@[simp] theorem qL52 : qLoad Try.prog 52 = some none := by kernel_rfl
@[simp] theorem qS52 : qSize Try.prog 52 = some 1 := by kernel_rfl
@[simp] theorem qZ52 : qZero Try.prog 52 = some [.slice none 0 0] := by kernel_rfl
@[simp] theorem qE52 : qSlice Try.prog 52 = some (5, 1, 1) := by kernel_rfl
@[simp] theorem qN52 {S : St} {K : Value → Mem → Prop} {q : Option Addr} {m c : Nat} : lenK Try.prog S K 52 (.slice q m c) = K (.int .i64 (m : Int)) S.M := lenK_sl Try.underlying52
@[simp] theorem qI52 : (Try.prog.info? 5).any (fun i => i.zero.any fun z => z.cells.size == 1) = true := by kernel_rfl
@[simp] theorem qL57 : qLoad Try.prog 57 = some (some 2) := by kernel_rfl
@[simp] theorem qS57 : qSize Try.prog 57 = some 2 := by kernel_rfl
@[simp] theorem qZ57 : qZero Try.prog 57 = some [.int .i64 0, .int .i64 0] := by kernel_rfl
@[simp] theorem qF57_0 : qField Try.prog 57 0 = some (0, none) := by kernel_rfl
@[simp] theorem qF57_1 : qField Try.prog 57 1 = some (1, none) := by kernel_rfl
@[simp] theorem qB57 : qBuild Try.prog 57 = some (#[.int .i64 0, .int .i64 0], #[(0, 1), (1, 1)]) := by kernel_rfl
@[simp] theorem qL58 : qLoad Try.prog 58 = some (some 2) := by kernel_rfl
@[simp] theorem qS58 : qSize Try.prog 58 = some 2 := by kernel_rfl
@[simp] theorem qZ58 : qZero Try.prog 58 = some [.int .i64 0, .int .i64 0] := by kernel_rfl
@[simp] theorem qF58_0 : qField Try.prog 58 0 = some (0, none) := by kernel_rfl
@[simp] theorem qF58_1 : qField Try.prog 58 1 = some (1, none) := by kernel_rfl
@[simp] theorem qB58 : qBuild Try.prog 58 = some (#[.int .i64 0, .int .i64 0], #[(0, 1), (1, 1)]) := by kernel_rfl
@[simp] theorem qL61 : qLoad Try.prog 61 = some (some 7) := by kernel_rfl
@[simp] theorem qS61 : qSize Try.prog 61 = some 7 := by kernel_rfl
@[simp] theorem qZ61 : qZero Try.prog 61 = some [.int .i64 0, .int .i64 0, .int .i64 0, .int .i64 0, .int .i64 0, .int .i64 0, .int .i64 0] := by kernel_rfl
@[simp] theorem qF61_0 : qField Try.prog 61 0 = some (0, some 2) := by kernel_rfl
@[simp] theorem qF61_1 : qField Try.prog 61 1 = some (2, some 2) := by kernel_rfl
@[simp] theorem qF61_2 : qField Try.prog 61 2 = some (4, none) := by kernel_rfl
@[simp] theorem qF61_3 : qField Try.prog 61 3 = some (5, none) := by kernel_rfl
@[simp] theorem qF61_4 : qField Try.prog 61 4 = some (6, none) := by kernel_rfl
@[simp] theorem qB61 : qBuild Try.prog 61 = some (#[.int .i64 0, .int .i64 0, .int .i64 0, .int .i64 0, .int .i64 0, .int .i64 0, .int .i64 0], #[(0, 2), (2, 2), (4, 1), (5, 1), (6, 1)]) := by kernel_rfl
@[simp] theorem qL62 : qLoad Try.prog 62 = some (some 7) := by kernel_rfl
@[simp] theorem qS62 : qSize Try.prog 62 = some 7 := by kernel_rfl
@[simp] theorem qZ62 : qZero Try.prog 62 = some [.int .i64 0, .int .i64 0, .int .i64 0, .int .i64 0, .int .i64 0, .int .i64 0, .int .i64 0] := by kernel_rfl
@[simp] theorem qF62_0 : qField Try.prog 62 0 = some (0, some 2) := by kernel_rfl
@[simp] theorem qF62_1 : qField Try.prog 62 1 = some (2, some 2) := by kernel_rfl
@[simp] theorem qF62_2 : qField Try.prog 62 2 = some (4, none) := by kernel_rfl
@[simp] theorem qF62_3 : qField Try.prog 62 3 = some (5, none) := by kernel_rfl
@[simp] theorem qF62_4 : qField Try.prog 62 4 = some (6, none) := by kernel_rfl
@[simp] theorem qB62 : qBuild Try.prog 62 = some (#[.int .i64 0, .int .i64 0, .int .i64 0, .int .i64 0, .int .i64 0, .int .i64 0, .int .i64 0], #[(0, 2), (2, 2), (4, 1), (5, 1), (6, 1)]) := by kernel_rfl
@[simp] theorem qL64 : qLoad Try.prog 64 = some (some 5) := by kernel_rfl
@[simp] theorem qS64 : qSize Try.prog 64 = some 5 := by kernel_rfl
@[simp] theorem qZ64 : qZero Try.prog 64 = some [.int .i64 0, .int .i64 0, .int .i64 0, .int .i64 0, .int .i64 0] := by kernel_rfl
@[simp] theorem qF64_0 : qField Try.prog 64 0 = some (0, none) := by kernel_rfl
@[simp] theorem qF64_1 : qField Try.prog 64 1 = some (1, none) := by kernel_rfl
@[simp] theorem qF64_2 : qField Try.prog 64 2 = some (2, none) := by kernel_rfl
@[simp] theorem qF64_3 : qField Try.prog 64 3 = some (3, none) := by kernel_rfl
@[simp] theorem qF64_4 : qField Try.prog 64 4 = some (4, none) := by kernel_rfl
@[simp] theorem qB64 : qBuild Try.prog 64 = some (#[.int .i64 0, .int .i64 0, .int .i64 0, .int .i64 0, .int .i64 0], #[(0, 1), (1, 1), (2, 1), (3, 1), (4, 1)]) := by kernel_rfl
@[simp] theorem qL65 : qLoad Try.prog 65 = some (some 5) := by kernel_rfl
@[simp] theorem qS65 : qSize Try.prog 65 = some 5 := by kernel_rfl
@[simp] theorem qZ65 : qZero Try.prog 65 = some [.int .i64 0, .int .i64 0, .int .i64 0, .int .i64 0, .int .i64 0] := by kernel_rfl
@[simp] theorem qF65_0 : qField Try.prog 65 0 = some (0, none) := by kernel_rfl
@[simp] theorem qF65_1 : qField Try.prog 65 1 = some (1, none) := by kernel_rfl
@[simp] theorem qF65_2 : qField Try.prog 65 2 = some (2, none) := by kernel_rfl
@[simp] theorem qF65_3 : qField Try.prog 65 3 = some (3, none) := by kernel_rfl
@[simp] theorem qF65_4 : qField Try.prog 65 4 = some (4, none) := by kernel_rfl
@[simp] theorem qB65 : qBuild Try.prog 65 = some (#[.int .i64 0, .int .i64 0, .int .i64 0, .int .i64 0, .int .i64 0], #[(0, 1), (1, 1), (2, 1), (3, 1), (4, 1)]) := by kernel_rfl
@[simp] theorem qL66 : qLoad Try.prog 66 = some none := by kernel_rfl
@[simp] theorem qS66 : qSize Try.prog 66 = some 1 := by kernel_rfl
@[simp] theorem qZ66 : qZero Try.prog 66 = some [.slice none 0 0] := by kernel_rfl
@[simp] theorem qE66 : qSlice Try.prog 66 = some (118, 5, 40) := by kernel_rfl
@[simp] theorem qN66 {S : St} {K : Value → Mem → Prop} {q : Option Addr} {m c : Nat} : lenK Try.prog S K 66 (.slice q m c) = K (.int .i64 (m : Int)) S.M := lenK_sl Try.underlying66
@[simp] theorem qI66 : (Try.prog.info? 118).any (fun i => i.zero.any fun z => z.cells.size == 5) = true := by kernel_rfl
@[simp] theorem qL70 : qLoad Try.prog 70 = some none := by kernel_rfl
@[simp] theorem qS70 : qSize Try.prog 70 = some 1 := by kernel_rfl
@[simp] theorem qZ70 : qZero Try.prog 70 = some [.slice none 0 0] := by kernel_rfl
@[simp] theorem qE70 : qSlice Try.prog 70 = some (113, 5, 40) := by kernel_rfl
@[simp] theorem qN70 {S : St} {K : Value → Mem → Prop} {q : Option Addr} {m c : Nat} : lenK Try.prog S K 70 (.slice q m c) = K (.int .i64 (m : Int)) S.M := lenK_sl Try.underlying70
@[simp] theorem qI70 : (Try.prog.info? 113).any (fun i => i.zero.any fun z => z.cells.size == 5) = true := by kernel_rfl
@[simp] theorem qL82 : qLoad Try.prog 82 = some none := by kernel_rfl
@[simp] theorem qS82 : qSize Try.prog 82 = some 1 := by kernel_rfl
@[simp] theorem qZ82 : qZero Try.prog 82 = some [.pointer none] := by kernel_rfl
@[simp] theorem qL83 : qLoad Try.prog 83 = some none := by kernel_rfl
@[simp] theorem qS83 : qSize Try.prog 83 = some 1 := by kernel_rfl
@[simp] theorem qZ83 : qZero Try.prog 83 = some [.slice none 0 0] := by kernel_rfl
@[simp] theorem qE83 : qSlice Try.prog 83 = some (2, 1, 8) := by kernel_rfl
@[simp] theorem qN83 {S : St} {K : Value → Mem → Prop} {q : Option Addr} {m c : Nat} : lenK Try.prog S K 83 (.slice q m c) = K (.int .i64 (m : Int)) S.M := lenK_sl Try.underlying83
@[simp] theorem qI83 : (Try.prog.info? 2).any (fun i => i.zero.any fun z => z.cells.size == 1) = true := by kernel_rfl
@[simp] theorem qL88 : qLoad Try.prog 88 = some none := by kernel_rfl
@[simp] theorem qS88 : qSize Try.prog 88 = some 1 := by kernel_rfl
@[simp] theorem qZ88 : qZero Try.prog 88 = some [.slice none 0 0] := by kernel_rfl
@[simp] theorem qE88 : qSlice Try.prog 88 = some (58, 2, 16) := by kernel_rfl
@[simp] theorem qN88 {S : St} {K : Value → Mem → Prop} {q : Option Addr} {m c : Nat} : lenK Try.prog S K 88 (.slice q m c) = K (.int .i64 (m : Int)) S.M := lenK_sl Try.underlying88
@[simp] theorem qI88 : (Try.prog.info? 58).any (fun i => i.zero.any fun z => z.cells.size == 2) = true := by kernel_rfl
@[simp] theorem qL89 : qLoad Try.prog 89 = some none := by kernel_rfl
@[simp] theorem qS89 : qSize Try.prog 89 = some 1 := by kernel_rfl
@[simp] theorem qZ89 : qZero Try.prog 89 = some [.int .u64 0] := by kernel_rfl
@[simp] theorem qL94 : qLoad Try.prog 94 = some none := by kernel_rfl
@[simp] theorem qS94 : qSize Try.prog 94 = some 1 := by kernel_rfl
@[simp] theorem qZ94 : qZero Try.prog 94 = some [.pointer none] := by kernel_rfl
@[simp] theorem qL95 : qLoad Try.prog 95 = some none := by kernel_rfl
@[simp] theorem qS95 : qSize Try.prog 95 = some 1 := by kernel_rfl
@[simp] theorem qZ95 : qZero Try.prog 95 = some [.pointer none] := by kernel_rfl
@[simp] theorem qL102 : qLoad Try.prog 102 = some none := by kernel_rfl
@[simp] theorem qS102 : qSize Try.prog 102 = some 1 := by kernel_rfl
@[simp] theorem qZ102 : qZero Try.prog 102 = some [.pointer none] := by kernel_rfl
@[simp] theorem qL111 : qLoad Try.prog 111 = some none := by kernel_rfl
@[simp] theorem qS111 : qSize Try.prog 111 = some 1 := by kernel_rfl
@[simp] theorem qZ111 : qZero Try.prog 111 = some [.pointer none] := by kernel_rfl
@[simp] theorem qL112 : qLoad Try.prog 112 = some (some 5) := by kernel_rfl
@[simp] theorem qS112 : qSize Try.prog 112 = some 5 := by kernel_rfl
@[simp] theorem qZ112 : qZero Try.prog 112 = some [.int .i64 0, .int .i64 0, .int .i64 0, .int .i64 0, .int .i64 0] := by kernel_rfl
@[simp] theorem qF112_0 : qField Try.prog 112 0 = some (0, none) := by kernel_rfl
@[simp] theorem qF112_1 : qField Try.prog 112 1 = some (1, none) := by kernel_rfl
@[simp] theorem qF112_2 : qField Try.prog 112 2 = some (2, none) := by kernel_rfl
@[simp] theorem qF112_3 : qField Try.prog 112 3 = some (3, none) := by kernel_rfl
@[simp] theorem qF112_4 : qField Try.prog 112 4 = some (4, none) := by kernel_rfl
@[simp] theorem qB112 : qBuild Try.prog 112 = some (#[.int .i64 0, .int .i64 0, .int .i64 0, .int .i64 0, .int .i64 0], #[(0, 1), (1, 1), (2, 1), (3, 1), (4, 1)]) := by kernel_rfl
@[simp] theorem qL113 : qLoad Try.prog 113 = some (some 5) := by kernel_rfl
@[simp] theorem qS113 : qSize Try.prog 113 = some 5 := by kernel_rfl
@[simp] theorem qZ113 : qZero Try.prog 113 = some [.int .i64 0, .int .i64 0, .int .i64 0, .int .i64 0, .int .i64 0] := by kernel_rfl
@[simp] theorem qF113_0 : qField Try.prog 113 0 = some (0, none) := by kernel_rfl
@[simp] theorem qF113_1 : qField Try.prog 113 1 = some (1, none) := by kernel_rfl
@[simp] theorem qF113_2 : qField Try.prog 113 2 = some (2, none) := by kernel_rfl
@[simp] theorem qF113_3 : qField Try.prog 113 3 = some (3, none) := by kernel_rfl
@[simp] theorem qF113_4 : qField Try.prog 113 4 = some (4, none) := by kernel_rfl
@[simp] theorem qB113 : qBuild Try.prog 113 = some (#[.int .i64 0, .int .i64 0, .int .i64 0, .int .i64 0, .int .i64 0], #[(0, 1), (1, 1), (2, 1), (3, 1), (4, 1)]) := by kernel_rfl
@[simp] theorem qL118 : qLoad Try.prog 118 = some (some 5) := by kernel_rfl
@[simp] theorem qS118 : qSize Try.prog 118 = some 5 := by kernel_rfl
@[simp] theorem qZ118 : qZero Try.prog 118 = some [.int .i64 0, .int .i64 0, .int .i64 0, .int .i64 0, .int .i64 0] := by kernel_rfl
@[simp] theorem qF118_0 : qField Try.prog 118 0 = some (0, none) := by kernel_rfl
@[simp] theorem qF118_1 : qField Try.prog 118 1 = some (1, none) := by kernel_rfl
@[simp] theorem qF118_2 : qField Try.prog 118 2 = some (2, none) := by kernel_rfl
@[simp] theorem qF118_3 : qField Try.prog 118 3 = some (3, none) := by kernel_rfl
@[simp] theorem qF118_4 : qField Try.prog 118 4 = some (4, none) := by kernel_rfl
@[simp] theorem qB118 : qBuild Try.prog 118 = some (#[.int .i64 0, .int .i64 0, .int .i64 0, .int .i64 0, .int .i64 0], #[(0, 1), (1, 1), (2, 1), (3, 1), (4, 1)]) := by kernel_rfl
@[simp] theorem qL120 : qLoad Try.prog 120 = some (some 2) := by kernel_rfl
@[simp] theorem qS120 : qSize Try.prog 120 = some 2 := by kernel_rfl
@[simp] theorem qZ120 : qZero Try.prog 120 = some [.int .i64 0, .int .i64 0] := by kernel_rfl
@[simp] theorem qF120_0 : qField Try.prog 120 0 = some (0, none) := by kernel_rfl
@[simp] theorem qF120_1 : qField Try.prog 120 1 = some (1, none) := by kernel_rfl
@[simp] theorem qB120 : qBuild Try.prog 120 = some (#[.int .i64 0, .int .i64 0], #[(0, 1), (1, 1)]) := by kernel_rfl
@[simp] theorem qL121 : qLoad Try.prog 121 = some (some 2) := by kernel_rfl
@[simp] theorem qS121 : qSize Try.prog 121 = some 2 := by kernel_rfl
@[simp] theorem qZ121 : qZero Try.prog 121 = some [.int .i64 0, .int .i64 0] := by kernel_rfl
@[simp] theorem qF121_0 : qField Try.prog 121 0 = some (0, none) := by kernel_rfl
@[simp] theorem qF121_1 : qField Try.prog 121 1 = some (1, none) := by kernel_rfl
@[simp] theorem qB121 : qBuild Try.prog 121 = some (#[.int .i64 0, .int .i64 0], #[(0, 1), (1, 1)]) := by kernel_rfl
@[simp] theorem qL122 : qLoad Try.prog 122 = some (some 2) := by kernel_rfl
@[simp] theorem qS122 : qSize Try.prog 122 = some 2 := by kernel_rfl
@[simp] theorem qZ122 : qZero Try.prog 122 = some [.int .i64 0, .int .i64 0] := by kernel_rfl
@[simp] theorem qF122_0 : qField Try.prog 122 0 = some (0, none) := by kernel_rfl
@[simp] theorem qF122_1 : qField Try.prog 122 1 = some (1, none) := by kernel_rfl
@[simp] theorem qB122 : qBuild Try.prog 122 = some (#[.int .i64 0, .int .i64 0], #[(0, 1), (1, 1)]) := by kernel_rfl
@[simp] theorem qL123 : qLoad Try.prog 123 = some (some 2) := by kernel_rfl
@[simp] theorem qS123 : qSize Try.prog 123 = some 2 := by kernel_rfl
@[simp] theorem qZ123 : qZero Try.prog 123 = some [.int .i64 0, .int .i64 0] := by kernel_rfl
@[simp] theorem qF123_0 : qField Try.prog 123 0 = some (0, none) := by kernel_rfl
@[simp] theorem qF123_1 : qField Try.prog 123 1 = some (1, none) := by kernel_rfl
@[simp] theorem qB123 : qBuild Try.prog 123 = some (#[.int .i64 0, .int .i64 0], #[(0, 1), (1, 1)]) := by kernel_rfl
@[simp] theorem qL129 : qLoad Try.prog 129 = some none := by kernel_rfl
@[simp] theorem qS129 : qSize Try.prog 129 = some 1 := by kernel_rfl
@[simp] theorem qZ129 : qZero Try.prog 129 = some [.slice none 0 0] := by kernel_rfl
@[simp] theorem qE129 : qSlice Try.prog 129 = some (134, 6, 48) := by kernel_rfl
@[simp] theorem qN129 {S : St} {K : Value → Mem → Prop} {q : Option Addr} {m c : Nat} : lenK Try.prog S K 129 (.slice q m c) = K (.int .i64 (m : Int)) S.M := lenK_sl Try.underlying129
@[simp] theorem qI129 : (Try.prog.info? 134).any (fun i => i.zero.any fun z => z.cells.size == 6) = true := by kernel_rfl
@[simp] theorem qL133 : qLoad Try.prog 133 = some (some 6) := by kernel_rfl
@[simp] theorem qS133 : qSize Try.prog 133 = some 6 := by kernel_rfl
@[simp] theorem qZ133 : qZero Try.prog 133 = some [.int .i64 0, .int .i64 0, .int .i64 0, .int .i64 0, .int .i64 0, .int .i64 0] := by kernel_rfl
@[simp] theorem qF133_0 : qField Try.prog 133 0 = some (0, none) := by kernel_rfl
@[simp] theorem qF133_1 : qField Try.prog 133 1 = some (1, some 5) := by kernel_rfl
@[simp] theorem qB133 : qBuild Try.prog 133 = some (#[.int .i64 0, .int .i64 0, .int .i64 0, .int .i64 0, .int .i64 0, .int .i64 0], #[(0, 1), (1, 5)]) := by kernel_rfl
@[simp] theorem qL134 : qLoad Try.prog 134 = some (some 6) := by kernel_rfl
@[simp] theorem qS134 : qSize Try.prog 134 = some 6 := by kernel_rfl
@[simp] theorem qZ134 : qZero Try.prog 134 = some [.int .i64 0, .int .i64 0, .int .i64 0, .int .i64 0, .int .i64 0, .int .i64 0] := by kernel_rfl
@[simp] theorem qF134_0 : qField Try.prog 134 0 = some (0, none) := by kernel_rfl
@[simp] theorem qF134_1 : qField Try.prog 134 1 = some (1, some 5) := by kernel_rfl
@[simp] theorem qB134 : qBuild Try.prog 134 = some (#[.int .i64 0, .int .i64 0, .int .i64 0, .int .i64 0, .int .i64 0, .int .i64 0], #[(0, 1), (1, 5)]) := by kernel_rfl
@[simp] theorem qL140 : qLoad Try.prog 140 = some (some 2) := by kernel_rfl
@[simp] theorem qS140 : qSize Try.prog 140 = some 2 := by kernel_rfl
@[simp] theorem qZ140 : qZero Try.prog 140 = some [.int .i64 0, .int .i64 0] := by kernel_rfl
@[simp] theorem qF140_0 : qField Try.prog 140 0 = some (0, none) := by kernel_rfl
@[simp] theorem qF140_1 : qField Try.prog 140 1 = some (1, none) := by kernel_rfl
@[simp] theorem qB140 : qBuild Try.prog 140 = some (#[.int .i64 0, .int .i64 0], #[(0, 1), (1, 1)]) := by kernel_rfl
@[simp] theorem qL141 : qLoad Try.prog 141 = some (some 7) := by kernel_rfl
@[simp] theorem qS141 : qSize Try.prog 141 = some 7 := by kernel_rfl
@[simp] theorem qZ141 : qZero Try.prog 141 = some [.int .i64 0, .int .i64 0, .int .i64 0, .int .i64 0, .int .i64 0, .int .i64 0, .int .i64 0] := by kernel_rfl
@[simp] theorem qF141_0 : qField Try.prog 141 0 = some (0, some 2) := by kernel_rfl
@[simp] theorem qF141_1 : qField Try.prog 141 1 = some (2, some 2) := by kernel_rfl
@[simp] theorem qF141_2 : qField Try.prog 141 2 = some (4, none) := by kernel_rfl
@[simp] theorem qF141_3 : qField Try.prog 141 3 = some (5, none) := by kernel_rfl
@[simp] theorem qF141_4 : qField Try.prog 141 4 = some (6, none) := by kernel_rfl
@[simp] theorem qB141 : qBuild Try.prog 141 = some (#[.int .i64 0, .int .i64 0, .int .i64 0, .int .i64 0, .int .i64 0, .int .i64 0, .int .i64 0], #[(0, 2), (2, 2), (4, 1), (5, 1), (6, 1)]) := by kernel_rfl
@[simp] theorem qL142 : qLoad Try.prog 142 = some (some 7) := by kernel_rfl
@[simp] theorem qS142 : qSize Try.prog 142 = some 7 := by kernel_rfl
@[simp] theorem qZ142 : qZero Try.prog 142 = some [.int .i64 0, .int .i64 0, .int .i64 0, .int .i64 0, .int .i64 0, .int .i64 0, .int .i64 0] := by kernel_rfl
@[simp] theorem qF142_0 : qField Try.prog 142 0 = some (0, some 2) := by kernel_rfl
@[simp] theorem qF142_1 : qField Try.prog 142 1 = some (2, some 2) := by kernel_rfl
@[simp] theorem qF142_2 : qField Try.prog 142 2 = some (4, none) := by kernel_rfl
@[simp] theorem qF142_3 : qField Try.prog 142 3 = some (5, none) := by kernel_rfl
@[simp] theorem qF142_4 : qField Try.prog 142 4 = some (6, none) := by kernel_rfl
@[simp] theorem qB142 : qBuild Try.prog 142 = some (#[.int .i64 0, .int .i64 0, .int .i64 0, .int .i64 0, .int .i64 0, .int .i64 0, .int .i64 0], #[(0, 2), (2, 2), (4, 1), (5, 1), (6, 1)]) := by kernel_rfl
@[simp] theorem qL147 : qLoad Try.prog 147 = some (some 3) := by kernel_rfl
@[simp] theorem qS147 : qSize Try.prog 147 = some 3 := by kernel_rfl
@[simp] theorem qZ147 : qZero Try.prog 147 = some [.int .i64 0, .int .i64 0, .int .i64 0] := by kernel_rfl
@[simp] theorem qF147_0 : qField Try.prog 147 0 = some (0, some 2) := by kernel_rfl
@[simp] theorem qF147_1 : qField Try.prog 147 1 = some (2, none) := by kernel_rfl
@[simp] theorem qB147 : qBuild Try.prog 147 = some (#[.int .i64 0, .int .i64 0, .int .i64 0], #[(0, 2), (2, 1)]) := by kernel_rfl
@[simp] theorem qL148 : qLoad Try.prog 148 = some (some 3) := by kernel_rfl
@[simp] theorem qS148 : qSize Try.prog 148 = some 3 := by kernel_rfl
@[simp] theorem qZ148 : qZero Try.prog 148 = some [.int .i64 0, .int .i64 0, .int .i64 0] := by kernel_rfl
@[simp] theorem qF148_0 : qField Try.prog 148 0 = some (0, some 2) := by kernel_rfl
@[simp] theorem qF148_1 : qField Try.prog 148 1 = some (2, none) := by kernel_rfl
@[simp] theorem qB148 : qBuild Try.prog 148 = some (#[.int .i64 0, .int .i64 0, .int .i64 0], #[(0, 2), (2, 1)]) := by kernel_rfl
@[simp] theorem qL150 : qLoad Try.prog 150 = some (some 3) := by kernel_rfl
@[simp] theorem qS150 : qSize Try.prog 150 = some 3 := by kernel_rfl
@[simp] theorem qZ150 : qZero Try.prog 150 = some [.int .i64 0, .int .i64 0, .int .i64 0] := by kernel_rfl
@[simp] theorem qF150_0 : qField Try.prog 150 0 = some (0, some 2) := by kernel_rfl
@[simp] theorem qF150_1 : qField Try.prog 150 1 = some (2, none) := by kernel_rfl
@[simp] theorem qB150 : qBuild Try.prog 150 = some (#[.int .i64 0, .int .i64 0, .int .i64 0], #[(0, 2), (2, 1)]) := by kernel_rfl
@[simp] theorem qL151 : qLoad Try.prog 151 = some (some 3) := by kernel_rfl
@[simp] theorem qS151 : qSize Try.prog 151 = some 3 := by kernel_rfl
@[simp] theorem qZ151 : qZero Try.prog 151 = some [.int .i64 0, .int .i64 0, .int .i64 0] := by kernel_rfl
@[simp] theorem qF151_0 : qField Try.prog 151 0 = some (0, some 2) := by kernel_rfl
@[simp] theorem qF151_1 : qField Try.prog 151 1 = some (2, none) := by kernel_rfl
@[simp] theorem qB151 : qBuild Try.prog 151 = some (#[.int .i64 0, .int .i64 0, .int .i64 0], #[(0, 2), (2, 1)]) := by kernel_rfl
@[simp] theorem qL155 : qLoad Try.prog 155 = some (some 3) := by kernel_rfl
@[simp] theorem qS155 : qSize Try.prog 155 = some 3 := by kernel_rfl
@[simp] theorem qZ155 : qZero Try.prog 155 = some [.slice none 0 0, .int .i64 0, .int .u64 0] := by kernel_rfl
@[simp] theorem qF155_0 : qField Try.prog 155 0 = some (0, none) := by kernel_rfl
@[simp] theorem qF155_1 : qField Try.prog 155 1 = some (1, none) := by kernel_rfl
@[simp] theorem qF155_2 : qField Try.prog 155 2 = some (2, none) := by kernel_rfl
@[simp] theorem qB155 : qBuild Try.prog 155 = some (#[.slice none 0 0, .int .i64 0, .int .u64 0], #[(0, 1), (1, 1), (2, 1)]) := by kernel_rfl
@[simp] theorem qL156 : qLoad Try.prog 156 = some (some 3) := by kernel_rfl
@[simp] theorem qS156 : qSize Try.prog 156 = some 3 := by kernel_rfl
@[simp] theorem qZ156 : qZero Try.prog 156 = some [.slice none 0 0, .int .i64 0, .int .u64 0] := by kernel_rfl
@[simp] theorem qF156_0 : qField Try.prog 156 0 = some (0, none) := by kernel_rfl
@[simp] theorem qF156_1 : qField Try.prog 156 1 = some (1, none) := by kernel_rfl
@[simp] theorem qF156_2 : qField Try.prog 156 2 = some (2, none) := by kernel_rfl
@[simp] theorem qB156 : qBuild Try.prog 156 = some (#[.slice none 0 0, .int .i64 0, .int .u64 0], #[(0, 1), (1, 1), (2, 1)]) := by kernel_rfl
@[simp] theorem qL162 : qLoad Try.prog 162 = some none := by kernel_rfl
@[simp] theorem qS162 : qSize Try.prog 162 = some 1 := by kernel_rfl
@[simp] theorem qZ162 : qZero Try.prog 162 = some [.pointer none] := by kernel_rfl
@[simp] theorem qL175 : qLoad Try.prog 175 = some none := by kernel_rfl
@[simp] theorem qS175 : qSize Try.prog 175 = some 1 := by kernel_rfl
@[simp] theorem qZ175 : qZero Try.prog 175 = some [.pointer none] := by kernel_rfl
@[simp] theorem qL178 : qLoad Try.prog 178 = some none := by kernel_rfl
@[simp] theorem qS178 : qSize Try.prog 178 = some 1 := by kernel_rfl
@[simp] theorem qZ178 : qZero Try.prog 178 = some [.int .u64 0] := by kernel_rfl
@[simp] theorem qL189 : qLoad Try.prog 189 = some none := by kernel_rfl
@[simp] theorem qS189 : qSize Try.prog 189 = some 1 := by kernel_rfl
@[simp] theorem qZ189 : qZero Try.prog 189 = some [.int .i64 0] := by kernel_rfl
@[simp] theorem qL197 : qLoad Try.prog 197 = some none := by kernel_rfl
@[simp] theorem qS197 : qSize Try.prog 197 = some 1 := by kernel_rfl
@[simp] theorem qZ197 : qZero Try.prog 197 = some [.int .u32 0] := by kernel_rfl
@[simp] theorem qL202 : qLoad Try.prog 202 = some none := by kernel_rfl
@[simp] theorem qS202 : qSize Try.prog 202 = some 1 := by kernel_rfl
@[simp] theorem qZ202 : qZero Try.prog 202 = some [.int .u64 0] := by kernel_rfl
@[simp] theorem qL206 : qLoad Try.prog 206 = some none := by kernel_rfl
@[simp] theorem qS206 : qSize Try.prog 206 = some 1 := by kernel_rfl
@[simp] theorem qZ206 : qZero Try.prog 206 = some [.pointer none] := by kernel_rfl
@[simp] theorem qL208 : qLoad Try.prog 208 = some none := by kernel_rfl
@[simp] theorem qS208 : qSize Try.prog 208 = some 1 := by kernel_rfl
@[simp] theorem qZ208 : qZero Try.prog 208 = some [.slice none 0 0] := by kernel_rfl
@[simp] theorem qE208 : qSlice Try.prog 208 = some (43, 1, 24) := by kernel_rfl
@[simp] theorem qN208 {S : St} {K : Value → Mem → Prop} {q : Option Addr} {m c : Nat} : lenK Try.prog S K 208 (.slice q m c) = K (.int .i64 (m : Int)) S.M := lenK_sl Try.underlying208
@[simp] theorem qI208 : (Try.prog.info? 43).any (fun i => i.zero.any fun z => z.cells.size == 1) = true := by kernel_rfl
@[simp] theorem qL209 : qLoad Try.prog 209 = some none := by kernel_rfl
@[simp] theorem qS209 : qSize Try.prog 209 = some 1 := by kernel_rfl
@[simp] theorem qZ209 : qZero Try.prog 209 = some [.pointer none] := by kernel_rfl
@[simp] theorem qL222 : qLoad Try.prog 222 = some none := by kernel_rfl
@[simp] theorem qS222 : qSize Try.prog 222 = some 1 := by kernel_rfl
@[simp] theorem qZ222 : qZero Try.prog 222 = some [.pointer none] := by kernel_rfl
@[simp] theorem qC2_2 {k : IntKind} {z : Int} : convV Try.prog 2 2 (.int k z) = some (.int .i64 (IntKind.i64.wrap z)) := convV_int Try.underlying2 Try.underlying2
@[simp] theorem qC2_3 {k : IntKind} {z : Int} : convV Try.prog 2 3 (.int k z) = some (.int .i64 (IntKind.i64.wrap z)) := convV_int Try.underlying2 Try.underlying3
@[simp] theorem qC2_5 {k : IntKind} {z : Int} : convV Try.prog 2 5 (.int k z) = some (.int .u8 (IntKind.u8.wrap z)) := convV_int Try.underlying2 Try.underlying5
@[simp] theorem qC2_12 {k : IntKind} {z : Int} : convV Try.prog 2 12 (.int k z) = some (.int .u64 (IntKind.u64.wrap z)) := convV_int Try.underlying2 Try.underlying12
@[simp] theorem qC2_21 {k : IntKind} {z : Int} : convV Try.prog 2 21 (.int k z) = some (.int .i32 (IntKind.i32.wrap z)) := convV_int Try.underlying2 Try.underlying21
@[simp] theorem qC2_89 {k : IntKind} {z : Int} : convV Try.prog 2 89 (.int k z) = some (.int .u64 (IntKind.u64.wrap z)) := convV_int Try.underlying2 Try.underlying89
@[simp] theorem qC2_178 {k : IntKind} {z : Int} : convV Try.prog 2 178 (.int k z) = some (.int .u64 (IntKind.u64.wrap z)) := convV_int Try.underlying2 Try.underlying178
@[simp] theorem qC2_189 {k : IntKind} {z : Int} : convV Try.prog 2 189 (.int k z) = some (.int .i64 (IntKind.i64.wrap z)) := convV_int Try.underlying2 Try.underlying189
@[simp] theorem qC2_197 {k : IntKind} {z : Int} : convV Try.prog 2 197 (.int k z) = some (.int .u32 (IntKind.u32.wrap z)) := convV_int Try.underlying2 Try.underlying197
@[simp] theorem qC2_202 {k : IntKind} {z : Int} : convV Try.prog 2 202 (.int k z) = some (.int .u64 (IntKind.u64.wrap z)) := convV_int Try.underlying2 Try.underlying202
@[simp] theorem qC3_2 {k : IntKind} {z : Int} : convV Try.prog 3 2 (.int k z) = some (.int .i64 (IntKind.i64.wrap z)) := convV_int Try.underlying3 Try.underlying2
@[simp] theorem qC3_3 {k : IntKind} {z : Int} : convV Try.prog 3 3 (.int k z) = some (.int .i64 (IntKind.i64.wrap z)) := convV_int Try.underlying3 Try.underlying3
@[simp] theorem qC3_5 {k : IntKind} {z : Int} : convV Try.prog 3 5 (.int k z) = some (.int .u8 (IntKind.u8.wrap z)) := convV_int Try.underlying3 Try.underlying5
@[simp] theorem qC3_12 {k : IntKind} {z : Int} : convV Try.prog 3 12 (.int k z) = some (.int .u64 (IntKind.u64.wrap z)) := convV_int Try.underlying3 Try.underlying12
@[simp] theorem qC3_21 {k : IntKind} {z : Int} : convV Try.prog 3 21 (.int k z) = some (.int .i32 (IntKind.i32.wrap z)) := convV_int Try.underlying3 Try.underlying21
@[simp] theorem qC3_89 {k : IntKind} {z : Int} : convV Try.prog 3 89 (.int k z) = some (.int .u64 (IntKind.u64.wrap z)) := convV_int Try.underlying3 Try.underlying89
@[simp] theorem qC3_178 {k : IntKind} {z : Int} : convV Try.prog 3 178 (.int k z) = some (.int .u64 (IntKind.u64.wrap z)) := convV_int Try.underlying3 Try.underlying178
@[simp] theorem qC3_189 {k : IntKind} {z : Int} : convV Try.prog 3 189 (.int k z) = some (.int .i64 (IntKind.i64.wrap z)) := convV_int Try.underlying3 Try.underlying189
@[simp] theorem qC3_197 {k : IntKind} {z : Int} : convV Try.prog 3 197 (.int k z) = some (.int .u32 (IntKind.u32.wrap z)) := convV_int Try.underlying3 Try.underlying197
@[simp] theorem qC3_202 {k : IntKind} {z : Int} : convV Try.prog 3 202 (.int k z) = some (.int .u64 (IntKind.u64.wrap z)) := convV_int Try.underlying3 Try.underlying202
@[simp] theorem qC5_2 {k : IntKind} {z : Int} : convV Try.prog 5 2 (.int k z) = some (.int .i64 (IntKind.i64.wrap z)) := convV_int Try.underlying5 Try.underlying2
@[simp] theorem qC5_3 {k : IntKind} {z : Int} : convV Try.prog 5 3 (.int k z) = some (.int .i64 (IntKind.i64.wrap z)) := convV_int Try.underlying5 Try.underlying3
@[simp] theorem qC5_5 {k : IntKind} {z : Int} : convV Try.prog 5 5 (.int k z) = some (.int .u8 (IntKind.u8.wrap z)) := convV_int Try.underlying5 Try.underlying5
@[simp] theorem qC5_12 {k : IntKind} {z : Int} : convV Try.prog 5 12 (.int k z) = some (.int .u64 (IntKind.u64.wrap z)) := convV_int Try.underlying5 Try.underlying12
@[simp] theorem qC5_21 {k : IntKind} {z : Int} : convV Try.prog 5 21 (.int k z) = some (.int .i32 (IntKind.i32.wrap z)) := convV_int Try.underlying5 Try.underlying21
@[simp] theorem qC5_89 {k : IntKind} {z : Int} : convV Try.prog 5 89 (.int k z) = some (.int .u64 (IntKind.u64.wrap z)) := convV_int Try.underlying5 Try.underlying89
@[simp] theorem qC5_178 {k : IntKind} {z : Int} : convV Try.prog 5 178 (.int k z) = some (.int .u64 (IntKind.u64.wrap z)) := convV_int Try.underlying5 Try.underlying178
@[simp] theorem qC5_189 {k : IntKind} {z : Int} : convV Try.prog 5 189 (.int k z) = some (.int .i64 (IntKind.i64.wrap z)) := convV_int Try.underlying5 Try.underlying189
@[simp] theorem qC5_197 {k : IntKind} {z : Int} : convV Try.prog 5 197 (.int k z) = some (.int .u32 (IntKind.u32.wrap z)) := convV_int Try.underlying5 Try.underlying197
@[simp] theorem qC5_202 {k : IntKind} {z : Int} : convV Try.prog 5 202 (.int k z) = some (.int .u64 (IntKind.u64.wrap z)) := convV_int Try.underlying5 Try.underlying202
@[simp] theorem qC12_2 {k : IntKind} {z : Int} : convV Try.prog 12 2 (.int k z) = some (.int .i64 (IntKind.i64.wrap z)) := convV_int Try.underlying12 Try.underlying2
@[simp] theorem qC12_3 {k : IntKind} {z : Int} : convV Try.prog 12 3 (.int k z) = some (.int .i64 (IntKind.i64.wrap z)) := convV_int Try.underlying12 Try.underlying3
@[simp] theorem qC12_5 {k : IntKind} {z : Int} : convV Try.prog 12 5 (.int k z) = some (.int .u8 (IntKind.u8.wrap z)) := convV_int Try.underlying12 Try.underlying5
@[simp] theorem qC12_12 {k : IntKind} {z : Int} : convV Try.prog 12 12 (.int k z) = some (.int .u64 (IntKind.u64.wrap z)) := convV_int Try.underlying12 Try.underlying12
@[simp] theorem qC12_21 {k : IntKind} {z : Int} : convV Try.prog 12 21 (.int k z) = some (.int .i32 (IntKind.i32.wrap z)) := convV_int Try.underlying12 Try.underlying21
@[simp] theorem qC12_89 {k : IntKind} {z : Int} : convV Try.prog 12 89 (.int k z) = some (.int .u64 (IntKind.u64.wrap z)) := convV_int Try.underlying12 Try.underlying89
@[simp] theorem qC12_178 {k : IntKind} {z : Int} : convV Try.prog 12 178 (.int k z) = some (.int .u64 (IntKind.u64.wrap z)) := convV_int Try.underlying12 Try.underlying178
@[simp] theorem qC12_189 {k : IntKind} {z : Int} : convV Try.prog 12 189 (.int k z) = some (.int .i64 (IntKind.i64.wrap z)) := convV_int Try.underlying12 Try.underlying189
@[simp] theorem qC12_197 {k : IntKind} {z : Int} : convV Try.prog 12 197 (.int k z) = some (.int .u32 (IntKind.u32.wrap z)) := convV_int Try.underlying12 Try.underlying197
@[simp] theorem qC12_202 {k : IntKind} {z : Int} : convV Try.prog 12 202 (.int k z) = some (.int .u64 (IntKind.u64.wrap z)) := convV_int Try.underlying12 Try.underlying202
@[simp] theorem qC21_2 {k : IntKind} {z : Int} : convV Try.prog 21 2 (.int k z) = some (.int .i64 (IntKind.i64.wrap z)) := convV_int Try.underlying21 Try.underlying2
@[simp] theorem qC21_3 {k : IntKind} {z : Int} : convV Try.prog 21 3 (.int k z) = some (.int .i64 (IntKind.i64.wrap z)) := convV_int Try.underlying21 Try.underlying3
@[simp] theorem qC21_5 {k : IntKind} {z : Int} : convV Try.prog 21 5 (.int k z) = some (.int .u8 (IntKind.u8.wrap z)) := convV_int Try.underlying21 Try.underlying5
@[simp] theorem qC21_12 {k : IntKind} {z : Int} : convV Try.prog 21 12 (.int k z) = some (.int .u64 (IntKind.u64.wrap z)) := convV_int Try.underlying21 Try.underlying12
@[simp] theorem qC21_21 {k : IntKind} {z : Int} : convV Try.prog 21 21 (.int k z) = some (.int .i32 (IntKind.i32.wrap z)) := convV_int Try.underlying21 Try.underlying21
@[simp] theorem qC21_89 {k : IntKind} {z : Int} : convV Try.prog 21 89 (.int k z) = some (.int .u64 (IntKind.u64.wrap z)) := convV_int Try.underlying21 Try.underlying89
@[simp] theorem qC21_178 {k : IntKind} {z : Int} : convV Try.prog 21 178 (.int k z) = some (.int .u64 (IntKind.u64.wrap z)) := convV_int Try.underlying21 Try.underlying178
@[simp] theorem qC21_189 {k : IntKind} {z : Int} : convV Try.prog 21 189 (.int k z) = some (.int .i64 (IntKind.i64.wrap z)) := convV_int Try.underlying21 Try.underlying189
@[simp] theorem qC21_197 {k : IntKind} {z : Int} : convV Try.prog 21 197 (.int k z) = some (.int .u32 (IntKind.u32.wrap z)) := convV_int Try.underlying21 Try.underlying197
@[simp] theorem qC21_202 {k : IntKind} {z : Int} : convV Try.prog 21 202 (.int k z) = some (.int .u64 (IntKind.u64.wrap z)) := convV_int Try.underlying21 Try.underlying202
@[simp] theorem qC89_2 {k : IntKind} {z : Int} : convV Try.prog 89 2 (.int k z) = some (.int .i64 (IntKind.i64.wrap z)) := convV_int Try.underlying89 Try.underlying2
@[simp] theorem qC89_3 {k : IntKind} {z : Int} : convV Try.prog 89 3 (.int k z) = some (.int .i64 (IntKind.i64.wrap z)) := convV_int Try.underlying89 Try.underlying3
@[simp] theorem qC89_5 {k : IntKind} {z : Int} : convV Try.prog 89 5 (.int k z) = some (.int .u8 (IntKind.u8.wrap z)) := convV_int Try.underlying89 Try.underlying5
@[simp] theorem qC89_12 {k : IntKind} {z : Int} : convV Try.prog 89 12 (.int k z) = some (.int .u64 (IntKind.u64.wrap z)) := convV_int Try.underlying89 Try.underlying12
@[simp] theorem qC89_21 {k : IntKind} {z : Int} : convV Try.prog 89 21 (.int k z) = some (.int .i32 (IntKind.i32.wrap z)) := convV_int Try.underlying89 Try.underlying21
@[simp] theorem qC89_89 {k : IntKind} {z : Int} : convV Try.prog 89 89 (.int k z) = some (.int .u64 (IntKind.u64.wrap z)) := convV_int Try.underlying89 Try.underlying89
@[simp] theorem qC89_178 {k : IntKind} {z : Int} : convV Try.prog 89 178 (.int k z) = some (.int .u64 (IntKind.u64.wrap z)) := convV_int Try.underlying89 Try.underlying178
@[simp] theorem qC89_189 {k : IntKind} {z : Int} : convV Try.prog 89 189 (.int k z) = some (.int .i64 (IntKind.i64.wrap z)) := convV_int Try.underlying89 Try.underlying189
@[simp] theorem qC89_197 {k : IntKind} {z : Int} : convV Try.prog 89 197 (.int k z) = some (.int .u32 (IntKind.u32.wrap z)) := convV_int Try.underlying89 Try.underlying197
@[simp] theorem qC89_202 {k : IntKind} {z : Int} : convV Try.prog 89 202 (.int k z) = some (.int .u64 (IntKind.u64.wrap z)) := convV_int Try.underlying89 Try.underlying202
@[simp] theorem qC178_2 {k : IntKind} {z : Int} : convV Try.prog 178 2 (.int k z) = some (.int .i64 (IntKind.i64.wrap z)) := convV_int Try.underlying178 Try.underlying2
@[simp] theorem qC178_3 {k : IntKind} {z : Int} : convV Try.prog 178 3 (.int k z) = some (.int .i64 (IntKind.i64.wrap z)) := convV_int Try.underlying178 Try.underlying3
@[simp] theorem qC178_5 {k : IntKind} {z : Int} : convV Try.prog 178 5 (.int k z) = some (.int .u8 (IntKind.u8.wrap z)) := convV_int Try.underlying178 Try.underlying5
@[simp] theorem qC178_12 {k : IntKind} {z : Int} : convV Try.prog 178 12 (.int k z) = some (.int .u64 (IntKind.u64.wrap z)) := convV_int Try.underlying178 Try.underlying12
@[simp] theorem qC178_21 {k : IntKind} {z : Int} : convV Try.prog 178 21 (.int k z) = some (.int .i32 (IntKind.i32.wrap z)) := convV_int Try.underlying178 Try.underlying21
@[simp] theorem qC178_89 {k : IntKind} {z : Int} : convV Try.prog 178 89 (.int k z) = some (.int .u64 (IntKind.u64.wrap z)) := convV_int Try.underlying178 Try.underlying89
@[simp] theorem qC178_178 {k : IntKind} {z : Int} : convV Try.prog 178 178 (.int k z) = some (.int .u64 (IntKind.u64.wrap z)) := convV_int Try.underlying178 Try.underlying178
@[simp] theorem qC178_189 {k : IntKind} {z : Int} : convV Try.prog 178 189 (.int k z) = some (.int .i64 (IntKind.i64.wrap z)) := convV_int Try.underlying178 Try.underlying189
@[simp] theorem qC178_197 {k : IntKind} {z : Int} : convV Try.prog 178 197 (.int k z) = some (.int .u32 (IntKind.u32.wrap z)) := convV_int Try.underlying178 Try.underlying197
@[simp] theorem qC178_202 {k : IntKind} {z : Int} : convV Try.prog 178 202 (.int k z) = some (.int .u64 (IntKind.u64.wrap z)) := convV_int Try.underlying178 Try.underlying202
@[simp] theorem qC189_2 {k : IntKind} {z : Int} : convV Try.prog 189 2 (.int k z) = some (.int .i64 (IntKind.i64.wrap z)) := convV_int Try.underlying189 Try.underlying2
@[simp] theorem qC189_3 {k : IntKind} {z : Int} : convV Try.prog 189 3 (.int k z) = some (.int .i64 (IntKind.i64.wrap z)) := convV_int Try.underlying189 Try.underlying3
@[simp] theorem qC189_5 {k : IntKind} {z : Int} : convV Try.prog 189 5 (.int k z) = some (.int .u8 (IntKind.u8.wrap z)) := convV_int Try.underlying189 Try.underlying5
@[simp] theorem qC189_12 {k : IntKind} {z : Int} : convV Try.prog 189 12 (.int k z) = some (.int .u64 (IntKind.u64.wrap z)) := convV_int Try.underlying189 Try.underlying12
@[simp] theorem qC189_21 {k : IntKind} {z : Int} : convV Try.prog 189 21 (.int k z) = some (.int .i32 (IntKind.i32.wrap z)) := convV_int Try.underlying189 Try.underlying21
@[simp] theorem qC189_89 {k : IntKind} {z : Int} : convV Try.prog 189 89 (.int k z) = some (.int .u64 (IntKind.u64.wrap z)) := convV_int Try.underlying189 Try.underlying89
@[simp] theorem qC189_178 {k : IntKind} {z : Int} : convV Try.prog 189 178 (.int k z) = some (.int .u64 (IntKind.u64.wrap z)) := convV_int Try.underlying189 Try.underlying178
@[simp] theorem qC189_189 {k : IntKind} {z : Int} : convV Try.prog 189 189 (.int k z) = some (.int .i64 (IntKind.i64.wrap z)) := convV_int Try.underlying189 Try.underlying189
@[simp] theorem qC189_197 {k : IntKind} {z : Int} : convV Try.prog 189 197 (.int k z) = some (.int .u32 (IntKind.u32.wrap z)) := convV_int Try.underlying189 Try.underlying197
@[simp] theorem qC189_202 {k : IntKind} {z : Int} : convV Try.prog 189 202 (.int k z) = some (.int .u64 (IntKind.u64.wrap z)) := convV_int Try.underlying189 Try.underlying202
@[simp] theorem qC197_2 {k : IntKind} {z : Int} : convV Try.prog 197 2 (.int k z) = some (.int .i64 (IntKind.i64.wrap z)) := convV_int Try.underlying197 Try.underlying2
@[simp] theorem qC197_3 {k : IntKind} {z : Int} : convV Try.prog 197 3 (.int k z) = some (.int .i64 (IntKind.i64.wrap z)) := convV_int Try.underlying197 Try.underlying3
@[simp] theorem qC197_5 {k : IntKind} {z : Int} : convV Try.prog 197 5 (.int k z) = some (.int .u8 (IntKind.u8.wrap z)) := convV_int Try.underlying197 Try.underlying5
@[simp] theorem qC197_12 {k : IntKind} {z : Int} : convV Try.prog 197 12 (.int k z) = some (.int .u64 (IntKind.u64.wrap z)) := convV_int Try.underlying197 Try.underlying12
@[simp] theorem qC197_21 {k : IntKind} {z : Int} : convV Try.prog 197 21 (.int k z) = some (.int .i32 (IntKind.i32.wrap z)) := convV_int Try.underlying197 Try.underlying21
@[simp] theorem qC197_89 {k : IntKind} {z : Int} : convV Try.prog 197 89 (.int k z) = some (.int .u64 (IntKind.u64.wrap z)) := convV_int Try.underlying197 Try.underlying89
@[simp] theorem qC197_178 {k : IntKind} {z : Int} : convV Try.prog 197 178 (.int k z) = some (.int .u64 (IntKind.u64.wrap z)) := convV_int Try.underlying197 Try.underlying178
@[simp] theorem qC197_189 {k : IntKind} {z : Int} : convV Try.prog 197 189 (.int k z) = some (.int .i64 (IntKind.i64.wrap z)) := convV_int Try.underlying197 Try.underlying189
@[simp] theorem qC197_197 {k : IntKind} {z : Int} : convV Try.prog 197 197 (.int k z) = some (.int .u32 (IntKind.u32.wrap z)) := convV_int Try.underlying197 Try.underlying197
@[simp] theorem qC197_202 {k : IntKind} {z : Int} : convV Try.prog 197 202 (.int k z) = some (.int .u64 (IntKind.u64.wrap z)) := convV_int Try.underlying197 Try.underlying202
@[simp] theorem qC202_2 {k : IntKind} {z : Int} : convV Try.prog 202 2 (.int k z) = some (.int .i64 (IntKind.i64.wrap z)) := convV_int Try.underlying202 Try.underlying2
@[simp] theorem qC202_3 {k : IntKind} {z : Int} : convV Try.prog 202 3 (.int k z) = some (.int .i64 (IntKind.i64.wrap z)) := convV_int Try.underlying202 Try.underlying3
@[simp] theorem qC202_5 {k : IntKind} {z : Int} : convV Try.prog 202 5 (.int k z) = some (.int .u8 (IntKind.u8.wrap z)) := convV_int Try.underlying202 Try.underlying5
@[simp] theorem qC202_12 {k : IntKind} {z : Int} : convV Try.prog 202 12 (.int k z) = some (.int .u64 (IntKind.u64.wrap z)) := convV_int Try.underlying202 Try.underlying12
@[simp] theorem qC202_21 {k : IntKind} {z : Int} : convV Try.prog 202 21 (.int k z) = some (.int .i32 (IntKind.i32.wrap z)) := convV_int Try.underlying202 Try.underlying21
@[simp] theorem qC202_89 {k : IntKind} {z : Int} : convV Try.prog 202 89 (.int k z) = some (.int .u64 (IntKind.u64.wrap z)) := convV_int Try.underlying202 Try.underlying89
@[simp] theorem qC202_178 {k : IntKind} {z : Int} : convV Try.prog 202 178 (.int k z) = some (.int .u64 (IntKind.u64.wrap z)) := convV_int Try.underlying202 Try.underlying178
@[simp] theorem qC202_189 {k : IntKind} {z : Int} : convV Try.prog 202 189 (.int k z) = some (.int .i64 (IntKind.i64.wrap z)) := convV_int Try.underlying202 Try.underlying189
@[simp] theorem qC202_197 {k : IntKind} {z : Int} : convV Try.prog 202 197 (.int k z) = some (.int .u32 (IntKind.u32.wrap z)) := convV_int Try.underlying202 Try.underlying197
@[simp] theorem qC202_202 {k : IntKind} {z : Int} : convV Try.prog 202 202 (.int k z) = some (.int .u64 (IntKind.u64.wrap z)) := convV_int Try.underlying202 Try.underlying202
@[simp] theorem qG9_9 {S : St} {K : Value → Mem → Prop} {s : ByteArray} : s2K Try.prog S K 9 9 s = K (.string s) S.M := s2K_str Try.underlying9 Try.underlying9
@[simp] theorem qH9_52 {S : St} {K : Value → Mem → Prop} {s : ByteArray} : s2K Try.prog S K 9 52 s = (s.size ≤ 1099511627776 ∧ K (.slice (some ⟨S.M.length, 0, none⟩) s.size s.size) (S.M ++ [.live ⟨byteCells s, true, false, 5, 1⟩])) := s2K_sl Try.underlying9 Try.underlying52 Try.underlying5
end Go.Proofs.Ytgaiejaegimilaa
