/- What the program's types are, for simp. No conditions. -/
import Derived.Test.YtffbocbjmhkikaaAw17
import Derived.Test.YtffbocbjmhkikaaRows
namespace Go.Proofs.Ytffbocbjmhkikaa
open Go.RowKit
@[simp] theorem qL2 : qLoad Try.prog 2 = some none := by kernel_rfl
@[simp] theorem qS2 : qSize Try.prog 2 = some 1 := by kernel_rfl
@[simp] theorem qZ2 : qZero Try.prog 2 = some [.int .i64 0] := by kernel_rfl
@[simp] theorem qL3 : qLoad Try.prog 3 = some none := by kernel_rfl
@[simp] theorem qS3 : qSize Try.prog 3 = some 1 := by kernel_rfl
@[simp] theorem qZ3 : qZero Try.prog 3 = some [.int .i64 0] := by kernel_rfl
@[simp] theorem qL4 : qLoad Try.prog 4 = some none := by kernel_rfl
@[simp] theorem qS4 : qSize Try.prog 4 = some 1 := by kernel_rfl
@[simp] theorem qZ4 : qZero Try.prog 4 = some [.bool false] := by kernel_rfl
@[simp] theorem qQ4 {x y : Bool} : binV Try.prog .eql 4 (.bool x) (.bool y) = some (.bool (x == y)) := by simp [binV, eqV, Try.underlying4]
@[simp] theorem qR4 {x y : Bool} : binV Try.prog .neq 4 (.bool x) (.bool y) = some (.bool (!(x == y))) := by simp [binV, eqV, Try.underlying4]
@[simp] theorem qL5 : qLoad Try.prog 5 = some none := by kernel_rfl
@[simp] theorem qS5 : qSize Try.prog 5 = some 1 := by kernel_rfl
@[simp] theorem qZ5 : qZero Try.prog 5 = some [.int .u8 0] := by kernel_rfl
@[simp] theorem qL9 : qLoad Try.prog 9 = some none := by kernel_rfl
@[simp] theorem qS9 : qSize Try.prog 9 = some 1 := by kernel_rfl
@[simp] theorem qZ9 : qZero Try.prog 9 = some [.string ByteArray.empty] := by kernel_rfl
@[simp] theorem qN9 {S : St} {K : Value → Mem → Prop} {s : ByteArray} : lenK Try.prog S K 9 (.string s) = K (.int .i64 (s.size : Int)) S.M := lenK_str Try.underlying9
@[simp] theorem qU9 : Try.prog.underlying 9 = some .string := Try.underlying9
@[simp] theorem qL12 : qLoad Try.prog 12 = some none := by kernel_rfl
@[simp] theorem qS12 : qSize Try.prog 12 = some 1 := by kernel_rfl
@[simp] theorem qZ12 : qZero Try.prog 12 = some [.int .u64 0] := by kernel_rfl
@[simp] theorem qL13 : qLoad Try.prog 13 = some (some 2) := by kernel_rfl
@[simp] theorem qS13 : qSize Try.prog 13 = some 2 := by kernel_rfl
@[simp] theorem qZ13 : qZero Try.prog 13 = some [.string ByteArray.empty, .int .u64 0] := by kernel_rfl
@[simp] theorem qF13_0 : qField Try.prog 13 0 = some (0, none) := by kernel_rfl
@[simp] theorem qF13_1 : qField Try.prog 13 1 = some (1, none) := by kernel_rfl
@[simp] theorem qB13 : qBuild Try.prog 13 = some (#[.string ByteArray.empty, .int .u64 0], #[(0, 1), (1, 1)]) := by kernel_rfl
@[simp] theorem qL21 : qLoad Try.prog 21 = some none := by kernel_rfl
@[simp] theorem qS21 : qSize Try.prog 21 = some 1 := by kernel_rfl
@[simp] theorem qZ21 : qZero Try.prog 21 = some [.int .i32 0] := by kernel_rfl
@[simp] theorem qL22 : qLoad Try.prog 22 = some none := by kernel_rfl
@[simp] theorem qS22 : qSize Try.prog 22 = some 1 := by kernel_rfl
@[simp] theorem qZ22 : qZero Try.prog 22 = some [.slice none 0 0] := by kernel_rfl
@[simp] theorem qE22 : qSlice Try.prog 22 = some (24, 1, 24) := by kernel_rfl
@[simp] theorem qN22 {S : St} {K : Value → Mem → Prop} {q : Option Addr} {m c : Nat} : lenK Try.prog S K 22 (.slice q m c) = K (.int .i64 (m : Int)) S.M := lenK_sl Try.underlying22
@[simp] theorem qI22 : (Try.prog.info? 24).any (fun i => i.zero.any fun z => z.cells.size == 1) = true := by kernel_rfl
@[simp] theorem qL23 : qLoad Try.prog 23 = some none := by kernel_rfl
@[simp] theorem qS23 : qSize Try.prog 23 = some 1 := by kernel_rfl
@[simp] theorem qZ23 : qZero Try.prog 23 = some [.slice none 0 0] := by kernel_rfl
@[simp] theorem qE23 : qSlice Try.prog 23 = some (175, 4, 48) := by kernel_rfl
@[simp] theorem qN23 {S : St} {K : Value → Mem → Prop} {q : Option Addr} {m c : Nat} : lenK Try.prog S K 23 (.slice q m c) = K (.int .i64 (m : Int)) S.M := lenK_sl Try.underlying23
@[simp] theorem qI23 : (Try.prog.info? 175).any (fun i => i.zero.any fun z => z.cells.size == 4) = true := by kernel_rfl
@[simp] theorem qL24 : qLoad Try.prog 24 = some none := by kernel_rfl
@[simp] theorem qS24 : qSize Try.prog 24 = some 1 := by kernel_rfl
@[simp] theorem qZ24 : qZero Try.prog 24 = some [.slice none 0 0] := by kernel_rfl
@[simp] theorem qE24 : qSlice Try.prog 24 = some (2, 1, 8) := by kernel_rfl
@[simp] theorem qN24 {S : St} {K : Value → Mem → Prop} {q : Option Addr} {m c : Nat} : lenK Try.prog S K 24 (.slice q m c) = K (.int .i64 (m : Int)) S.M := lenK_sl Try.underlying24
@[simp] theorem qI24 : (Try.prog.info? 2).any (fun i => i.zero.any fun z => z.cells.size == 1) = true := by kernel_rfl
@[simp] theorem qL25 : qLoad Try.prog 25 = some (some 4) := by kernel_rfl
@[simp] theorem qS25 : qSize Try.prog 25 = some 4 := by kernel_rfl
@[simp] theorem qZ25 : qZero Try.prog 25 = some [.int .i64 0, .slice none 0 0, .slice none 0 0, .slice none 0 0] := by kernel_rfl
@[simp] theorem qF25_0 : qField Try.prog 25 0 = some (0, none) := by kernel_rfl
@[simp] theorem qF25_1 : qField Try.prog 25 1 = some (1, none) := by kernel_rfl
@[simp] theorem qF25_2 : qField Try.prog 25 2 = some (2, none) := by kernel_rfl
@[simp] theorem qF25_3 : qField Try.prog 25 3 = some (3, none) := by kernel_rfl
@[simp] theorem qB25 : qBuild Try.prog 25 = some (#[.int .i64 0, .slice none 0 0, .slice none 0 0, .slice none 0 0], #[(0, 1), (1, 1), (2, 1), (3, 1)]) := by kernel_rfl
@[simp] theorem qL26 : qLoad Try.prog 26 = some (some 4) := by kernel_rfl
@[simp] theorem qS26 : qSize Try.prog 26 = some 4 := by kernel_rfl
@[simp] theorem qZ26 : qZero Try.prog 26 = some [.int .i64 0, .slice none 0 0, .slice none 0 0, .slice none 0 0] := by kernel_rfl
@[simp] theorem qF26_0 : qField Try.prog 26 0 = some (0, none) := by kernel_rfl
@[simp] theorem qF26_1 : qField Try.prog 26 1 = some (1, none) := by kernel_rfl
@[simp] theorem qF26_2 : qField Try.prog 26 2 = some (2, none) := by kernel_rfl
@[simp] theorem qF26_3 : qField Try.prog 26 3 = some (3, none) := by kernel_rfl
@[simp] theorem qB26 : qBuild Try.prog 26 = some (#[.int .i64 0, .slice none 0 0, .slice none 0 0, .slice none 0 0], #[(0, 1), (1, 1), (2, 1), (3, 1)]) := by kernel_rfl
@[simp] theorem qL27 : qLoad Try.prog 27 = some none := by kernel_rfl
@[simp] theorem qS27 : qSize Try.prog 27 = some 1 := by kernel_rfl
@[simp] theorem qZ27 : qZero Try.prog 27 = some [.slice none 0 0] := by kernel_rfl
@[simp] theorem qE27 : qSlice Try.prog 27 = some (178, 2, 16) := by kernel_rfl
@[simp] theorem qN27 {S : St} {K : Value → Mem → Prop} {q : Option Addr} {m c : Nat} : lenK Try.prog S K 27 (.slice q m c) = K (.int .i64 (m : Int)) S.M := lenK_sl Try.underlying27
@[simp] theorem qI27 : (Try.prog.info? 178).any (fun i => i.zero.any fun z => z.cells.size == 2) = true := by kernel_rfl
@[simp] theorem qL28 : qLoad Try.prog 28 = some (some 3) := by kernel_rfl
@[simp] theorem qS28 : qSize Try.prog 28 = some 3 := by kernel_rfl
@[simp] theorem qZ28 : qZero Try.prog 28 = some [.int .i64 0, .slice none 0 0, .int .i64 0] := by kernel_rfl
@[simp] theorem qF28_0 : qField Try.prog 28 0 = some (0, none) := by kernel_rfl
@[simp] theorem qF28_1 : qField Try.prog 28 1 = some (1, none) := by kernel_rfl
@[simp] theorem qF28_2 : qField Try.prog 28 2 = some (2, none) := by kernel_rfl
@[simp] theorem qB28 : qBuild Try.prog 28 = some (#[.int .i64 0, .slice none 0 0, .int .i64 0], #[(0, 1), (1, 1), (2, 1)]) := by kernel_rfl
@[simp] theorem qL29 : qLoad Try.prog 29 = some (some 3) := by kernel_rfl
@[simp] theorem qS29 : qSize Try.prog 29 = some 3 := by kernel_rfl
@[simp] theorem qZ29 : qZero Try.prog 29 = some [.int .i64 0, .slice none 0 0, .int .i64 0] := by kernel_rfl
@[simp] theorem qF29_0 : qField Try.prog 29 0 = some (0, none) := by kernel_rfl
@[simp] theorem qF29_1 : qField Try.prog 29 1 = some (1, none) := by kernel_rfl
@[simp] theorem qF29_2 : qField Try.prog 29 2 = some (2, none) := by kernel_rfl
@[simp] theorem qB29 : qBuild Try.prog 29 = some (#[.int .i64 0, .slice none 0 0, .int .i64 0], #[(0, 1), (1, 1), (2, 1)]) := by kernel_rfl
@[simp] theorem qL30 : qLoad Try.prog 30 = some (some 8) := by kernel_rfl
@[simp] theorem qS30 : qSize Try.prog 30 = some 8 := by kernel_rfl
@[simp] theorem qZ30 : qZero Try.prog 30 = some [.int .i64 0, .slice none 0 0, .slice none 0 0, .slice none 0 0, .int .i64 0, .slice none 0 0, .int .i64 0, .slice none 0 0] := by kernel_rfl
@[simp] theorem qF30_0 : qField Try.prog 30 0 = some (0, some 4) := by kernel_rfl
@[simp] theorem qF30_1 : qField Try.prog 30 1 = some (4, some 3) := by kernel_rfl
@[simp] theorem qF30_2 : qField Try.prog 30 2 = some (7, none) := by kernel_rfl
@[simp] theorem qB30 : qBuild Try.prog 30 = some (#[.int .i64 0, .slice none 0 0, .slice none 0 0, .slice none 0 0, .int .i64 0, .slice none 0 0, .int .i64 0, .slice none 0 0], #[(0, 4), (4, 3), (7, 1)]) := by kernel_rfl
@[simp] theorem qL31 : qLoad Try.prog 31 = some (some 8) := by kernel_rfl
@[simp] theorem qS31 : qSize Try.prog 31 = some 8 := by kernel_rfl
@[simp] theorem qZ31 : qZero Try.prog 31 = some [.int .i64 0, .slice none 0 0, .slice none 0 0, .slice none 0 0, .int .i64 0, .slice none 0 0, .int .i64 0, .slice none 0 0] := by kernel_rfl
@[simp] theorem qF31_0 : qField Try.prog 31 0 = some (0, some 4) := by kernel_rfl
@[simp] theorem qF31_1 : qField Try.prog 31 1 = some (4, some 3) := by kernel_rfl
@[simp] theorem qF31_2 : qField Try.prog 31 2 = some (7, none) := by kernel_rfl
@[simp] theorem qB31 : qBuild Try.prog 31 = some (#[.int .i64 0, .slice none 0 0, .slice none 0 0, .slice none 0 0, .int .i64 0, .slice none 0 0, .int .i64 0, .slice none 0 0], #[(0, 4), (4, 3), (7, 1)]) := by kernel_rfl
@[simp] theorem qL34 : qLoad Try.prog 34 = some none := by kernel_rfl
@[simp] theorem qS34 : qSize Try.prog 34 = some 1 := by kernel_rfl
@[simp] theorem qZ34 : qZero Try.prog 34 = some [.slice none 0 0] := by kernel_rfl
@[simp] theorem qE34 : qSlice Try.prog 34 = some (141, 4, 48) := by kernel_rfl
@[simp] theorem qN34 {S : St} {K : Value → Mem → Prop} {q : Option Addr} {m c : Nat} : lenK Try.prog S K 34 (.slice q m c) = K (.int .i64 (m : Int)) S.M := lenK_sl Try.underlying34
@[simp] theorem qI34 : (Try.prog.info? 141).any (fun i => i.zero.any fun z => z.cells.size == 4) = true := by kernel_rfl
@[simp] theorem qL35 : qLoad Try.prog 35 = some (some 4) := by kernel_rfl
@[simp] theorem qS35 : qSize Try.prog 35 = some 4 := by kernel_rfl
@[simp] theorem qZ35 : qZero Try.prog 35 = some [.int .i64 0, .slice none 0 0, .slice none 0 0, .slice none 0 0] := by kernel_rfl
@[simp] theorem qF35_0 : qField Try.prog 35 0 = some (0, none) := by kernel_rfl
@[simp] theorem qF35_1 : qField Try.prog 35 1 = some (1, none) := by kernel_rfl
@[simp] theorem qF35_2 : qField Try.prog 35 2 = some (2, none) := by kernel_rfl
@[simp] theorem qF35_3 : qField Try.prog 35 3 = some (3, none) := by kernel_rfl
@[simp] theorem qB35 : qBuild Try.prog 35 = some (#[.int .i64 0, .slice none 0 0, .slice none 0 0, .slice none 0 0], #[(0, 1), (1, 1), (2, 1), (3, 1)]) := by kernel_rfl
@[simp] theorem qL36 : qLoad Try.prog 36 = some (some 4) := by kernel_rfl
@[simp] theorem qS36 : qSize Try.prog 36 = some 4 := by kernel_rfl
@[simp] theorem qZ36 : qZero Try.prog 36 = some [.int .i64 0, .slice none 0 0, .slice none 0 0, .slice none 0 0] := by kernel_rfl
@[simp] theorem qF36_0 : qField Try.prog 36 0 = some (0, none) := by kernel_rfl
@[simp] theorem qF36_1 : qField Try.prog 36 1 = some (1, none) := by kernel_rfl
@[simp] theorem qF36_2 : qField Try.prog 36 2 = some (2, none) := by kernel_rfl
@[simp] theorem qF36_3 : qField Try.prog 36 3 = some (3, none) := by kernel_rfl
@[simp] theorem qB36 : qBuild Try.prog 36 = some (#[.int .i64 0, .slice none 0 0, .slice none 0 0, .slice none 0 0], #[(0, 1), (1, 1), (2, 1), (3, 1)]) := by kernel_rfl
@[simp] theorem qL37 : qLoad Try.prog 37 = some none := by kernel_rfl
@[simp] theorem qS37 : qSize Try.prog 37 = some 1 := by kernel_rfl
@[simp] theorem qZ37 : qZero Try.prog 37 = some [.slice none 0 0] := by kernel_rfl
@[simp] theorem qE37 : qSlice Try.prog 37 = some (143, 2, 16) := by kernel_rfl
@[simp] theorem qN37 {S : St} {K : Value → Mem → Prop} {q : Option Addr} {m c : Nat} : lenK Try.prog S K 37 (.slice q m c) = K (.int .i64 (m : Int)) S.M := lenK_sl Try.underlying37
@[simp] theorem qI37 : (Try.prog.info? 143).any (fun i => i.zero.any fun z => z.cells.size == 2) = true := by kernel_rfl
@[simp] theorem qL38 : qLoad Try.prog 38 = some (some 3) := by kernel_rfl
@[simp] theorem qS38 : qSize Try.prog 38 = some 3 := by kernel_rfl
@[simp] theorem qZ38 : qZero Try.prog 38 = some [.int .i64 0, .slice none 0 0, .int .i64 0] := by kernel_rfl
@[simp] theorem qF38_0 : qField Try.prog 38 0 = some (0, none) := by kernel_rfl
@[simp] theorem qF38_1 : qField Try.prog 38 1 = some (1, none) := by kernel_rfl
@[simp] theorem qF38_2 : qField Try.prog 38 2 = some (2, none) := by kernel_rfl
@[simp] theorem qB38 : qBuild Try.prog 38 = some (#[.int .i64 0, .slice none 0 0, .int .i64 0], #[(0, 1), (1, 1), (2, 1)]) := by kernel_rfl
@[simp] theorem qL39 : qLoad Try.prog 39 = some (some 3) := by kernel_rfl
@[simp] theorem qS39 : qSize Try.prog 39 = some 3 := by kernel_rfl
@[simp] theorem qZ39 : qZero Try.prog 39 = some [.int .i64 0, .slice none 0 0, .int .i64 0] := by kernel_rfl
@[simp] theorem qF39_0 : qField Try.prog 39 0 = some (0, none) := by kernel_rfl
@[simp] theorem qF39_1 : qField Try.prog 39 1 = some (1, none) := by kernel_rfl
@[simp] theorem qF39_2 : qField Try.prog 39 2 = some (2, none) := by kernel_rfl
@[simp] theorem qB39 : qBuild Try.prog 39 = some (#[.int .i64 0, .slice none 0 0, .int .i64 0], #[(0, 1), (1, 1), (2, 1)]) := by kernel_rfl
@[simp] theorem qL40 : qLoad Try.prog 40 = some (some 8) := by kernel_rfl
@[simp] theorem qS40 : qSize Try.prog 40 = some 8 := by kernel_rfl
@[simp] theorem qZ40 : qZero Try.prog 40 = some [.int .i64 0, .slice none 0 0, .slice none 0 0, .slice none 0 0, .int .i64 0, .slice none 0 0, .int .i64 0, .slice none 0 0] := by kernel_rfl
@[simp] theorem qF40_0 : qField Try.prog 40 0 = some (0, some 4) := by kernel_rfl
@[simp] theorem qF40_1 : qField Try.prog 40 1 = some (4, some 3) := by kernel_rfl
@[simp] theorem qF40_2 : qField Try.prog 40 2 = some (7, none) := by kernel_rfl
@[simp] theorem qB40 : qBuild Try.prog 40 = some (#[.int .i64 0, .slice none 0 0, .slice none 0 0, .slice none 0 0, .int .i64 0, .slice none 0 0, .int .i64 0, .slice none 0 0], #[(0, 4), (4, 3), (7, 1)]) := by kernel_rfl
@[simp] theorem qL41 : qLoad Try.prog 41 = some (some 8) := by kernel_rfl
@[simp] theorem qS41 : qSize Try.prog 41 = some 8 := by kernel_rfl
@[simp] theorem qZ41 : qZero Try.prog 41 = some [.int .i64 0, .slice none 0 0, .slice none 0 0, .slice none 0 0, .int .i64 0, .slice none 0 0, .int .i64 0, .slice none 0 0] := by kernel_rfl
@[simp] theorem qF41_0 : qField Try.prog 41 0 = some (0, some 4) := by kernel_rfl
@[simp] theorem qF41_1 : qField Try.prog 41 1 = some (4, some 3) := by kernel_rfl
@[simp] theorem qF41_2 : qField Try.prog 41 2 = some (7, none) := by kernel_rfl
@[simp] theorem qB41 : qBuild Try.prog 41 = some (#[.int .i64 0, .slice none 0 0, .slice none 0 0, .slice none 0 0, .int .i64 0, .slice none 0 0, .int .i64 0, .slice none 0 0], #[(0, 4), (4, 3), (7, 1)]) := by kernel_rfl
@[simp] theorem qL49 : qLoad Try.prog 49 = some none := by kernel_rfl
@[simp] theorem qS49 : qSize Try.prog 49 = some 1 := by kernel_rfl
@[simp] theorem qZ49 : qZero Try.prog 49 = some [.slice none 0 0] := by kernel_rfl
@[simp] theorem qE49 : qSlice Try.prog 49 = some (68, 5, 40) := by kernel_rfl
@[simp] theorem qN49 {S : St} {K : Value → Mem → Prop} {q : Option Addr} {m c : Nat} : lenK Try.prog S K 49 (.slice q m c) = K (.int .i64 (m : Int)) S.M := lenK_sl Try.underlying49
@[simp] theorem qI49 : (Try.prog.info? 68).any (fun i => i.zero.any fun z => z.cells.size == 5) = true := by kernel_rfl
@[simp] theorem qL50 : qLoad Try.prog 50 = some (some 1) := by kernel_rfl
@[simp] theorem qS50 : qSize Try.prog 50 = some 1 := by kernel_rfl
@[simp] theorem qZ50 : qZero Try.prog 50 = some [.slice none 0 0] := by kernel_rfl
@[simp] theorem qF50_0 : qField Try.prog 50 0 = some (0, none) := by kernel_rfl
@[simp] theorem qB50 : qBuild Try.prog 50 = some (#[.slice none 0 0], #[(0, 1)]) := by kernel_rfl
@[simp] theorem qL51 : qLoad Try.prog 51 = some (some 1) := by kernel_rfl
@[simp] theorem qS51 : qSize Try.prog 51 = some 1 := by kernel_rfl
@[simp] theorem qZ51 : qZero Try.prog 51 = some [.slice none 0 0] := by kernel_rfl
@[simp] theorem qF51_0 : qField Try.prog 51 0 = some (0, none) := by kernel_rfl
@[simp] theorem qB51 : qBuild Try.prog 51 = some (#[.slice none 0 0], #[(0, 1)]) := by kernel_rfl
@[simp] theorem qL57 : qLoad Try.prog 57 = some none := by kernel_rfl
@[simp] theorem qS57 : qSize Try.prog 57 = some 1 := by kernel_rfl
@[simp] theorem qZ57 : qZero Try.prog 57 = some [.slice none 0 0] := by kernel_rfl
@[simp] theorem qE57 : qSlice Try.prog 57 = some (71, 5, 40) := by kernel_rfl
@[simp] theorem qN57 {S : St} {K : Value → Mem → Prop} {q : Option Addr} {m c : Nat} : lenK Try.prog S K 57 (.slice q m c) = K (.int .i64 (m : Int)) S.M := lenK_sl Try.underlying57
@[simp] theorem qI57 : (Try.prog.info? 71).any (fun i => i.zero.any fun z => z.cells.size == 5) = true := by kernel_rfl
@[simp] theorem qL58 : qLoad Try.prog 58 = some (some 1) := by kernel_rfl
@[simp] theorem qS58 : qSize Try.prog 58 = some 1 := by kernel_rfl
@[simp] theorem qZ58 : qZero Try.prog 58 = some [.slice none 0 0] := by kernel_rfl
@[simp] theorem qF58_0 : qField Try.prog 58 0 = some (0, none) := by kernel_rfl
@[simp] theorem qB58 : qBuild Try.prog 58 = some (#[.slice none 0 0], #[(0, 1)]) := by kernel_rfl
@[simp] theorem qL59 : qLoad Try.prog 59 = some (some 1) := by kernel_rfl
@[simp] theorem qS59 : qSize Try.prog 59 = some 1 := by kernel_rfl
@[simp] theorem qZ59 : qZero Try.prog 59 = some [.slice none 0 0] := by kernel_rfl
@[simp] theorem qF59_0 : qField Try.prog 59 0 = some (0, none) := by kernel_rfl
@[simp] theorem qB59 : qBuild Try.prog 59 = some (#[.slice none 0 0], #[(0, 1)]) := by kernel_rfl
@[simp] theorem qL67 : qLoad Try.prog 67 = some (some 5) := by kernel_rfl
@[simp] theorem qS67 : qSize Try.prog 67 = some 5 := by kernel_rfl
@[simp] theorem qZ67 : qZero Try.prog 67 = some [.int .i64 0, .int .i64 0, .int .i64 0, .int .i64 0, .int .i64 0] := by kernel_rfl
@[simp] theorem qF67_0 : qField Try.prog 67 0 = some (0, none) := by kernel_rfl
@[simp] theorem qF67_1 : qField Try.prog 67 1 = some (1, none) := by kernel_rfl
@[simp] theorem qF67_2 : qField Try.prog 67 2 = some (2, none) := by kernel_rfl
@[simp] theorem qF67_3 : qField Try.prog 67 3 = some (3, none) := by kernel_rfl
@[simp] theorem qF67_4 : qField Try.prog 67 4 = some (4, none) := by kernel_rfl
@[simp] theorem qB67 : qBuild Try.prog 67 = some (#[.int .i64 0, .int .i64 0, .int .i64 0, .int .i64 0, .int .i64 0], #[(0, 1), (1, 1), (2, 1), (3, 1), (4, 1)]) := by kernel_rfl
@[simp] theorem qL68 : qLoad Try.prog 68 = some (some 5) := by kernel_rfl
@[simp] theorem qS68 : qSize Try.prog 68 = some 5 := by kernel_rfl
@[simp] theorem qZ68 : qZero Try.prog 68 = some [.int .i64 0, .int .i64 0, .int .i64 0, .int .i64 0, .int .i64 0] := by kernel_rfl
@[simp] theorem qF68_0 : qField Try.prog 68 0 = some (0, none) := by kernel_rfl
@[simp] theorem qF68_1 : qField Try.prog 68 1 = some (1, none) := by kernel_rfl
@[simp] theorem qF68_2 : qField Try.prog 68 2 = some (2, none) := by kernel_rfl
@[simp] theorem qF68_3 : qField Try.prog 68 3 = some (3, none) := by kernel_rfl
@[simp] theorem qF68_4 : qField Try.prog 68 4 = some (4, none) := by kernel_rfl
@[simp] theorem qB68 : qBuild Try.prog 68 = some (#[.int .i64 0, .int .i64 0, .int .i64 0, .int .i64 0, .int .i64 0], #[(0, 1), (1, 1), (2, 1), (3, 1), (4, 1)]) := by kernel_rfl
@[simp] theorem qL71 : qLoad Try.prog 71 = some (some 5) := by kernel_rfl
@[simp] theorem qS71 : qSize Try.prog 71 = some 5 := by kernel_rfl
@[simp] theorem qZ71 : qZero Try.prog 71 = some [.int .i64 0, .int .i64 0, .int .i64 0, .int .i64 0, .int .i64 0] := by kernel_rfl
@[simp] theorem qF71_0 : qField Try.prog 71 0 = some (0, none) := by kernel_rfl
@[simp] theorem qF71_1 : qField Try.prog 71 1 = some (1, none) := by kernel_rfl
@[simp] theorem qF71_2 : qField Try.prog 71 2 = some (2, none) := by kernel_rfl
@[simp] theorem qF71_3 : qField Try.prog 71 3 = some (3, none) := by kernel_rfl
@[simp] theorem qF71_4 : qField Try.prog 71 4 = some (4, none) := by kernel_rfl
@[simp] theorem qB71 : qBuild Try.prog 71 = some (#[.int .i64 0, .int .i64 0, .int .i64 0, .int .i64 0, .int .i64 0], #[(0, 1), (1, 1), (2, 1), (3, 1), (4, 1)]) := by kernel_rfl
@[simp] theorem qL77 : qLoad Try.prog 77 = some none := by kernel_rfl
@[simp] theorem qS77 : qSize Try.prog 77 = some 1 := by kernel_rfl
@[simp] theorem qZ77 : qZero Try.prog 77 = some [.slice none 0 0] := by kernel_rfl
@[simp] theorem qE77 : qSlice Try.prog 77 = some (5, 1, 1) := by kernel_rfl
@[simp] theorem qN77 {S : St} {K : Value → Mem → Prop} {q : Option Addr} {m c : Nat} : lenK Try.prog S K 77 (.slice q m c) = K (.int .i64 (m : Int)) S.M := lenK_sl Try.underlying77
@[simp] theorem qI77 : (Try.prog.info? 5).any (fun i => i.zero.any fun z => z.cells.size == 1) = true := by kernel_rfl
@[simp] theorem qL80 : qLoad Try.prog 80 = some none := by kernel_rfl
@[simp] theorem qS80 : qSize Try.prog 80 = some 1 := by kernel_rfl
@[simp] theorem qZ80 : qZero Try.prog 80 = some [.slice none 0 0] := by kernel_rfl
@[simp] theorem qE80 : qSlice Try.prog 80 = some (88, 5, 40) := by kernel_rfl
@[simp] theorem qN80 {S : St} {K : Value → Mem → Prop} {q : Option Addr} {m c : Nat} : lenK Try.prog S K 80 (.slice q m c) = K (.int .i64 (m : Int)) S.M := lenK_sl Try.underlying80
@[simp] theorem qI80 : (Try.prog.info? 88).any (fun i => i.zero.any fun z => z.cells.size == 5) = true := by kernel_rfl
@[simp] theorem qL87 : qLoad Try.prog 87 = some (some 5) := by kernel_rfl
@[simp] theorem qS87 : qSize Try.prog 87 = some 5 := by kernel_rfl
@[simp] theorem qZ87 : qZero Try.prog 87 = some [.int .i64 0, .int .i64 0, .int .i64 0, .int .i64 0, .int .i64 0] := by kernel_rfl
@[simp] theorem qF87_0 : qField Try.prog 87 0 = some (0, none) := by kernel_rfl
@[simp] theorem qF87_1 : qField Try.prog 87 1 = some (1, none) := by kernel_rfl
@[simp] theorem qF87_2 : qField Try.prog 87 2 = some (2, none) := by kernel_rfl
@[simp] theorem qF87_3 : qField Try.prog 87 3 = some (3, none) := by kernel_rfl
@[simp] theorem qF87_4 : qField Try.prog 87 4 = some (4, none) := by kernel_rfl
@[simp] theorem qB87 : qBuild Try.prog 87 = some (#[.int .i64 0, .int .i64 0, .int .i64 0, .int .i64 0, .int .i64 0], #[(0, 1), (1, 1), (2, 1), (3, 1), (4, 1)]) := by kernel_rfl
@[simp] theorem qL88 : qLoad Try.prog 88 = some (some 5) := by kernel_rfl
@[simp] theorem qS88 : qSize Try.prog 88 = some 5 := by kernel_rfl
@[simp] theorem qZ88 : qZero Try.prog 88 = some [.int .i64 0, .int .i64 0, .int .i64 0, .int .i64 0, .int .i64 0] := by kernel_rfl
@[simp] theorem qF88_0 : qField Try.prog 88 0 = some (0, none) := by kernel_rfl
@[simp] theorem qF88_1 : qField Try.prog 88 1 = some (1, none) := by kernel_rfl
@[simp] theorem qF88_2 : qField Try.prog 88 2 = some (2, none) := by kernel_rfl
@[simp] theorem qF88_3 : qField Try.prog 88 3 = some (3, none) := by kernel_rfl
@[simp] theorem qF88_4 : qField Try.prog 88 4 = some (4, none) := by kernel_rfl
@[simp] theorem qB88 : qBuild Try.prog 88 = some (#[.int .i64 0, .int .i64 0, .int .i64 0, .int .i64 0, .int .i64 0], #[(0, 1), (1, 1), (2, 1), (3, 1), (4, 1)]) := by kernel_rfl
@[simp] theorem qL98 : qLoad Try.prog 98 = some none := by kernel_rfl
@[simp] theorem qS98 : qSize Try.prog 98 = some 1 := by kernel_rfl
@[simp] theorem qZ98 : qZero Try.prog 98 = some [.pointer none] := by kernel_rfl
@[simp] theorem qL106 : qLoad Try.prog 106 = some none := by kernel_rfl
@[simp] theorem qS106 : qSize Try.prog 106 = some 1 := by kernel_rfl
@[simp] theorem qZ106 : qZero Try.prog 106 = some [.pointer none] := by kernel_rfl
@[simp] theorem qL116 : qLoad Try.prog 116 = some none := by kernel_rfl
@[simp] theorem qS116 : qSize Try.prog 116 = some 1 := by kernel_rfl
@[simp] theorem qZ116 : qZero Try.prog 116 = some [.pointer none] := by kernel_rfl
@[simp] theorem qL124 : qLoad Try.prog 124 = some none := by kernel_rfl
@[simp] theorem qS124 : qSize Try.prog 124 = some 1 := by kernel_rfl
@[simp] theorem qZ124 : qZero Try.prog 124 = some [.pointer none] := by kernel_rfl
@[simp] theorem qL134 : qLoad Try.prog 134 = some none := by kernel_rfl
@[simp] theorem qS134 : qSize Try.prog 134 = some 1 := by kernel_rfl
@[simp] theorem qZ134 : qZero Try.prog 134 = some [.pointer none] := by kernel_rfl
@[simp] theorem qL139 : qLoad Try.prog 139 = some none := by kernel_rfl
@[simp] theorem qS139 : qSize Try.prog 139 = some 1 := by kernel_rfl
@[simp] theorem qZ139 : qZero Try.prog 139 = some [.pointer none] := by kernel_rfl
@[simp] theorem qL140 : qLoad Try.prog 140 = some (some 4) := by kernel_rfl
@[simp] theorem qS140 : qSize Try.prog 140 = some 4 := by kernel_rfl
@[simp] theorem qZ140 : qZero Try.prog 140 = some [.int .i64 0, .int .i64 0, .int .i64 0, .slice none 0 0] := by kernel_rfl
@[simp] theorem qF140_0 : qField Try.prog 140 0 = some (0, none) := by kernel_rfl
@[simp] theorem qF140_1 : qField Try.prog 140 1 = some (1, none) := by kernel_rfl
@[simp] theorem qF140_2 : qField Try.prog 140 2 = some (2, none) := by kernel_rfl
@[simp] theorem qF140_3 : qField Try.prog 140 3 = some (3, none) := by kernel_rfl
@[simp] theorem qB140 : qBuild Try.prog 140 = some (#[.int .i64 0, .int .i64 0, .int .i64 0, .slice none 0 0], #[(0, 1), (1, 1), (2, 1), (3, 1)]) := by kernel_rfl
@[simp] theorem qL141 : qLoad Try.prog 141 = some (some 4) := by kernel_rfl
@[simp] theorem qS141 : qSize Try.prog 141 = some 4 := by kernel_rfl
@[simp] theorem qZ141 : qZero Try.prog 141 = some [.int .i64 0, .int .i64 0, .int .i64 0, .slice none 0 0] := by kernel_rfl
@[simp] theorem qF141_0 : qField Try.prog 141 0 = some (0, none) := by kernel_rfl
@[simp] theorem qF141_1 : qField Try.prog 141 1 = some (1, none) := by kernel_rfl
@[simp] theorem qF141_2 : qField Try.prog 141 2 = some (2, none) := by kernel_rfl
@[simp] theorem qF141_3 : qField Try.prog 141 3 = some (3, none) := by kernel_rfl
@[simp] theorem qB141 : qBuild Try.prog 141 = some (#[.int .i64 0, .int .i64 0, .int .i64 0, .slice none 0 0], #[(0, 1), (1, 1), (2, 1), (3, 1)]) := by kernel_rfl
@[simp] theorem qL142 : qLoad Try.prog 142 = some (some 2) := by kernel_rfl
@[simp] theorem qS142 : qSize Try.prog 142 = some 2 := by kernel_rfl
@[simp] theorem qZ142 : qZero Try.prog 142 = some [.int .i64 0, .int .i64 0] := by kernel_rfl
@[simp] theorem qF142_0 : qField Try.prog 142 0 = some (0, none) := by kernel_rfl
@[simp] theorem qF142_1 : qField Try.prog 142 1 = some (1, none) := by kernel_rfl
@[simp] theorem qB142 : qBuild Try.prog 142 = some (#[.int .i64 0, .int .i64 0], #[(0, 1), (1, 1)]) := by kernel_rfl
@[simp] theorem qL143 : qLoad Try.prog 143 = some (some 2) := by kernel_rfl
@[simp] theorem qS143 : qSize Try.prog 143 = some 2 := by kernel_rfl
@[simp] theorem qZ143 : qZero Try.prog 143 = some [.int .i64 0, .int .i64 0] := by kernel_rfl
@[simp] theorem qF143_0 : qField Try.prog 143 0 = some (0, none) := by kernel_rfl
@[simp] theorem qF143_1 : qField Try.prog 143 1 = some (1, none) := by kernel_rfl
@[simp] theorem qB143 : qBuild Try.prog 143 = some (#[.int .i64 0, .int .i64 0], #[(0, 1), (1, 1)]) := by kernel_rfl
@[simp] theorem qL150 : qLoad Try.prog 150 = some none := by kernel_rfl
@[simp] theorem qS150 : qSize Try.prog 150 = some 1 := by kernel_rfl
@[simp] theorem qZ150 : qZero Try.prog 150 = some [.pointer none] := by kernel_rfl
@[simp] theorem qL154 : qLoad Try.prog 154 = some none := by kernel_rfl
@[simp] theorem qS154 : qSize Try.prog 154 = some 1 := by kernel_rfl
@[simp] theorem qZ154 : qZero Try.prog 154 = some [.int .u64 0] := by kernel_rfl
@[simp] theorem qL162 : qLoad Try.prog 162 = some none := by kernel_rfl
@[simp] theorem qS162 : qSize Try.prog 162 = some 1 := by kernel_rfl
@[simp] theorem qZ162 : qZero Try.prog 162 = some [.int .u64 0] := by kernel_rfl
@[simp] theorem qL163 : qLoad Try.prog 163 = some (some 3) := by kernel_rfl
@[simp] theorem qS163 : qSize Try.prog 163 = some 3 := by kernel_rfl
@[simp] theorem qZ163 : qZero Try.prog 163 = some [.slice none 0 0, .int .i64 0, .int .u64 0] := by kernel_rfl
@[simp] theorem qF163_0 : qField Try.prog 163 0 = some (0, none) := by kernel_rfl
@[simp] theorem qF163_1 : qField Try.prog 163 1 = some (1, none) := by kernel_rfl
@[simp] theorem qF163_2 : qField Try.prog 163 2 = some (2, none) := by kernel_rfl
@[simp] theorem qB163 : qBuild Try.prog 163 = some (#[.slice none 0 0, .int .i64 0, .int .u64 0], #[(0, 1), (1, 1), (2, 1)]) := by kernel_rfl
@[simp] theorem qL164 : qLoad Try.prog 164 = some (some 3) := by kernel_rfl
@[simp] theorem qS164 : qSize Try.prog 164 = some 3 := by kernel_rfl
@[simp] theorem qZ164 : qZero Try.prog 164 = some [.slice none 0 0, .int .i64 0, .int .u64 0] := by kernel_rfl
@[simp] theorem qF164_0 : qField Try.prog 164 0 = some (0, none) := by kernel_rfl
@[simp] theorem qF164_1 : qField Try.prog 164 1 = some (1, none) := by kernel_rfl
@[simp] theorem qF164_2 : qField Try.prog 164 2 = some (2, none) := by kernel_rfl
@[simp] theorem qB164 : qBuild Try.prog 164 = some (#[.slice none 0 0, .int .i64 0, .int .u64 0], #[(0, 1), (1, 1), (2, 1)]) := by kernel_rfl
@[simp] theorem qL169 : qLoad Try.prog 169 = some none := by kernel_rfl
@[simp] theorem qS169 : qSize Try.prog 169 = some 1 := by kernel_rfl
@[simp] theorem qZ169 : qZero Try.prog 169 = some [.pointer none] := by kernel_rfl
@[simp] theorem qL175 : qLoad Try.prog 175 = some (some 4) := by kernel_rfl
@[simp] theorem qS175 : qSize Try.prog 175 = some 4 := by kernel_rfl
@[simp] theorem qZ175 : qZero Try.prog 175 = some [.int .i64 0, .int .i64 0, .int .i64 0, .slice none 0 0] := by kernel_rfl
@[simp] theorem qF175_0 : qField Try.prog 175 0 = some (0, none) := by kernel_rfl
@[simp] theorem qF175_1 : qField Try.prog 175 1 = some (1, none) := by kernel_rfl
@[simp] theorem qF175_2 : qField Try.prog 175 2 = some (2, none) := by kernel_rfl
@[simp] theorem qF175_3 : qField Try.prog 175 3 = some (3, none) := by kernel_rfl
@[simp] theorem qB175 : qBuild Try.prog 175 = some (#[.int .i64 0, .int .i64 0, .int .i64 0, .slice none 0 0], #[(0, 1), (1, 1), (2, 1), (3, 1)]) := by kernel_rfl
@[simp] theorem qL178 : qLoad Try.prog 178 = some (some 2) := by kernel_rfl
@[simp] theorem qS178 : qSize Try.prog 178 = some 2 := by kernel_rfl
@[simp] theorem qZ178 : qZero Try.prog 178 = some [.int .i64 0, .int .i64 0] := by kernel_rfl
@[simp] theorem qF178_0 : qField Try.prog 178 0 = some (0, none) := by kernel_rfl
@[simp] theorem qF178_1 : qField Try.prog 178 1 = some (1, none) := by kernel_rfl
@[simp] theorem qB178 : qBuild Try.prog 178 = some (#[.int .i64 0, .int .i64 0], #[(0, 1), (1, 1)]) := by kernel_rfl
@[simp] theorem qL197 : qLoad Try.prog 197 = some none := by kernel_rfl
@[simp] theorem qS197 : qSize Try.prog 197 = some 1 := by kernel_rfl
@[simp] theorem qZ197 : qZero Try.prog 197 = some [.slice none 0 0] := by kernel_rfl
@[simp] theorem qE197 : qSlice Try.prog 197 = some (4, 1, 1) := by kernel_rfl
@[simp] theorem qN197 {S : St} {K : Value → Mem → Prop} {q : Option Addr} {m c : Nat} : lenK Try.prog S K 197 (.slice q m c) = K (.int .i64 (m : Int)) S.M := lenK_sl Try.underlying197
@[simp] theorem qI197 : (Try.prog.info? 4).any (fun i => i.zero.any fun z => z.cells.size == 1) = true := by kernel_rfl
@[simp] theorem qL200 : qLoad Try.prog 200 = some (some 6) := by kernel_rfl
@[simp] theorem qS200 : qSize Try.prog 200 = some 6 := by kernel_rfl
@[simp] theorem qZ200 : qZero Try.prog 200 = some [.string ByteArray.empty, .int .i64 0, .int .i64 0, .int .i64 0, .bool false, .bool false] := by kernel_rfl
@[simp] theorem qF200_0 : qField Try.prog 200 0 = some (0, none) := by kernel_rfl
@[simp] theorem qF200_1 : qField Try.prog 200 1 = some (1, none) := by kernel_rfl
@[simp] theorem qF200_2 : qField Try.prog 200 2 = some (2, none) := by kernel_rfl
@[simp] theorem qF200_3 : qField Try.prog 200 3 = some (3, none) := by kernel_rfl
@[simp] theorem qF200_4 : qField Try.prog 200 4 = some (4, none) := by kernel_rfl
@[simp] theorem qF200_5 : qField Try.prog 200 5 = some (5, none) := by kernel_rfl
@[simp] theorem qB200 : qBuild Try.prog 200 = some (#[.string ByteArray.empty, .int .i64 0, .int .i64 0, .int .i64 0, .bool false, .bool false], #[(0, 1), (1, 1), (2, 1), (3, 1), (4, 1), (5, 1)]) := by kernel_rfl
@[simp] theorem qL201 : qLoad Try.prog 201 = some (some 6) := by kernel_rfl
@[simp] theorem qS201 : qSize Try.prog 201 = some 6 := by kernel_rfl
@[simp] theorem qZ201 : qZero Try.prog 201 = some [.string ByteArray.empty, .int .i64 0, .int .i64 0, .int .i64 0, .bool false, .bool false] := by kernel_rfl
@[simp] theorem qF201_0 : qField Try.prog 201 0 = some (0, none) := by kernel_rfl
@[simp] theorem qF201_1 : qField Try.prog 201 1 = some (1, none) := by kernel_rfl
@[simp] theorem qF201_2 : qField Try.prog 201 2 = some (2, none) := by kernel_rfl
@[simp] theorem qF201_3 : qField Try.prog 201 3 = some (3, none) := by kernel_rfl
@[simp] theorem qF201_4 : qField Try.prog 201 4 = some (4, none) := by kernel_rfl
@[simp] theorem qF201_5 : qField Try.prog 201 5 = some (5, none) := by kernel_rfl
@[simp] theorem qB201 : qBuild Try.prog 201 = some (#[.string ByteArray.empty, .int .i64 0, .int .i64 0, .int .i64 0, .bool false, .bool false], #[(0, 1), (1, 1), (2, 1), (3, 1), (4, 1), (5, 1)]) := by kernel_rfl
@[simp] theorem qL202 : qLoad Try.prog 202 = some none := by kernel_rfl
@[simp] theorem qS202 : qSize Try.prog 202 = some 1 := by kernel_rfl
@[simp] theorem qZ202 : qZero Try.prog 202 = some [.slice none 0 0] := by kernel_rfl
@[simp] theorem qE202 : qSlice Try.prog 202 = some (201, 6, 48) := by kernel_rfl
@[simp] theorem qN202 {S : St} {K : Value → Mem → Prop} {q : Option Addr} {m c : Nat} : lenK Try.prog S K 202 (.slice q m c) = K (.int .i64 (m : Int)) S.M := lenK_sl Try.underlying202
@[simp] theorem qI202 : (Try.prog.info? 201).any (fun i => i.zero.any fun z => z.cells.size == 6) = true := by kernel_rfl
@[simp] theorem qL213 : qLoad Try.prog 213 = some none := by kernel_rfl
@[simp] theorem qS213 : qSize Try.prog 213 = some 1 := by kernel_rfl
@[simp] theorem qZ213 : qZero Try.prog 213 = some [.int .u32 0] := by kernel_rfl
@[simp] theorem qL217 : qLoad Try.prog 217 = some none := by kernel_rfl
@[simp] theorem qS217 : qSize Try.prog 217 = some 1 := by kernel_rfl
@[simp] theorem qZ217 : qZero Try.prog 217 = some [.pointer none] := by kernel_rfl
@[simp] theorem qC2_2 {k : IntKind} {z : Int} : convV Try.prog 2 2 (.int k z) = some (.int .i64 (IntKind.i64.wrap z)) := convV_int Try.underlying2 Try.underlying2
@[simp] theorem qC2_3 {k : IntKind} {z : Int} : convV Try.prog 2 3 (.int k z) = some (.int .i64 (IntKind.i64.wrap z)) := convV_int Try.underlying2 Try.underlying3
@[simp] theorem qC2_5 {k : IntKind} {z : Int} : convV Try.prog 2 5 (.int k z) = some (.int .u8 (IntKind.u8.wrap z)) := convV_int Try.underlying2 Try.underlying5
@[simp] theorem qC2_12 {k : IntKind} {z : Int} : convV Try.prog 2 12 (.int k z) = some (.int .u64 (IntKind.u64.wrap z)) := convV_int Try.underlying2 Try.underlying12
@[simp] theorem qC2_21 {k : IntKind} {z : Int} : convV Try.prog 2 21 (.int k z) = some (.int .i32 (IntKind.i32.wrap z)) := convV_int Try.underlying2 Try.underlying21
@[simp] theorem qC2_154 {k : IntKind} {z : Int} : convV Try.prog 2 154 (.int k z) = some (.int .u64 (IntKind.u64.wrap z)) := convV_int Try.underlying2 Try.underlying154
@[simp] theorem qC2_162 {k : IntKind} {z : Int} : convV Try.prog 2 162 (.int k z) = some (.int .u64 (IntKind.u64.wrap z)) := convV_int Try.underlying2 Try.underlying162
@[simp] theorem qC2_213 {k : IntKind} {z : Int} : convV Try.prog 2 213 (.int k z) = some (.int .u32 (IntKind.u32.wrap z)) := convV_int Try.underlying2 Try.underlying213
@[simp] theorem qC3_2 {k : IntKind} {z : Int} : convV Try.prog 3 2 (.int k z) = some (.int .i64 (IntKind.i64.wrap z)) := convV_int Try.underlying3 Try.underlying2
@[simp] theorem qC3_3 {k : IntKind} {z : Int} : convV Try.prog 3 3 (.int k z) = some (.int .i64 (IntKind.i64.wrap z)) := convV_int Try.underlying3 Try.underlying3
@[simp] theorem qC3_5 {k : IntKind} {z : Int} : convV Try.prog 3 5 (.int k z) = some (.int .u8 (IntKind.u8.wrap z)) := convV_int Try.underlying3 Try.underlying5
@[simp] theorem qC3_12 {k : IntKind} {z : Int} : convV Try.prog 3 12 (.int k z) = some (.int .u64 (IntKind.u64.wrap z)) := convV_int Try.underlying3 Try.underlying12
@[simp] theorem qC3_21 {k : IntKind} {z : Int} : convV Try.prog 3 21 (.int k z) = some (.int .i32 (IntKind.i32.wrap z)) := convV_int Try.underlying3 Try.underlying21
@[simp] theorem qC3_154 {k : IntKind} {z : Int} : convV Try.prog 3 154 (.int k z) = some (.int .u64 (IntKind.u64.wrap z)) := convV_int Try.underlying3 Try.underlying154
@[simp] theorem qC3_162 {k : IntKind} {z : Int} : convV Try.prog 3 162 (.int k z) = some (.int .u64 (IntKind.u64.wrap z)) := convV_int Try.underlying3 Try.underlying162
@[simp] theorem qC3_213 {k : IntKind} {z : Int} : convV Try.prog 3 213 (.int k z) = some (.int .u32 (IntKind.u32.wrap z)) := convV_int Try.underlying3 Try.underlying213
@[simp] theorem qC5_2 {k : IntKind} {z : Int} : convV Try.prog 5 2 (.int k z) = some (.int .i64 (IntKind.i64.wrap z)) := convV_int Try.underlying5 Try.underlying2
@[simp] theorem qC5_3 {k : IntKind} {z : Int} : convV Try.prog 5 3 (.int k z) = some (.int .i64 (IntKind.i64.wrap z)) := convV_int Try.underlying5 Try.underlying3
@[simp] theorem qC5_5 {k : IntKind} {z : Int} : convV Try.prog 5 5 (.int k z) = some (.int .u8 (IntKind.u8.wrap z)) := convV_int Try.underlying5 Try.underlying5
@[simp] theorem qC5_12 {k : IntKind} {z : Int} : convV Try.prog 5 12 (.int k z) = some (.int .u64 (IntKind.u64.wrap z)) := convV_int Try.underlying5 Try.underlying12
@[simp] theorem qC5_21 {k : IntKind} {z : Int} : convV Try.prog 5 21 (.int k z) = some (.int .i32 (IntKind.i32.wrap z)) := convV_int Try.underlying5 Try.underlying21
@[simp] theorem qC5_154 {k : IntKind} {z : Int} : convV Try.prog 5 154 (.int k z) = some (.int .u64 (IntKind.u64.wrap z)) := convV_int Try.underlying5 Try.underlying154
@[simp] theorem qC5_162 {k : IntKind} {z : Int} : convV Try.prog 5 162 (.int k z) = some (.int .u64 (IntKind.u64.wrap z)) := convV_int Try.underlying5 Try.underlying162
@[simp] theorem qC5_213 {k : IntKind} {z : Int} : convV Try.prog 5 213 (.int k z) = some (.int .u32 (IntKind.u32.wrap z)) := convV_int Try.underlying5 Try.underlying213
@[simp] theorem qC12_2 {k : IntKind} {z : Int} : convV Try.prog 12 2 (.int k z) = some (.int .i64 (IntKind.i64.wrap z)) := convV_int Try.underlying12 Try.underlying2
@[simp] theorem qC12_3 {k : IntKind} {z : Int} : convV Try.prog 12 3 (.int k z) = some (.int .i64 (IntKind.i64.wrap z)) := convV_int Try.underlying12 Try.underlying3
@[simp] theorem qC12_5 {k : IntKind} {z : Int} : convV Try.prog 12 5 (.int k z) = some (.int .u8 (IntKind.u8.wrap z)) := convV_int Try.underlying12 Try.underlying5
@[simp] theorem qC12_12 {k : IntKind} {z : Int} : convV Try.prog 12 12 (.int k z) = some (.int .u64 (IntKind.u64.wrap z)) := convV_int Try.underlying12 Try.underlying12
@[simp] theorem qC12_21 {k : IntKind} {z : Int} : convV Try.prog 12 21 (.int k z) = some (.int .i32 (IntKind.i32.wrap z)) := convV_int Try.underlying12 Try.underlying21
@[simp] theorem qC12_154 {k : IntKind} {z : Int} : convV Try.prog 12 154 (.int k z) = some (.int .u64 (IntKind.u64.wrap z)) := convV_int Try.underlying12 Try.underlying154
@[simp] theorem qC12_162 {k : IntKind} {z : Int} : convV Try.prog 12 162 (.int k z) = some (.int .u64 (IntKind.u64.wrap z)) := convV_int Try.underlying12 Try.underlying162
@[simp] theorem qC12_213 {k : IntKind} {z : Int} : convV Try.prog 12 213 (.int k z) = some (.int .u32 (IntKind.u32.wrap z)) := convV_int Try.underlying12 Try.underlying213
@[simp] theorem qC21_2 {k : IntKind} {z : Int} : convV Try.prog 21 2 (.int k z) = some (.int .i64 (IntKind.i64.wrap z)) := convV_int Try.underlying21 Try.underlying2
@[simp] theorem qC21_3 {k : IntKind} {z : Int} : convV Try.prog 21 3 (.int k z) = some (.int .i64 (IntKind.i64.wrap z)) := convV_int Try.underlying21 Try.underlying3
@[simp] theorem qC21_5 {k : IntKind} {z : Int} : convV Try.prog 21 5 (.int k z) = some (.int .u8 (IntKind.u8.wrap z)) := convV_int Try.underlying21 Try.underlying5
@[simp] theorem qC21_12 {k : IntKind} {z : Int} : convV Try.prog 21 12 (.int k z) = some (.int .u64 (IntKind.u64.wrap z)) := convV_int Try.underlying21 Try.underlying12
@[simp] theorem qC21_21 {k : IntKind} {z : Int} : convV Try.prog 21 21 (.int k z) = some (.int .i32 (IntKind.i32.wrap z)) := convV_int Try.underlying21 Try.underlying21
@[simp] theorem qC21_154 {k : IntKind} {z : Int} : convV Try.prog 21 154 (.int k z) = some (.int .u64 (IntKind.u64.wrap z)) := convV_int Try.underlying21 Try.underlying154
@[simp] theorem qC21_162 {k : IntKind} {z : Int} : convV Try.prog 21 162 (.int k z) = some (.int .u64 (IntKind.u64.wrap z)) := convV_int Try.underlying21 Try.underlying162
@[simp] theorem qC21_213 {k : IntKind} {z : Int} : convV Try.prog 21 213 (.int k z) = some (.int .u32 (IntKind.u32.wrap z)) := convV_int Try.underlying21 Try.underlying213
@[simp] theorem qC154_2 {k : IntKind} {z : Int} : convV Try.prog 154 2 (.int k z) = some (.int .i64 (IntKind.i64.wrap z)) := convV_int Try.underlying154 Try.underlying2
@[simp] theorem qC154_3 {k : IntKind} {z : Int} : convV Try.prog 154 3 (.int k z) = some (.int .i64 (IntKind.i64.wrap z)) := convV_int Try.underlying154 Try.underlying3
@[simp] theorem qC154_5 {k : IntKind} {z : Int} : convV Try.prog 154 5 (.int k z) = some (.int .u8 (IntKind.u8.wrap z)) := convV_int Try.underlying154 Try.underlying5
@[simp] theorem qC154_12 {k : IntKind} {z : Int} : convV Try.prog 154 12 (.int k z) = some (.int .u64 (IntKind.u64.wrap z)) := convV_int Try.underlying154 Try.underlying12
@[simp] theorem qC154_21 {k : IntKind} {z : Int} : convV Try.prog 154 21 (.int k z) = some (.int .i32 (IntKind.i32.wrap z)) := convV_int Try.underlying154 Try.underlying21
@[simp] theorem qC154_154 {k : IntKind} {z : Int} : convV Try.prog 154 154 (.int k z) = some (.int .u64 (IntKind.u64.wrap z)) := convV_int Try.underlying154 Try.underlying154
@[simp] theorem qC154_162 {k : IntKind} {z : Int} : convV Try.prog 154 162 (.int k z) = some (.int .u64 (IntKind.u64.wrap z)) := convV_int Try.underlying154 Try.underlying162
@[simp] theorem qC154_213 {k : IntKind} {z : Int} : convV Try.prog 154 213 (.int k z) = some (.int .u32 (IntKind.u32.wrap z)) := convV_int Try.underlying154 Try.underlying213
@[simp] theorem qC162_2 {k : IntKind} {z : Int} : convV Try.prog 162 2 (.int k z) = some (.int .i64 (IntKind.i64.wrap z)) := convV_int Try.underlying162 Try.underlying2
@[simp] theorem qC162_3 {k : IntKind} {z : Int} : convV Try.prog 162 3 (.int k z) = some (.int .i64 (IntKind.i64.wrap z)) := convV_int Try.underlying162 Try.underlying3
@[simp] theorem qC162_5 {k : IntKind} {z : Int} : convV Try.prog 162 5 (.int k z) = some (.int .u8 (IntKind.u8.wrap z)) := convV_int Try.underlying162 Try.underlying5
@[simp] theorem qC162_12 {k : IntKind} {z : Int} : convV Try.prog 162 12 (.int k z) = some (.int .u64 (IntKind.u64.wrap z)) := convV_int Try.underlying162 Try.underlying12
@[simp] theorem qC162_21 {k : IntKind} {z : Int} : convV Try.prog 162 21 (.int k z) = some (.int .i32 (IntKind.i32.wrap z)) := convV_int Try.underlying162 Try.underlying21
@[simp] theorem qC162_154 {k : IntKind} {z : Int} : convV Try.prog 162 154 (.int k z) = some (.int .u64 (IntKind.u64.wrap z)) := convV_int Try.underlying162 Try.underlying154
@[simp] theorem qC162_162 {k : IntKind} {z : Int} : convV Try.prog 162 162 (.int k z) = some (.int .u64 (IntKind.u64.wrap z)) := convV_int Try.underlying162 Try.underlying162
@[simp] theorem qC162_213 {k : IntKind} {z : Int} : convV Try.prog 162 213 (.int k z) = some (.int .u32 (IntKind.u32.wrap z)) := convV_int Try.underlying162 Try.underlying213
@[simp] theorem qC213_2 {k : IntKind} {z : Int} : convV Try.prog 213 2 (.int k z) = some (.int .i64 (IntKind.i64.wrap z)) := convV_int Try.underlying213 Try.underlying2
@[simp] theorem qC213_3 {k : IntKind} {z : Int} : convV Try.prog 213 3 (.int k z) = some (.int .i64 (IntKind.i64.wrap z)) := convV_int Try.underlying213 Try.underlying3
@[simp] theorem qC213_5 {k : IntKind} {z : Int} : convV Try.prog 213 5 (.int k z) = some (.int .u8 (IntKind.u8.wrap z)) := convV_int Try.underlying213 Try.underlying5
@[simp] theorem qC213_12 {k : IntKind} {z : Int} : convV Try.prog 213 12 (.int k z) = some (.int .u64 (IntKind.u64.wrap z)) := convV_int Try.underlying213 Try.underlying12
@[simp] theorem qC213_21 {k : IntKind} {z : Int} : convV Try.prog 213 21 (.int k z) = some (.int .i32 (IntKind.i32.wrap z)) := convV_int Try.underlying213 Try.underlying21
@[simp] theorem qC213_154 {k : IntKind} {z : Int} : convV Try.prog 213 154 (.int k z) = some (.int .u64 (IntKind.u64.wrap z)) := convV_int Try.underlying213 Try.underlying154
@[simp] theorem qC213_162 {k : IntKind} {z : Int} : convV Try.prog 213 162 (.int k z) = some (.int .u64 (IntKind.u64.wrap z)) := convV_int Try.underlying213 Try.underlying162
@[simp] theorem qC213_213 {k : IntKind} {z : Int} : convV Try.prog 213 213 (.int k z) = some (.int .u32 (IntKind.u32.wrap z)) := convV_int Try.underlying213 Try.underlying213
@[simp] theorem qG9_9 {S : St} {K : Value → Mem → Prop} {s : ByteArray} : s2K Try.prog S K 9 9 s = K (.string s) S.M := s2K_str Try.underlying9 Try.underlying9
@[simp] theorem qH9_77 {S : St} {K : Value → Mem → Prop} {s : ByteArray} : s2K Try.prog S K 9 77 s = (s.size ≤ 1099511627776 ∧ K (.slice (some ⟨S.M.length, 0, none⟩) s.size s.size) (S.M ++ [.live ⟨byteCells s, true, false, 5, 1⟩])) := s2K_sl Try.underlying9 Try.underlying77 Try.underlying5
end Go.Proofs.Ytffbocbjmhkikaa
