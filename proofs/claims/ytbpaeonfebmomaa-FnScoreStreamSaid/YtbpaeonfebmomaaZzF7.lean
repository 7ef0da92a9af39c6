/- Parts of the proof, together: What the program's types are, for simp. Lists of records in memory, over abstract states; numbers within bounds. No conditions. -/
import Derived.Test.YtbpaeonfebmomaaZzF6
import Derived.Test.YtbpaeonfebmomaaRows
import Derived.IntWalk
namespace Go.Proofs.Ytbpaeonfebmomaa
open Go.RowKit
@[simp] theorem qL2 : qLoad Try.prog 2 = some none := by kernel_rfl
@[simp] theorem qS2 : qSize Try.prog 2 = some 1 := by kernel_rfl
@[simp] theorem qZ2 : qZero Try.prog 2 = some [.int .i64 0] := by kernel_rfl
@[simp] theorem qL3 : qLoad Try.prog 3 = some none := by kernel_rfl
@[simp] theorem qS3 : qSize Try.prog 3 = some 1 := by kernel_rfl
@[simp] theorem qZ3 : qZero Try.prog 3 = some [.int .i64 0] := by kernel_rfl
@[simp] theorem qL4 : qLoad Try.prog 4 = some none := by kernel_rfl
@[simp] theorem qS4 : qSize Try.prog 4 = some 1 := by kernel_rfl
@[simp] theorem qZ4 : qZero Try.prog 4 = some [.bool false] := by kernel_rfl
@[simp] theorem qQ4 {x y : Bool} : binV Try.prog .eql 4 (.bool x) (.bool y) = some (.bool (x == y)) := by simp [binV, eqV, Try.underlying4]
@[simp] theorem qR4 {x y : Bool} : binV Try.prog .neq 4 (.bool x) (.bool y) = some (.bool (!(x == y))) := by simp [binV, eqV, Try.underlying4]
@[simp] theorem qL5 : qLoad Try.prog 5 = some none := by kernel_rfl
@[simp] theorem qS5 : qSize Try.prog 5 = some 1 := by kernel_rfl
@[simp] theorem qZ5 : qZero Try.prog 5 = some [.int .u8 0] := by kernel_rfl
@[simp] theorem qL9 : qLoad Try.prog 9 = some none := by kernel_rfl
@[simp] theorem qS9 : qSize Try.prog 9 = some 1 := by kernel_rfl
@[simp] theorem qZ9 : qZero Try.prog 9 = some [.string ByteArray.empty] := by kernel_rfl
@[simp] theorem qN9 {S : St} {K : Value → Mem → Prop} {s : ByteArray} : lenK Try.prog S K 9 (.string s) = K (.int .i64 (s.size : Int)) S.M := lenK_str Try.underlying9
@[simp] theorem qU9 : Try.prog.underlying 9 = some .string := Try.underlying9
@[simp] theorem qL12 : qLoad Try.prog 12 = some none := by kernel_rfl
@[simp] theorem qS12 : qSize Try.prog 12 = some 1 := by kernel_rfl
@[simp] theorem qZ12 : qZero Try.prog 12 = some [.int .u64 0] := by kernel_rfl
@[simp] theorem qL13 : qLoad Try.prog 13 = some (some 2) := by kernel_rfl
@[simp] theorem qS13 : qSize Try.prog 13 = some 2 := by kernel_rfl
@[simp] theorem qZ13 : qZero Try.prog 13 = some [.string ByteArray.empty, .int .u64 0] := by kernel_rfl
@[simp] theorem qF13_0 : qField Try.prog 13 0 = some (0, none) := by kernel_rfl
@[simp] theorem qF13_1 : qField Try.prog 13 1 = some (1, none) := by kernel_rfl
@[simp] theorem qB13 : qBuild Try.prog 13 = some (#[.string ByteArray.empty, .int .u64 0], #[(0, 1), (1, 1)]) := by kernel_rfl
@[simp] theorem qL21 : qLoad Try.prog 21 = some none := by kernel_rfl
@[simp] theorem qS21 : qSize Try.prog 21 = some 1 := by kernel_rfl
@[simp] theorem qZ21 : qZero Try.prog 21 = some [.int .i32 0] := by kernel_rfl
@[simp] theorem qL22 : qLoad Try.prog 22 = some none := by kernel_rfl
@[simp] theorem qS22 : qSize Try.prog 22 = some 1 := by kernel_rfl
@[simp] theorem qZ22 : qZero Try.prog 22 = some [.slice none 0 0] := by kernel_rfl
@[simp] theorem qE22 : qSlice Try.prog 22 = some (5, 1, 1) := by kernel_rfl
@[simp] theorem qN22 {S : St} {K : Value → Mem → Prop} {q : Option Addr} {m c : Nat} : lenK Try.prog S K 22 (.slice q m c) = K (.int .i64 (m : Int)) S.M := lenK_sl Try.underlying22
@[simp] theorem qI22 : (Try.prog.info? 5).any (fun i => i.zero.any fun z => z.cells.size == 1) = true := by kernel_rfl
@[simp] theorem qL24 : qLoad Try.prog 24 = some none := by kernel_rfl
@[simp] theorem qS24 : qSize Try.prog 24 = some 1 := by kernel_rfl
@[simp] theorem qZ24 : qZero Try.prog 24 = some [.slice none 0 0] := by kernel_rfl
@[simp] theorem qE24 : qSlice Try.prog 24 = some (53, 7, 56) := by kernel_rfl
@[simp] theorem qN24 {S : St} {K : Value → Mem → Prop} {q : Option Addr} {m c : Nat} : lenK Try.prog S K 24 (.slice q m c) = K (.int .i64 (m : Int)) S.M := lenK_sl Try.underlying24
@[simp] theorem qI24 : (Try.prog.info? 53).any (fun i => i.zero.any fun z => z.cells.size == 7) = true := by kernel_rfl
@[simp] theorem qL25 : qLoad Try.prog 25 = some (some 1) := by kernel_rfl
@[simp] theorem qS25 : qSize Try.prog 25 = some 1 := by kernel_rfl
@[simp] theorem qZ25 : qZero Try.prog 25 = some [.slice none 0 0] := by kernel_rfl
@[simp] theorem qF25_0 : qField Try.prog 25 0 = some (0, none) := by kernel_rfl
@[simp] theorem qB25 : qBuild Try.prog 25 = some (#[.slice none 0 0], #[(0, 1)]) := by kernel_rfl
@[simp] theorem qL26 : qLoad Try.prog 26 = some (some 1) := by kernel_rfl
@[simp] theorem qS26 : qSize Try.prog 26 = some 1 := by kernel_rfl
@[simp] theorem qZ26 : qZero Try.prog 26 = some [.slice none 0 0] := by kernel_rfl
@[simp] theorem qF26_0 : qField Try.prog 26 0 = some (0, none) := by kernel_rfl
@[simp] theorem qB26 : qBuild Try.prog 26 = some (#[.slice none 0 0], #[(0, 1)]) := by kernel_rfl
@[simp] theorem qL31 : qLoad Try.prog 31 = some none := by kernel_rfl
@[simp] theorem qS31 : qSize Try.prog 31 = some 1 := by kernel_rfl
@[simp] theorem qZ31 : qZero Try.prog 31 = some [.slice none 0 0] := by kernel_rfl
@[simp] theorem qE31 : qSlice Try.prog 31 = some (69, 5, 40) := by kernel_rfl
@[simp] theorem qN31 {S : St} {K : Value → Mem → Prop} {q : Option Addr} {m c : Nat} : lenK Try.prog S K 31 (.slice q m c) = K (.int .i64 (m : Int)) S.M := lenK_sl Try.underlying31
@[simp] theorem qI31 : (Try.prog.info? 69).any (fun i => i.zero.any fun z => z.cells.size == 5) = true := by kernel_rfl
@[simp] theorem qL38 : qLoad Try.prog 38 = some none := by kernel_rfl
@[simp] theorem qS38 : qSize Try.prog 38 = some 1 := by kernel_rfl
@[simp] theorem qZ38 : qZero Try.prog 38 = some [.slice none 0 0] := by kernel_rfl
@[simp] theorem qE38 : qSlice Try.prog 38 = some (88, 5, 40) := by kernel_rfl
@[simp] theorem qN38 {S : St} {K : Value → Mem → Prop} {q : Option Addr} {m c : Nat} : lenK Try.prog S K 38 (.slice q m c) = K (.int .i64 (m : Int)) S.M := lenK_sl Try.underlying38
@[simp] theorem qI38 : (Try.prog.info? 88).any (fun i => i.zero.any fun z => z.cells.size == 5) = true := by kernel_rfl
@[simp] theorem qL45 : qLoad Try.prog 45 = some none := by kernel_rfl
@[simp] theorem qS45 : qSize Try.prog 45 = some 1 := by kernel_rfl
@[simp] theorem qZ45 : qZero Try.prog 45 = some [.pointer none] := by kernel_rfl
@[simp] theorem qL49 : qLoad Try.prog 49 = some none := by kernel_rfl
@[simp] theorem qS49 : qSize Try.prog 49 = some 1 := by kernel_rfl
@[simp] theorem qZ49 : qZero Try.prog 49 = some [.pointer none] := by kernel_rfl
@[simp] theorem qL50 : qLoad Try.prog 50 = some (some 2) := by kernel_rfl
@[simp] theorem qS50 : qSize Try.prog 50 = some 2 := by kernel_rfl
@[simp] theorem qZ50 : qZero Try.prog 50 = some [.int .i64 0, .int .i64 0] := by kernel_rfl
@[simp] theorem qF50_0 : qField Try.prog 50 0 = some (0, none) := by kernel_rfl
@[simp] theorem qF50_1 : qField Try.prog 50 1 = some (1, none) := by kernel_rfl
@[simp] theorem qB50 : qBuild Try.prog 50 = some (#[.int .i64 0, .int .i64 0], #[(0, 1), (1, 1)]) := by kernel_rfl
@[simp] theorem qL51 : qLoad Try.prog 51 = some (some 2) := by kernel_rfl
@[simp] theorem qS51 : qSize Try.prog 51 = some 2 := by kernel_rfl
@[simp] theorem qZ51 : qZero Try.prog 51 = some [.int .i64 0, .int .i64 0] := by kernel_rfl
@[simp] theorem qF51_0 : qField Try.prog 51 0 = some (0, none) := by kernel_rfl
@[simp] theorem qF51_1 : qField Try.prog 51 1 = some (1, none) := by kernel_rfl
@[simp] theorem qB51 : qBuild Try.prog 51 = some (#[.int .i64 0, .int .i64 0], #[(0, 1), (1, 1)]) := by kernel_rfl
@[simp] theorem qL52 : qLoad Try.prog 52 = some (some 7) := by kernel_rfl
@[simp] theorem qS52 : qSize Try.prog 52 = some 7 := by kernel_rfl
@[simp] theorem qZ52 : qZero Try.prog 52 = some [.int .i64 0, .int .i64 0, .int .i64 0, .int .i64 0, .int .i64 0, .int .i64 0, .int .i64 0] := by kernel_rfl
@[simp] theorem qF52_0 : qField Try.prog 52 0 = some (0, some 2) := by kernel_rfl
@[simp] theorem qF52_1 : qField Try.prog 52 1 = some (2, some 2) := by kernel_rfl
@[simp] theorem qF52_2 : qField Try.prog 52 2 = some (4, none) := by kernel_rfl
@[simp] theorem qF52_3 : qField Try.prog 52 3 = some (5, none) := by kernel_rfl
@[simp] theorem qF52_4 : qField Try.prog 52 4 = some (6, none) := by kernel_rfl
@[simp] theorem qB52 : qBuild Try.prog 52 = some (#[.int .i64 0, .int .i64 0, .int .i64 0, .int .i64 0, .int .i64 0, .int .i64 0, .int .i64 0], #[(0, 2), (2, 2), (4, 1), (5, 1), (6, 1)]) := by kernel_rfl
@[simp] theorem qL53 : qLoad Try.prog 53 = some (some 7) := by kernel_rfl
@[simp] theorem qS53 : qSize Try.prog 53 = some 7 := by kernel_rfl
@[simp] theorem qZ53 : qZero Try.prog 53 = some [.int .i64 0, .int .i64 0, .int .i64 0, .int .i64 0, .int .i64 0, .int .i64 0, .int .i64 0] := by kernel_rfl
@[simp] theorem qF53_0 : qField Try.prog 53 0 = some (0, some 2) := by kernel_rfl
@[simp] theorem qF53_1 : qField Try.prog 53 1 = some (2, some 2) := by kernel_rfl
@[simp] theorem qF53_2 : qField Try.prog 53 2 = some (4, none) := by kernel_rfl
@[simp] theorem qF53_3 : qField Try.prog 53 3 = some (5, none) := by kernel_rfl
@[simp] theorem qF53_4 : qField Try.prog 53 4 = some (6, none) := by kernel_rfl
@[simp] theorem qB53 : qBuild Try.prog 53 = some (#[.int .i64 0, .int .i64 0, .int .i64 0, .int .i64 0, .int .i64 0, .int .i64 0, .int .i64 0], #[(0, 2), (2, 2), (4, 1), (5, 1), (6, 1)]) := by kernel_rfl
@[simp] theorem qL56 : qLoad Try.prog 56 = some none := by kernel_rfl
@[simp] theorem qS56 : qSize Try.prog 56 = some 1 := by kernel_rfl
@[simp] theorem qZ56 : qZero Try.prog 56 = some [.slice none 0 0] := by kernel_rfl
@[simp] theorem qE56 : qSlice Try.prog 56 = some (51, 2, 16) := by kernel_rfl
@[simp] theorem qN56 {S : St} {K : Value → Mem → Prop} {q : Option Addr} {m c : Nat} : lenK Try.prog S K 56 (.slice q m c) = K (.int .i64 (m : Int)) S.M := lenK_sl Try.underlying56
@[simp] theorem qI56 : (Try.prog.info? 51).any (fun i => i.zero.any fun z => z.cells.size == 2) = true := by kernel_rfl
@[simp] theorem qL57 : qLoad Try.prog 57 = some none := by kernel_rfl
@[simp] theorem qS57 : qSize Try.prog 57 = some 1 := by kernel_rfl
@[simp] theorem qZ57 : qZero Try.prog 57 = some [.int .u64 0] := by kernel_rfl
@[simp] theorem qL60 : qLoad Try.prog 60 = some none := by kernel_rfl
@[simp] theorem qS60 : qSize Try.prog 60 = some 1 := by kernel_rfl
@[simp] theorem qZ60 : qZero Try.prog 60 = some [.pointer none] := by kernel_rfl
@[simp] theorem qL63 : qLoad Try.prog 63 = some none := by kernel_rfl
@[simp] theorem qS63 : qSize Try.prog 63 = some 1 := by kernel_rfl
@[simp] theorem qZ63 : qZero Try.prog 63 = some [.slice none 0 0] := by kernel_rfl
@[simp] theorem qE63 : qSlice Try.prog 63 = some (2, 1, 8) := by kernel_rfl
@[simp] theorem qN63 {S : St} {K : Value → Mem → Prop} {q : Option Addr} {m c : Nat} : lenK Try.prog S K 63 (.slice q m c) = K (.int .i64 (m : Int)) S.M := lenK_sl Try.underlying63
@[simp] theorem qI63 : (Try.prog.info? 2).any (fun i => i.zero.any fun z => z.cells.size == 1) = true := by kernel_rfl
@[simp] theorem qL68 : qLoad Try.prog 68 = some (some 5) := by kernel_rfl
@[simp] theorem qS68 : qSize Try.prog 68 = some 5 := by kernel_rfl
@[simp] theorem qZ68 : qZero Try.prog 68 = some [.int .i64 0, .int .i64 0, .int .i64 0, .int .i64 0, .int .i64 0] := by kernel_rfl
@[simp] theorem qF68_0 : qField Try.prog 68 0 = some (0, none) := by kernel_rfl
@[simp] theorem qF68_1 : qField Try.prog 68 1 = some (1, none) := by kernel_rfl
@[simp] theorem qF68_2 : qField Try.prog 68 2 = some (2, none) := by kernel_rfl
@[simp] theorem qF68_3 : qField Try.prog 68 3 = some (3, none) := by kernel_rfl
@[simp] theorem qF68_4 : qField Try.prog 68 4 = some (4, none) := by kernel_rfl
@[simp] theorem qB68 : qBuild Try.prog 68 = some (#[.int .i64 0, .int .i64 0, .int .i64 0, .int .i64 0, .int .i64 0], #[(0, 1), (1, 1), (2, 1), (3, 1), (4, 1)]) := by kernel_rfl
@[simp] theorem qL69 : qLoad Try.prog 69 = some (some 5) := by kernel_rfl
@[simp] theorem qS69 : qSize Try.prog 69 = some 5 := by kernel_rfl
@[simp] theorem qZ69 : qZero Try.prog 69 = some [.int .i64 0, .int .i64 0, .int .i64 0, .int .i64 0, .int .i64 0] := by kernel_rfl
@[simp] theorem qF69_0 : qField Try.prog 69 0 = some (0, none) := by kernel_rfl
@[simp] theorem qF69_1 : qField Try.prog 69 1 = some (1, none) := by kernel_rfl
@[simp] theorem qF69_2 : qField Try.prog 69 2 = some (2, none) := by kernel_rfl
@[simp] theorem qF69_3 : qField Try.prog 69 3 = some (3, none) := by kernel_rfl
@[simp] theorem qF69_4 : qField Try.prog 69 4 = some (4, none) := by kernel_rfl
@[simp] theorem qB69 : qBuild Try.prog 69 = some (#[.int .i64 0, .int .i64 0, .int .i64 0, .int .i64 0, .int .i64 0], #[(0, 1), (1, 1), (2, 1), (3, 1), (4, 1)]) := by kernel_rfl
@[simp] theorem qL74 : qLoad Try.prog 74 = some (some 2) := by kernel_rfl
@[simp] theorem qS74 : qSize Try.prog 74 = some 2 := by kernel_rfl
@[simp] theorem qZ74 : qZero Try.prog 74 = some [.int .i64 0, .int .i64 0] := by kernel_rfl
@[simp] theorem qF74_0 : qField Try.prog 74 0 = some (0, none) := by kernel_rfl
@[simp] theorem qF74_1 : qField Try.prog 74 1 = some (1, none) := by kernel_rfl
@[simp] theorem qB74 : qBuild Try.prog 74 = some (#[.int .i64 0, .int .i64 0], #[(0, 1), (1, 1)]) := by kernel_rfl
@[simp] theorem qL75 : qLoad Try.prog 75 = some (some 2) := by kernel_rfl
@[simp] theorem qS75 : qSize Try.prog 75 = some 2 := by kernel_rfl
@[simp] theorem qZ75 : qZero Try.prog 75 = some [.int .i64 0, .int .i64 0] := by kernel_rfl
@[simp] theorem qF75_0 : qField Try.prog 75 0 = some (0, none) := by kernel_rfl
@[simp] theorem qF75_1 : qField Try.prog 75 1 = some (1, none) := by kernel_rfl
@[simp] theorem qB75 : qBuild Try.prog 75 = some (#[.int .i64 0, .int .i64 0], #[(0, 1), (1, 1)]) := by kernel_rfl
@[simp] theorem qL76 : qLoad Try.prog 76 = some (some 2) := by kernel_rfl
@[simp] theorem qS76 : qSize Try.prog 76 = some 2 := by kernel_rfl
@[simp] theorem qZ76 : qZero Try.prog 76 = some [.int .i64 0, .int .i64 0] := by kernel_rfl
@[simp] theorem qF76_0 : qField Try.prog 76 0 = some (0, none) := by kernel_rfl
@[simp] theorem qF76_1 : qField Try.prog 76 1 = some (1, none) := by kernel_rfl
@[simp] theorem qB76 : qBuild Try.prog 76 = some (#[.int .i64 0, .int .i64 0], #[(0, 1), (1, 1)]) := by kernel_rfl
@[simp] theorem qL77 : qLoad Try.prog 77 = some (some 2) := by kernel_rfl
@[simp] theorem qS77 : qSize Try.prog 77 = some 2 := by kernel_rfl
@[simp] theorem qZ77 : qZero Try.prog 77 = some [.int .i64 0, .int .i64 0] := by kernel_rfl
@[simp] theorem qF77_0 : qField Try.prog 77 0 = some (0, none) := by kernel_rfl
@[simp] theorem qF77_1 : qField Try.prog 77 1 = some (1, none) := by kernel_rfl
@[simp] theorem qB77 : qBuild Try.prog 77 = some (#[.int .i64 0, .int .i64 0], #[(0, 1), (1, 1)]) := by kernel_rfl
@[simp] theorem qL82 : qLoad Try.prog 82 = some none := by kernel_rfl
@[simp] theorem qS82 : qSize Try.prog 82 = some 1 := by kernel_rfl
@[simp] theorem qZ82 : qZero Try.prog 82 = some [.pointer none] := by kernel_rfl
@[simp] theorem qL88 : qLoad Try.prog 88 = some (some 5) := by kernel_rfl
@[simp] theorem qS88 : qSize Try.prog 88 = some 5 := by kernel_rfl
@[simp] theorem qZ88 : qZero Try.prog 88 = some [.int .i64 0, .int .i64 0, .int .i64 0, .int .i64 0, .int .i64 0] := by kernel_rfl
@[simp] theorem qF88_0 : qField Try.prog 88 0 = some (0, none) := by kernel_rfl
@[simp] theorem qF88_1 : qField Try.prog 88 1 = some (1, none) := by kernel_rfl
@[simp] theorem qF88_2 : qField Try.prog 88 2 = some (2, none) := by kernel_rfl
@[simp] theorem qF88_3 : qField Try.prog 88 3 = some (3, none) := by kernel_rfl
@[simp] theorem qF88_4 : qField Try.prog 88 4 = some (4, none) := by kernel_rfl
@[simp] theorem qB88 : qBuild Try.prog 88 = some (#[.int .i64 0, .int .i64 0, .int .i64 0, .int .i64 0, .int .i64 0], #[(0, 1), (1, 1), (2, 1), (3, 1), (4, 1)]) := by kernel_rfl
@[simp] theorem qL92 : qLoad Try.prog 92 = some (some 3) := by kernel_rfl
@[simp] theorem qS92 : qSize Try.prog 92 = some 3 := by kernel_rfl
@[simp] theorem qZ92 : qZero Try.prog 92 = some [.slice none 0 0, .int .i64 0, .int .u64 0] := by kernel_rfl
@[simp] theorem qF92_0 : qField Try.prog 92 0 = some (0, none) := by kernel_rfl
@[simp] theorem qF92_1 : qField Try.prog 92 1 = some (1, none) := by kernel_rfl
@[simp] theorem qF92_2 : qField Try.prog 92 2 = some (2, none) := by kernel_rfl
@[simp] theorem qB92 : qBuild Try.prog 92 = some (#[.slice none 0 0, .int .i64 0, .int .u64 0], #[(0, 1), (1, 1), (2, 1)]) := by kernel_rfl
@[simp] theorem qL93 : qLoad Try.prog 93 = some (some 3) := by kernel_rfl
@[simp] theorem qS93 : qSize Try.prog 93 = some 3 := by kernel_rfl
@[simp] theorem qZ93 : qZero Try.prog 93 = some [.slice none 0 0, .int .i64 0, .int .u64 0] := by kernel_rfl
@[simp] theorem qF93_0 : qField Try.prog 93 0 = some (0, none) := by kernel_rfl
@[simp] theorem qF93_1 : qField Try.prog 93 1 = some (1, none) := by kernel_rfl
@[simp] theorem qF93_2 : qField Try.prog 93 2 = some (2, none) := by kernel_rfl
@[simp] theorem qB93 : qBuild Try.prog 93 = some (#[.slice none 0 0, .int .i64 0, .int .u64 0], #[(0, 1), (1, 1), (2, 1)]) := by kernel_rfl
@[simp] theorem qL102 : qLoad Try.prog 102 = some none := by kernel_rfl
@[simp] theorem qS102 : qSize Try.prog 102 = some 1 := by kernel_rfl
@[simp] theorem qZ102 : qZero Try.prog 102 = some [.int .u64 0] := by kernel_rfl
@[simp] theorem qL117 : qLoad Try.prog 117 = some none := by kernel_rfl
@[simp] theorem qS117 : qSize Try.prog 117 = some 1 := by kernel_rfl
@[simp] theorem qZ117 : qZero Try.prog 117 = some [.int .i64 0] := by kernel_rfl
@[simp] theorem qL125 : qLoad Try.prog 125 = some none := by kernel_rfl
@[simp] theorem qS125 : qSize Try.prog 125 = some 1 := by kernel_rfl
@[simp] theorem qZ125 : qZero Try.prog 125 = some [.int .u32 0] := by kernel_rfl
@[simp] theorem qL131 : qLoad Try.prog 131 = some none := by kernel_rfl
@[simp] theorem qS131 : qSize Try.prog 131 = some 1 := by kernel_rfl
@[simp] theorem qZ131 : qZero Try.prog 131 = some [.int .u64 0] := by kernel_rfl
@[simp] theorem qL135 : qLoad Try.prog 135 = some none := by kernel_rfl
@[simp] theorem qS135 : qSize Try.prog 135 = some 1 := by kernel_rfl
@[simp] theorem qZ135 : qZero Try.prog 135 = some [.pointer none] := by kernel_rfl
@[simp] theorem qL140 : qLoad Try.prog 140 = some none := by kernel_rfl
@[simp] theorem qS140 : qSize Try.prog 140 = some 1 := by kernel_rfl
@[simp] theorem qZ140 : qZero Try.prog 140 = some [.pointer none] := by kernel_rfl
@[simp] theorem qL153 : qLoad Try.prog 153 = some none := by kernel_rfl
@[simp] theorem qS153 : qSize Try.prog 153 = some 1 := by kernel_rfl
@[simp] theorem qZ153 : qZero Try.prog 153 = some [.pointer none] := by kernel_rfl
@[simp] theorem qC2_2 {k : IntKind} {z : Int} : convV Try.prog 2 2 (.int k z) = some (.int .i64 (IntKind.i64.wrap z)) := convV_int Try.underlying2 Try.underlying2
@[simp] theorem qC2_3 {k : IntKind} {z : Int} : convV Try.prog 2 3 (.int k z) = some (.int .i64 (IntKind.i64.wrap z)) := convV_int Try.underlying2 Try.underlying3
@[simp] theorem qC2_5 {k : IntKind} {z : Int} : convV Try.prog 2 5 (.int k z) = some (.int .u8 (IntKind.u8.wrap z)) := convV_int Try.underlying2 Try.underlying5
@[simp] theorem qC2_12 {k : IntKind} {z : Int} : convV Try.prog 2 12 (.int k z) = some (.int .u64 (IntKind.u64.wrap z)) := convV_int Try.underlying2 Try.underlying12
@[simp] theorem qC2_21 {k : IntKind} {z : Int} : convV Try.prog 2 21 (.int k z) = some (.int .i32 (IntKind.i32.wrap z)) := convV_int Try.underlying2 Try.underlying21
@[simp] theorem qC2_57 {k : IntKind} {z : Int} : convV Try.prog 2 57 (.int k z) = some (.int .u64 (IntKind.u64.wrap z)) := convV_int Try.underlying2 Try.underlying57
@[simp] theorem qC2_102 {k : IntKind} {z : Int} : convV Try.prog 2 102 (.int k z) = some (.int .u64 (IntKind.u64.wrap z)) := convV_int Try.underlying2 Try.underlying102
@[simp] theorem qC2_117 {k : IntKind} {z : Int} : convV Try.prog 2 117 (.int k z) = some (.int .i64 (IntKind.i64.wrap z)) := convV_int Try.underlying2 Try.underlying117
@[simp] theorem qC2_125 {k : IntKind} {z : Int} : convV Try.prog 2 125 (.int k z) = some (.int .u32 (IntKind.u32.wrap z)) := convV_int Try.underlying2 Try.underlying125
@[simp] theorem qC2_131 {k : IntKind} {z : Int} : convV Try.prog 2 131 (.int k z) = some (.int .u64 (IntKind.u64.wrap z)) := convV_int Try.underlying2 Try.underlying131
@[simp] theorem qC3_2 {k : IntKind} {z : Int} : convV Try.prog 3 2 (.int k z) = some (.int .i64 (IntKind.i64.wrap z)) := convV_int Try.underlying3 Try.underlying2
@[simp] theorem qC3_3 {k : IntKind} {z : Int} : convV Try.prog 3 3 (.int k z) = some (.int .i64 (IntKind.i64.wrap z)) := convV_int Try.underlying3 Try.underlying3
@[simp] theorem qC3_5 {k : IntKind} {z : Int} : convV Try.prog 3 5 (.int k z) = some (.int .u8 (IntKind.u8.wrap z)) := convV_int Try.underlying3 Try.underlying5
@[simp] theorem qC3_12 {k : IntKind} {z : Int} : convV Try.prog 3 12 (.int k z) = some (.int .u64 (IntKind.u64.wrap z)) := convV_int Try.underlying3 Try.underlying12
@[simp] theorem qC3_21 {k : IntKind} {z : Int} : convV Try.prog 3 21 (.int k z) = some (.int .i32 (IntKind.i32.wrap z)) := convV_int Try.underlying3 Try.underlying21
@[simp] theorem qC3_57 {k : IntKind} {z : Int} : convV Try.prog 3 57 (.int k z) = some (.int .u64 (IntKind.u64.wrap z)) := convV_int Try.underlying3 Try.underlying57
@[simp] theorem qC3_102 {k : IntKind} {z : Int} : convV Try.prog 3 102 (.int k z) = some (.int .u64 (IntKind.u64.wrap z)) := convV_int Try.underlying3 Try.underlying102
@[simp] theorem qC3_117 {k : IntKind} {z : Int} : convV Try.prog 3 117 (.int k z) = some (.int .i64 (IntKind.i64.wrap z)) := convV_int Try.underlying3 Try.underlying117
@[simp] theorem qC3_125 {k : IntKind} {z : Int} : convV Try.prog 3 125 (.int k z) = some (.int .u32 (IntKind.u32.wrap z)) := convV_int Try.underlying3 Try.underlying125
@[simp] theorem qC3_131 {k : IntKind} {z : Int} : convV Try.prog 3 131 (.int k z) = some (.int .u64 (IntKind.u64.wrap z)) := convV_int Try.underlying3 Try.underlying131
@[simp] theorem qC5_2 {k : IntKind} {z : Int} : convV Try.prog 5 2 (.int k z) = some (.int .i64 (IntKind.i64.wrap z)) := convV_int Try.underlying5 Try.underlying2
@[simp] theorem qC5_3 {k : IntKind} {z : Int} : convV Try.prog 5 3 (.int k z) = some (.int .i64 (IntKind.i64.wrap z)) := convV_int Try.underlying5 Try.underlying3
@[simp] theorem qC5_5 {k : IntKind} {z : Int} : convV Try.prog 5 5 (.int k z) = some (.int .u8 (IntKind.u8.wrap z)) := convV_int Try.underlying5 Try.underlying5
@[simp] theorem qC5_12 {k : IntKind} {z : Int} : convV Try.prog 5 12 (.int k z) = some (.int .u64 (IntKind.u64.wrap z)) := convV_int Try.underlying5 Try.underlying12
@[simp] theorem qC5_21 {k : IntKind} {z : Int} : convV Try.prog 5 21 (.int k z) = some (.int .i32 (IntKind.i32.wrap z)) := convV_int Try.underlying5 Try.underlying21
@[simp] theorem qC5_57 {k : IntKind} {z : Int} : convV Try.prog 5 57 (.int k z) = some (.int .u64 (IntKind.u64.wrap z)) := convV_int Try.underlying5 Try.underlying57
@[simp] theorem qC5_102 {k : IntKind} {z : Int} : convV Try.prog 5 102 (.int k z) = some (.int .u64 (IntKind.u64.wrap z)) := convV_int Try.underlying5 Try.underlying102
@[simp] theorem qC5_117 {k : IntKind} {z : Int} : convV Try.prog 5 117 (.int k z) = some (.int .i64 (IntKind.i64.wrap z)) := convV_int Try.underlying5 Try.underlying117
@[simp] theorem qC5_125 {k : IntKind} {z : Int} : convV Try.prog 5 125 (.int k z) = some (.int .u32 (IntKind.u32.wrap z)) := convV_int Try.underlying5 Try.underlying125
@[simp] theorem qC5_131 {k : IntKind} {z : Int} : convV Try.prog 5 131 (.int k z) = some (.int .u64 (IntKind.u64.wrap z)) := convV_int Try.underlying5 Try.underlying131
@[simp] theorem qC12_2 {k : IntKind} {z : Int} : convV Try.prog 12 2 (.int k z) = some (.int .i64 (IntKind.i64.wrap z)) := convV_int Try.underlying12 Try.underlying2
@[simp] theorem qC12_3 {k : IntKind} {z : Int} : convV Try.prog 12 3 (.int k z) = some (.int .i64 (IntKind.i64.wrap z)) := convV_int Try.underlying12 Try.underlying3
@[simp] theorem qC12_5 {k : IntKind} {z : Int} : convV Try.prog 12 5 (.int k z) = some (.int .u8 (IntKind.u8.wrap z)) := convV_int Try.underlying12 Try.underlying5
@[simp] theorem qC12_12 {k : IntKind} {z : Int} : convV Try.prog 12 12 (.int k z) = some (.int .u64 (IntKind.u64.wrap z)) := convV_int Try.underlying12 Try.underlying12
@[simp] theorem qC12_21 {k : IntKind} {z : Int} : convV Try.prog 12 21 (.int k z) = some (.int .i32 (IntKind.i32.wrap z)) := convV_int Try.underlying12 Try.underlying21
@[simp] theorem qC12_57 {k : IntKind} {z : Int} : convV Try.prog 12 57 (.int k z) = some (.int .u64 (IntKind.u64.wrap z)) := convV_int Try.underlying12 Try.underlying57
@[simp] theorem qC12_102 {k : IntKind} {z : Int} : convV Try.prog 12 102 (.int k z) = some (.int .u64 (IntKind.u64.wrap z)) := convV_int Try.underlying12 Try.underlying102
@[simp] theorem qC12_117 {k : IntKind} {z : Int} : convV Try.prog 12 117 (.int k z) = some (.int .i64 (IntKind.i64.wrap z)) := convV_int Try.underlying12 Try.underlying117
@[simp] theorem qC12_125 {k : IntKind} {z : Int} : convV Try.prog 12 125 (.int k z) = some (.int .u32 (IntKind.u32.wrap z)) := convV_int Try.underlying12 Try.underlying125
@[simp] theorem qC12_131 {k : IntKind} {z : Int} : convV Try.prog 12 131 (.int k z) = some (.int .u64 (IntKind.u64.wrap z)) := convV_int Try.underlying12 Try.underlying131
@[simp] theorem qC21_2 {k : IntKind} {z : Int} : convV Try.prog 21 2 (.int k z) = some (.int .i64 (IntKind.i64.wrap z)) := convV_int Try.underlying21 Try.underlying2
@[simp] theorem qC21_3 {k : IntKind} {z : Int} : convV Try.prog 21 3 (.int k z) = some (.int .i64 (IntKind.i64.wrap z)) := convV_int Try.underlying21 Try.underlying3
@[simp] theorem qC21_5 {k : IntKind} {z : Int} : convV Try.prog 21 5 (.int k z) = some (.int .u8 (IntKind.u8.wrap z)) := convV_int Try.underlying21 Try.underlying5
@[simp] theorem qC21_12 {k : IntKind} {z : Int} : convV Try.prog 21 12 (.int k z) = some (.int .u64 (IntKind.u64.wrap z)) := convV_int Try.underlying21 Try.underlying12
@[simp] theorem qC21_21 {k : IntKind} {z : Int} : convV Try.prog 21 21 (.int k z) = some (.int .i32 (IntKind.i32.wrap z)) := convV_int Try.underlying21 Try.underlying21
@[simp] theorem qC21_57 {k : IntKind} {z : Int} : convV Try.prog 21 57 (.int k z) = some (.int .u64 (IntKind.u64.wrap z)) := convV_int Try.underlying21 Try.underlying57
@[simp] theorem qC21_102 {k : IntKind} {z : Int} : convV Try.prog 21 102 (.int k z) = some (.int .u64 (IntKind.u64.wrap z)) := convV_int Try.underlying21 Try.underlying102
@[simp] theorem qC21_117 {k : IntKind} {z : Int} : convV Try.prog 21 117 (.int k z) = some (.int .i64 (IntKind.i64.wrap z)) := convV_int Try.underlying21 Try.underlying117
@[simp] theorem qC21_125 {k : IntKind} {z : Int} : convV Try.prog 21 125 (.int k z) = some (.int .u32 (IntKind.u32.wrap z)) := convV_int Try.underlying21 Try.underlying125
@[simp] theorem qC21_131 {k : IntKind} {z : Int} : convV Try.prog 21 131 (.int k z) = some (.int .u64 (IntKind.u64.wrap z)) := convV_int Try.underlying21 Try.underlying131
@[simp] theorem qC57_2 {k : IntKind} {z : Int} : convV Try.prog 57 2 (.int k z) = some (.int .i64 (IntKind.i64.wrap z)) := convV_int Try.underlying57 Try.underlying2
@[simp] theorem qC57_3 {k : IntKind} {z : Int} : convV Try.prog 57 3 (.int k z) = some (.int .i64 (IntKind.i64.wrap z)) := convV_int Try.underlying57 Try.underlying3
@[simp] theorem qC57_5 {k : IntKind} {z : Int} : convV Try.prog 57 5 (.int k z) = some (.int .u8 (IntKind.u8.wrap z)) := convV_int Try.underlying57 Try.underlying5
@[simp] theorem qC57_12 {k : IntKind} {z : Int} : convV Try.prog 57 12 (.int k z) = some (.int .u64 (IntKind.u64.wrap z)) := convV_int Try.underlying57 Try.underlying12
@[simp] theorem qC57_21 {k : IntKind} {z : Int} : convV Try.prog 57 21 (.int k z) = some (.int .i32 (IntKind.i32.wrap z)) := convV_int Try.underlying57 Try.underlying21
@[simp] theorem qC57_57 {k : IntKind} {z : Int} : convV Try.prog 57 57 (.int k z) = some (.int .u64 (IntKind.u64.wrap z)) := convV_int Try.underlying57 Try.underlying57
@[simp] theorem qC57_102 {k : IntKind} {z : Int} : convV Try.prog 57 102 (.int k z) = some (.int .u64 (IntKind.u64.wrap z)) := convV_int Try.underlying57 Try.underlying102
@[simp] theorem qC57_117 {k : IntKind} {z : Int} : convV Try.prog 57 117 (.int k z) = some (.int .i64 (IntKind.i64.wrap z)) := convV_int Try.underlying57 Try.underlying117
@[simp] theorem qC57_125 {k : IntKind} {z : Int} : convV Try.prog 57 125 (.int k z) = some (.int .u32 (IntKind.u32.wrap z)) := convV_int Try.underlying57 Try.underlying125
@[simp] theorem qC57_131 {k : IntKind} {z : Int} : convV Try.prog 57 131 (.int k z) = some (.int .u64 (IntKind.u64.wrap z)) := convV_int Try.underlying57 Try.underlying131
@[simp] theorem qC102_2 {k : IntKind} {z : Int} : convV Try.prog 102 2 (.int k z) = some (.int .i64 (IntKind.i64.wrap z)) := convV_int Try.underlying102 Try.underlying2
@[simp] theorem qC102_3 {k : IntKind} {z : Int} : convV Try.prog 102 3 (.int k z) = some (.int .i64 (IntKind.i64.wrap z)) := convV_int Try.underlying102 Try.underlying3
@[simp] theorem qC102_5 {k : IntKind} {z : Int} : convV Try.prog 102 5 (.int k z) = some (.int .u8 (IntKind.u8.wrap z)) := convV_int Try.underlying102 Try.underlying5
@[simp] theorem qC102_12 {k : IntKind} {z : Int} : convV Try.prog 102 12 (.int k z) = some (.int .u64 (IntKind.u64.wrap z)) := convV_int Try.underlying102 Try.underlying12
@[simp] theorem qC102_21 {k : IntKind} {z : Int} : convV Try.prog 102 21 (.int k z) = some (.int .i32 (IntKind.i32.wrap z)) := convV_int Try.underlying102 Try.underlying21
@[simp] theorem qC102_57 {k : IntKind} {z : Int} : convV Try.prog 102 57 (.int k z) = some (.int .u64 (IntKind.u64.wrap z)) := convV_int Try.underlying102 Try.underlying57
@[simp] theorem qC102_102 {k : IntKind} {z : Int} : convV Try.prog 102 102 (.int k z) = some (.int .u64 (IntKind.u64.wrap z)) := convV_int Try.underlying102 Try.underlying102
@[simp] theorem qC102_117 {k : IntKind} {z : Int} : convV Try.prog 102 117 (.int k z) = some (.int .i64 (IntKind.i64.wrap z)) := convV_int Try.underlying102 Try.underlying117
@[simp] theorem qC102_125 {k : IntKind} {z : Int} : convV Try.prog 102 125 (.int k z) = some (.int .u32 (IntKind.u32.wrap z)) := convV_int Try.underlying102 Try.underlying125
@[simp] theorem qC102_131 {k : IntKind} {z : Int} : convV Try.prog 102 131 (.int k z) = some (.int .u64 (IntKind.u64.wrap z)) := convV_int Try.underlying102 Try.underlying131
@[simp] theorem qC117_2 {k : IntKind} {z : Int} : convV Try.prog 117 2 (.int k z) = some (.int .i64 (IntKind.i64.wrap z)) := convV_int Try.underlying117 Try.underlying2
@[simp] theorem qC117_3 {k : IntKind} {z : Int} : convV Try.prog 117 3 (.int k z) = some (.int .i64 (IntKind.i64.wrap z)) := convV_int Try.underlying117 Try.underlying3
@[simp] theorem qC117_5 {k : IntKind} {z : Int} : convV Try.prog 117 5 (.int k z) = some (.int .u8 (IntKind.u8.wrap z)) := convV_int Try.underlying117 Try.underlying5
@[simp] theorem qC117_12 {k : IntKind} {z : Int} : convV Try.prog 117 12 (.int k z) = some (.int .u64 (IntKind.u64.wrap z)) := convV_int Try.underlying117 Try.underlying12
@[simp] theorem qC117_21 {k : IntKind} {z : Int} : convV Try.prog 117 21 (.int k z) = some (.int .i32 (IntKind.i32.wrap z)) := convV_int Try.underlying117 Try.underlying21
@[simp] theorem qC117_57 {k : IntKind} {z : Int} : convV Try.prog 117 57 (.int k z) = some (.int .u64 (IntKind.u64.wrap z)) := convV_int Try.underlying117 Try.underlying57
@[simp] theorem qC117_102 {k : IntKind} {z : Int} : convV Try.prog 117 102 (.int k z) = some (.int .u64 (IntKind.u64.wrap z)) := convV_int Try.underlying117 Try.underlying102
@[simp] theorem qC117_117 {k : IntKind} {z : Int} : convV Try.prog 117 117 (.int k z) = some (.int .i64 (IntKind.i64.wrap z)) := convV_int Try.underlying117 Try.underlying117
@[simp] theorem qC117_125 {k : IntKind} {z : Int} : convV Try.prog 117 125 (.int k z) = some (.int .u32 (IntKind.u32.wrap z)) := convV_int Try.underlying117 Try.underlying125
@[simp] theorem qC117_131 {k : IntKind} {z : Int} : convV Try.prog 117 131 (.int k z) = some (.int .u64 (IntKind.u64.wrap z)) := convV_int Try.underlying117 Try.underlying131
@[simp] theorem qC125_2 {k : IntKind} {z : Int} : convV Try.prog 125 2 (.int k z) = some (.int .i64 (IntKind.i64.wrap z)) := convV_int Try.underlying125 Try.underlying2
@[simp] theorem qC125_3 {k : IntKind} {z : Int} : convV Try.prog 125 3 (.int k z) = some (.int .i64 (IntKind.i64.wrap z)) := convV_int Try.underlying125 Try.underlying3
@[simp] theorem qC125_5 {k : IntKind} {z : Int} : convV Try.prog 125 5 (.int k z) = some (.int .u8 (IntKind.u8.wrap z)) := convV_int Try.underlying125 Try.underlying5
@[simp] theorem qC125_12 {k : IntKind} {z : Int} : convV Try.prog 125 12 (.int k z) = some (.int .u64 (IntKind.u64.wrap z)) := convV_int Try.underlying125 Try.underlying12
@[simp] theorem qC125_21 {k : IntKind} {z : Int} : convV Try.prog 125 21 (.int k z) = some (.int .i32 (IntKind.i32.wrap z)) := convV_int Try.underlying125 Try.underlying21
@[simp] theorem qC125_57 {k : IntKind} {z : Int} : convV Try.prog 125 57 (.int k z) = some (.int .u64 (IntKind.u64.wrap z)) := convV_int Try.underlying125 Try.underlying57
@[simp] theorem qC125_102 {k : IntKind} {z : Int} : convV Try.prog 125 102 (.int k z) = some (.int .u64 (IntKind.u64.wrap z)) := convV_int Try.underlying125 Try.underlying102
@[simp] theorem qC125_117 {k : IntKind} {z : Int} : convV Try.prog 125 117 (.int k z) = some (.int .i64 (IntKind.i64.wrap z)) := convV_int Try.underlying125 Try.underlying117
@[simp] theorem qC125_125 {k : IntKind} {z : Int} : convV Try.prog 125 125 (.int k z) = some (.int .u32 (IntKind.u32.wrap z)) := convV_int Try.underlying125 Try.underlying125
@[simp] theorem qC125_131 {k : IntKind} {z : Int} : convV Try.prog 125 131 (.int k z) = some (.int .u64 (IntKind.u64.wrap z)) := convV_int Try.underlying125 Try.underlying131
@[simp] theorem qC131_2 {k : IntKind} {z : Int} : convV Try.prog 131 2 (.int k z) = some (.int .i64 (IntKind.i64.wrap z)) := convV_int Try.underlying131 Try.underlying2
@[simp] theorem qC131_3 {k : IntKind} {z : Int} : convV Try.prog 131 3 (.int k z) = some (.int .i64 (IntKind.i64.wrap z)) := convV_int Try.underlying131 Try.underlying3
@[simp] theorem qC131_5 {k : IntKind} {z : Int} : convV Try.prog 131 5 (.int k z) = some (.int .u8 (IntKind.u8.wrap z)) := convV_int Try.underlying131 Try.underlying5
@[simp] theorem qC131_12 {k : IntKind} {z : Int} : convV Try.prog 131 12 (.int k z) = some (.int .u64 (IntKind.u64.wrap z)) := convV_int Try.underlying131 Try.underlying12
@[simp] theorem qC131_21 {k : IntKind} {z : Int} : convV Try.prog 131 21 (.int k z) = some (.int .i32 (IntKind.i32.wrap z)) := convV_int Try.underlying131 Try.underlying21
@[simp] theorem qC131_57 {k : IntKind} {z : Int} : convV Try.prog 131 57 (.int k z) = some (.int .u64 (IntKind.u64.wrap z)) := convV_int Try.underlying131 Try.underlying57
@[simp] theorem qC131_102 {k : IntKind} {z : Int} : convV Try.prog 131 102 (.int k z) = some (.int .u64 (IntKind.u64.wrap z)) := convV_int Try.underlying131 Try.underlying102
@[simp] theorem qC131_117 {k : IntKind} {z : Int} : convV Try.prog 131 117 (.int k z) = some (.int .i64 (IntKind.i64.wrap z)) := convV_int Try.underlying131 Try.underlying117
@[simp] theorem qC131_125 {k : IntKind} {z : Int} : convV Try.prog 131 125 (.int k z) = some (.int .u32 (IntKind.u32.wrap z)) := convV_int Try.underlying131 Try.underlying125
@[simp] theorem qC131_131 {k : IntKind} {z : Int} : convV Try.prog 131 131 (.int k z) = some (.int .u64 (IntKind.u64.wrap z)) := convV_int Try.underlying131 Try.underlying131
@[simp] theorem qG9_9 {S : St} {K : Value → Mem → Prop} {s : ByteArray} : s2K Try.prog S K 9 9 s = K (.string s) S.M := s2K_str Try.underlying9 Try.underlying9
@[simp] theorem qH9_22 {S : St} {K : Value → Mem → Prop} {s : ByteArray} : s2K Try.prog S K 9 22 s = (s.size ≤ 1099511627776 ∧ K (.slice (some ⟨S.M.length, 0, none⟩) s.size s.size) (S.M ++ [.live ⟨byteCells s, true, false, 5, 1⟩])) := s2K_sl Try.underlying9 Try.underlying22 Try.underlying5
end Go.Proofs.Ytbpaeonfebmomaa

namespace Go.Proofs.Ytbpaeonfebmomaa
open Go.RowKit
set_option linter.unusedVariables false
set_option linter.unusedSimpArgs false
set_option maxRecDepth 100000
attribute [local simp] List.getElem?_cons_zero
attribute [local irreducible] awCond awCall awLoop awDraw ow retQ retC resQ Keeps

abbrev iv (n : Int) : Value := .int .i64 n
/-- A record of k cells. -/
structure RecV (α : Type) (k : Nat) where
  row : α → List Value
  len : ∀ a, (row a).length = k
def el {α : Type} [Inhabited α] (l : List α) (i : Nat) : α := l.getD i default
section
variable {α : Type} {k : Nat}
theorem el_eq [Inhabited α] {l : List α} {i : Nat} (h : i < l.length) : l[i] = el l i := by simp [el, h]
theorem el_some [Inhabited α] {l : List α} {i : Nat} (h : i < l.length) : l[i]? = some (el l i) := by rw [List.getElem?_eq_getElem h, el_eq h]
theorem take_el [Inhabited α] {l : List α} {i : Nat} (h : i < l.length) : l.take (i + 1) = l.take i ++ [el l i] := by
  rw [List.take_succ_eq_append_getElem h, el_eq]
theorem drop_el [Inhabited α] {l : List α} {i : Nat} (h : i < l.length) : l.drop i = el l i :: l.drop (i + 1) := by
  rw [List.drop_eq_getElem_cons h, el_eq]
theorem el_append_left [Inhabited α] {l m : List α} {i : Nat} (h : i < l.length) : el (l ++ m) i = el l i := by
  unfold el; simp only [List.getD_eq_getElem?_getD]; rw [List.getElem?_append_left h]
theorem el_append_right [Inhabited α] {l m : List α} {i : Nat} (h : l.length ≤ i) : el (l ++ m) i = el m (i - l.length) := by
  unfold el; simp only [List.getD_eq_getElem?_getD]; rw [List.getElem?_append_right h]
theorem el_mem [Inhabited α] {l : List α} {i : Nat} (h : i < l.length) : el l i ∈ l := by rw [← el_eq h]; exact List.getElem_mem h
def cellsL (R : RecV α k) (l : List α) : List Value := l.flatMap R.row
theorem cellsL_len (R : RecV α k) (l : List α) : (cellsL R l).length = l.length * k := by
  unfold cellsL
  induction l with
  | nil => simp
  | cons a l ih => rw [List.flatMap_cons, List.length_append, ih, R.len, List.length_cons, Nat.add_mul]; omega
theorem cellsL_nil (R : RecV α k) : cellsL R [] = [] := rfl
theorem cellsL_cons (R : RecV α k) (a : α) (l : List α) : cellsL R (a :: l) = R.row a ++ cellsL R l := by simp [cellsL]
theorem cellsL_append (R : RecV α k) (l m : List α) : cellsL R (l ++ m) = cellsL R l ++ cellsL R m := by simp [cellsL]
theorem cellsL_snoc (R : RecV α k) (l : List α) (a : α) : cellsL R (l ++ [a]) = cellsL R l ++ R.row a := by simp [cellsL]
theorem cellsL_take (R : RecV α k) : ∀ (l : List α) (n : Nat), cellsL R (l.take n) = (cellsL R l).take (n * k)
  | [], n => by simp [cellsL]
  | a :: l, 0 => by simp [cellsL]
  | a :: l, n + 1 => by
    rw [List.take_succ_cons, cellsL_cons, cellsL_cons, cellsL_take R l n, List.take_append, R.len, Nat.add_mul, Nat.one_mul, List.take_of_length_le (l := R.row a) (by rw [R.len]; omega), show n * k + k - k = n * k by omega]
theorem cellsL_drop (R : RecV α k) : ∀ (l : List α) (n : Nat), cellsL R (l.drop n) = (cellsL R l).drop (n * k)
  | [], n => by simp [cellsL]
  | a :: l, 0 => by simp
  | a :: l, n + 1 => by
    rw [List.drop_succ_cons, cellsL_cons, cellsL_drop R l n, List.drop_append, R.len, Nat.add_mul, Nat.one_mul, List.drop_of_length_le (l := R.row a) (by rw [R.len]; omega), show n * k + k - k = n * k by omega, List.nil_append]
theorem cellsL_get [Inhabited α] (R : RecV α k) {l : List α} {i j : Nat} (hi : i < l.length) (hj : j < k) : (cellsL R l)[i * k + j]? = (R.row (el l i))[j]? := by
  have h1 : l = l.take i ++ (el l i :: l.drop (i + 1)) := by
    conv => lhs; rw [← List.take_append_drop i l, drop_el hi]
  have h2 : cellsL R l = cellsL R (l.take i) ++ (R.row (el l i) ++ cellsL R (l.drop (i + 1))) := by
    conv => lhs; rw [h1]
    rw [cellsL_append, cellsL_cons]
  rw [h2]
  have hl : (cellsL R (l.take i)).length = i * k := by rw [cellsL_len, List.length_take, Nat.min_eq_left (by omega)]
  rw [List.getElem?_append_right (by omega), hl, List.getElem?_append_left (by rw [R.len]; omega)]
  congr 1
  omega
theorem cellsL_zrow (R : RecV α k) (a : α) : ∀ n, zrow (R.row a) n = cellsL R (List.replicate n a)
  | 0 => rfl
  | n + 1 => by rw [zrow_succ, List.replicate_succ, cellsL_cons, cellsL_zrow R a n]

/-- Cells that lie behind a place. -/
def Cl (M : Mem) (id off : Nat) (xs : List Value) : Prop := ∀ (j : Nat) x, xs[j]? = some x → cellAt M id (off + j) = some x
theorem Cl.app {M : Mem} {id off : Nat} {xs : List Value} (h : Cl M id off xs) (L : Mem) : Cl (M ++ L) id off xs := fun j x hx => cellAt_app (h j x hx) L
theorem cellAt_keeps {M M' : Mem} {id off : Nat} {v : Value} (hk : Keeps M M') (h : cellAt M id off = some v) : cellAt M' id off = some v := by
  unfold cellAt at h ⊢
  cases hm : M[id]? with
  | none => rw [hm] at h; cases h
  | some s => rw [hk.get hm]; rw [hm] at h; exact h
theorem Cl.keeps {M M' : Mem} {id off : Nat} {xs : List Value} (h : Cl M id off xs) (hk : Keeps M M') : Cl M' id off xs := fun j x hx => cellAt_keeps hk (h j x hx)
theorem cellsAt_of {M : Mem} {id off n : Nat} {xs : List Value} (h : Cl M id off xs) (hl : xs.length = n) (h0 : 0 < n) : cellsAt M id off n = some xs := by
  have hx0 : xs[0]? = some xs[0] := List.getElem?_eq_getElem (by omega)
  have h1 := h 0 _ hx0
  unfold cellAt at h1
  unfold cellsAt
  cases hm : M[id]? with
  | none => rw [hm] at h1; cases h1
  | some s =>
    cases s with
    | live r =>
      have at_ : ∀ (j : Nat) x, xs[j]? = some x → r.cells[off + j]? = some x := fun j x hx => by
        have := h j x hx
        unfold cellAt at this
        rw [hm] at this
        exact this
      have hle : off + n ≤ r.cells.length := by
        have hl1 : xs[n - 1]? = some (xs[n - 1]'(by omega)) := List.getElem?_eq_getElem (by omega)
        have := (List.getElem?_eq_some_iff.1 (at_ _ _ hl1)).1
        omega
      simp only
      rw [if_pos hle]
      congr 1
      apply List.ext_getElem?
      intro j
      by_cases hj : j < n
      · rw [List.getElem?_take, if_pos hj, List.getElem?_drop]
        have hxj : xs[j]? = some (xs[j]'(by omega)) := List.getElem?_eq_getElem (by omega)
        rw [at_ j _ hxj, hxj]
      · rw [List.getElem?_take, if_neg hj, List.getElem?_eq_none (by omega)]
    | dead => rw [hm] at h1; cases h1
    | hole => rw [hm] at h1; cases h1
    | mp r es => rw [hm] at h1; cases h1

/-- The slice .slice A n c reads in M as the records l. -/
def Sl (R : RecV α k) (M : Mem) (A : Option Addr) (n : Nat) (l : List α) : Prop :=
  l.length = n ∧ (0 < n → ∃ id off, A = some ⟨id, off, none⟩ ∧ rowEsz M id = some k ∧ Cl M id off (cellsL R l))
theorem Sl.at_ [Inhabited α] {R : RecV α k} {M : Mem} {A : Option Addr} {n : Nat} {l : List α} (h : Sl R M A n l) {i : Nat} (hi : i < n) :
    ∃ id off, A = some ⟨id, off, none⟩ ∧ rowEsz M id = some k ∧ Cl M id (off + i * k) (R.row (el l i)) := by
  obtain ⟨id, off, e, he, hc⟩ := h.2 (by omega)
  refine ⟨id, off, e, he, fun j x hx => ?_⟩
  have hj : j < k := by have := (List.getElem?_eq_some_iff.1 hx).1; rwa [R.len] at this
  rw [Nat.add_assoc]
  exact hc _ _ (by rw [cellsL_get R (by rw [h.1]; exact hi) hj]; exact hx)
theorem rowEsz_keeps {M M' : Mem} {id k : Nat} (hk : Keeps M M') (h : rowEsz M id = some k) : rowEsz M' id = some k := by
  unfold rowEsz at h ⊢
  cases hm : M[id]? with
  | none => rw [hm] at h; cases h
  | some s => rw [hk.get hm]; rw [hm] at h; exact h
theorem Sl.keeps {R : RecV α k} {M M' : Mem} {A : Option Addr} {n : Nat} {l : List α} (h : Sl R M A n l) (hk : Keeps M M') : Sl R M' A n l :=
  ⟨h.1, fun hn => by
    obtain ⟨id, off, e, he, hc⟩ := h.2 hn
    exact ⟨id, off, e, rowEsz_keeps hk he, hc.keeps hk⟩⟩
theorem Sl.app {R : RecV α k} {M : Mem} {A : Option Addr} {n : Nat} {l : List α} (h : Sl R M A n l) (L : Mem) : Sl R (M ++ L) A n l := h.keeps (keeps_app L)
theorem splice_app : ∀ (ws xs ys : List Value), ws.length ≤ ys.length → splice (xs ++ ys) xs.length ws = xs ++ (ws ++ ys.drop ws.length)
  | [], xs, ys, _ => by simp
  | w :: ws, xs, [], h => by simp at h
  | w :: ws, xs, y :: ys, h => by
    rw [splice_cons]
    have e : (xs ++ y :: ys).set xs.length w = (xs ++ [w]) ++ ys := by simp [List.set_append_right]
    have := splice_app ws (xs ++ [w]) ys (by simpa using h)
    rw [e, show xs.length + 1 = (xs ++ [w]).length by simp, this]
    simp
theorem splice_rec (R : RecV α k) {xs : List α} {m : Nat} {z : List Value} {a : α} (hz : z.length = k) : splice (cellsL R xs ++ zrow z (m + 1)) (xs.length * k) (R.row a) = cellsL R (xs ++ [a]) ++ zrow z m := by
  rw [← cellsL_len R xs, splice_app _ _ _ (by rw [R.len, zrow_succ, List.length_append]; omega), R.len, zrow_succ, List.drop_append_of_le_length (by omega), List.drop_of_length_le (by omega), cellsL_snoc]
  simp
theorem all_oneV_of {vs : List Value} (h : ∀ v ∈ vs, oneV v = true) : vs.all oneV = true := List.all_eq_true.2 h
theorem putCells_rec (R : RecV α k) {b : Nat} {M : Mem} {xs : List α} {m i : Nat} {z : List Value} {a : α} {t : Bool} {e : TypeId} (hb : b ≤ M.length) (hz : z.length = k) (hi : xs.length = i) (h1 : (R.row a).all oneV = true) :
    putCells b (M ++ [.live ⟨cellsL R xs ++ zrow z (m + 1), true, t, e, k⟩]) M.length (i * k) (R.row a) = some (M ++ [.live ⟨cellsL R (xs ++ [a]) ++ zrow z m, true, t, e, k⟩]) := by
  subst hi
  rw [putCells_new0 hb, putL_zero, splice_rec R hz, if_pos ⟨rfl, by simp only [List.length_append, cellsL_len, R.len, zrow_succ]; omega, h1⟩]
  rfl
theorem Sl.new {R : RecV α k} {M : Mem} {l : List α} {o t : Bool} {e : TypeId} {n : Nat} (hn : l.length = n) : Sl R (M ++ [.live ⟨cellsL R l, o, t, e, k⟩]) (some ⟨M.length, 0, none⟩) n l :=
  ⟨hn, fun _ => ⟨M.length, 0, rfl, by simp [rowEsz], fun j x hx => by simp [cellAt, hx]⟩⟩
def Ownd (M : Mem) (A : Option Addr) (n : Nat) : Prop := 0 < n → ∃ id off r, A = some ⟨id, off, none⟩ ∧ M[id]? = some (.live r) ∧ r.own = true
/-- A result that lies in new memory. -/
def Fresh (R : RecV α k) (M : Mem) (v : Value) (M' : Mem) (l : List α) : Prop :=
  ∃ A n c, v = .slice A n c ∧ n ≤ 1099511627776 ∧ Sl R M' A n l ∧ (∀ a, A = some a → M.length ≤ a.block) ∧ Ownd M' A n ∧ Keeps M M'
theorem Fresh.new {R : RecV α k} {M : Mem} {l : List α} {t : Bool} {e : TypeId} {n c : Nat} (hn : l.length = n) (hb : n ≤ 1099511627776) : Fresh R M (.slice (some ⟨M.length, 0, none⟩) n c) (M ++ [.live ⟨cellsL R l, true, t, e, k⟩]) l :=
  ⟨_, _, _, rfl, hb, Sl.new hn, fun a h => by injection h with h; subst h; exact Nat.le_refl _, fun _ => ⟨_, _, _, rfl, getElem?_snoc_eq, rfl⟩, keeps_app _⟩
theorem Sl.lt {R : RecV α k} {M : Mem} {A : Option Addr} {n : Nat} {l : List α} (h : Sl R M A n l) (hn : 0 < n) : ∃ a, A = some a ∧ a.block < M.length := by
  obtain ⟨id, off, e, he, _⟩ := h.2 hn
  refine ⟨_, e, ?_⟩
  unfold rowEsz at he
  cases hm : M[id]? with
  | none => rw [hm] at he; cases he
  | some s => exact (List.getElem?_eq_some_iff.1 hm).1
theorem Keeps.len {M M' : Mem} (h : Keeps M M') : M.length ≤ M'.length := by
  rcases Nat.eq_zero_or_pos M.length with h0 | h0
  · omega
  · have := h.get (List.getElem?_eq_getElem (show M.length - 1 < M.length by omega))
    have := (List.getElem?_eq_some_iff.1 this).1
    omega
/-- Only the row of A may have turned. -/
def Turned (A : Option Addr) (n : Nat) (M M' : Mem) : Prop := M'.length = M.length ∧ ∀ (i : Nat) s, M[i]? = some s → (∀ a, A = some a → 0 < n → i ≠ a.block) → M'[i]? = some s
theorem Turned.keeps {M0 M M' : Mem} {A : Option Addr} {n : Nat} (h : Turned A n M M') (hk : Keeps M0 M) (ha : ∀ a, A = some a → M0.length ≤ a.block) : Keeps M0 M' := by
  unfold Keeps
  exact fun i s hs => h.2 i s (hk.get hs) fun a e _ => by have := ha a e; have := (List.getElem?_eq_some_iff.1 hs).1; omega
theorem Sl.turn {R : RecV α k} {M M' : Mem} {A B : Option Addr} {n m : Nat} {l : List α} (h : Sl R M B m l) (ht : Turned A n M M') (hd : ∀ a b, A = some a → B = some b → 0 < n → 0 < m → b.block ≠ a.block) : Sl R M' B m l := by
  refine ⟨h.1, fun hm => ?_⟩
  obtain ⟨id, off, e, he, hc⟩ := h.2 hm
  have hi : M'[id]? = M[id]? := by
    cases hs : M[id]? with
    | none => unfold rowEsz at he; rw [hs] at he; cases he
    | some s => exact ht.2 id s hs fun a ea hn => hd a _ ea e hn hm
  refine ⟨id, off, e, by unfold rowEsz at he ⊢; rw [hi]; exact he, fun j x hx => ?_⟩
  have := hc j x hx
  unfold cellAt at this ⊢
  rw [hi]; exact this
theorem Ownd.turn {M M' : Mem} {A B : Option Addr} {n m : Nat} (h : Ownd M B m) (ht : Turned A n M M') (hd : ∀ a b, A = some a → B = some b → 0 < n → 0 < m → b.block ≠ a.block) : Ownd M' B m := fun hm => by
  obtain ⟨id, off, r, e, hr, ho⟩ := h hm
  exact ⟨id, off, r, e, ht.2 id _ hr fun a ea hn => hd a _ ea e hn hm, ho⟩
theorem Ownd.keeps {M M' : Mem} {A : Option Addr} {n : Nat} (h : Ownd M A n) (hk : Keeps M M') : Ownd M' A n := fun hn => by
  obtain ⟨id, off, r, e, hr, ho⟩ := h hn
  exact ⟨id, off, r, e, hk.get hr, ho⟩
theorem Sl.cells {R : RecV α k} {M : Mem} {id off n : Nat} {l : List α} {r : Row} (h : Sl R M (some ⟨id, off, none⟩) n l) (hr : M[id]? = some (.live r)) (hn : 0 < n) (hk : 0 < k) : r.esz = k ∧ off + n * k ≤ r.cells.length := by
  obtain ⟨_, _, e, he, hc⟩ := h.2 hn
  injection e with e
  injection e with e1 e2
  subst e1; subst e2
  refine ⟨by unfold rowEsz at he; rw [hr] at he; simpa using he, ?_⟩
  have hnk : 0 < n * k := Nat.mul_pos hn hk
  have hl : (cellsL R l).length = n * k := by rw [cellsL_len, h.1]
  have hx : (cellsL R l)[n * k - 1]? = some ((cellsL R l)[n * k - 1]'(by omega)) := List.getElem?_eq_getElem (by omega)
  have := hc _ _ hx
  unfold cellAt at this
  rw [hr] at this
  have := (List.getElem?_eq_some_iff.1 this).1
  omega
theorem put_set {b : Nat} {M : Mem} {id p : Nat} {v : Value} {cs : List Value} {t : Bool} {e : TypeId} {z : Nat} (hid : id < M.length) (hb : b ≤ id) (hp : p < cs.length) (h1 : oneV v = true) :
    putCells b (M.set id (.live ⟨cs, true, t, e, z⟩)) id p [v] = some (M.set id (.live ⟨cs.set p v, true, t, e, z⟩)) := by
  unfold putCells
  rw [List.getElem?_set_self hid]
  simp only
  rw [if_pos (by simp [hb, h1]; omega)]
  simp [splice]
theorem rowEsz_set {M : Mem} {id : Nat} {r : Row} (hid : id < M.length) : rowEsz (M.set id (.live r)) id = some r.esz := by simp [rowEsz, List.getElem?_set_self hid]
theorem splice_mid (R : RecV α k) {cs : List Value} {off j : Nat} {l : List α} {a : α} (hl : l.length = j) (h : off + (j + 1) * k ≤ cs.length) :
    splice (cs.take off ++ cellsL R l ++ cs.drop (off + j * k)) (off + j * k) (R.row a) = cs.take off ++ cellsL R (l ++ [a]) ++ cs.drop (off + (j + 1) * k) := by
  rw [Nat.add_mul, Nat.one_mul] at h ⊢
  have e : off + j * k = (cs.take off ++ cellsL R l).length := by rw [List.length_append, cellsL_len, List.length_take, hl]; omega
  conv => lhs; rw [e]
  rw [← e, e, splice_app _ _ _ (by rw [R.len, List.length_drop]; omega), R.len, List.drop_drop, cellsL_snoc, ← e]
  simp [Nat.add_assoc]
theorem set_turned {M : Mem} {id off : Nat} {s : Slot} {n : Nat} (hn : 0 < n) : Turned (some ⟨id, off, none⟩) n M (M.set id s) :=
  ⟨by simp, fun i s hs h => by rw [List.getElem?_set_ne (by have := h _ rfl hn; simpa using this.symm)]; exact hs⟩
theorem Sl.set {R : RecV α k} {M : Mem} {id off n : Nat} {pre post : List Value} {l : List α} {o t : Bool} {e : TypeId} (hid : id < M.length) (hp : pre.length = off) (hl : l.length = n) :
    Sl R (M.set id (.live ⟨pre ++ cellsL R l ++ post, o, t, e, k⟩)) (some ⟨id, off, none⟩) n l :=
  ⟨hl, fun _ => ⟨id, off, rfl, by simp [rowEsz, List.getElem?_set_self hid], fun j x hx => by
    simp only [cellAt, List.getElem?_set_self hid]
    rw [List.append_assoc, List.getElem?_append_right (by omega), hp, show off + j - off = j by omega, List.getElem?_append_left (List.getElem?_eq_some_iff.1 hx).1]
    exact hx⟩⟩
/-- A slice value that reads as records, its row's id from lo up to hi. -/
def RdL (R : RecV α k) (lo hi : Nat) (M : Mem) (v : Value) (l : List α) : Prop :=
  ∃ A n c, v = .slice A n c ∧ n ≤ 9223372036854775807 ∧ Sl R M A n l ∧ (∀ a, A = some a → 0 < n → lo ≤ a.block ∧ a.block < hi)
/-- It may be written. -/
def OwL (R : RecV α k) (lo hi : Nat) (M : Mem) (v : Value) (l : List α) : Prop :=
  ∃ A n c, v = .slice A n c ∧ n ≤ 1099511627776 ∧ Sl R M A n l ∧ (∀ a, A = some a → 0 < n → lo ≤ a.block ∧ a.block < hi) ∧ Ownd M A n
/-- Only rows with ids from lo up to hi may have turned. -/
def Turn (lo hi : Nat) (M M' : Mem) : Prop := M.length ≤ M'.length ∧ ∀ (i : Nat) s, M[i]? = some s → (i < lo ∨ hi ≤ i) → M'[i]? = some s
theorem OwL.rd {R : RecV α k} {lo hi : Nat} {M : Mem} {v : Value} {l : List α} (h : OwL R lo hi M v l) : RdL R lo hi M v l := by
  obtain ⟨A, n, c, h1, h2, h3, h4, _⟩ := h
  exact ⟨A, n, c, h1, by omega, h3, h4⟩
theorem RdL.keeps {R : RecV α k} {lo hi : Nat} {M M' : Mem} {v : Value} {l : List α} (h : RdL R lo hi M v l) (hk : Keeps M M') : RdL R lo hi M' v l := by
  obtain ⟨A, n, c, h1, h2, h3, h4⟩ := h
  exact ⟨A, n, c, h1, h2, h3.keeps hk, h4⟩
theorem OwL.keeps {R : RecV α k} {lo hi : Nat} {M M' : Mem} {v : Value} {l : List α} (h : OwL R lo hi M v l) (hk : Keeps M M') : OwL R lo hi M' v l := by
  obtain ⟨A, n, c, h1, h2, h3, h4, h5⟩ := h
  exact ⟨A, n, c, h1, h2, h3.keeps hk, h4, h5.keeps hk⟩
theorem Sl.turn' {R : RecV α k} {M M' : Mem} {B : Option Addr} {m lo hi : Nat} {l : List α} (h : Sl R M B m l) (ht : Turn lo hi M M') (hd : ∀ b, B = some b → 0 < m → b.block < lo ∨ hi ≤ b.block) : Sl R M' B m l := by
  refine ⟨h.1, fun hm => ?_⟩
  obtain ⟨id, off, e, he, hc⟩ := h.2 hm
  have hi' : M'[id]? = M[id]? := by
    cases hs : M[id]? with
    | none => unfold rowEsz at he; rw [hs] at he; cases he
    | some s => exact ht.2 id s hs (hd _ e hm)
  refine ⟨id, off, e, by unfold rowEsz at he ⊢; rw [hi']; exact he, fun j x hx => ?_⟩
  have := hc j x hx
  unfold cellAt at this ⊢
  rw [hi']; exact this
theorem Ownd.turn' {M M' : Mem} {B : Option Addr} {m lo hi : Nat} (h : Ownd M B m) (ht : Turn lo hi M M') (hd : ∀ b, B = some b → 0 < m → b.block < lo ∨ hi ≤ b.block) : Ownd M' B m := fun hm => by
  obtain ⟨id, off, r, e, hr, ho⟩ := h hm
  exact ⟨id, off, r, e, ht.2 id _ hr (hd _ e hm), ho⟩
theorem RdL.turn {R : RecV α k} {lo hi lo' hi' : Nat} {M M' : Mem} {v : Value} {l : List α} (h : RdL R lo hi M v l) (ht : Turn lo' hi' M M') (hd : hi ≤ lo' ∨ hi' ≤ lo) : RdL R lo hi M' v l := by
  obtain ⟨A, n, c, h1, h2, h3, h4⟩ := h
  exact ⟨A, n, c, h1, h2, h3.turn' ht fun b e hm => by have := h4 b e hm; omega, h4⟩
theorem OwL.turn {R : RecV α k} {lo hi lo' hi' : Nat} {M M' : Mem} {v : Value} {l : List α} (h : OwL R lo hi M v l) (ht : Turn lo' hi' M M') (hd : hi ≤ lo' ∨ hi' ≤ lo) : OwL R lo hi M' v l := by
  obtain ⟨A, n, c, h1, h2, h3, h4, h5⟩ := h
  exact ⟨A, n, c, h1, h2, h3.turn' ht fun b e hm => (by have := h4 b e hm; omega), h4, h5.turn' ht fun b e hm => (by have := h4 b e hm; omega)⟩
theorem Turn.keeps {M0 M M' : Mem} {lo hi : Nat} (h : Turn lo hi M M') (hk : Keeps M0 M) (ha : M0.length ≤ lo) : Keeps M0 M' := by
  unfold Keeps
  exact fun i s hs => h.2 i s (hk.get hs) (.inl (by have := (List.getElem?_eq_some_iff.1 hs).1; omega))
theorem RdL.of_sl {R : RecV α k} {M : Mem} {B : Option Addr} {n : Nat} {l : List α} (hn : n ≤ maxLen) (hs : Sl R M B n l) (c : Nat) : RdL R 0 M.length M (.slice B n c) l :=
  ⟨B, n, c, rfl, by unfold maxLen at hn; omega, hs, fun a e hp => ⟨Nat.zero_le _, by obtain ⟨a', e', h⟩ := hs.lt hp; rw [e] at e'; injection e' with e'; subst e'; exact h⟩⟩
theorem RdL.up {R : RecV α k} {lo : Nat} {M : Mem} {v : Value} {l : List α} (h : RdL R lo M.length M v l) (L : Mem) : RdL R lo (M ++ L).length (M ++ L) v l := by
  obtain ⟨A, n, c, h1, h2, h3, h4⟩ := h
  exact ⟨A, n, c, h1, h2, h3.app L, fun a e hp => by have := h4 a e hp; simp; omega⟩
theorem Fresh.ow {R : RecV α k} {M M' : Mem} {v : Value} {l : List α} (h : Fresh R M v M' l) : OwL R M.length M'.length M' v l ∧ Keeps M M' := by
  obtain ⟨A, n, c, h1, h2, h3, h4, h5, h6⟩ := h
  exact ⟨⟨A, n, c, h1, h2, h3, fun a e hn => ⟨h4 a e, by obtain ⟨a', e', h⟩ := h3.lt hn; rw [e] at e'; injection e' with e'; subst e'; exact h⟩, h5⟩, h6⟩
theorem cellsAt_keeps {M M' : Mem} {id off n : Nat} {vs : List Value} (hk : Keeps M M') (h : cellsAt M id off n = some vs) : cellsAt M' id off n = some vs := by
  unfold cellsAt at h ⊢
  cases hm : M[id]? with
  | none => rw [hm] at h; cases h
  | some s => rw [hk.get hm]; rw [hm] at h; exact h
theorem cellsAt_turn {M M' : Mem} {id off n lo hi : Nat} {vs : List Value} (ht : Turn lo hi M M') (hi' : id < lo) (h : cellsAt M id off n = some vs) : cellsAt M' id off n = some vs := by
  unfold cellsAt at h ⊢
  cases hm : M[id]? with
  | none => rw [hm] at h; cases h
  | some s => rw [ht.2 id s hm (.inl hi')]; rw [hm] at h; exact h
theorem cellsAt_turn2 {M M' : Mem} {id off n lo hi : Nat} {vs : List Value} (ht : Turn lo hi M M') (hi' : id < lo ∨ hi ≤ id) (h : cellsAt M id off n = some vs) : cellsAt M' id off n = some vs := by
  unfold cellsAt at h ⊢
  cases hm : M[id]? with
  | none => rw [hm] at h; cases h
  | some s => rw [ht.2 id s hm hi']; rw [hm] at h; exact h
theorem Keeps.split {A B : Mem} (h : Keeps A B) : ∃ C, B = A ++ C := by
  refine ⟨B.drop A.length, ?_⟩
  have hl := h.len
  apply List.ext_getElem?
  intro i
  by_cases hi : i < A.length
  · rw [List.getElem?_append_left hi, h.get (List.getElem?_eq_getElem hi), List.getElem?_eq_getElem hi]
  · rw [List.getElem?_append_right (by omega), List.getElem?_drop, show A.length + (i - A.length) = i by omega]
theorem turn_mid {M A B C : Mem} (h : A.length = B.length) : Turn M.length (M.length + A.length) (M ++ (A ++ C)) (M ++ (B ++ C)) := by
  refine ⟨by simp [h], fun i s hs hd => ?_⟩
  rcases hd with hd | hd
  · rw [List.getElem?_append_left hd] at hs ⊢; exact hs
  · rw [List.getElem?_append_right (by omega), List.getElem?_append_right (by omega)] at hs ⊢
    rw [← h]; exact hs
theorem turn_mid3 {M C : Mem} {a b c a' b' c' : Slot} : Turn M.length (M.length + 3) (M ++ a :: b :: c :: C) (M ++ a' :: b' :: c' :: C) := turn_mid (A := [a, b, c]) (B := [a', b', c']) rfl
theorem OwL.wide {R : RecV α k} {lo hi lo' hi' : Nat} {M : Mem} {v : Value} {l : List α} (h : OwL R lo hi M v l) (h1 : lo' ≤ lo) (h2 : hi ≤ hi') : OwL R lo' hi' M v l := by
  obtain ⟨A, n, c, e1, e2, e3, e4, e5⟩ := h
  exact ⟨A, n, c, e1, e2, e3, fun a e hn => by have := e4 a e hn; omega, e5⟩
theorem OwL.isSlice {R : RecV α k} {lo hi : Nat} {M : Mem} {v : Value} {l : List α} (h : OwL R lo hi M v l) : ∃ A n c, v = .slice A n c := by
  obtain ⟨A, n, c, e1, _⟩ := h
  exact ⟨A, n, c, e1⟩
theorem OwL.one {R : RecV α k} {lo hi : Nat} {M : Mem} {v : Value} {l : List α} (h : OwL R lo hi M v l) : oneV v = true := by
  obtain ⟨A, n, c, rfl⟩ := h.isSlice
  rfl
theorem Turn.app {lo hi : Nat} {M M' L : Mem} (h : Turn lo hi (M ++ L) M') : Turn lo hi M M' :=
  ⟨Nat.le_trans (by simp) h.1, fun i s hs hd => h.2 i s (by rw [List.getElem?_append_left (List.getElem?_eq_some_iff.1 hs).1]; exact hs) hd⟩
end
def fstI {α : Type} (p : α → Bool) (l : List α) : Int := match l.findIdx? p with | some i => (i : Int) | none => -1
theorem fstI_none {α : Type} [Inhabited α] {p : α → Bool} {l : List α} (h : ∀ i, i < l.length → p (el l i) = false) : fstI p l = -1 := by
  unfold fstI
  rw [List.findIdx?_eq_none_iff.2]
  intro x hx
  obtain ⟨i, hi, rfl⟩ := List.getElem_of_mem hx
  have := h i hi
  rw [← el_eq hi] at this
  simpa using this
theorem fstI_some {α : Type} [Inhabited α] {p : α → Bool} {l : List α} {i : Nat} (hi : i < l.length) (hp : p (el l i) = true) (h : ∀ j, j < i → p (el l j) = false) : fstI p l = i := by
  unfold fstI
  rw [List.findIdx?_eq_some_iff_getElem.2 (?_ : ∃ h : i < l.length, p l[i] = true ∧ ∀ j (hj : j < i), ¬ p (l[j]'(Nat.lt_trans hj h)) = true)]
  exact ⟨hi, by rw [el_eq hi]; exact hp, fun j hj => by have := h j hj; rw [← el_eq (by omega)] at this; simpa using this⟩
def intR : RecV Int 1 := ⟨fun n => [iv n], fun _ => rfl⟩
theorem wrap_in {x : Int} (h1 : -9223372036854775808 ≤ x) (h2 : x ≤ 9223372036854775807) : IntKind.i64.wrap x = x := IntWalk.i64_in _ ⟨h1, h2⟩
theorem keeps_set {M M' : Mem} {id : Nat} {s : Slot} (hK : Keeps M M') (h : M.length ≤ id) : Keeps M (M'.set id s) := by
  unfold Keeps
  exact fun i s hs => by rw [List.getElem?_set_ne (by have := (List.getElem?_eq_some_iff.1 hs).1; omega)]; exact hK.get hs
theorem splice_whole {cs vs : List Value} (h : vs.length = cs.length) : splice cs 0 vs = vs := by
  have := splice_app vs [] cs (by omega)
  simpa [h] using this
theorem put_whole {b : Nat} {M : Mem} {id : Nat} {vs cs : List Value} {t : Bool} {e : TypeId} {z : Nat} (hr : M[id]? = some (.live ⟨cs, true, t, e, z⟩)) (hb : b ≤ id) (hl : vs.length = cs.length) (h1 : vs.all oneV = true) :
    putCells b M id 0 vs = some (M.set id (.live ⟨vs, true, t, e, z⟩)) := by
  unfold putCells
  rw [hr]
  simp only
  rw [if_pos ⟨hb, trivial, by omega, h1⟩, splice_whole hl]
theorem str_same (s : ByteArray) : strV .neq s s = some (.bool false) := by
  show some (Value.bool (!(s.toList == s.toList))) = _
  rw [beq_self_eq_true]
  rfl
theorem dec_neg {x : Int} (h : 0 ≤ x) : decide (x < 0) = false := decide_eq_false (by omega)
def inB (n lo hi : Int) : Bool := decide (lo ≤ n) && decide (n ≤ hi)
theorem inB_iff {n lo hi : Int} : inB n lo hi = true ↔ lo ≤ n ∧ n ≤ hi := by simp [inB]
end Go.Proofs.Ytbpaeonfebmomaa
