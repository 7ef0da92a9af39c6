/- What the program's types are, for simp. No conditions. -/
import Derived.Test.YthopcmglcnlcfaaAw17
import Derived.Test.YthopcmglcnlcfaaRows
namespace Go.Proofs.Ythopcmglcnlcfaa
open Go.RowKit
@[simp] theorem qL2 : qLoad Try.prog 2 = some none := by kernel_rfl
@[simp] theorem qS2 : qSize Try.prog 2 = some 1 := by kernel_rfl
@[simp] theorem qZ2 : qZero Try.prog 2 = some [.int .i64 0] := by kernel_rfl
@[simp] theorem qL3 : qLoad Try.prog 3 = some none := by kernel_rfl
@[simp] theorem qS3 : qSize Try.prog 3 = some 1 := by kernel_rfl
@[simp] theorem qZ3 : qZero Try.prog 3 = some [.int .i64 0] := by kernel_rfl
@[simp] theorem qL4 : qLoad Try.prog 4 = some none := by kernel_rfl
@[simp] theorem qS4 : qSize Try.prog 4 = some 1 := by kernel_rfl
@[simp] theorem qZ4 : qZero Try.prog 4 = some [.bool false] := by kernel_rfl
@[simp] theorem qQ4 {x y : Bool} : binV Try.prog .eql 4 (.bool x) (.bool y) = some (.bool (x == y)) := by simp [binV, eqV, Try.underlying4]
@[simp] theorem qR4 {x y : Bool} : binV Try.prog .neq 4 (.bool x) (.bool y) = some (.bool (!(x == y))) := by simp [binV, eqV, Try.underlying4]
@[simp] theorem qL5 : qLoad Try.prog 5 = some none := by kernel_rfl
@[simp] theorem qS5 : qSize Try.prog 5 = some 1 := by kernel_rfl
@[simp] theorem qZ5 : qZero Try.prog 5 = some [.int .u8 0] := by kernel_rfl
@[simp] theorem qL9 : qLoad Try.prog 9 = some none := by kernel_rfl
@[simp] theorem qS9 : qSize Try.prog 9 = some 1 := by kernel_rfl
@[simp] theorem qZ9 : qZero Try.prog 9 = some [.string ByteArray.empty] := by kernel_rfl
@[simp] theorem qN9 {S : St} {K : Value → Mem → Prop} {s : ByteArray} : lenK Try.prog S K 9 (.string s) = K (.int .i64 (s.size : Int)) S.M := lenK_str Try.underlying9
@[simp] theorem qU9 : Try.prog.underlying 9 = some .string := Try.underlying9
@[simp] theorem qL12 : qLoad Try.prog 12 = some none := by kernel_rfl
@[simp] theorem qS12 : qSize Try.prog 12 = some 1 := by kernel_rfl
@[simp] theorem qZ12 : qZero Try.prog 12 = some [.int .u64 0] := by kernel_rfl
@[simp] theorem qL13 : qLoad Try.prog 13 = some (some 2) := by kernel_rfl
@[simp] theorem qS13 : qSize Try.prog 13 = some 2 := by kernel_rfl
@[simp] theorem qZ13 : qZero Try.prog 13 = some [.string ByteArray.empty, .int .u64 0] := by kernel_rfl
@[simp] theorem qF13_0 : qField Try.prog 13 0 = some (0, none) := by kernel_rfl
@[simp] theorem qF13_1 : qField Try.prog 13 1 = some (1, none) := by kernel_rfl
@[simp] theorem qB13 : qBuild Try.prog 13 = some (#[.string ByteArray.empty, .int .u64 0], #[(0, 1), (1, 1)]) := by kernel_rfl
@[simp] theorem qL21 : qLoad Try.prog 21 = some none := by kernel_rfl
@[simp] theorem qS21 : qSize Try.prog 21 = some 1 := by kernel_rfl
@[simp] theorem qZ21 : qZero Try.prog 21 = some [.int .i32 0] := by kernel_rfl
@[simp] theorem qL22 : qLoad Try.prog 22 = some none := by kernel_rfl
@[simp] theorem qS22 : qSize Try.prog 22 = some 1 := by kernel_rfl
@[simp] theorem qZ22 : qZero Try.prog 22 = some [.slice none 0 0] := by kernel_rfl
@[simp] theorem qE22 : qSlice Try.prog 22 = some (5, 1, 1) := by kernel_rfl
@[simp] theorem qN22 {S : St} {K : Value → Mem → Prop} {q : Option Addr} {m c : Nat} : lenK Try.prog S K 22 (.slice q m c) = K (.int .i64 (m : Int)) S.M := lenK_sl Try.underlying22
@[simp] theorem qI22 : (Try.prog.info? 5).any (fun i => i.zero.any fun z => z.cells.size == 1) = true := by kernel_rfl
@[simp] theorem qL24 : qLoad Try.prog 24 = some none := by kernel_rfl
@[simp] theorem qS24 : qSize Try.prog 24 = some 1 := by kernel_rfl
@[simp] theorem qZ24 : qZero Try.prog 24 = some [.slice none 0 0] := by kernel_rfl
@[simp] theorem qE24 : qSlice Try.prog 24 = some (2, 1, 8) := by kernel_rfl
@[simp] theorem qN24 {S : St} {K : Value → Mem → Prop} {q : Option Addr} {m c : Nat} : lenK Try.prog S K 24 (.slice q m c) = K (.int .i64 (m : Int)) S.M := lenK_sl Try.underlying24
@[simp] theorem qI24 : (Try.prog.info? 2).any (fun i => i.zero.any fun z => z.cells.size == 1) = true := by kernel_rfl
@[simp] theorem qL36 : qLoad Try.prog 36 = some none := by kernel_rfl
@[simp] theorem qS36 : qSize Try.prog 36 = some 1 := by kernel_rfl
@[simp] theorem qZ36 : qZero Try.prog 36 = some [.slice none 0 0] := by kernel_rfl
@[simp] theorem qE36 : qSlice Try.prog 36 = some (89, 5, 40) := by kernel_rfl
@[simp] theorem qN36 {S : St} {K : Value → Mem → Prop} {q : Option Addr} {m c : Nat} : lenK Try.prog S K 36 (.slice q m c) = K (.int .i64 (m : Int)) S.M := lenK_sl Try.underlying36
@[simp] theorem qI36 : (Try.prog.info? 89).any (fun i => i.zero.any fun z => z.cells.size == 5) = true := by kernel_rfl
@[simp] theorem qL48 : qLoad Try.prog 48 = some none := by kernel_rfl
@[simp] theorem qS48 : qSize Try.prog 48 = some 1 := by kernel_rfl
@[simp] theorem qZ48 : qZero Try.prog 48 = some [.slice none 0 0] := by kernel_rfl
@[simp] theorem qE48 : qSlice Try.prog 48 = some (52, 5, 40) := by kernel_rfl
@[simp] theorem qN48 {S : St} {K : Value → Mem → Prop} {q : Option Addr} {m c : Nat} : lenK Try.prog S K 48 (.slice q m c) = K (.int .i64 (m : Int)) S.M := lenK_sl Try.underlying48
@[simp] theorem qI48 : (Try.prog.info? 52).any (fun i => i.zero.any fun z => z.cells.size == 5) = true := by kernel_rfl
@[simp] theorem qL49 : qLoad Try.prog 49 = some (some 1) := by kernel_rfl
@[simp] theorem qS49 : qSize Try.prog 49 = some 1 := by kernel_rfl
@[simp] theorem qZ49 : qZero Try.prog 49 = some [.slice none 0 0] := by kernel_rfl
@[simp] theorem qF49_0 : qField Try.prog 49 0 = some (0, none) := by kernel_rfl
@[simp] theorem qB49 : qBuild Try.prog 49 = some (#[.slice none 0 0], #[(0, 1)]) := by kernel_rfl
@[simp] theorem qL50 : qLoad Try.prog 50 = some (some 1) := by kernel_rfl
@[simp] theorem qS50 : qSize Try.prog 50 = some 1 := by kernel_rfl
@[simp] theorem qZ50 : qZero Try.prog 50 = some [.slice none 0 0] := by kernel_rfl
@[simp] theorem qF50_0 : qField Try.prog 50 0 = some (0, none) := by kernel_rfl
@[simp] theorem qB50 : qBuild Try.prog 50 = some (#[.slice none 0 0], #[(0, 1)]) := by kernel_rfl
@[simp] theorem qL51 : qLoad Try.prog 51 = some (some 5) := by kernel_rfl
@[simp] theorem qS51 : qSize Try.prog 51 = some 5 := by kernel_rfl
@[simp] theorem qZ51 : qZero Try.prog 51 = some [.int .i64 0, .int .i64 0, .int .i64 0, .int .i64 0, .int .i64 0] := by kernel_rfl
@[simp] theorem qF51_0 : qField Try.prog 51 0 = some (0, none) := by kernel_rfl
@[simp] theorem qF51_1 : qField Try.prog 51 1 = some (1, none) := by kernel_rfl
@[simp] theorem qF51_2 : qField Try.prog 51 2 = some (2, none) := by kernel_rfl
@[simp] theorem qF51_3 : qField Try.prog 51 3 = some (3, none) := by kernel_rfl
@[simp] theorem qF51_4 : qField Try.prog 51 4 = some (4, none) := by kernel_rfl
@[simp] theorem qB51 : qBuild Try.prog 51 = some (#[.int .i64 0, .int .i64 0, .int .i64 0, .int .i64 0, .int .i64 0], #[(0, 1), (1, 1), (2, 1), (3, 1), (4, 1)]) := by kernel_rfl
@[simp] theorem qL52 : qLoad Try.prog 52 = some (some 5) := by kernel_rfl
@[simp] theorem qS52 : qSize Try.prog 52 = some 5 := by kernel_rfl
@[simp] theorem qZ52 : qZero Try.prog 52 = some [.int .i64 0, .int .i64 0, .int .i64 0, .int .i64 0, .int .i64 0] := by kernel_rfl
@[simp] theorem qF52_0 : qField Try.prog 52 0 = some (0, none) := by kernel_rfl
@[simp] theorem qF52_1 : qField Try.prog 52 1 = some (1, none) := by kernel_rfl
@[simp] theorem qF52_2 : qField Try.prog 52 2 = some (2, none) := by kernel_rfl
@[simp] theorem qF52_3 : qField Try.prog 52 3 = some (3, none) := by kernel_rfl
@[simp] theorem qF52_4 : qField Try.prog 52 4 = some (4, none) := by kernel_rfl
@[simp] theorem qB52 : qBuild Try.prog 52 = some (#[.int .i64 0, .int .i64 0, .int .i64 0, .int .i64 0, .int .i64 0], #[(0, 1), (1, 1), (2, 1), (3, 1), (4, 1)]) := by kernel_rfl
@[simp] theorem qL54 : qLoad Try.prog 54 = some none := by kernel_rfl
@[simp] theorem qS54 : qSize Try.prog 54 = some 1 := by kernel_rfl
@[simp] theorem qZ54 : qZero Try.prog 54 = some [.slice none 0 0] := by kernel_rfl
@[simp] theorem qE54 : qSlice Try.prog 54 = some (60, 5, 40) := by kernel_rfl
@[simp] theorem qN54 {S : St} {K : Value → Mem → Prop} {q : Option Addr} {m c : Nat} : lenK Try.prog S K 54 (.slice q m c) = K (.int .i64 (m : Int)) S.M := lenK_sl Try.underlying54
@[simp] theorem qI54 : (Try.prog.info? 60).any (fun i => i.zero.any fun z => z.cells.size == 5) = true := by kernel_rfl
@[simp] theorem qL55 : qLoad Try.prog 55 = some (some 1) := by kernel_rfl
@[simp] theorem qS55 : qSize Try.prog 55 = some 1 := by kernel_rfl
@[simp] theorem qZ55 : qZero Try.prog 55 = some [.slice none 0 0] := by kernel_rfl
@[simp] theorem qF55_0 : qField Try.prog 55 0 = some (0, none) := by kernel_rfl
@[simp] theorem qB55 : qBuild Try.prog 55 = some (#[.slice none 0 0], #[(0, 1)]) := by kernel_rfl
@[simp] theorem qL56 : qLoad Try.prog 56 = some (some 1) := by kernel_rfl
@[simp] theorem qS56 : qSize Try.prog 56 = some 1 := by kernel_rfl
@[simp] theorem qZ56 : qZero Try.prog 56 = some [.slice none 0 0] := by kernel_rfl
@[simp] theorem qF56_0 : qField Try.prog 56 0 = some (0, none) := by kernel_rfl
@[simp] theorem qB56 : qBuild Try.prog 56 = some (#[.slice none 0 0], #[(0, 1)]) := by kernel_rfl
@[simp] theorem qL60 : qLoad Try.prog 60 = some (some 5) := by kernel_rfl
@[simp] theorem qS60 : qSize Try.prog 60 = some 5 := by kernel_rfl
@[simp] theorem qZ60 : qZero Try.prog 60 = some [.int .i64 0, .int .i64 0, .int .i64 0, .int .i64 0, .int .i64 0] := by kernel_rfl
@[simp] theorem qF60_0 : qField Try.prog 60 0 = some (0, none) := by kernel_rfl
@[simp] theorem qF60_1 : qField Try.prog 60 1 = some (1, none) := by kernel_rfl
@[simp] theorem qF60_2 : qField Try.prog 60 2 = some (2, none) := by kernel_rfl
@[simp] theorem qF60_3 : qField Try.prog 60 3 = some (3, none) := by kernel_rfl
@[simp] theorem qF60_4 : qField Try.prog 60 4 = some (4, none) := by kernel_rfl
@[simp] theorem qB60 : qBuild Try.prog 60 = some (#[.int .i64 0, .int .i64 0, .int .i64 0, .int .i64 0, .int .i64 0], #[(0, 1), (1, 1), (2, 1), (3, 1), (4, 1)]) := by kernel_rfl
@[simp] theorem qL68 : qLoad Try.prog 68 = some none := by kernel_rfl
@[simp] theorem qS68 : qSize Try.prog 68 = some 1 := by kernel_rfl
@[simp] theorem qZ68 : qZero Try.prog 68 = some [.slice none 0 0] := by kernel_rfl
@[simp] theorem qE68 : qSlice Try.prog 68 = some (24, 1, 24) := by kernel_rfl
@[simp] theorem qN68 {S : St} {K : Value → Mem → Prop} {q : Option Addr} {m c : Nat} : lenK Try.prog S K 68 (.slice q m c) = K (.int .i64 (m : Int)) S.M := lenK_sl Try.underlying68
@[simp] theorem qI68 : (Try.prog.info? 24).any (fun i => i.zero.any fun z => z.cells.size == 1) = true := by kernel_rfl
@[simp] theorem qL77 : qLoad Try.prog 77 = some none := by kernel_rfl
@[simp] theorem qS77 : qSize Try.prog 77 = some 1 := by kernel_rfl
@[simp] theorem qZ77 : qZero Try.prog 77 = some [.pointer none] := by kernel_rfl
@[simp] theorem qL88 : qLoad Try.prog 88 = some (some 5) := by kernel_rfl
@[simp] theorem qS88 : qSize Try.prog 88 = some 5 := by kernel_rfl
@[simp] theorem qZ88 : qZero Try.prog 88 = some [.int .i64 0, .int .i64 0, .int .i64 0, .int .i64 0, .int .i64 0] := by kernel_rfl
@[simp] theorem qF88_0 : qField Try.prog 88 0 = some (0, none) := by kernel_rfl
@[simp] theorem qF88_1 : qField Try.prog 88 1 = some (1, none) := by kernel_rfl
@[simp] theorem qF88_2 : qField Try.prog 88 2 = some (2, none) := by kernel_rfl
@[simp] theorem qF88_3 : qField Try.prog 88 3 = some (3, none) := by kernel_rfl
@[simp] theorem qF88_4 : qField Try.prog 88 4 = some (4, none) := by kernel_rfl
@[simp] theorem qB88 : qBuild Try.prog 88 = some (#[.int .i64 0, .int .i64 0, .int .i64 0, .int .i64 0, .int .i64 0], #[(0, 1), (1, 1), (2, 1), (3, 1), (4, 1)]) := by kernel_rfl
@[simp] theorem qL89 : qLoad Try.prog 89 = some (some 5) := by kernel_rfl
@[simp] theorem qS89 : qSize Try.prog 89 = some 5 := by kernel_rfl
@[simp] theorem qZ89 : qZero Try.prog 89 = some [.int .i64 0, .int .i64 0, .int .i64 0, .int .i64 0, .int .i64 0] := by kernel_rfl
@[simp] theorem qF89_0 : qField Try.prog 89 0 = some (0, none) := by kernel_rfl
@[simp] theorem qF89_1 : qField Try.prog 89 1 = some (1, none) := by kernel_rfl
@[simp] theorem qF89_2 : qField Try.prog 89 2 = some (2, none) := by kernel_rfl
@[simp] theorem qF89_3 : qField Try.prog 89 3 = some (3, none) := by kernel_rfl
@[simp] theorem qF89_4 : qField Try.prog 89 4 = some (4, none) := by kernel_rfl
@[simp] theorem qB89 : qBuild Try.prog 89 = some (#[.int .i64 0, .int .i64 0, .int .i64 0, .int .i64 0, .int .i64 0], #[(0, 1), (1, 1), (2, 1), (3, 1), (4, 1)]) := by kernel_rfl
@[simp] theorem qL95 : qLoad Try.prog 95 = some none := by kernel_rfl
@[simp] theorem qS95 : qSize Try.prog 95 = some 1 := by kernel_rfl
@[simp] theorem qZ95 : qZero Try.prog 95 = some [.pointer none] := by kernel_rfl
@[simp] theorem qL97 : qLoad Try.prog 97 = some none := by kernel_rfl
@[simp] theorem qS97 : qSize Try.prog 97 = some 1 := by kernel_rfl
@[simp] theorem qZ97 : qZero Try.prog 97 = some [.pointer none] := by kernel_rfl
@[simp] theorem qL115 : qLoad Try.prog 115 = some none := by kernel_rfl
@[simp] theorem qS115 : qSize Try.prog 115 = some 1 := by kernel_rfl
@[simp] theorem qZ115 : qZero Try.prog 115 = some [.int .u64 0] := by kernel_rfl
@[simp] theorem qL116 : qLoad Try.prog 116 = some (some 3) := by kernel_rfl
@[simp] theorem qS116 : qSize Try.prog 116 = some 3 := by kernel_rfl
@[simp] theorem qZ116 : qZero Try.prog 116 = some [.slice none 0 0, .int .i64 0, .int .u64 0] := by kernel_rfl
@[simp] theorem qF116_0 : qField Try.prog 116 0 = some (0, none) := by kernel_rfl
@[simp] theorem qF116_1 : qField Try.prog 116 1 = some (1, none) := by kernel_rfl
@[simp] theorem qF116_2 : qField Try.prog 116 2 = some (2, none) := by kernel_rfl
@[simp] theorem qB116 : qBuild Try.prog 116 = some (#[.slice none 0 0, .int .i64 0, .int .u64 0], #[(0, 1), (1, 1), (2, 1)]) := by kernel_rfl
@[simp] theorem qL117 : qLoad Try.prog 117 = some (some 3) := by kernel_rfl
@[simp] theorem qS117 : qSize Try.prog 117 = some 3 := by kernel_rfl
@[simp] theorem qZ117 : qZero Try.prog 117 = some [.slice none 0 0, .int .i64 0, .int .u64 0] := by kernel_rfl
@[simp] theorem qF117_0 : qField Try.prog 117 0 = some (0, none) := by kernel_rfl
@[simp] theorem qF117_1 : qField Try.prog 117 1 = some (1, none) := by kernel_rfl
@[simp] theorem qF117_2 : qField Try.prog 117 2 = some (2, none) := by kernel_rfl
@[simp] theorem qB117 : qBuild Try.prog 117 = some (#[.slice none 0 0, .int .i64 0, .int .u64 0], #[(0, 1), (1, 1), (2, 1)]) := by kernel_rfl
@[simp] theorem qL126 : qLoad Try.prog 126 = some none := by kernel_rfl
@[simp] theorem qS126 : qSize Try.prog 126 = some 1 := by kernel_rfl
@[simp] theorem qZ126 : qZero Try.prog 126 = some [.pointer none] := by kernel_rfl
@[simp] theorem qL127 : qLoad Try.prog 127 = some (some 4) := by kernel_rfl
@[simp] theorem qS127 : qSize Try.prog 127 = some 4 := by kernel_rfl
@[simp] theorem qZ127 : qZero Try.prog 127 = some [.string ByteArray.empty, .int .i64 0, .int .i64 0, .int .i64 0] := by kernel_rfl
@[simp] theorem qF127_0 : qField Try.prog 127 0 = some (0, none) := by kernel_rfl
@[simp] theorem qF127_1 : qField Try.prog 127 1 = some (1, none) := by kernel_rfl
@[simp] theorem qF127_2 : qField Try.prog 127 2 = some (2, none) := by kernel_rfl
@[simp] theorem qF127_3 : qField Try.prog 127 3 = some (3, none) := by kernel_rfl
@[simp] theorem qB127 : qBuild Try.prog 127 = some (#[.string ByteArray.empty, .int .i64 0, .int .i64 0, .int .i64 0], #[(0, 1), (1, 1), (2, 1), (3, 1)]) := by kernel_rfl
@[simp] theorem qL128 : qLoad Try.prog 128 = some (some 4) := by kernel_rfl
@[simp] theorem qS128 : qSize Try.prog 128 = some 4 := by kernel_rfl
@[simp] theorem qZ128 : qZero Try.prog 128 = some [.string ByteArray.empty, .int .i64 0, .int .i64 0, .int .i64 0] := by kernel_rfl
@[simp] theorem qF128_0 : qField Try.prog 128 0 = some (0, none) := by kernel_rfl
@[simp] theorem qF128_1 : qField Try.prog 128 1 = some (1, none) := by kernel_rfl
@[simp] theorem qF128_2 : qField Try.prog 128 2 = some (2, none) := by kernel_rfl
@[simp] theorem qF128_3 : qField Try.prog 128 3 = some (3, none) := by kernel_rfl
@[simp] theorem qB128 : qBuild Try.prog 128 = some (#[.string ByteArray.empty, .int .i64 0, .int .i64 0, .int .i64 0], #[(0, 1), (1, 1), (2, 1), (3, 1)]) := by kernel_rfl
@[simp] theorem qL131 : qLoad Try.prog 131 = some none := by kernel_rfl
@[simp] theorem qS131 : qSize Try.prog 131 = some 1 := by kernel_rfl
@[simp] theorem qZ131 : qZero Try.prog 131 = some [.slice none 0 0] := by kernel_rfl
@[simp] theorem qE131 : qSlice Try.prog 131 = some (9, 1, 16) := by kernel_rfl
@[simp] theorem qN131 {S : St} {K : Value → Mem → Prop} {q : Option Addr} {m c : Nat} : lenK Try.prog S K 131 (.slice q m c) = K (.int .i64 (m : Int)) S.M := lenK_sl Try.underlying131
@[simp] theorem qI131 : (Try.prog.info? 9).any (fun i => i.zero.any fun z => z.cells.size == 1) = true := by kernel_rfl
@[simp] theorem qL138 : qLoad Try.prog 138 = some none := by kernel_rfl
@[simp] theorem qS138 : qSize Try.prog 138 = some 1 := by kernel_rfl
@[simp] theorem qZ138 : qZero Try.prog 138 = some [.pointer none] := by kernel_rfl
@[simp] theorem qL141 : qLoad Try.prog 141 = some none := by kernel_rfl
@[simp] theorem qS141 : qSize Try.prog 141 = some 1 := by kernel_rfl
@[simp] theorem qZ141 : qZero Try.prog 141 = some [.int .u64 0] := by kernel_rfl
@[simp] theorem qL152 : qLoad Try.prog 152 = some none := by kernel_rfl
@[simp] theorem qS152 : qSize Try.prog 152 = some 1 := by kernel_rfl
@[simp] theorem qZ152 : qZero Try.prog 152 = some [.int .u32 0] := by kernel_rfl
@[simp] theorem qL156 : qLoad Try.prog 156 = some none := by kernel_rfl
@[simp] theorem qS156 : qSize Try.prog 156 = some 1 := by kernel_rfl
@[simp] theorem qZ156 : qZero Try.prog 156 = some [.pointer none] := by kernel_rfl
@[simp] theorem qC2_2 {k : IntKind} {z : Int} : convV Try.prog 2 2 (.int k z) = some (.int .i64 (IntKind.i64.wrap z)) := convV_int Try.underlying2 Try.underlying2
@[simp] theorem qC2_3 {k : IntKind} {z : Int} : convV Try.prog 2 3 (.int k z) = some (.int .i64 (IntKind.i64.wrap z)) := convV_int Try.underlying2 Try.underlying3
@[simp] theorem qC2_5 {k : IntKind} {z : Int} : convV Try.prog 2 5 (.int k z) = some (.int .u8 (IntKind.u8.wrap z)) := convV_int Try.underlying2 Try.underlying5
@[simp] theorem qC2_12 {k : IntKind} {z : Int} : convV Try.prog 2 12 (.int k z) = some (.int .u64 (IntKind.u64.wrap z)) := convV_int Try.underlying2 Try.underlying12
@[simp] theorem qC2_21 {k : IntKind} {z : Int} : convV Try.prog 2 21 (.int k z) = some (.int .i32 (IntKind.i32.wrap z)) := convV_int Try.underlying2 Try.underlying21
@[simp] theorem qC2_115 {k : IntKind} {z : Int} : convV Try.prog 2 115 (.int k z) = some (.int .u64 (IntKind.u64.wrap z)) := convV_int Try.underlying2 Try.underlying115
@[simp] theorem qC2_141 {k : IntKind} {z : Int} : convV Try.prog 2 141 (.int k z) = some (.int .u64 (IntKind.u64.wrap z)) := convV_int Try.underlying2 Try.underlying141
@[simp] theorem qC2_152 {k : IntKind} {z : Int} : convV Try.prog 2 152 (.int k z) = some (.int .u32 (IntKind.u32.wrap z)) := convV_int Try.underlying2 Try.underlying152
@[simp] theorem qC3_2 {k : IntKind} {z : Int} : convV Try.prog 3 2 (.int k z) = some (.int .i64 (IntKind.i64.wrap z)) := convV_int Try.underlying3 Try.underlying2
@[simp] theorem qC3_3 {k : IntKind} {z : Int} : convV Try.prog 3 3 (.int k z) = some (.int .i64 (IntKind.i64.wrap z)) := convV_int Try.underlying3 Try.underlying3
@[simp] theorem qC3_5 {k : IntKind} {z : Int} : convV Try.prog 3 5 (.int k z) = some (.int .u8 (IntKind.u8.wrap z)) := convV_int Try.underlying3 Try.underlying5
@[simp] theorem qC3_12 {k : IntKind} {z : Int} : convV Try.prog 3 12 (.int k z) = some (.int .u64 (IntKind.u64.wrap z)) := convV_int Try.underlying3 Try.underlying12
@[simp] theorem qC3_21 {k : IntKind} {z : Int} : convV Try.prog 3 21 (.int k z) = some (.int .i32 (IntKind.i32.wrap z)) := convV_int Try.underlying3 Try.underlying21
@[simp] theorem qC3_115 {k : IntKind} {z : Int} : convV Try.prog 3 115 (.int k z) = some (.int .u64 (IntKind.u64.wrap z)) := convV_int Try.underlying3 Try.underlying115
@[simp] theorem qC3_141 {k : IntKind} {z : Int} : convV Try.prog 3 141 (.int k z) = some (.int .u64 (IntKind.u64.wrap z)) := convV_int Try.underlying3 Try.underlying141
@[simp] theorem qC3_152 {k : IntKind} {z : Int} : convV Try.prog 3 152 (.int k z) = some (.int .u32 (IntKind.u32.wrap z)) := convV_int Try.underlying3 Try.underlying152
@[simp] theorem qC5_2 {k : IntKind} {z : Int} : convV Try.prog 5 2 (.int k z) = some (.int .i64 (IntKind.i64.wrap z)) := convV_int Try.underlying5 Try.underlying2
@[simp] theorem qC5_3 {k : IntKind} {z : Int} : convV Try.prog 5 3 (.int k z) = some (.int .i64 (IntKind.i64.wrap z)) := convV_int Try.underlying5 Try.underlying3
@[simp] theorem qC5_5 {k : IntKind} {z : Int} : convV Try.prog 5 5 (.int k z) = some (.int .u8 (IntKind.u8.wrap z)) := convV_int Try.underlying5 Try.underlying5
@[simp] theorem qC5_12 {k : IntKind} {z : Int} : convV Try.prog 5 12 (.int k z) = some (.int .u64 (IntKind.u64.wrap z)) := convV_int Try.underlying5 Try.underlying12
@[simp] theorem qC5_21 {k : IntKind} {z : Int} : convV Try.prog 5 21 (.int k z) = some (.int .i32 (IntKind.i32.wrap z)) := convV_int Try.underlying5 Try.underlying21
@[simp] theorem qC5_115 {k : IntKind} {z : Int} : convV Try.prog 5 115 (.int k z) = some (.int .u64 (IntKind.u64.wrap z)) := convV_int Try.underlying5 Try.underlying115
@[simp] theorem qC5_141 {k : IntKind} {z : Int} : convV Try.prog 5 141 (.int k z) = some (.int .u64 (IntKind.u64.wrap z)) := convV_int Try.underlying5 Try.underlying141
@[simp] theorem qC5_152 {k : IntKind} {z : Int} : convV Try.prog 5 152 (.int k z) = some (.int .u32 (IntKind.u32.wrap z)) := convV_int Try.underlying5 Try.underlying152
@[simp] theorem qC12_2 {k : IntKind} {z : Int} : convV Try.prog 12 2 (.int k z) = some (.int .i64 (IntKind.i64.wrap z)) := convV_int Try.underlying12 Try.underlying2
@[simp] theorem qC12_3 {k : IntKind} {z : Int} : convV Try.prog 12 3 (.int k z) = some (.int .i64 (IntKind.i64.wrap z)) := convV_int Try.underlying12 Try.underlying3
@[simp] theorem qC12_5 {k : IntKind} {z : Int} : convV Try.prog 12 5 (.int k z) = some (.int .u8 (IntKind.u8.wrap z)) := convV_int Try.underlying12 Try.underlying5
@[simp] theorem qC12_12 {k : IntKind} {z : Int} : convV Try.prog 12 12 (.int k z) = some (.int .u64 (IntKind.u64.wrap z)) := convV_int Try.underlying12 Try.underlying12
@[simp] theorem qC12_21 {k : IntKind} {z : Int} : convV Try.prog 12 21 (.int k z) = some (.int .i32 (IntKind.i32.wrap z)) := convV_int Try.underlying12 Try.underlying21
@[simp] theorem qC12_115 {k : IntKind} {z : Int} : convV Try.prog 12 115 (.int k z) = some (.int .u64 (IntKind.u64.wrap z)) := convV_int Try.underlying12 Try.underlying115
@[simp] theorem qC12_141 {k : IntKind} {z : Int} : convV Try.prog 12 141 (.int k z) = some (.int .u64 (IntKind.u64.wrap z)) := convV_int Try.underlying12 Try.underlying141
@[simp] theorem qC12_152 {k : IntKind} {z : Int} : convV Try.prog 12 152 (.int k z) = some (.int .u32 (IntKind.u32.wrap z)) := convV_int Try.underlying12 Try.underlying152
@[simp] theorem qC21_2 {k : IntKind} {z : Int} : convV Try.prog 21 2 (.int k z) = some (.int .i64 (IntKind.i64.wrap z)) := convV_int Try.underlying21 Try.underlying2
@[simp] theorem qC21_3 {k : IntKind} {z : Int} : convV Try.prog 21 3 (.int k z) = some (.int .i64 (IntKind.i64.wrap z)) := convV_int Try.underlying21 Try.underlying3
@[simp] theorem qC21_5 {k : IntKind} {z : Int} : convV Try.prog 21 5 (.int k z) = some (.int .u8 (IntKind.u8.wrap z)) := convV_int Try.underlying21 Try.underlying5
@[simp] theorem qC21_12 {k : IntKind} {z : Int} : convV Try.prog 21 12 (.int k z) = some (.int .u64 (IntKind.u64.wrap z)) := convV_int Try.underlying21 Try.underlying12
@[simp] theorem qC21_21 {k : IntKind} {z : Int} : convV Try.prog 21 21 (.int k z) = some (.int .i32 (IntKind.i32.wrap z)) := convV_int Try.underlying21 Try.underlying21
@[simp] theorem qC21_115 {k : IntKind} {z : Int} : convV Try.prog 21 115 (.int k z) = some (.int .u64 (IntKind.u64.wrap z)) := convV_int Try.underlying21 Try.underlying115
@[simp] theorem qC21_141 {k : IntKind} {z : Int} : convV Try.prog 21 141 (.int k z) = some (.int .u64 (IntKind.u64.wrap z)) := convV_int Try.underlying21 Try.underlying141
@[simp] theorem qC21_152 {k : IntKind} {z : Int} : convV Try.prog 21 152 (.int k z) = some (.int .u32 (IntKind.u32.wrap z)) := convV_int Try.underlying21 Try.underlying152
@[simp] theorem qC115_2 {k : IntKind} {z : Int} : convV Try.prog 115 2 (.int k z) = some (.int .i64 (IntKind.i64.wrap z)) := convV_int Try.underlying115 Try.underlying2
@[simp] theorem qC115_3 {k : IntKind} {z : Int} : convV Try.prog 115 3 (.int k z) = some (.int .i64 (IntKind.i64.wrap z)) := convV_int Try.underlying115 Try.underlying3
@[simp] theorem qC115_5 {k : IntKind} {z : Int} : convV Try.prog 115 5 (.int k z) = some (.int .u8 (IntKind.u8.wrap z)) := convV_int Try.underlying115 Try.underlying5
@[simp] theorem qC115_12 {k : IntKind} {z : Int} : convV Try.prog 115 12 (.int k z) = some (.int .u64 (IntKind.u64.wrap z)) := convV_int Try.underlying115 Try.underlying12
@[simp] theorem qC115_21 {k : IntKind} {z : Int} : convV Try.prog 115 21 (.int k z) = some (.int .i32 (IntKind.i32.wrap z)) := convV_int Try.underlying115 Try.underlying21
@[simp] theorem qC115_115 {k : IntKind} {z : Int} : convV Try.prog 115 115 (.int k z) = some (.int .u64 (IntKind.u64.wrap z)) := convV_int Try.underlying115 Try.underlying115
@[simp] theorem qC115_141 {k : IntKind} {z : Int} : convV Try.prog 115 141 (.int k z) = some (.int .u64 (IntKind.u64.wrap z)) := convV_int Try.underlying115 Try.underlying141
@[simp] theorem qC115_152 {k : IntKind} {z : Int} : convV Try.prog 115 152 (.int k z) = some (.int .u32 (IntKind.u32.wrap z)) := convV_int Try.underlying115 Try.underlying152
@[simp] theorem qC141_2 {k : IntKind} {z : Int} : convV Try.prog 141 2 (.int k z) = some (.int .i64 (IntKind.i64.wrap z)) := convV_int Try.underlying141 Try.underlying2
@[simp] theorem qC141_3 {k : IntKind} {z : Int} : convV Try.prog 141 3 (.int k z) = some (.int .i64 (IntKind.i64.wrap z)) := convV_int Try.underlying141 Try.underlying3
@[simp] theorem qC141_5 {k : IntKind} {z : Int} : convV Try.prog 141 5 (.int k z) = some (.int .u8 (IntKind.u8.wrap z)) := convV_int Try.underlying141 Try.underlying5
@[simp] theorem qC141_12 {k : IntKind} {z : Int} : convV Try.prog 141 12 (.int k z) = some (.int .u64 (IntKind.u64.wrap z)) := convV_int Try.underlying141 Try.underlying12
@[simp] theorem qC141_21 {k : IntKind} {z : Int} : convV Try.prog 141 21 (.int k z) = some (.int .i32 (IntKind.i32.wrap z)) := convV_int Try.underlying141 Try.underlying21
@[simp] theorem qC141_115 {k : IntKind} {z : Int} : convV Try.prog 141 115 (.int k z) = some (.int .u64 (IntKind.u64.wrap z)) := convV_int Try.underlying141 Try.underlying115
@[simp] theorem qC141_141 {k : IntKind} {z : Int} : convV Try.prog 141 141 (.int k z) = some (.int .u64 (IntKind.u64.wrap z)) := convV_int Try.underlying141 Try.underlying141
@[simp] theorem qC141_152 {k : IntKind} {z : Int} : convV Try.prog 141 152 (.int k z) = some (.int .u32 (IntKind.u32.wrap z)) := convV_int Try.underlying141 Try.underlying152
@[simp] theorem qC152_2 {k : IntKind} {z : Int} : convV Try.prog 152 2 (.int k z) = some (.int .i64 (IntKind.i64.wrap z)) := convV_int Try.underlying152 Try.underlying2
@[simp] theorem qC152_3 {k : IntKind} {z : Int} : convV Try.prog 152 3 (.int k z) = some (.int .i64 (IntKind.i64.wrap z)) := convV_int Try.underlying152 Try.underlying3
@[simp] theorem qC152_5 {k : IntKind} {z : Int} : convV Try.prog 152 5 (.int k z) = some (.int .u8 (IntKind.u8.wrap z)) := convV_int Try.underlying152 Try.underlying5
@[simp] theorem qC152_12 {k : IntKind} {z : Int} : convV Try.prog 152 12 (.int k z) = some (.int .u64 (IntKind.u64.wrap z)) := convV_int Try.underlying152 Try.underlying12
@[simp] theorem qC152_21 {k : IntKind} {z : Int} : convV Try.prog 152 21 (.int k z) = some (.int .i32 (IntKind.i32.wrap z)) := convV_int Try.underlying152 Try.underlying21
@[simp] theorem qC152_115 {k : IntKind} {z : Int} : convV Try.prog 152 115 (.int k z) = some (.int .u64 (IntKind.u64.wrap z)) := convV_int Try.underlying152 Try.underlying115
@[simp] theorem qC152_141 {k : IntKind} {z : Int} : convV Try.prog 152 141 (.int k z) = some (.int .u64 (IntKind.u64.wrap z)) := convV_int Try.underlying152 Try.underlying141
@[simp] theorem qC152_152 {k : IntKind} {z : Int} : convV Try.prog 152 152 (.int k z) = some (.int .u32 (IntKind.u32.wrap z)) := convV_int Try.underlying152 Try.underlying152
@[simp] theorem qG9_9 {S : St} {K : Value → Mem → Prop} {s : ByteArray} : s2K Try.prog S K 9 9 s = K (.string s) S.M := s2K_str Try.underlying9 Try.underlying9
@[simp] theorem qH9_22 {S : St} {K : Value → Mem → Prop} {s : ByteArray} : s2K Try.prog S K 9 22 s = (s.size ≤ 1099511627776 ∧ K (.slice (some ⟨S.M.length, 0, none⟩) s.size s.size) (S.M ++ [.live ⟨byteCells s, true, false, 5, 1⟩])) := s2K_sl Try.underlying9 Try.underlying22 Try.underlying5
end Go.Proofs.Ythopcmglcnlcfaa
