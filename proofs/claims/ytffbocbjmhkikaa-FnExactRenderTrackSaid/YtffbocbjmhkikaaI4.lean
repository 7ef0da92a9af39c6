/- Nodes: the program's table of kinds, its test of a node. No conditions. -/
import Derived.Test.YtffbocbjmhkikaaI3
namespace Go.Proofs.Ytffbocbjmhkikaa
open Go.RowKit
set_option linter.unusedVariables false
set_option linter.unusedSimpArgs false
set_option maxRecDepth 100000
attribute [local simp] List.getElem?_cons_zero
attribute [local irreducible] awCond awCall awLoop awDraw ow retQ retC resQ Keeps
structure Kd where
  name : ByteArray
  (inp lo hi : Int)
  (lin hasB : Bool)
instance : Inhabited Kd := ⟨⟨.empty, 0, 0, 0, false, false⟩⟩
def Kd.row (c : Kd) : List Value := [.string c.name, iv c.inp, iv c.lo, iv c.hi, .bool c.lin, .bool c.hasB]
def kdR : RecV Kd 6 := ⟨Kd.row, fun _ => rfl⟩
def kindsL : List Kd := [⟨{ data := #[105, 110, 112, 117, 116] }, 0, 0, 3, true, false⟩, ⟨{ data := #[99, 111, 110, 115, 116] }, 0, (-2147483648), 2147483647, false, false⟩, ⟨{ data := #[97, 100, 100] }, 2, 1, 0, true, false⟩, ⟨{ data := #[115, 117, 98] }, 2, 1, 0, true, false⟩, ⟨{ data := #[103, 97, 105, 110] }, 1, (-2147483648), 2147483647, true, false⟩, ⟨{ data := #[100, 101, 108, 97, 121] }, 1, 1, 16, true, false⟩, ⟨{ data := #[115, 117, 109] }, 1, 1, 0, true, false⟩, ⟨{ data := #[100, 105, 102, 102] }, 1, 1, 0, true, false⟩, ⟨{ data := #[109, 117, 108] }, 2, 1, 0, false, false⟩, ⟨{ data := #[115, 104, 105, 102, 116] }, 1, 0, 31, false, false⟩, ⟨{ data := #[99, 108, 105, 112] }, 1, 0, 2147483647, false, false⟩, ⟨{ data := #[112, 104, 97, 115, 101] }, 1, (-2147483648), 2147483647, false, false⟩, ⟨{ data := #[116, 97, 98, 108, 101] }, 1, 0, 3, false, false⟩, ⟨{ data := #[110, 111, 105, 115, 101] }, 0, (-2147483648), 2147483647, false, false⟩, ⟨{ data := #[115, 101, 108, 101, 99, 116] }, 3, 1, 0, false, false⟩, ⟨{ data := #[104, 111, 108, 100] }, 2, 1, 0, false, false⟩, ⟨{ data := #[99, 111, 109, 98] }, 1, (-2147483648), 2147483647, true, true⟩]
theorem fill_recs {α : Type} {k : Nat} (R : RecV α k) (l : List α) {n : Nat} {z : List Value} (hk : 0 < k) (hn : l.length = n) (hz : z.length = k) : Instr.fill (fun i => some (i * k, k)) (zrow z n).toArray (((l.map fun a => Value.agg (R.row a).toArray).zipIdx 0).map fun x => (x.2, x.1)) = some (cellsL R l).toArray := by
  have hzl : ∀ n, (zrow z n).length = n * k := by
    intro n
    induction n with
    | zero => simp [zrow_zero']
    | succ n ih => rw [zrow_succ, List.length_append, ih, hz, Nat.add_mul]; omega
  have h := Go.Great.fill_whole (s := k) hk (l.map fun a => Value.agg (R.row a).toArray) (zrow z n).toArray (fun v hv => by
    obtain ⟨x, -, rfl⟩ := List.mem_map.1 hv
    show (R.row x).toArray.size = k
    rw [List.size_toArray, R.len]) (by simp [hzl, hn])
  rw [h]
  congr 2
  clear h hn hzl
  induction l with
  | nil => rfl
  | cons a l ih => simp only [List.map_cons, List.flatMap_cons, ih, cellsL_cons]; rfl
theorem kd_build (s : ByteArray) (a b c : Int) (l h : Bool) : Instr.fill (fun x => [(0, 1), (1, 1), (2, 1), (3, 1), (4, 1), (5, 1)][x]?) #[.string .empty, iv 0, iv 0, iv 0, .bool false, .bool false] [(0, .string s), (1, iv a), (2, iv b), (3, iv c), (4, .bool l), (5, .bool h)] = some #[.string s, iv a, iv b, iv c, .bool l, .bool h] := by
  simp [Instr.fill, Value.cells]
theorem kinds_fill : Instr.fill (fun i => some (i * 6, 6)) (zrow [.string .empty, iv 0, iv 0, iv 0, .bool false, .bool false] 17).toArray [(0, .agg #[.string { data := #[105, 110, 112, 117, 116] }, iv 0, iv 0, iv 3, .bool true, .bool false]), (1, .agg #[.string { data := #[99, 111, 110, 115, 116] }, iv 0, iv (-2147483648), iv 2147483647, .bool false, .bool false]), (2, .agg #[.string { data := #[97, 100, 100] }, iv 2, iv 1, iv 0, .bool true, .bool false]), (3, .agg #[.string { data := #[115, 117, 98] }, iv 2, iv 1, iv 0, .bool true, .bool false]), (4, .agg #[.string { data := #[103, 97, 105, 110] }, iv 1, iv (-2147483648), iv 2147483647, .bool true, .bool false]), (5, .agg #[.string { data := #[100, 101, 108, 97, 121] }, iv 1, iv 1, iv 16, .bool true, .bool false]), (6, .agg #[.string { data := #[115, 117, 109] }, iv 1, iv 1, iv 0, .bool true, .bool false]), (7, .agg #[.string { data := #[100, 105, 102, 102] }, iv 1, iv 1, iv 0, .bool true, .bool false]), (8, .agg #[.string { data := #[109, 117, 108] }, iv 2, iv 1, iv 0, .bool false, .bool false]), (9, .agg #[.string { data := #[115, 104, 105, 102, 116] }, iv 1, iv 0, iv 31, .bool false, .bool false]), (10, .agg #[.string { data := #[99, 108, 105, 112] }, iv 1, iv 0, iv 2147483647, .bool false, .bool false]), (11, .agg #[.string { data := #[112, 104, 97, 115, 101] }, iv 1, iv (-2147483648), iv 2147483647, .bool false, .bool false]), (12, .agg #[.string { data := #[116, 97, 98, 108, 101] }, iv 1, iv 0, iv 3, .bool false, .bool false]), (13, .agg #[.string { data := #[110, 111, 105, 115, 101] }, iv 0, iv (-2147483648), iv 2147483647, .bool false, .bool false]), (14, .agg #[.string { data := #[115, 101, 108, 101, 99, 116] }, iv 3, iv 1, iv 0, .bool false, .bool false]), (15, .agg #[.string { data := #[104, 111, 108, 100] }, iv 2, iv 1, iv 0, .bool false, .bool false]), (16, .agg #[.string { data := #[99, 111, 109, 98] }, iv 1, iv (-2147483648), iv 2147483647, .bool true, .bool true])] = some (cellsL kdR kindsL).toArray := by
  have h := fill_recs kdR kindsL (n := 17) (z := [.string .empty, iv 0, iv 0, iv 0, .bool false, .bool false]) (by omega) rfl rfl
  generalize hX : (cellsL kdR kindsL).toArray = X at h ⊢
  clear hX
  simp only [kindsL, List.map_cons, List.map_nil, List.zipIdx_cons, List.zipIdx_nil, kdR, Kd.row, Nat.zero_add, Nat.reduceAdd] at h
  exact h
def hasAB (k : Kd) : Bool := decide (k.lo ≤ k.hi)
def kOf (x : Node) : Kd := el kindsL (x.k - 1).toNat
def numB (k : Kd) (x : Node) : Bool := !((hasAB k && !inB x.a k.lo k.hi) || (!hasAB k && decide (x.a ≠ 0)) || (k.hasB && !inB x.b 1 16) || (!k.hasB && decide (x.b ≠ 0)))
def endB (k : Kd) (x : Node) (t : Int) : Bool := decide ((x.from_.length : Int) = k.inp) && (decide (x.k ≠ 13) || decide (x.a < t))
def nodeB (x : Node) (t : Int) : Bool := inB x.k 1 17 && (numB (kOf x) x && (x.from_.all (fun f => inB f 0 23) && endB (kOf x) x t))
def arityL : List Int := [-1, 0, 0, 2, 2, 1, 1, 1, 1, 2, 1, 1, 1, 1, 0, 3, 2, 1]
def hasAL : List Int := [1, 2, 5, 6, 10, 11, 12, 13, 14, 17]
def aB (x : Node) (t : Int) : Bool := if x.k = 1 then inB x.a 0 3 else if x.k = 6 then inB x.a 1 16 else if x.k = 10 then inB x.a 0 31 else if x.k = 11 then inB x.a 0 2147483647 else if x.k = 13 then inB x.a 0 (min (max t 0) 4 - 1) else if x.k ∈ hasAL then sampleB x.a else decide (x.a = 0)
def nodeB2 (x : Node) (t : Int) : Bool := inB x.k 1 17 && (aB x t && (decide ((x.from_.length : Int) = el arityL x.k.toNat) && (x.from_.all (fun f => inB f 0 23) && if x.k = 17 then inB x.b 1 16 else decide (x.b = 0))))
theorem nodeB_eq (x : Node) (t : Int) : nodeB x t = nodeB2 x t := by
  by_cases hk : inB x.k 1 17 = true
  case neg => simp [nodeB, nodeB2, hk]
  have hr := inB_iff.1 hk
  unfold nodeB nodeB2
  rw [hk, Bool.true_and, Bool.true_and]
  generalize x.from_.all (fun f => inB f 0 23) = F
  obtain ⟨k, a, b, l⟩ := x
  simp only at hr hk ⊢
  have h17 : k = 1 ∨ k = 2 ∨ k = 3 ∨ k = 4 ∨ k = 5 ∨ k = 6 ∨ k = 7 ∨ k = 8 ∨ k = 9 ∨ k = 10 ∨ k = 11 ∨ k = 12 ∨ k = 13 ∨ k = 14 ∨ k = 15 ∨ k = 16 ∨ k = 17 := by omega
  clear hr hk
  cases F
  · simp
  rcases h17 with h | h | h | h | h | h | h | h | h | h | h | h | h | h | h | h | h
  all_goals
    subst h
    simp only [numB, endB, kOf, hasAB, aB, kindsL, arityL, hasAL, el, sampleB]
    generalize (l.length : Int) = n
    simp
    rw [Bool.eq_iff_iff]
    simp [inB_iff]
    try omega
theorem kinds_i {M : Mem} : Det Try.prog M.length 184 [] M (.slice (some ⟨M.length, 0, none⟩) 17 17) (M ++ [.live ⟨cellsL kdR kindsL, true, true, 201, 6⟩]) := by
  refine Ctr.det ?_
  first | (refine ctr_fn Try.func184 rfl Try.ntmps184 Try.results184 rfl rfl (by simp) ?_) | (refine ctr_fnC Try.func184 rfl Try.ntmps184 Try.results184 rfl (by simp) ?_)
  simp [kd_build]
  rw [kinds_fill, ow_some]
  simp
end Go.Proofs.Ytffbocbjmhkikaa
