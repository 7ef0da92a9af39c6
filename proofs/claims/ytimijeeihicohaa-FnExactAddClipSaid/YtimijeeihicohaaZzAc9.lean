/- Parts of the proof, together: slices.Insert of one clip into a list of clips. slices.Insert of one clip: what it leaves, in cells. slices.Insert of one clip: as a contract. Track: a struct that holds a slice of records. Tracks: is one valid. Tracks: one clip more, both packages. Tracks: a clip is put, the program. No conditions. -/
import Derived.Test.YtimijeeihicohaaZzAc8
import Derived.Shelf.Spec.SlicesInsert
import Derived.Lib.AppendZerosOnto
import Derived.Laws.NewBlocks
namespace Go.Proofs.Ytimijeeihicohaa
open Go.Shelf Go.Lib
open Go.RowKit
set_option linter.unusedVariables false
set_option linter.unusedSimpArgs false
set_option maxRecDepth 100000
attribute [local simp] List.getElem?_cons_zero
attribute [local irreducible] awCond awCall awLoop awDraw ow retQ retC resQ Keeps
theorem copy_rows {P : Program} (w : World) (dT sT ty elem : TypeId) (z b o dLen dCap : Nat) (a : Addr) (sLen sCap : Nat) (cs : List Value)
    (hu : P.underlying dT = some (.slice elem)) (hs : (P.info? elem).map (·.size) = some z) (hn : cs.length = Nat.min sLen dLen * z)
    (hsrc : ∀ j v, cs[j]? = some v → w.cell? (a.add j) = some v) (hc : ∀ j, j < cs.length → (w.cell? ⟨b, o + j, none⟩).isSome = true) (hf : ∀ j, j < cs.length → w.frozen? ⟨b, o + j, none⟩ = false) (h1 : ∀ v ∈ cs, v.oneCell' = true) :
    (Builtin.copy_ #[dT, sT] ty #[.slice (some ⟨b, o, none⟩) dLen dCap, .slice (some a) sLen sCap]).run P w = .ok (goInt (Nat.min sLen dLen)) (w.setCells b o cs) := by
  have hl := run_loadCells_list (P := P) w a cs hsrc
  have hst := run_storeCells_cells (P := P) b o cs 0 w (by simpa using hc) (by simpa using hf) h1
  cases hq : P.info? elem with
  | none => simp [hq] at hs
  | some i =>
    have hi : i.size = z := by simpa [hq] using hs
    rw [hn] at hl
    simp [Builtin.copy_, run_underlying hu, Builtin.lenOf, Builtin.firstCells, sizeOf, typeInfo, hq, hi, hl, hst]
set_option maxHeartbeats 4000000 in
set_option maxRecDepth 100000 in
theorem ins_shift (b n c i vc : Nat) (va : Addr) (cs vs : List Value) (w : World) (hi : i < n) (hroom : n + 1 ≤ c) (hc63 : c ≤ 9223372036854775807)
    (hcl : cs.length = n * 5) (hvl : vs.length = 5)
    (hcs : ∀ j v, cs[j]? = some v → w.cell? ⟨b, j, none⟩ = some v) (hsp : ∀ j, j < (n + 1) * 5 → (w.cell? ⟨b, j, none⟩).isSome = true) (hfz : ∀ j, j < (n + 1) * 5 → w.frozen? ⟨b, j, none⟩ = false)
    (hvb : va.block ≠ b) (hvs : ∀ j v, vs[j]? = some v → w.cell? (va.add j) = some v) (h1c : ∀ v ∈ cs, v.oneCell' = true) (h1v : ∀ v ∈ vs, v.oneCell' = true)
    (hov : ∀ lb cb, (callFunc 96 #[.slice (some va) 1 vc, .slice (some ⟨b, (i + 1) * 5, none⟩) lb cb]).run Try.prog w = .ok (.value (.bool false)) w) :
    Calls Try.prog 65 #[.slice (some ⟨b, 0, none⟩) n c, .int .i64 i, .slice (some va) 1 vc] w fun e w' =>
      e = .returned (.slice (some ⟨b, 0, none⟩) (n + 1) c) ∧ w' = (w.drew.setCells b ((i + 1) * 5) (cs.drop (i * 5))).setCells b (i * 5) vs := by
  have mixed : Try.prog.follows .mixedOrders = true := by kernel_rfl
  have hsz : (Try.prog.info? 34).map (·.size) = some 5 := by kernel_rfl
  have hz2 : ¬ ((i : Int) = (n : Int)) := by omega
  have hw1 : IntKind.i64.wrap ((i : Int) + 1) = (i : Int) + 1 := by rw [IntKind.wrap_i64]; omega
  have hb1 : (0 : Int) ≤ (i : Int) + 1 := by omega
  have htn : ((i : Int) + 1).toNat = i + 1 := by omega
  have hb2 : ¬ (c = i + 1) := by omega
  have hb4 : ¬ (c = i) := by omega
  have hin : i ≤ n := by omega
  have hb3 : (i : Int) ≤ (n : Int) + 1 := by omega
  have hdl : (cs.drop (i * 5)).length = (n - i) * 5 := by rw [List.length_drop, hcl]; omega
  have hcp1 : ∀ ty dc sc, (Builtin.copy_ #[28, 28] ty #[.slice (some ⟨b, (i + 1) * 5, none⟩) (n - i) dc, .slice (some ⟨b, i * 5, none⟩) (n + 1 - i) sc]).run Try.prog w.drew = .ok (goInt (Nat.min (n + 1 - i) (n - i))) (w.drew.setCells b ((i + 1) * 5) (cs.drop (i * 5))) := fun ty dc sc =>
    copy_rows w.drew _ _ ty 34 5 b ((i + 1) * 5) (n - i) dc ⟨b, i * 5, none⟩ (n + 1 - i) sc (cs.drop (i * 5)) Try.underlying28 hsz (by rw [hdl]; simp only [Nat.min_def]; split <;> omega)
      (fun j v hj => by rw [Addr.add_lit]; exact hcs (i * 5 + j) v (by rwa [List.getElem?_drop] at hj))
      (fun j hj => hsp _ (by omega)) (fun j hj => hfz _ (by omega)) (fun v hv => h1c v (List.mem_of_mem_drop hv))
  obtain ⟨W1, hW1⟩ : ∃ W1, W1 = w.drew.setCells b ((i + 1) * 5) (cs.drop (i * 5)) := ⟨_, rfl⟩
  have hsp1 : ∀ k, k < (n + 1) * 5 → (W1.cell? ⟨b, k, none⟩).isSome = true := fun k hk => by
    rw [hW1]
    exact isSome_setCells b (cs.drop (i * 5)) ((i + 1) * 5) w.drew (fun j hj => hsp _ (by rw [hdl] at hj; omega)) _ (hsp k hk)
  have hcp2 : ∀ (W : World), (∀ x, W.cell? x = W1.cell? x) → (∀ x, W.frozen? x = W1.frozen? x) → ∀ ty dc, (Builtin.copy_ #[28, 28] ty #[.slice (some ⟨b, i * 5, none⟩) (n + 1 - i) dc, .slice (some va) 1 vc]).run Try.prog W = .ok (goInt (Nat.min 1 (n + 1 - i))) (W.setCells b (i * 5) vs) := fun W hWc hWf ty dc =>
    copy_rows W _ _ ty 34 5 b (i * 5) (n + 1 - i) dc va 1 vc vs Try.underlying28 hsz (by rw [hvl]; simp only [Nat.min_def]; split <;> omega)
      (fun j v hj => by
        rw [hWc, hW1, World.cell?_setCells_out b _ _ _ _ (fun h _ => absurd (by rw [← h]; unfold Addr.add; split <;> rfl) hvb)]
        exact hvs j v hj)
      (fun j hj => by rw [hWc]; exact hsp1 _ (by omega)) (fun j hj => by rw [hWf, hW1, World.frozen?_setCells]; exact hfz _ (by omega)) h1v
  rw [← hW1] at hcp1
  go_enter Try.func65, Try.ntmps65
  go_wp2_with (simp only [hov])
  go_region_law_o (refine step_copy_runI rfl _ _ 28 28 rfl _ _ (by simp [Act.eval, Act.put]) (by simp [Act.eval, Act.put]) (hcp1 _ _ _) ?_)
  go_wp2_with (at_builtin; refine wpList_copy_runI _ rfl _ _ 28 28 rfl _ _ rfl rfl (hcp2 _ (fun _ => rfl) (fun _ => rfl) _ _) ?_)
  go_ret
  first | exact ⟨rfl, rfl⟩ | exact ⟨rfl, by rw [hW1]⟩
set_option maxHeartbeats 4000000 in
set_option maxRecDepth 100000 in
theorem ins_end (b n c vc : Nat) (va : Addr) (w : World) (hn : n ≤ c) (hc63 : c ≤ 9223372036854775807) {v' : Value} {w' : World}
    (hr : ∀ ty, (Builtin.append_ #[28, 28] ty #[.slice (some ⟨b, 0, none⟩) n c, .slice (some va) 1 vc]).run Try.prog w = .ok v' w') :
    Calls Try.prog 65 #[.slice (some ⟨b, 0, none⟩) n c, .int .i64 n, .slice (some va) 1 vc] w fun e w2 => e = .returned v' ∧ w2 = w' := by
  have mixed : Try.prog.follows .mixedOrders = true := by kernel_rfl
  go_enter Try.func65, Try.ntmps65
  go_wp2_with (at_builtin; refine Lib.wpList_append_run _ rfl _ _ _ _ rfl _ _ rfl rfl _ _ (hr _) ?_)
  all_goals (go_ret; exact ⟨rfl, rfl⟩)
set_option maxHeartbeats 4000000 in
set_option maxRecDepth 100000 in
theorem ins_nil (vc : Nat) (va : Addr) (w : World) {v' : Value} {w' : World}
    (hr : ∀ ty, (Builtin.append_ #[28, 28] ty #[.slice none 0 0, .slice (some va) 1 vc]).run Try.prog w = .ok v' w') :
    Calls Try.prog 65 #[.slice none 0 0, .int .i64 0, .slice (some va) 1 vc] w fun e w2 => e = .returned v' ∧ w2 = w' := by
  have mixed : Try.prog.follows .mixedOrders = true := by kernel_rfl
  go_enter Try.func65, Try.ntmps65
  go_wp2_with (at_builtin; refine Lib.wpList_append_run _ rfl _ _ _ _ rfl _ _ rfl rfl _ _ (hr _) ?_)
  all_goals (go_ret; exact ⟨rfl, rfl⟩)
theorem clip_info : ∃ i0 z, Try.prog.info? 34 = some i0 ∧ i0.zero = some z ∧ i0.size = 5 ∧ i0.bytes = 40 ∧ z.cells.size = 5 := by
  have h : ((Try.prog.info? 34).any fun i => i.size == 5 && i.bytes == 40 && i.zero.any fun z => z.cells.size == 5) = true := by kernel_rfl
  cases hi : Try.prog.info? 34 with
  | none => rw [hi] at h; cases h
  | some i =>
    rw [hi] at h
    simp only [Option.any_some, Bool.and_eq_true, beq_iff_eq] at h
    cases hz : i.zero with
    | none => rw [hz] at h; simp at h
    | some z => rw [hz] at h; exact ⟨i, z, rfl, hz, h.1.1, h.1.2, by simpa using h.2⟩
set_option maxHeartbeats 4000000 in
set_option maxRecDepth 100000 in
theorem ins_grow (b n i vc : Nat) (va : Addr) (cs vs : List Value) (w : World) (z : Value) (i0 : TypeInfo) (hi0 : Try.prog.info? 34 = some i0) (hz0 : i0.zero = some z) (hzs : i0.size = 5) (hzb : i0.bytes = 40) (hz5 : z.cells.size = 5)
    (hi : i < n) (hn : n ≤ 1000) (hcl : cs.length = n * 5) (hvl : vs.length = 5)
    (hcs : ∀ j v, cs[j]? = some v → w.cell? ⟨b, j, none⟩ = some v) (hbw : b < w.heap.size) (hvw : va.block < w.heap.size)
    (hvs : ∀ j v, vs[j]? = some v → w.cell? (va.add j) = some v) (h1c : ∀ v ∈ cs, v.oneCell' = true) (h1v : ∀ v ∈ vs, v.oneCell' = true) :
    Calls Try.prog 65 #[.slice (some ⟨b, 0, none⟩) n n, .int .i64 i, .slice (some va) 1 vc] w fun e w' =>
      e = .returned (.slice (some ⟨w.heap.size, 0, none⟩) (n + 1) (grownCap w (n + 1) n 34)) ∧
      w' = (((w.alloc (.cells ((cs.take (i * 5)).toArray ++ Builtin.zeroCells z.cells (n + 1 - i) ++ Builtin.zeroCells z.cells (grownCap w (n + 1) n 34 - (n + 1))) 34)).drew.setCells w.heap.size (i * 5) vs).drew).setCells w.heap.size ((i + 1) * 5) (cs.drop (i * 5)) := by
  have mixed : Try.prog.follows .mixedOrders = true := by kernel_rfl
  have hsz : (Try.prog.info? 34).map (·.size) = some 5 := by kernel_rfl
  have hz2 : ¬ ((i : Int) = (n : Int)) := by omega
  have hz3 : (n : Int) < (n : Int) + 1 := by omega
  have hkk : (n : Int) + 1 - (i : Int) = ((n + 1 - i : Nat) : Int) := by omega
  have hik : i + (n + 1 - i) = n + 1 := by omega
  have hold : (Builtin.firstCells i0.size i (.slice (some ⟨b, 0, none⟩) i n)).run Try.prog w.drew = .ok (cs.take (i * 5)).toArray w.drew := by
    rw [hzs]
    exact run_firstCells_some w.drew 5 i ⟨b, 0, none⟩ i n (cs.take (i * 5)) (by rw [List.length_take]; omega) (fun j v hj => by
      rw [Addr.add_lit]
      rw [List.getElem?_take] at hj
      split at hj
      · simp only [Nat.zero_add]; exact hcs j v hj
      · cases hj)
  have hrz : ∀ ty, (Builtin.append_ #[28, 3] ty #[.slice (some ⟨b, 0, none⟩) i n, .int .i64 ((n : Int) + 1 - (i : Int))]).run Try.prog w =
      .ok (.slice (some ⟨w.heap.size, 0, none⟩) (n + 1) (grownCap w (n + 1) n 34)) (w.drew.alloc (.cells ((cs.take (i * 5)).toArray ++ Builtin.zeroCells z.cells (n + 1 - i) ++ Builtin.zeroCells z.cells (grownCap w (n + 1) n 34 - (n + 1))) 34)) := fun ty => by
    have h := Lib.run_append_grow_zeros w 28 3 ty 34 i0 z .i64 .i64 Try.underlying28 Try.underlying3 hi0 hz0 (some ⟨b, 0, none⟩) i n (cs.take (i * 5)) hold (n + 1 - i) (by omega) (by omega) (by omega) (by omega) (by rw [hzb]; omega) (by rw [hzb, hik]; exact growslice_fits (by omega) (by omega))
    rw [hik] at h
    rw [hkk]
    exact h
  obtain ⟨G, hG⟩ : ∃ G, G = grownCap w (n + 1) n 34 := ⟨_, rfl⟩
  have hGn : n + 1 ≤ G := by rw [hG]; exact grownCap_ge w _ _ _
  have hG63 : G ≤ 9223372036854775807 := by
    have := grownCap_le_maxLen w (n + 1) n 34 (by unfold maxLen; omega)
    rw [← hG] at this
    unfold maxLen at this
    omega
  rw [← hG] at hrz ⊢
  obtain ⟨ROW, hROW⟩ : ∃ ROW : Array Value, ROW = (cs.take (i * 5)).toArray ++ Builtin.zeroCells z.cells (n + 1 - i) ++ Builtin.zeroCells z.cells (G - (n + 1)) := ⟨_, rfl⟩
  rw [← hROW] at hrz ⊢
  have hRl : (n + 1) * 5 ≤ ROW.size := by
    rw [hROW]
    simp only [Array.size_append, List.size_toArray, List.length_take, size_zeroCells, hz5, hcl]
    omega
  obtain ⟨W1, hW1⟩ : ∃ W1, W1 = w.drew.alloc (.cells ROW 34) := ⟨_, rfl⟩
  rw [← hW1] at hrz
  have hN : ∀ j, j < (n + 1) * 5 → (W1.cell? ⟨w.heap.size, j, none⟩).isSome = true := fun j hj => by
    rw [hW1, World.cell?_alloc_at (w := w.drew) ROW _ w.heap.size j rfl, Array.getElem?_eq_getElem (by omega)]; rfl
  have hNf : ∀ j, W1.frozen? ⟨w.heap.size, j, none⟩ = false := fun j => by rw [hW1]; exact World.frozen?_alloc_at (w := w.drew) ROW _ w.heap.size j rfl
  have hOb : ∀ j v, w.cell? ⟨b, j, none⟩ = some v → W1.cell? ⟨b, j, none⟩ = some v := fun j v h => by rw [hW1, World.cell?_alloc_past (w := w.drew) _ b j hbw]; exact h
  have hOv : ∀ j v, w.cell? (va.add j) = some v → W1.cell? (va.add j) = some v := fun j v h => by rw [hW1, World.cell?_alloc_lt _ _ _ (by rw [block_add_]; exact hvw)]; exact h
  have hcpA : ∀ (W : World), (∀ x, W.cell? x = W1.cell? x) → (∀ x, W.frozen? x = W1.frozen? x) → ∀ ty dc, (Builtin.copy_ #[28, 28] ty #[.slice (some ⟨w.heap.size, i * 5, none⟩) (n + 1 - i) dc, .slice (some va) 1 vc]).run Try.prog W = .ok (goInt (Nat.min 1 (n + 1 - i))) (W.setCells w.heap.size (i * 5) vs) := fun W hWc hWf ty dc =>
    copy_rows W _ _ ty 34 5 w.heap.size (i * 5) (n + 1 - i) dc va 1 vc vs Try.underlying28 hsz (by rw [hvl]; simp only [Nat.min_def]; split <;> omega)
      (fun j v hj => by rw [hWc]; exact hOv _ v (hvs j v hj))
      (fun j hj => by rw [hWc]; exact hN _ (by omega)) (fun j hj => by rw [hWf]; exact hNf _) h1v
  have hGi : ¬ (G = i) := by omega
  have hGim : ¬ (G = i + 1) := by omega
  have hci : ¬ (n = i) := by omega
  have hbN : b ≠ w.heap.size := by omega
  have hdl : (cs.drop (i * 5)).length = (n - i) * 5 := by rw [List.length_drop, hcl]; omega
  have hcpB : ∀ (W : World), (∀ x, W.cell? x = (W1.setCells w.heap.size (i * 5) vs).cell? x) → (∀ x, W.frozen? x = (W1.setCells w.heap.size (i * 5) vs).frozen? x) → ∀ ty dc sc, (Builtin.copy_ #[28, 28] ty #[.slice (some ⟨w.heap.size, (i + 1) * 5, none⟩) (n - i) dc, .slice (some ⟨b, i * 5, none⟩) (n - i) sc]).run Try.prog W = .ok (goInt (Nat.min (n - i) (n - i))) (W.setCells w.heap.size ((i + 1) * 5) (cs.drop (i * 5))) := fun W hWc hWf ty dc sc =>
    copy_rows W _ _ ty 34 5 w.heap.size ((i + 1) * 5) (n - i) dc ⟨b, i * 5, none⟩ (n - i) sc (cs.drop (i * 5)) Try.underlying28 hsz (by rw [hdl]; simp only [Nat.min_def]; split <;> omega)
      (fun j v hj => by
        rw [Addr.add_lit, hWc, World.cell?_setCells_out _ _ _ _ _ (fun h _ => absurd h hbN)]
        exact hOb _ v (hcs (i * 5 + j) v (by rwa [List.getElem?_drop] at hj)))
      (fun j hj => by rw [hWc]; exact isSome_setCells _ vs (i * 5) W1 (fun t ht => hN _ (by omega)) _ (hN _ (by rw [hdl] at hj; omega)))
      (fun j hj => by rw [hWf, World.frozen?_setCells]; exact hNf _) (fun v hv => h1c v (List.mem_of_mem_drop hv))
  subst hW1
  have hE1 : ∀ x, ((w.alloc (.cells ROW 34)).drew).cell? x = (w.drew.alloc (.cells ROW 34)).cell? x := fun x => rfl
  have hE2 : ∀ x, ((w.alloc (.cells ROW 34)).drew).frozen? x = (w.drew.alloc (.cells ROW 34)).frozen? x := fun x => rfl
  have hF1 : ∀ x, (((w.alloc (.cells ROW 34)).drew.setCells w.heap.size (i * 5) vs).drew).cell? x = ((w.drew.alloc (.cells ROW 34)).setCells w.heap.size (i * 5) vs).cell? x := fun x => rfl
  have hF2 : ∀ x, (((w.alloc (.cells ROW 34)).drew.setCells w.heap.size (i * 5) vs).drew).frozen? x = ((w.drew.alloc (.cells ROW 34)).setCells w.heap.size (i * 5) vs).frozen? x := fun x => rfl
  have hw1 : IntKind.i64.wrap ((i : Int) + 1) = (i : Int) + 1 := by rw [IntKind.wrap_i64]; omega
  have hb1 : (0 : Int) ≤ (i : Int) + 1 := by omega
  have hin : i ≤ n := by omega
  have htn : ((i : Int) + 1).toNat = i + 1 := by omega
  have hb3 : (i : Int) ≤ (n : Int) := by omega
  clear hkk hik hold hROW hG hRl
  go_enter Try.func65, Try.ntmps65
  go_wp2_with (first
    | (at_builtin; refine Lib.wpList_append_run _ rfl _ _ _ _ rfl _ _ rfl rfl _ _ (hrz _) ?_)
    | (at_builtin; refine wpList_copy_runI _ rfl _ _ 28 28 rfl _ _ rfl rfl (hcpA _ hE1 hE2 _ _) ?_))
  go_region_law_o (refine step_copy_runI rfl _ _ 28 28 rfl (.slice (some ⟨w.heap.size, (i + 1) * 5, none⟩) (n - i) (G - (i + 1))) (.slice (some ⟨b, i * 5, none⟩) (n - i) (n - i)) (by simp [Act.eval, Act.put]) (by simp [Act.eval, Act.put]) (hcpB _ hF1 hF2 3 (G - (i + 1)) (n - i)) ?_)
  go_wp2
  go_ret
  exact ⟨rfl, rfl⟩
end Go.Proofs.Ytimijeeihicohaa

namespace Go.Proofs.Ytimijeeihicohaa
open Go.Shelf Go.Lib
open Go.RowKit
set_option linter.unusedVariables false
set_option linter.unusedSimpArgs false
set_option maxRecDepth 100000
attribute [local simp] List.getElem?_cons_zero
attribute [local irreducible] awCond awCall awLoop awDraw ow retQ retC resQ Keeps
theorem clip_plain (l : List Clip) : (cellsL clipR l).all plainV = true := by
  induction l with
  | nil => rfl
  | cons a l ih => rw [cellsL_cons, List.all_append, ih]; rfl
theorem cells_ins (l : List Clip) (x : Clip) (i : Nat) : cellsL clipR (l.take i ++ x :: l.drop i) = (cellsL clipR l).take (i * 5) ++ (x.row ++ (cellsL clipR l).drop (i * 5)) := by
  rw [cellsL_append, cellsL_cons, cellsL_take, cellsL_drop]; rfl
/-- What the row holds, told of its three parts. -/
theorem ins_cells {cs vs : List Value} {i n : Nat} {cur : Array Value} (hi : i ≤ n) (hcl : cs.length = n * 5) (hvl : vs.length = 5) (h1 : ∀ (j : Nat) v, j < i * 5 → cs[j]? = some v → cur[j]? = some v) (h2 : ∀ (j : Nat) v, vs[j]? = some v → cur[i * 5 + j]? = some v)
    (h3 : ∀ (j : Nat) v, (cs.drop (i * 5))[j]? = some v → cur[(i + 1) * 5 + j]? = some v) : ∀ (j : Nat) v, (cs.take (i * 5) ++ (vs ++ cs.drop (i * 5)))[j]? = some v → cur[j]? = some v := by
  intro j v hv
  have ht : (cs.take (i * 5)).length = i * 5 := by rw [List.length_take]; omega
  by_cases c1 : j < i * 5
  · rw [List.getElem?_append_left (by omega), List.getElem?_take, if_pos c1] at hv
    exact h1 j v c1 hv
  rw [List.getElem?_append_right (by omega), ht] at hv
  by_cases c2 : j - i * 5 < 5
  · rw [List.getElem?_append_left (by omega)] at hv
    have := h2 _ _ hv
    rwa [show i * 5 + (j - i * 5) = j by omega] at this
  · rw [List.getElem?_append_right (by omega), hvl] at hv
    have := h3 _ _ hv
    rwa [show (i + 1) * 5 + (j - i * 5 - 5) = j by omega] at this
/-- What slices.Insert leaves, told of the world. -/
structure InsR (g n E : Nat) (xs : List Value) (w : World) (e : Ending) (w' : World) : Prop where
  ex : ∃ (g' c' : Nat) (cur' : Array Value) (fr' : Nat × Nat), e = .returned (.slice (some ⟨g', 0, none⟩) (n + 1) c') ∧ n + 1 ≤ c' ∧ c' ≤ maxLen ∧ (g' = g ∨ w.heap.size ≤ g') ∧ w'.heap[g']? = some (.cells cur' E fr') ∧
    (∀ j, (j < cur'.size ∨ ((5 : Nat) ≠ 1 ∧ j = cur'.size)) → ¬ (fr'.1 ≤ j ∧ j < fr'.2)) ∧ cur'.size = c' * 5 ∧ ∀ (j : Nat) v, xs[j]? = some v → cur'[j]? = some v
  os : w'.os = w.os
  tape : w'.tape = w.tape
  output : w'.output = w.output
  size : w.heap.size ≤ w'.heap.size
  heap : ∀ k, k < w.heap.size → k ≠ g → w'.heap[k]? = w.heap[k]?
set_option maxHeartbeats 2000000 in
/-- All its ways but the nil slice's. -/
theorem ins_any (g n c i vc : Nat) (va : Addr) (cs vs : List Value) (w : World) (cur : Array Value) (fr : Nat × Nat) (hg : w.heap[g]? = some (.cells cur 34 fr)) (hfr : ∀ j, (j < cur.size ∨ ((5 : Nat) ≠ 1 ∧ j = cur.size)) → ¬ (fr.1 ≤ j ∧ j < fr.2)) (hsz : cur.size = c * 5)
    (hi : i ≤ n) (hn : n ≤ c) (hn1 : n ≤ 1000) (hc : c ≤ 9223372036854775807) (hcl : cs.length = n * 5) (hvl : vs.length = 5) (hcs : ∀ (j : Nat) v, cs[j]? = some v → cur[j]? = some v)
    (hvb : va.block ≠ g) (hvw : va.block < w.heap.size) (hvs : ∀ j v, vs[j]? = some v → w.cell? (va.add j) = some v) (h1c : ∀ v ∈ cs, v.oneCell' = true) (h1v : ∀ v ∈ vs, v.oneCell' = true)
    (hov : cur.size ≠ 0 → ∀ o lb cb, (callFunc 96 #[.slice (some va) 1 vc, .slice (some ⟨g, o, none⟩) lb cb]).run Try.prog w = .ok (.value (.bool false)) w) :
    Calls Try.prog 65 #[.slice (some ⟨g, 0, none⟩) n c, .int .i64 i, .slice (some va) 1 vc] w fun e w' => InsR g n 34 (cs.take (i * 5) ++ (vs ++ cs.drop (i * 5))) w e w' := by
  have hgl := (Array.getElem?_eq_some_iff.1 hg).1
  obtain ⟨i0, z, hi0, hz0, hzs, hzb, hz5⟩ := clip_info
  have cell : ∀ j, w.cell? ⟨g, j, none⟩ = cur[j]? := fun j => cell_of_row _ g j cur _ fr hg
  have hsrc : Src Try.prog i0.size 28 (.slice (some va) 1 vc) 1 vs w := by
    rw [hzs]
    exact Src.ofSlice w Try.underlying28 va 1 vc vs (by omega) hvs h1v
  have hcw : ∀ j v, cs[j]? = some v → w.cell? ⟨g, j, none⟩ = some v := fun j v h => by rw [cell]; exact hcs j v h
  have hsome : ∀ j, j < cur.size → (w.cell? ⟨g, j, none⟩).isSome = true := fun j hj => by rw [cell, Array.getElem?_eq_getElem hj]; rfl
  have hfro : ∀ j, j < cur.size → w.frozen? ⟨g, j, none⟩ = false := fun j hj => by
    have := hfr j (.inl hj)
    simp only [World.frozen?, hg]
    simp
    omega
  by_cases hroom : n + 1 ≤ c
  · by_cases hin : i = n
    · subst hin
      have hd : cs.drop (i * 5) = [] := List.drop_eq_nil_of_le (by omega)
      have hr := fun ty => run_append_room_src (P := Try.prog) w 28 28 ty 34 i0 Try.underlying28 hi0 g 0 i c (.slice (some va) 1 vc) 1 vs hsrc hroom (fun j hj => hsome _ (by rw [hzs]; omega)) (fun j hj => hfro _ (by rw [hzs]; omega))
      refine (ins_end g i c vc va w hn hc hr).mono ?_
      rintro e w' ⟨rfl, rfl⟩
      obtain ⟨cur', a1, a2, a3, a4, a5, a6, a7, a8, a9⟩ := setCells_heap vs (0 + i * i0.size) w cur hg (by rw [hzs]; omega)
      rw [hzs] at a1 a3 a4 a5 a6 a7 a8 a9 ⊢
      refine ⟨⟨g, c, cur', fr, rfl, hroom, by unfold maxLen; omega, .inl rfl, a1, by rw [a2]; exact hfr, by omega, ?_⟩, a5, a6, a7, by omega, fun k _ hk => a9 k hk⟩
      refine ins_cells (n := i) (Nat.le_refl _) hcl hvl (fun j v hj hv => by rw [a3 j (by omega)]; exact hcs j v hv) (fun j v hv => by have := a4 j v hv; rwa [Nat.zero_add] at this) (fun j v hv => by rw [hd] at hv; simp at hv)
    · refine (ins_shift g n c i vc va cs vs w (by omega) hroom hc hcl hvl hcw (fun j hj => hsome j (by omega)) (fun j hj => hfro j (by omega)) hvb hvs h1c h1v (hov (by omega) _)).mono ?_
      rintro e w' ⟨rfl, rfl⟩
      have hdl : (cs.drop (i * 5)).length = (n - i) * 5 := by rw [List.length_drop, hcl]; omega
      obtain ⟨cur1, a1, a2, a3, a4, a5, a6, a7, a8, a9⟩ := setCells_heap (cs.drop (i * 5)) ((i + 1) * 5) w.drew cur hg (by omega)
      obtain ⟨cur2, b1, b2, b3, b4, b5, b6, b7, b8, b9⟩ := setCells_heap vs (i * 5) _ cur1 a1 (by omega)
      refine ⟨⟨g, c, cur2, fr, rfl, hroom, by unfold maxLen; omega, .inl rfl, b1, by rw [b2, a2]; exact hfr, by omega, ?_⟩, by rw [b5, a5]; rfl, by rw [b6, a6]; rfl, by rw [b7, a7]; rfl, by rw [b8, a8]; exact Nat.le_refl _, fun k _ hk => by rw [b9 k hk, a9 k hk]; rfl⟩
      refine ins_cells hi hcl hvl (fun j v hj hv => by rw [b3 j (by omega), a3 j (by omega)]; exact hcs j v hv) b4 (fun j v hv => ?_)
      rw [b3 _ (by omega)]
      exact a4 j v hv
  · obtain rfl : c = n := by omega
    by_cases hin : i = c
    · subst hin
      have hd : cs.drop (i * 5) = [] := List.drop_eq_nil_of_le (by omega)
      have hold : (Builtin.firstCells i0.size i (.slice (some ⟨g, 0, none⟩) i i)).run Try.prog w.drew = .ok cs.toArray w.drew := by
        rw [hzs]
        exact run_firstCells_some w.drew 5 i ⟨g, 0, none⟩ i i cs (by omega) (fun j v hj => by
          rw [Addr.add_lit]
          simp only [Nat.zero_add]; exact hcw j v hj)
      have hr := fun ty => run_append_grow_src (P := Try.prog) w 28 28 ty 34 i0 z Try.underlying28 hi0 hz0 (some ⟨g, 0, none⟩) i i cs hold (.slice (some va) 1 vc) 1 vs hsrc (by omega) (by omega) (growslice_fits (by omega) (by rw [hzb]; omega))
      refine (ins_end g i i vc va w hn hc hr).mono ?_
      rintro e w' ⟨rfl, rfl⟩
      have hge := grownCap_ge w (i + 1) i 34
      refine ⟨⟨w.heap.size, _, _, (0, 0), rfl, hge, grownCap_le_maxLen w (i + 1) i 34 (by unfold maxLen; omega), .inr (Nat.le_refl _), heap_alloc_new w.drew _, fun j _ => by simp, ?_, ?_⟩, rfl, rfl, rfl, by simp, fun k hk _ => Below.heap_alloc w.drew _ _ hk⟩
      · simp only [Array.size_append, List.size_toArray, List.length_append, size_zeroCells, hz5, hcl, hvl]
        omega
      · intro j v hv
        rw [hd, List.append_nil] at hv
        have ht : cs.take (i * 5) = cs := List.take_of_length_le (by omega)
        rw [ht] at hv
        have hj := (List.getElem?_eq_some_iff.1 hv).1
        rw [Array.getElem?_append_left (by simpa using hj)]
        simpa using hv
    · have hdl : (cs.drop (i * 5)).length = (c - i) * 5 := by rw [List.length_drop, hcl]; omega
      refine (ins_grow g c i vc va cs vs w z i0 hi0 hz0 hzs hzb hz5 (by omega) hn1 hcl hvl hcw hgl hvw hvs h1c h1v).mono ?_
      rintro e w' ⟨rfl, rfl⟩
      have hge := grownCap_ge w (c + 1) c 34
      have hgm := grownCap_le_maxLen w (c + 1) c 34 (by unfold maxLen; omega)
      generalize grownCap w (c + 1) c 34 = G at hge hgm ⊢
      obtain ⟨ROW, hROW⟩ : ∃ ROW : Array Value, ROW = (cs.take (i * 5)).toArray ++ Builtin.zeroCells z.cells (c + 1 - i) ++ Builtin.zeroCells z.cells (G - (c + 1)) := ⟨_, rfl⟩
      rw [← hROW]
      have hRl : ROW.size = G * 5 := by
        rw [hROW]
        simp only [Array.size_append, List.size_toArray, List.length_take, size_zeroCells, hz5, hcl]
        omega
      have hR1 : ∀ j v, j < i * 5 → cs[j]? = some v → ROW[j]? = some v := by
        intro j v hj hv
        have hjl := (List.getElem?_eq_some_iff.1 hv).1
        rw [hROW, Array.getElem?_append_left (by simp only [Array.size_append, List.size_toArray, List.length_take]; omega), Array.getElem?_append_left (by simp only [List.size_toArray, List.length_take]; omega)]
        simp [List.getElem?_take, hj, hv]
      obtain ⟨cur1, a1, a2, a3, a4, a5, a6, a7, a8, a9⟩ := setCells_heap vs (i * 5) ((w.alloc (.cells ROW 34)).drew) ROW (fr := (0, 0)) (e := 34) (g := w.heap.size) (heap_alloc_new w _) (by omega)
      obtain ⟨cur2, b1, b2, b3, b4, b5, b6, b7, b8, b9⟩ := setCells_heap (cs.drop (i * 5)) ((i + 1) * 5) (((w.alloc (.cells ROW 34)).drew.setCells w.heap.size (i * 5) vs).drew) cur1 a1 (by omega)
      refine ⟨⟨w.heap.size, G, cur2, (0, 0), rfl, hge, hgm, .inr (Nat.le_refl _), b1, fun j _ => by simp, by omega, ?_⟩, by rw [b5]; exact a5, by rw [b6]; exact a6, by rw [b7]; exact a7, ?_, fun k hk hkg => ?_⟩
      · refine ins_cells hi hcl hvl (fun j v hj hv => by rw [b3 j (by omega), a3 j (by omega)]; exact hR1 j v hj hv) (fun j v hv => ?_) b4
        have hj := (List.getElem?_eq_some_iff.1 hv).1
        rw [b3 _ (by omega)]
        exact a4 j v hv
      · rw [b8]
        show w.heap.size ≤ ((w.alloc (.cells ROW 34)).drew.setCells w.heap.size (i * 5) vs).heap.size
        rw [a8]
        simp
      · rw [b9 k (by omega)]
        show ((w.alloc (.cells ROW 34)).drew.setCells w.heap.size (i * 5) vs).heap[k]? = _
        rw [a9 k (by omega)]
        exact Below.heap_alloc w _ _ hk
end Go.Proofs.Ytimijeeihicohaa

namespace Go.Proofs.Ytimijeeihicohaa
open Go.Shelf Go.Lib
open Go.RowKit
set_option linter.unusedVariables false
set_option linter.unusedSimpArgs false
set_option maxRecDepth 100000
attribute [local simp] List.getElem?_cons_zero
attribute [local irreducible] awCond awCall awLoop awDraw ow retQ retC resQ Keeps
theorem overlaps_no {w : World} {g : Nat} {va : Addr} {o lb cb vc : Nat} {cur cur2 : Array Value} {e2 : TypeId} {fr fr2 : Nat × Nat} (hg : w.heap[g]? = some (.cells cur 34 fr)) (hv : w.heap[va.block]? = some (.cells cur2 e2 fr2)) (hne : va.block ≠ g) (h0 : cur.size ≠ 0)
    (hf1 : w.frozen? va = false) (hf2 : w.frozen? ⟨va.block, cur2.size, none⟩ = false) :
    (callFunc 96 #[.slice (some va) 1 vc, .slice (some ⟨g, o, none⟩) lb cb]).run Try.prog w = .ok (.value (.bool false)) w := by
  obtain ⟨i0, z, hi0, hz0, hzs, hzb, hz5⟩ := clip_info
  rw [run_callFunc_extern Try.func96 (by kernel_rfl) (by kernel_rfl) (by kernel_rfl) (e := Extern.SlicesOverlaps.overlaps #[28, 28] #[4]) (by kernel_rfl),
    Lib.run_overlaps_apart w 28 4 34 Try.underlying28 5 (fun w => by simp [Go.sizeOf, typeInfo, hi0, hzs]) va ⟨g, o, none⟩ 1 vc lb cb hne e2 34 cur2.size cur.size (by simp [World.shape?, hv]) (by simp [World.shape?, hg]) h0 hf1 hf2]
  rfl
set_option maxHeartbeats 2000000 in
theorem Insert_a {M : Mem} {B b c2 i : Nat} {A2 : Option Addr} {u : Value} {l : List Clip} {x : Clip} (hA : Acc clipR 34 B M u l) (hb : b ≤ B) (hB : B ≤ M.length) (hi : i ≤ l.length) (hl : l.length ≤ 1000)
    {id2 : Nat} {t2 : Bool} {e2 : TypeId} (hA2 : A2 = some ⟨id2, 0, none⟩) (hx : M[id2]? = some (.live ⟨x.row, true, t2, e2, 5⟩)) (hne : ∀ id c, u = .slice (some ⟨id, 0, none⟩) l.length c → id2 ≠ id) :
    Ctr Try.prog b 65 [u, iv i, .slice A2 1 c2] M fun r M' => Acc clipR 34 B M' r (l.take i ++ x :: l.drop i) ∧ Same B M M' := by
  subst hA2
  refine ⟨⟨_, Try.func65, rfl, rfl⟩, fun μ w cs hcs hS => ?_⟩
  obtain ⟨u', k', v', rfl, hu, hk, hv⟩ : ∃ u' k' v', cs = [u', k', v'] ∧ VRel M μ u u' ∧ VRel M μ (iv i) k' ∧ VRel M μ (.slice (some ⟨id2, 0, none⟩) 1 c2) v' := by
    match cs, hcs with
    | [u', k', v'], h => exact ⟨u', k', v', rfl, h.2 0 _ _ rfl rfl, h.2 1 _ _ rfl rfl, h.2 2 _ _ rfl rfl⟩
    | [], h => have := h.1; simp at this
    | [_], h => have := h.1; simp at this
    | [_, _], h => have := h.1; simp at this
    | _ :: _ :: _ :: _ :: _, h => have := h.1; simp at this
  have hk' : k' = .int .i64 i := hk.of_plain rfl
  subst hk'
  -- the new clip
  obtain ⟨-, va, vc, s2, rfl, hs2, -, hv1, hv2, hat2⟩ := hv.sl_inv
  rw [hx] at hs2
  injection hs2 with hs2
  obtain ⟨hv3, hv4⟩ := hat2 _ hs2.symm
  have hrow2 := hS.row id2 _ hx
  obtain ⟨g2, cur2, fr2, e21, e22, ef2, e23, e24, -⟩ := hrow2.own rfl
  have hva : va = ⟨g2, 0, none⟩ := by
    rcases hv3 with ⟨h, -⟩ | h
    · omega
    · rw [h, e21]; rfl
  subst hva
  have ef2' : ∀ j, (j < cur2.size ∨ ((5 : Nat) ≠ 1 ∧ j = cur2.size)) → ¬ (fr2.1 ≤ j ∧ j < fr2.2) := ef2
  have frz : ∀ j, j ≤ cur2.size → w.frozen? ⟨g2, j, none⟩ = false := fun j hj => by
    have := ef2' j (by omega)
    simp only [World.frozen?, e22]
    simp
    omega
  have cell2 : ∀ (j : Nat) v, x.row[j]? = some v → w.cell? ((⟨g2, 0, none⟩ : Addr).add j) = some v := by
    intro j v hj
    obtain ⟨d, hd, hr⟩ := hrow2.cell j v hj
    rw [e21] at hd
    have hp : plainV v = true := by
      have hm := List.mem_of_getElem? hj
      simp only [Clip.row, List.mem_cons, List.not_mem_nil, or_false] at hm
      rcases hm with rfl | rfl | rfl | rfl | rfl <;> rfl
    rw [← hr.of_plain hp]
    exact hd
  have hvw : g2 < w.heap.size := (Array.getElem?_eq_some_iff.1 e22).1
  have h1v : ∀ v ∈ x.row, v.oneCell' = true := by
    intro v hm
    simp only [Clip.row, List.mem_cons, List.not_mem_nil, or_false] at hm
    rcases hm with rfl | rfl | rfl | rfl | rfl <;> rfl
  have plain : ∀ (m : List Clip) (j : Nat) v, (cellsL clipR m)[j]? = some v → VRel M μ v v := fun m j v hj => .plain (List.all_eq_true.1 (clip_plain m) v (List.mem_of_getElem? hj))
  obtain ⟨A, n, c, rfl, hln, hA⟩ := hA
  rcases hA with ⟨rfl, rfl, rfl⟩ | ⟨id, t, rfl, hid, hrow⟩
  · -- the nil slice
    have hl0 : l = [] := List.eq_nil_of_length_eq_zero hln
    subst hl0
    obtain rfl : i = 0 := by simpa using hi
    have hu' : u' = .slice none 0 0 := hu.of_plain rfl
    subst hu'
    obtain ⟨i0, z, hi0, hz0, hzs, hzb, hz5⟩ := clip_info
    have hsrc : Src Try.prog i0.size 28 (.slice (some ⟨g2, 0, none⟩) 1 vc) 1 x.row w := by
      rw [hzs]
      exact Src.ofSlice w Try.underlying28 ⟨g2, 0, none⟩ 1 vc x.row rfl cell2 h1v
    have hr := fun ty => run_append_grow_src (P := Try.prog) w 28 28 ty 34 i0 z Try.underlying28 hi0 hz0 none 0 0 [] (by rw [hzs]; exact run_firstCells_none w.drew 5 0 0 0) (.slice (some ⟨g2, 0, none⟩) 1 vc) 1 x.row hsrc (by omega) (by omega) (growslice_fits (by omega) (by rw [hzb]; omega))
    refine (ins_nil vc ⟨g2, 0, none⟩ w hr).mono ?_
    rintro e w' ⟨rfl, rfl⟩
    have hge := grownCap_ge w (0 + 1) 0 34
    have hgm := grownCap_le_maxLen w (0 + 1) 0 34 (by unfold maxLen; omega)
    generalize grownCap w (0 + 1) 0 34 = G at hge hgm ⊢
    have hrl : x.row.length = 5 := rfl
    obtain ⟨g1, g2⟩ := (hS.heap (w' := w.drew) rfl).alloc (b := b) (xs := cellsL clipR [x]) (cur := ([] ++ x.row).toArray ++ Builtin.zeroCells z.cells (G - (0 + 1))) (elem := 34) (esz := 5) (tight := false)
      (by simp only [Array.size_append, List.size_toArray, cellsL_len, List.nil_append, List.length_cons, List.length_nil, hrl]; omega) (fun h => by cases h)
      (fun j v hj => ⟨v, by
        have hj' : x.row[j]? = some v := by rw [cellsL_cons, cellsL_nil, List.append_nil] at hj; exact hj
        have hlt := (List.getElem?_eq_some_iff.1 hj').1
        rw [Array.getElem?_append_left (by simpa using hlt)]
        simpa using hj', plain [x] j v hj⟩)
    refine ⟨.slice (some ⟨M.length, 0, none⟩) 1 1, _, _, _, ⟨⟨_, 1, 1, rfl, rfl, .inr ⟨M.length, false, rfl, hB, by simp⟩⟩, ⟨by simp, fun k s _ hs => (keeps_app _).get hs⟩⟩, rfl, ?_, g1, Step.trans (Step.heap (b := b) (M := M) (μ := μ) (w := w) (w' := w.drew) rfl rfl rfl rfl) g2⟩
    exact .sl getElem?_snoc_eq rfl hge hgm fun r hr => by
      injection hr with hr
      subst hr
      refine ⟨.inr (by rw [Map.set_at, Addr.add_lit]; rfl), fun _ => ?_⟩
      rw [Map.set_room]
      simp only [Array.size_append, List.size_toArray, List.nil_append, hrl, size_zeroCells, hz5]
      omega
  · -- a row of its own
    obtain ⟨-, ad, cp, s1, rfl, hs1, -, hu1, hu2, hat⟩ := hu.sl_inv
    rw [hrow] at hs1
    injection hs1 with hs1
    obtain ⟨hu3, hu4⟩ := hat _ hs1.symm
    have hu4 := hu4 rfl
    have hrr := hS.row id _ hrow
    obtain ⟨g, cur, fr, e1, e2', ef, e3, e4, -⟩ := hrr.own rfl
    have had : ad = ⟨g, 0, none⟩ := by
      rcases hu3 with ⟨-, h⟩ | h
      · exact absurd rfl h
      · rw [h, e1]; rfl
    subst had
    have ef' : ∀ j, (j < cur.size ∨ ((5 : Nat) ≠ 1 ∧ j = cur.size)) → ¬ (fr.1 ≤ j ∧ j < fr.2) := ef
    have hsz : cur.size = cp * 5 := by simp only [Nat.zero_add] at hu4; rw [e3]; exact hu4.symm
    have hne2 : id2 ≠ id := hne id c (by rw [hln])
    have hgg : g2 ≠ g := by
      have := hS.inj id2 id _ _ hx hrow hne2 rfl
      rw [e21, e1] at this
      exact this
    have hcl : (cellsL clipR l).length = n * 5 := by rw [cellsL_len, hln]
    have hcur : ∀ (j : Nat) v, (cellsL clipR l)[j]? = some v → cur[j]? = some v := by
      intro j v hj
      obtain ⟨d, hd, hr⟩ := hrr.cell j v hj
      have hd2 := hr.of_plain (List.all_eq_true.1 (clip_plain l) v (List.mem_of_getElem? hj))
      rw [e1, Addr.add_lit] at hd
      simp only [Nat.zero_add] at hd
      rw [cell_of_row _ g j cur _ fr e2'] at hd
      rw [hd, hd2]
    have h1c : ∀ v ∈ cellsL clipR l, v.oneCell' = true := fun v hm => List.all_eq_true.1 (clip_one l) v hm
    have hbid : b ≤ id := by omega
    have hc11 : cp ≤ 9223372036854775807 := by unfold maxLen at hu2; omega
    refine (ins_any g n cp i vc ⟨g2, 0, none⟩ (cellsL clipR l) x.row w cur fr e2' ef' hsz (by omega) hu1 (by omega) hc11 hcl rfl hcur hgg hvw cell2 h1c h1v (fun h0 o lb cb => overlaps_no e2' e22 hgg h0 (frz 0 (by omega)) (frz cur2.size (Nat.le_refl _)))).mono ?_
    rintro e w' ⟨⟨g', c', cur', fr', rfl, k1, k2, k3, k4, k5, k6, k7⟩, o1, o2, o3, o4, o5⟩
    have hxs := cells_ins l x i
    have hxl : (l.take i ++ x :: l.drop i).length = n + 1 := by simp; omega
    obtain ⟨q1, q2⟩ := hS.renew (b := b) (w' := w') (g := g') (xs := cellsL clipR (l.take i ++ x :: l.drop i)) (cur := cur') (esz := 5) hrow rfl hbid o1 o2 o3 o4 (fun k hk hne => o5 k hk (by rw [e1] at hne; exact hne)) k4 k5 (by rw [e1]; exact k3) (by rw [cellsL_len, hxl]; omega) (fun j v hj => ⟨v, k7 j v (by rw [← hxs]; exact hj), plain _ j v hj⟩)
    have hl2 : (M.set id Slot.dead).length = M.length := by simp
    have hnew : (M.set id Slot.dead ++ [Slot.live ⟨cellsL clipR (l.take i ++ x :: l.drop i), true, false, 34, 5⟩])[M.length]? = some (Slot.live ⟨cellsL clipR (l.take i ++ x :: l.drop i), true, false, 34, 5⟩) := by rw [← hl2]; exact getElem?_snoc_eq
    refine ⟨.slice (some ⟨M.length, 0, none⟩) (n + 1) (n + 1), _, _, _, ⟨⟨_, n + 1, n + 1, rfl, hxl, .inr ⟨M.length, false, rfl, hB, hnew⟩⟩, by simp, fun k s hk hs => ?_⟩, rfl, ?_, q1, q2⟩
    · have hkl := (List.getElem?_eq_some_iff.1 hs).1
      rw [List.getElem?_append_left (by simpa using hkl), List.getElem?_set_ne (by omega)]
      exact hs
    · exact .sl hnew rfl k1 k2 fun r hr => by
        injection hr with hr
        subst hr
        exact ⟨.inr (by rw [Map.set_at, Addr.add_lit]), fun _ => by rw [Map.set_room, k6]; simp⟩
end Go.Proofs.Ytimijeeihicohaa

namespace Go.Proofs.Ytimijeeihicohaa
open Go.RowKit
set_option linter.unusedVariables false
set_option linter.unusedSimpArgs false
set_option maxRecDepth 100000
attribute [local simp] List.getElem?_cons_zero
attribute [local irreducible] awCond awCall awLoop awDraw ow retQ retC resQ Keeps
theorem sz_Track_over {M : Mem} {v : Value} {lo hi : Nat} {l : List Clip} {z : Int} (h : RdL clipR lo hi M v l) (hz : 0 ≤ z) (hz1 : z ≤ 1048576) (hl : z < l.length) : Det Try.prog M.length 7 [.agg #[v], iv z] M (iv (-1)) M := by
  first | (refine det_fn Try.func7 rfl Try.ntmps7 Try.results7 rfl rfl rfl (by simp) ?_) | (refine det_fnC Try.func7 rfl Try.ntmps7 Try.results7 rfl rfl (by simp) ?_)
  simp
  refine awCall_det' (sz_ClipS_over (h.keeps (keeps_app _)) hz hz1 hl) (by simp) ?_
  simp [keeps_app]
theorem sz_Track {M : Mem} {v : Value} {lo hi : Nat} {l : List Clip} {z : Int} (h : RdL clipR lo hi M v l) (hz : 0 ≤ z) (hz1 : z ≤ 1048576) (hl : l.length ≤ z) : Det Try.prog M.length 7 [.agg #[v], iv z] M (iv (z - l.length)) M := by
  first | (refine det_fn Try.func7 rfl Try.ntmps7 Try.results7 rfl rfl rfl (by simp) ?_) | (refine det_fnC Try.func7 rfl Try.ntmps7 Try.results7 rfl rfl (by simp) ?_)
  simp
  refine awCall_det' (sz_ClipS (h.keeps (keeps_app _)) hz hz1 hl) (by simp) ?_
  have h0 : ¬ z - l.length < 0 := by omega
  simp [keeps_app, h0]
theorem to_Track_d {M : Mem} {v : Value} {lo hi : Nat} {l : List Clip} (h : RdL clipR lo hi M v l) (hl : l.length ≤ 1048576) : ∃ u N, Det Try.prog M.length 9 [.agg #[v]] M (.agg #[u]) (M ++ N) ∧ OwL clipR M.length (M ++ N).length (M ++ N) u l := by
  obtain ⟨A, n, c, rfl, hn, hS, _⟩ := h
  have hl' := hS.1
  refine ⟨.slice (some ⟨M.length + 3, 0, none⟩) n n, [.live ⟨[.slice A n c], true, true, 24, 1⟩, .live ⟨[.slice (some ⟨M.length + 3, 0, none⟩) n n], true, true, 30, 1⟩, .live ⟨[.slice (some ⟨M.length + 3, 0, none⟩) n n], true, true, 30, 1⟩, .live ⟨cellsL clipR l, true, true, 34, 5⟩], ?_, ?_⟩
  · refine Ctr.det ?_
    first | (refine ctr_fn Try.func9 rfl Try.ntmps9 Try.results9 rfl rfl (by simp) ?_) | (refine ctr_fnC Try.func9 rfl Try.ntmps9 Try.results9 rfl (by simp) ?_)
    simp
    refine awCall_det' ((toClipS_d (hS.keeps (keeps_app _)) (by omega))) (by simp) ?_
    simp
  · refine ⟨_, n, n, rfl, by omega, ⟨hl', fun _ => ⟨M.length + 3, 0, rfl, by simp [rowEsz], fun j x hx => by simp [cellAt, hx]⟩⟩, fun a e _ => by injection e with e; subst e; simp, fun _ => ⟨_, _, ⟨cellsL clipR l, true, true, 34, 5⟩, rfl, by simp, rfl⟩⟩
theorem eq_Track {M : Mem} {v w : Value} {lo hi lo' hi' : Nat} {x y : List Clip} (hx : OwL clipR lo hi M v x) (hy : RdL clipR lo' hi' M w y) : Det Try.prog M.length 12 [.agg #[v], .agg #[w]] M (.bool (decide (x = y))) M := by
  first | (refine det_fn Try.func12 rfl Try.ntmps12 Try.results12 rfl rfl rfl (by simp) ?_) | (refine det_fnC Try.func12 rfl Try.ntmps12 Try.results12 rfl rfl (by simp) ?_)
  simp
  refine awCall_det' (eq_ClipS (hx.keeps (keeps_app _)) (hy.keeps (keeps_app _))) (by simp) ?_
  by_cases e : x = y
  · simp [keeps_app, e]
  · simp [keeps_app, e]
theorem mark_Track {M : Mem} {b : Nat} {v : Value} {lo hi : Nat} {l : List Clip} {z : Int} (h : OwL clipR lo hi M v l) (hb : b ≤ lo) (hz : 0 ≤ z) (hz1 : z ≤ 1152921504606846976) :
    Ctr Try.prog b 13 [.agg #[v], iv z] M fun r M' => r = iv (z + l.length * 5) ∧ OwL clipR lo hi M' v (markClipL z l.length) ∧ Turn lo hi M M' := by
  first | (refine ctr_fn Try.func13 rfl Try.ntmps13 Try.results13 rfl rfl (by simp) ?_) | (refine ctr_fnC Try.func13 rfl Try.ntmps13 Try.results13 rfl (by simp) ?_)
  simp
  refine awCall_ctr (mark_ClipS (h.keeps (keeps_app _)) hb hz hz1) ?_
  rintro _ M' ⟨rfl, o, ht⟩
  simp
  exact ⟨o, ht.app⟩
theorem held_Track {M : Mem} {v : Value} {lo hi m : Nat} {z : Int} (h : OwL clipR lo hi M v (markClipL z m)) (hz : 0 ≤ z) (hz1 : z ≤ 1152921504606846976) : Det Try.prog M.length 14 [.agg #[v], iv z] M (iv (z + m * 5)) M := by
  first | (refine det_fn Try.func14 rfl Try.ntmps14 Try.results14 rfl rfl rfl (by simp) ?_) | (refine det_fnC Try.func14 rfl Try.ntmps14 Try.results14 rfl rfl (by simp) ?_)
  simp
  refine awCall_det' (held_ClipS (h.keeps (keeps_app _)) hz hz1) (by simp) ?_
  have h0 : ¬ z + m * 5 < 0 := by omega
  simp [keeps_app, h0]
end Go.Proofs.Ytimijeeihicohaa

namespace Go.Proofs.Ytimijeeihicohaa
open Go.RowKit
set_option linter.unusedVariables false
set_option linter.unusedSimpArgs false
set_option maxRecDepth 100000
attribute [local simp] List.getElem?_cons_zero
attribute [local irreducible] awCond awCall awLoop awDraw ow retQ retC resQ Keeps
def clipB (c : Clip) : Bool := inB c.src 0 5 && inB c.len 1 4000 && inB c.fr 0 (4000 - c.len) && inB c.at_ 0 (4000 - c.len) && inB c.gain (-2147483648) 2147483647
theorem l23Clip_a {M : Mem} {id off : Nat} {g : Clip} (h : Cl M id off g.row) : Det Try.prog M.length 32 [.pointer (some ⟨id, off, none⟩)] M (.bool (clipB g)) M := by
  obtain ⟨h0, h1, h2, h3, h4⟩ := clip_cells h
  first | (refine det_fn Try.func32 rfl Try.ntmps32 Try.results32 rfl rfl rfl (by simp) ?_) | (refine det_fnC Try.func32 rfl Try.ntmps32 Try.results32 rfl rfl (by simp) ?_)
  simp [h0]
  refine awCall_det' (l00In_a _ _ _) (by simp) ?_
  cases p0 : inB g.src 0 5
  · simp [clipB, p0, Keeps.refl]
  simp [h2]
  refine awCall_det' (l00In_a _ _ _) (by simp) ?_
  cases p1 : inB g.len 1 4000
  · simp [clipB, p1, Keeps.refl]
  simp [h4]
  refine awCall_det' (l01Sample_a _) (by simp) ?_
  cases p2 : inB g.gain (-2147483648) 2147483647
  · simp [clipB, p2, Keeps.refl]
  have b1 := inB_iff.1 p1
  simp [h1]
  refine awDraw_E 20 [[],[0],[1,0],[2,1,0],[],[4],[5,4],[6,5,4],[7,6,5,4],[3,2,1,0,8,7,6,5,4],[9,3,2,1,0,8,7,6,5,4],[10,9,3,2,1,0,8,7,6,5,4],[11,10,9,3,2,1,0,8,7,6,5,4],[12,11,10,9,3,2,1,0,8,7,6,5,4],[13,12,11,10,9,3,2,1,0,8,7,6,5,4],[10,9,3,2,1,0,8,7,6,5,4],[15,10,9,3,2,1,0,8,7,6,5,4],[16,15,10,9,3,2,1,0,8,7,6,5,4],[17,16,15,10,9,3,2,1,0,8,7,6,5,4],[18,17,16,15,10,9,3,2,1,0,8,7,6,5,4],[14,13,12,11,10,9,3,2,1,0,8,7,6,5,4,19,18,17,16,15],[10,9,3,2,1,0,8,7,6,5,4,20,14,13,12,11,19,18,17,16,15],[21,10,9,3,2,1,0,8,7,6,5,4,20,14,13,12,11,19,18,17,16,15]] (by kernel_rfl) (by kernel_rfl) ?_
  simp (disch := omega) [h1, h2, wrap_in]
  refine awCall_det' (l00In_a _ _ _) (by simp) ?_
  cases p3 : inB g.fr 0 (4000 - g.len)
  · simp [clipB, p3, Keeps.refl]
  simp (disch := omega) [h3, h2, wrap_in]
  refine awCall_det' (l00In_a _ _ _) (by simp) ?_
  simp [clipB, p0, p1, p2, p3, Keeps.refl]
theorem isClip_a {M : Mem} (g : Clip) : Det Try.prog M.length 36 [g.v] M (.bool (clipB g)) M := by
  first | (refine det_fn Try.func36 rfl Try.ntmps36 Try.results36 rfl rfl rfl (by simp) ?_) | (refine det_fnC Try.func36 rfl Try.ntmps36 Try.results36 rfl rfl (by simp) ?_)
  simp
  refine awCall_det' (within_a _ _ _) (by simp) ?_
  cases p0 : inB g.src 0 5
  · simp [clipB, p0, keeps_app]
  simp
  refine awCall_det' (within_a _ _ _) (by simp) ?_
  cases p1 : inB g.len 1 4000
  · simp [clipB, p1, keeps_app]
  have b1 := inB_iff.1 p1
  simp (disch := omega) [wrap_in]
  refine awCall_det' (within_a _ _ _) (by simp) ?_
  cases p2 : inB g.fr 0 (4000 - g.len)
  · simp [clipB, p2, keeps_app]
  simp (disch := omega) [wrap_in]
  refine awCall_det' (within_a _ _ _) (by simp) ?_
  cases p3 : inB g.at_ 0 (4000 - g.len)
  · simp [clipB, p3, keeps_app]
  simp (disch := omega) [wrap_in]
  refine awCall_det' (isSample_a _) (by simp) ?_
  simp [clipB, p0, p1, p2, p3, keeps_app]
def okC (l : List Clip) : Bool := decide (∀ i, i < l.length → clipB (el l i) = true ∧ (0 < i → (el l (i - 1)).at_ ≤ (el l i).at_)) && decide (l.length ≤ 12)
theorem okC_of {l : List Clip} (h : ∀ i, i < l.length → clipB (el l i) = true ∧ (0 < i → (el l (i - 1)).at_ ≤ (el l i).at_)) : okC l = decide (l.length ≤ 12) := by
  unfold okC; rw [decide_eq_true h, Bool.true_and]
theorem okC_not {l : List Clip} {i : Nat} (hi : i < l.length) (h : ¬ (clipB (el l i) = true ∧ (0 < i → (el l (i - 1)).at_ ≤ (el l i).at_))) : okC l = false := by
  unfold okC; rw [decide_eq_false (fun h' => h (h' i hi)), Bool.false_and]
theorem okC_el {l : List Clip} (h : okC l = true) {i : Nat} (hi : i < l.length) : clipB (el l i) = true := by
  unfold okC at h
  simp only [Bool.and_eq_true, decide_eq_true_eq] at h
  exact (h.1 i hi).1
theorem okC_len {l : List Clip} (h : okC l = true) : l.length ≤ 12 := by
  unfold okC at h
  simp only [Bool.and_eq_true, decide_eq_true_eq] at h
  exact h.2
theorem l23Ok_a {M : Mem} {B off0 : Nat} {A : Option Addr} {n c : Nat} {l : List Clip} (hp : cellAt M B off0 = some (.slice A n c)) (h : Sl clipR M A n l) (hn : n ≤ 4611686018427387904) : Det Try.prog M.length 31 [.pointer (some ⟨B, off0, none⟩)] M (.bool (okC l)) M := by
  have hl := h.1
  first | (refine det_fn Try.func31 rfl Try.ntmps31 Try.results31 rfl rfl rfl (by simp) ?_) | (refine det_fnC Try.func31 rfl Try.ntmps31 Try.results31 rfl rfl (by simp) ?_)
  simp
  refine awLoop_T (fun m T M' => ∃ k : Nat, k + m = n ∧ M' = M ∧ look T 3 = some (iv k) ∧ look T 0 = some (.pointer (some ⟨B, off0, none⟩)) ∧ ∀ i, i < k → clipB (el l i) = true ∧ (0 < i → (el l (i - 1)).at_ ≤ (el l i).at_)) n ⟨0, by omega, rfl, by simp, by simp, by omega⟩ ?_
  rintro m T M' ⟨k, hm, rfl, h3, h0, hk⟩
  by_cases hlt : k < n
  · obtain ⟨id, off, rfl, he, hc⟩ := h.at_ hlt
    obtain ⟨c0, c1, c2, c3, c4⟩ := clip_cells hc
    simp (disch := omega) [h3, h0, hlt, hp, wrap_in]
    refine awDraw_E 29 [[],[0],[1,0],[2,1,0],[],[3,2,1,0,4],[5,3,2,1,0,4],[6,5,3,2,1,0,4],[7,6,5,3,2,1,0,4],[8,7,6,5,3,2,1,0,4],[9,8,7,6,5,3,2,1,0,4],[10,9,8,7,6,5,3,2,1,0,4],[11,10,9,8,7,6,5,3,2,1,0,4],[12,11,10,9,8,7,6,5,3,2,1,0,4],[13,12,11,10,9,8,7,6,5,3,2,1,0,4],[14,13,12,11,10,9,8,7,6,5,3,2,1,0,4],[11,10,9,8,7,6,5,3,2,1,0,4],[16,11,10,9,8,7,6,5,3,2,1,0,4],[15,14,13,12,11,10,9,8,7,6,5,3,2,1,0,4,17,16],[18,15,14,13,12,11,10,9,8,7,6,5,3,2,1,0,4,17,16],[19,18,15,14,13,12,11,10,9,8,7,6,5,3,2,1,0,4,17,16],[11,10,9,8,7,6,5,3,2,1,0,4],[21,11,10,9,8,7,6,5,3,2,1,0,4],[22,21,11,10,9,8,7,6,5,3,2,1,0,4],[23,22,21,11,10,9,8,7,6,5,3,2,1,0,4],[11,10,9,8,7,6,5,3,2,1,0,4],[24,23,22,21,11,10,9,8,7,6,5,3,2,1,0,4,25],[26,24,23,22,21,11,10,9,8,7,6,5,3,2,1,0,4,25],[27,26,24,23,22,21,11,10,9,8,7,6,5,3,2,1,0,4,25],[20,19,18,15,14,13,12,11,10,9,8,7,6,5,3,2,1,0,4,17,16,28,27,26,24,23,22,21,25],[11,10,9,8,7,6,5,3,2,1,0,4,29,20,19,18,15,14,13,12,17,16,28,27,26,24,23,22,21,25],[8,7,6,5,3,2,1,0,4,30,11,10,9,29,20,19,18,15,14,13,12,17,16,28,27,26,24,23,22,21,25]] (by kernel_rfl) (by kernel_rfl) ?_
    simp (disch := omega) [h3, h0, hlt, hp, he, wrap_in]
    refine awCall_det' (l23Clip_a hc) (by simp) ?_
    have hkl : k < l.length := by omega
    simp
    cases hg : clipB (el l k)
    · simp (disch := omega) [h3, hg]
      rw [okC_not hkl (by simp [hg])]
      simp [Keeps.refl]
    · simp (disch := omega) [h3, hg]
      rcases k with _ | j
      · simp (disch := omega) [h3, h0, wrap_in]
        refine lpI (m - 1) (by omega) ?_
        refine ⟨1, by omega, rfl, by simp, by simp [h0], ?_⟩
        intro i hi
        obtain rfl : i = 0 := by omega
        simp [hg]
      · obtain ⟨_, _, he', _, hc'⟩ := h.at_ (i := j) (by omega)
        cases he'
        obtain ⟨_, _, _, d3, _⟩ := clip_cells hc'
        simp (disch := omega) [h0, h3, hp, he, wrap_in, c3, d3]
        refine ⟨by omega, by omega, ?_⟩
        refine awCond_split ?_ ?_ <;> intro hs
        · simp at hs
          simp
          rw [okC_not hkl (by simp; omega)]
          simp [Keeps.refl]
        · simp at hs
          simp (disch := omega) [h3, h0, wrap_in]
          refine lpI (m - 1) (by omega) ?_
          refine ⟨j + 1 + 1, by omega, rfl, by simp, by simp [h0], ?_⟩
          intro i hi
          by_cases hi' : i < j + 1
          · exact hk i hi'
          · obtain rfl : i = j + 1 := by omega
            simp [hg, hs]
  · obtain rfl : k = n := by omega
    simp [h3, h0, hp]
    rw [okC_of (by rw [hl]; exact hk), hl]
    simp [Keeps.refl]
    omega
theorem isTrack_a {M : Mem} {A : Option Addr} {n c : Nat} {l : List Clip} (h : Sl clipR M A n l) (hn : n ≤ 4611686018427387904) : Det Try.prog M.length 35 [.agg #[.slice A n c]] M (.bool (okC l)) M := by
  have hl := h.1
  first | (refine det_fn Try.func35 rfl Try.ntmps35 Try.results35 rfl rfl rfl (by simp) ?_) | (refine det_fnC Try.func35 rfl Try.ntmps35 Try.results35 rfl rfl (by simp) ?_)
  simp
  refine awLoop_T (fun m T M' => ∃ k : Nat, k + m = n ∧ Keeps M M' ∧ cellAt M' M.length 0 = some (.slice A n c) ∧ look T 8 = some (iv k) ∧ look T 7 = some (iv n) ∧ look T 6 = some (.slice A n c) ∧ look T 1 = some (.pointer (some ⟨M.length, 0, none⟩)) ∧ ∀ i, i < k → clipB (el l i) = true ∧ (0 < i → (el l (i - 1)).at_ ≤ (el l i).at_)) n ⟨0, by omega, keeps_app _, by simp, by simp, by simp, by simp, by simp, by omega⟩ ?_
  rintro m T M' ⟨k, hm, hK, hp, h8, h7, h6, h1, hk⟩
  by_cases hlt : k < n
  · have h' := h.keeps hK
    have hKl := hK.len
    obtain ⟨id, off, rfl, he, hc⟩ := h'.at_ hlt
    obtain ⟨c0, c1, c2, c3, c4⟩ := clip_cells hc
    have hkl : k < l.length := by omega
    simp (disch := omega) [h8, h7, h6, h1, hlt, wrap_in, clip_load hc]
    refine awDraw_E 16 [[],[0],[1,0],[2,1,0],[3,2,1,0],[4,3,2,1,0],[5,4,3,2,1,0],[6,5,4,3,2,1,0],[7,6,5,4,3,2,1,0],[6,5,4,3,2,1,0],[9,6,5,4,3,2,1,0],[6,5,4,3,2,1,0],[11,6,5,4,3,2,1,0],[10,9,6,5,4,3,2,1,0,12,11],[13,10,9,6,5,4,3,2,1,0,12,11],[14,13,10,9,6,5,4,3,2,1,0,12,11],[8,7,6,5,4,3,2,1,0,15,14,13,10,9,12,11],[6,5,4,3,2,1,0,16,8,7,15,14,13,10,9,12,11],[3,2,1,0,17,6,5,4,16,8,7,15,14,13,10,9,12,11]] (by kernel_rfl) (by kernel_rfl) ?_
    simp (disch := omega) [h8, h7, h6, h1, hlt, wrap_in]
    refine awCall_det' (isClip_a (el l k)) (by simp <;> omega) ?_
    simp
    cases hg : clipB (el l k)
    · simp (disch := omega) [h1, h8, hg]
      rw [okC_not hkl (by simp [hg])]
      simp [hK.app]
    · simp (disch := omega) [h1, h8, hg]
      rcases k with _ | j
      · simp (disch := omega) [h8, h7, h6, h1, wrap_in]
        refine lpI (m - 1) (by omega) ?_
        refine ⟨1, by omega, hK.app _, cellAt_app hp _, by simp, by simp [h7], by simp [h6], by simp [h1], ?_⟩
        intro i hi
        obtain rfl : i = 0 := by omega
        simp [hg]
      · obtain ⟨_, _, he', _, hc'⟩ := h'.at_ (i := j) (by omega)
        cases he'
        obtain ⟨_, _, _, d3, _⟩ := clip_cells hc'
        simp (disch := omega) [h1, h8, wrap_in, cellAt_app hp, cellAt_app c3, cellAt_app d3, rowEsz_keeps (keeps_app _) he]
        refine ⟨by omega, ?_⟩
        refine awCond_split ?_ ?_ <;> intro hs
        · simp at hs
          simp
          rw [okC_not hkl (by simp; omega)]
          simp [hK.app]
        · simp at hs
          simp (disch := omega) [h8, h7, h6, h1, wrap_in]
          refine lpI (m - 1) (by omega) ?_
          refine ⟨j + 1 + 1, by omega, hK.app _, cellAt_app hp _, by simp, by simp [h7], by simp [h6], by simp [h1], ?_⟩
          intro i hi
          by_cases hi' : i < j + 1
          · exact hk i hi'
          · obtain rfl : i = j + 1 := by omega
            simp [hg, hs]
  · obtain rfl : k = n := by omega
    simp [h8, h7, h6, h1, hp]
    rw [okC_of (by rw [hl]; exact hk), hl]
    simp [hK]
    try omega
















end Go.Proofs.Ytimijeeihicohaa

namespace Go.Proofs.Ytimijeeihicohaa
open Go.RowKit
set_option linter.unusedVariables false
set_option linter.unusedSimpArgs false
set_option maxRecDepth 100000
attribute [local simp] List.getElem?_cons_zero
attribute [local irreducible] awCond awCall awLoop awDraw ow retQ retC resQ Keeps
def putK : List Clip → Int → Nat
  | [], _ => 0
  | c :: l, a => if c.at_ ≤ a then putK l a + 1 else 0
theorem putK_le (a : Int) : ∀ l : List Clip, putK l a ≤ l.length
  | [] => Nat.le_refl _
  | c :: l => by
    have := putK_le a l
    rw [putK, List.length_cons]
    split <;> omega
theorem putK_eq {a : Int} : ∀ {l : List Clip} {k : Nat}, k ≤ l.length → (∀ i, i < k → (el l i).at_ ≤ a) → (k < l.length → ¬ (el l k).at_ ≤ a) → putK l a = k
  | [], k, hk, _, _ => by simp at hk; rw [hk]; rfl
  | c :: l, k, hk, h1, h2 => by
    rw [putK]
    cases k with
    | zero =>
      have := h2 (by simp)
      rw [show el (c :: l) 0 = c from rfl] at this
      rw [if_neg this]
    | succ k =>
      have := h1 0 (by omega)
      rw [show el (c :: l) 0 = c from rfl] at this
      rw [if_pos this, putK_eq (l := l) (k := k) (by simpa using hk) (fun i hi => h1 (i + 1) (by omega)) (fun hk' => h2 (by simpa using hk'))]
def insL (l : List Clip) (x : Clip) : List Clip := l.take (putK l x.at_) ++ x :: l.drop (putK l x.at_)
theorem insL_len (l : List Clip) (x : Clip) : (insL l x).length = l.length + 1 := by
  have := putK_le x.at_ l
  simp [insL]
  omega
theorem okC_up {l : List Clip} (h : okC l = true) : ∀ (d i : Nat), i + d < l.length → (el l i).at_ ≤ (el l (i + d)).at_ := by
  unfold okC at h
  simp only [Bool.and_eq_true, decide_eq_true_eq] at h
  intro d
  induction d with
  | zero => intro i _; exact Int.le_refl _
  | succ d ih =>
    intro i hi
    have h1 := ih i (by omega)
    have h2 := (h.1 (i + d + 1) (by omega)).2 (by omega)
    rw [show i + d + 1 - 1 = i + d by omega] at h2
    rw [show i + (d + 1) = i + d + 1 by omega]
    omega
theorem append_newC {P : Program} {α : Type} {k : Nat} {R : RecV α k} {e t tx : TypeId} {b by_ id : Nat} {S : St} {x : Value} {ls : List α} {K : Value → Mem → Prop} (hr : S.M[id]? = some (.live ⟨[], true, true, e, k⟩)) (hq : qSlice P t = some (e, k, by_))
    (hz : (P.info? e).any (fun i => i.zero.any fun z => z.cells.size == k) = true) (hs : srcOf P S.M k tx x = some (ls.length, cellsL R ls)) (h1 : (cellsL R ls).all (fun u => u.oneCell') = true) (hn : ls.length * by_ ≤ 140737488355328) (hm : ls.length ≤ maxLen)
    (hK0 : ls = [] → K (.slice (some ⟨id, 0, none⟩) 0 0) S.M) (hK1 : ls ≠ [] → K (.slice (some ⟨S.M.length, 0, none⟩) ls.length ls.length) (S.M ++ [.live ⟨cellsL R ls, true, false, e, k⟩])) : appendK P b S K t tx (.slice (some ⟨id, 0, none⟩) 0 0) x := by
  unfold appendK
  rw [hq]
  simp only [ow_some]
  rw [hs]
  simp only [ow_some]
  refine ⟨hz, h1, ?_⟩
  simp only [hr]
  refine ⟨⟨trivial, by simp, trivial, trivial⟩, by simpa using hn, by simpa using hm, fun h => ?_, fun h => ?_⟩
  · exact hK0 (List.eq_nil_of_length_eq_zero h)
  · rw [if_pos trivial]
    have := hK1 (fun e => h (by simp [e]))
    simpa using this
theorem CloneClip_d {M : Mem} {A : Option Addr} {n c : Nat} {l : List Clip} (h : Sl clipR M A n l) (hn : n ≤ 1048576) : ∃ A' c' N, Det Try.prog M.length 43 [.slice A n c] M (.slice A' n c') (M ++ N) ∧ Acc clipR 34 M.length (M ++ N) (.slice A' n c') l := by
  have hl := h.1
  rcases A with _ | ad
  · have h0 : n = 0 := by
      rcases Nat.eq_zero_or_pos n with e | e
      · exact e
      · obtain ⟨_, _, e', _⟩ := h.2 e
        cases e'
    subst h0
    obtain rfl := List.eq_nil_of_length_eq_zero hl
    refine ⟨none, 0, [], Ctr.det ?_, .nil⟩
    first | (refine ctr_fn Try.func43 rfl Try.ntmps43 Try.results43 rfl rfl (by simp) ?_) | (refine ctr_fnC Try.func43 rfl Try.ntmps43 Try.results43 rfl (by simp) ?_)
    simp [nil_eq Try.underlying28]
  · by_cases h0 : n = 0
    · subst h0
      obtain rfl := List.eq_nil_of_length_eq_zero hl
      refine ⟨some ⟨M.length, 0, none⟩, 0, [.live ⟨[], true, true, 34, 5⟩], Ctr.det ?_, ⟨_, 0, 0, rfl, rfl, .inr ⟨M.length, true, rfl, Nat.le_refl _, by simp [cellsL]⟩⟩⟩
      first | (refine ctr_fn Try.func43 rfl Try.ntmps43 Try.results43 rfl rfl (by simp) ?_) | (refine ctr_fnC Try.func43 rfl Try.ntmps43 Try.results43 rfl (by simp) ?_)
      simp [nil_eq Try.underlying28]
      refine append_newC (R := clipR) (e := 34) (by_ := 40) (ls := []) (by simp) (by simp) (by kernel_rfl) ((h.app _).src (by omega) ⟨_, Try.underlying28⟩) (clip_one _) (by simp) (by simp) (fun _ => ?_) (fun h => absurd rfl h)
      simp
    · refine ⟨some ⟨M.length + 1, 0, none⟩, n, [.live ⟨[], true, true, 34, 5⟩, .live ⟨cellsL clipR l, true, false, 34, 5⟩], Ctr.det ?_, ⟨_, n, n, rfl, hl, .inr ⟨M.length + 1, false, rfl, by omega, by simp⟩⟩⟩
      first | (refine ctr_fn Try.func43 rfl Try.ntmps43 Try.results43 rfl rfl (by simp) ?_) | (refine ctr_fnC Try.func43 rfl Try.ntmps43 Try.results43 rfl (by simp) ?_)
      simp [nil_eq Try.underlying28]
      refine append_newC (R := clipR) (e := 34) (by_ := 40) (ls := l) (by simp) (by simp) (by kernel_rfl) ((h.app _).src (by omega) ⟨_, Try.underlying28⟩) (clip_one _) (by omega) (by unfold maxLen; omega) (fun h => by rw [h] at hl; simp at hl; omega) (fun _ => ?_)
      simp [hl]
end Go.Proofs.Ytimijeeihicohaa

namespace Go.Proofs.Ytimijeeihicohaa
open Go.RowKit
set_option linter.unusedVariables false
set_option linter.unusedSimpArgs false
set_option maxRecDepth 100000
attribute [local simp] List.getElem?_cons_zero
attribute [local irreducible] awCond awCall awLoop awDraw ow retQ retC resQ Keeps
theorem acc_hole {M N : Mem} {v : Value} {l : List Clip} {s : Slot} (h : Acc clipR 34 (M.length + 1) (M ++ [Slot.hole] ++ N) v l) : Acc clipR 34 (M.length + 1) (M ++ s :: N) v l := by
  obtain ⟨A, n, c, h1, h2, h3⟩ := h
  refine ⟨A, n, c, h1, h2, h3.imp id fun ⟨id, t, e, hi, hr⟩ => ⟨id, t, e, hi, ?_⟩⟩
  rw [List.getElem?_append_right (by simp; omega)] at hr
  rw [List.getElem?_append_right (by omega)]
  rw [show id - M.length = (id - (M ++ [Slot.hole]).length) + 1 by simp; omega, List.getElem?_cons_succ]
  exact hr
set_option maxHeartbeats 2000000 in
theorem put_i {M : Mem} {A : Option Addr} {n c : Nat} {l : List Clip} (g : Clip) (h : Sl clipR M A n l) (hn : n ≤ 12) : Ctr Try.prog M.length 37 [.agg #[.slice A n c], g.v] M fun r M' => ∃ v0, r = .tuple #[.agg #[v0], iv (putK l g.at_)] ∧ Acc clipR 34 M.length M' v0 (insL l g) ∧ Keeps M M' := by
  have hl := h.1
  first | (refine ctr_fn Try.func37 rfl Try.ntmps37 Try.results37 rfl rfl (by simp) ?_) | (refine ctr_fnC Try.func37 rfl Try.ntmps37 Try.results37 rfl (by simp) ?_)
  simp
  obtain ⟨M0, hM0⟩ : ∃ M0 : Mem, M0 = M ++ [Slot.live ⟨[.slice A n c], true, true, 30, 1⟩, Slot.live ⟨[iv g.src, iv g.fr, iv g.len, iv g.at_, iv g.gain], true, true, 34, 5⟩, Slot.live ⟨[.slice none 0 0], true, true, 30, 1⟩] := ⟨_, rfl⟩
  have kb : Keeps M M0 := by rw [hM0]; exact keeps_app _
  have qb : M0.length = M.length + 3 := by rw [hM0]; simp
  have b0 : cellAt M0 M.length 0 = some (.slice A n c) := by rw [hM0]; simp
  have b1 : cellsAt M0 (M.length + 1) 0 5 = some [iv g.src, iv g.fr, iv g.len, iv g.at_, iv g.gain] := by rw [hM0]; simp
  have b13 : cellAt M0 (M.length + 1) 3 = some (iv g.at_) := by rw [hM0]; simp
  have b2 : M0[M.length + 2]? = some (Slot.live ⟨[.slice none 0 0], true, true, 30, 1⟩) := by rw [hM0]; simp
  rw [← hM0]
  clear hM0
  have h0 := h.keeps kb
  refine awLoop_T (fun m T M' => ∃ k : Nat, k + m = n ∧ M' = M0 ∧ look T 6 = some (iv k) ∧ look T 2 = some (.pointer (some ⟨M.length, 0, none⟩)) ∧ look T 3 = some (.pointer (some ⟨M.length + 1, 0, none⟩)) ∧ look T 4 = some (.pointer (some ⟨M.length + 2, 0, none⟩)) ∧ ∀ i, i < k → (el l i).at_ ≤ g.at_) n ⟨0, by omega, rfl, by simp, by simp, by simp, by simp, fun i hi => by omega⟩ ?_
  rintro m T M' ⟨k, hm, rfl, t6, t2, t3, t4, hk⟩
  by_cases hlt : k < n
  · obtain ⟨id, off, rfl, he, hc⟩ := h0.at_ hlt
    obtain ⟨c0, c1, c2, c3, c4⟩ := clip_cells hc
    simp
    refine awDraw_E 14 [[],[],[1],[2,1],[0,3,2,1],[4,0,3,2,1],[5,4,0,3,2,1],[6,5,4,0,3,2,1],[5,4,0,3,2,1],[7,6,5,4,0,3,2,1,8],[9,7,6,5,4,0,3,2,1,8],[10,9,7,6,5,4,0,3,2,1,8],[5,4,0,3,2,1],[12,5,4,0,3,2,1],[11,10,9,7,6,5,4,0,3,2,1,8,13,12],[5,4,0,3,2,1,14,11,10,9,7,6,8,13,12]] (by kernel_rfl) (by kernel_rfl) ?_
    simp (disch := omega) [t6, t2, t3, t4, b0, hlt, wrap_in, he, c3, b13]
    refine awCond_split ?_ ?_ <;> intro hq <;> simp at hq
    · simp (disch := omega) [t6, t2, t3, t4, wrap_in]
      refine lpI (m - 1) (by omega) ⟨k + 1, by omega, rfl, by simp, by simp [t2], by simp [t3], by simp [t4], fun i hi => ?_⟩
      by_cases hik : i < k
      · exact hk i hik
      · obtain rfl : i = k := by omega
        exact hq
    · have hK : putK l g.at_ = k := putK_eq (by omega) hk fun _ => by omega
      simp (disch := omega) [t6, t2, t3, t4, wrap_in]
      refine awDraw_P 7 [[],[0],[],[],[3],[],[1,0],[6,1,0,2,4,3],[7,6,1,0,2,4,3],[8,7,6,1,0,2,4,3],[5,9,8,7,6,1,0,2,4,3]] [5] [0,1,6,2,3,4,7,8,5,9,10] [0,1,3,4,5,8,2,6,7,9,10] (by kernel_rfl) (by decide +kernel) (by decide +kernel) (by decide +kernel) ?_; intro ops' hops; simp [rnOp] at hops; subst hops
      simp (disch := omega) [t6, t2, t3, t4, b0, b1, wrap_in]
      obtain ⟨A', c', N, d, hA⟩ := CloneClip_d (c := c) (h0.app [Slot.hole]) (by omega)
      refine awCall_det' (d := true) d (by simp) ?_
      refine ⟨N, by simp [holes], ?_⟩
      rw [show (M' ++ [Slot.hole]).length = M'.length + 1 by simp] at hA
      replace hA := acc_hole (s := Slot.live ⟨g.row, true, true, 34, 5⟩) hA
      have hne : ∀ id c, Value.slice A' (List.length l) c' = .slice (some ⟨id, 0, none⟩) l.length c → M'.length ≠ id := by
        intro id c e
        obtain ⟨A4, n4, c4, e4, -, h4⟩ := hA
        rw [← hl] at e4
        rw [e] at e4
        injection e4 with e5 e6 e7
        rcases h4 with ⟨h4, -⟩ | ⟨id4, t4, h4, h5, -⟩
        · rw [← e5] at h4; cases h4
        · rw [← e5] at h4; injection h4 with h4; injection h4 with h4; omega
      rw [← hl] at hA
      have kN : Keeps M' (M' ++ Slot.live ⟨g.row, true, true, 34, 5⟩ :: N) := keeps_app _
      have hI := Insert_a (b := M.length) (c2 := 1) (i := k) (x := g) hA (by omega) (by simp) (by omega) (by omega) rfl (t2 := true) (e2 := 34) (by simp) hne
      rw [hl] at hI
      refine awCall_ctr hI ?_
      clear hI
      rintro v1 M2 ⟨hI, hS⟩
      have hb2 : M2[M.length + 2]? = some (Slot.live ⟨[.slice none 0 0], true, true, 30, 1⟩) := hS.2 _ _ (by omega) (kN.get b2)
      obtain ⟨A3, n3, c3, rfl, hn3, hI2⟩ := hI
      have hfill : Instr.fill (fun x => [(0, 1)][x]?) #[Value.slice none 0 0] [(0, .slice A3 n3 c3)] = some #[.slice A3 n3 c3] := by rfl
      have hput : putCells M.length M2 (M.length + 2) 0 [.slice A3 n3 c3] = some (M2.set (M.length + 2) (Slot.live ⟨[.slice A3 n3 c3], true, true, 30, 1⟩)) := put_whole hb2 (by omega) rfl rfl
      have hb2l := (List.getElem?_eq_some_iff.1 hb2).1
      simp (disch := omega) [hfill, t4, hput, hb2l]
      have hcs : cellsAt (M2.set (M.length + 2) (Slot.live ⟨[.slice A3 n3 c3], true, true, 30, 1⟩)) (M.length + 2) 0 1 = some [.slice A3 n3 c3] := by simp [cellsAt, hb2l]
      have hI3 : Acc clipR 34 (M'.length + 1) M2 (.slice A3 n3 c3) (l.take k ++ g :: l.drop k) := ⟨_, _, _, rfl, hn3, hI2⟩
      rw [hcs]
      simp
      refine ⟨_, ⟨rfl, by rw [hK]⟩, ?_, keeps_set (hS.keeps (kb.trans kN) (by omega)) (by omega)⟩
      unfold insL
      rw [hK]
      exact (hI3.set_ne (by omega)).low (by omega)
  · obtain rfl : k = n := by omega
    have hK : putK l g.at_ = k := putK_eq (by omega) hk fun h => by omega
    simp
    refine awDraw_E 14 [[],[],[1],[2,1],[0,3,2,1],[4,0,3,2,1],[5,4,0,3,2,1],[6,5,4,0,3,2,1],[5,4,0,3,2,1],[7,6,5,4,0,3,2,1,8],[9,7,6,5,4,0,3,2,1,8],[10,9,7,6,5,4,0,3,2,1,8],[5,4,0,3,2,1],[12,5,4,0,3,2,1],[11,10,9,7,6,5,4,0,3,2,1,8,13,12],[5,4,0,3,2,1,14,11,10,9,7,6,8,13,12]] (by kernel_rfl) (by kernel_rfl) ?_
    simp (disch := omega) [t6, t2, t3, t4, b0, wrap_in]
    refine awDraw_P 7 [[],[0],[],[],[3],[],[1,0],[6,1,0,2,4,3],[7,6,1,0,2,4,3],[8,7,6,1,0,2,4,3],[5,9,8,7,6,1,0,2,4,3]] [5] [0,1,6,2,3,4,7,8,5,9,10] [0,1,3,4,5,8,2,6,7,9,10] (by kernel_rfl) (by decide +kernel) (by decide +kernel) (by decide +kernel) ?_; intro ops' hops; simp [rnOp] at hops; subst hops
    simp (disch := omega) [t6, t2, t3, t4, b0, b1, wrap_in]
    obtain ⟨A', c', N, d, hA⟩ := CloneClip_d (c := c) (h0.app [Slot.hole]) (by omega)
    refine awCall_det' (d := true) d (by simp) ?_
    refine ⟨N, by simp [holes], ?_⟩
    rw [show (M' ++ [Slot.hole]).length = M'.length + 1 by simp] at hA
    replace hA := acc_hole (s := Slot.live ⟨g.row, true, true, 34, 5⟩) hA
    have hne : ∀ id c, Value.slice A' (List.length l) c' = .slice (some ⟨id, 0, none⟩) l.length c → M'.length ≠ id := by
      intro id c e
      obtain ⟨A4, n4, c4, e4, -, h4⟩ := hA
      rw [← hl] at e4
      rw [e] at e4
      injection e4 with e5 e6 e7
      rcases h4 with ⟨h4, -⟩ | ⟨id4, t4, h4, h5, -⟩
      · rw [← e5] at h4; cases h4
      · rw [← e5] at h4; injection h4 with h4; injection h4 with h4; omega
    rw [← hl] at hA
    have kN : Keeps M' (M' ++ Slot.live ⟨g.row, true, true, 34, 5⟩ :: N) := keeps_app _
    have hI := Insert_a (b := M.length) (c2 := 1) (i := k) (x := g) hA (by omega) (by simp) (by omega) (by omega) rfl (t2 := true) (e2 := 34) (by simp) hne
    rw [hl] at hI
    refine awCall_ctr hI ?_
    clear hI
    rintro v1 M2 ⟨hI, hS⟩
    have hb2 : M2[M.length + 2]? = some (Slot.live ⟨[.slice none 0 0], true, true, 30, 1⟩) := hS.2 _ _ (by omega) (kN.get b2)
    obtain ⟨A3, n3, c3, rfl, hn3, hI2⟩ := hI
    have hfill : Instr.fill (fun x => [(0, 1)][x]?) #[Value.slice none 0 0] [(0, .slice A3 n3 c3)] = some #[.slice A3 n3 c3] := by rfl
    have hput : putCells M.length M2 (M.length + 2) 0 [.slice A3 n3 c3] = some (M2.set (M.length + 2) (Slot.live ⟨[.slice A3 n3 c3], true, true, 30, 1⟩)) := put_whole hb2 (by omega) rfl rfl
    have hb2l := (List.getElem?_eq_some_iff.1 hb2).1
    simp (disch := omega) [hfill, t4, hput, hb2l]
    have hcs : cellsAt (M2.set (M.length + 2) (Slot.live ⟨[.slice A3 n3 c3], true, true, 30, 1⟩)) (M.length + 2) 0 1 = some [.slice A3 n3 c3] := by simp [cellsAt, hb2l]
    have hI3 : Acc clipR 34 (M'.length + 1) M2 (.slice A3 n3 c3) (l.take k ++ g :: l.drop k) := ⟨_, _, _, rfl, hn3, hI2⟩
    rw [hcs]
    simp
    refine ⟨_, ⟨rfl, by rw [hK]⟩, ?_, keeps_set (hS.keeps (kb.trans kN) (by omega)) (by omega)⟩
    unfold insL
    rw [hK]
    exact (hI3.set_ne (by omega)).low (by omega)
end Go.Proofs.Ytimijeeihicohaa
