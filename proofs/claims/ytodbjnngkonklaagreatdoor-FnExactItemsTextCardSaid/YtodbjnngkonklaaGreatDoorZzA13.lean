/- Parts of the proof, together: Which lists of items are valid: the program. The texts of items, in plain words. The texts of items: the program. Regions that draw their order, in which some operations, each of which waits for the one before, turn memory, and the others only read. Ways that part and meet again. No conditions. -/
import Derived.Test.YtodbjnngkonklaaGreatDoorZzA12
import Derived.Test.YtodbjnngkonklaaGreatDoorZzA11
namespace Go.Proofs.YtodbjnngkonklaaGreatDoor
open Go.RowKit
set_option linter.unusedVariables false
set_option linter.unusedSimpArgs false
set_option maxRecDepth 100000
attribute [local simp] List.getElem?_cons_zero
attribute [local irreducible] awCond awCall awLoop awDraw ow retQ retC resQ Keeps
theorem sizeItem_a {M : Mem} {A : Option Addr} {n c : Nat} : Det Tryz.prog M.length 27 [.slice A n c] M (iv n) M := by
  first | (refine det_fn Tryz.func27 rfl Tryz.ntmps27 Tryz.results27 rfl rfl rfl (by simp) ?_) | (refine det_fnC Tryz.func27 rfl Tryz.ntmps27 Tryz.results27 rfl rfl (by simp) ?_)
  simp [Keeps.refl]
theorem isGroup_i {M : Mem} {lo hi : Nat} {us : List Value} {x : Item} (h : itemP.rd lo hi M x us) : Det Tryz.prog M.length 28 [.agg us.toArray] M (.bool (grpB x)) M := by
  obtain ⟨u, rfl, hu⟩ := h
  obtain ⟨A, n, c, rfl⟩ := hu.isSl
  first | (refine det_fn Tryz.func28 rfl Tryz.ntmps28 Tryz.results28 rfl rfl rfl (by simp) ?_) | (refine det_fnC Tryz.func28 rfl Tryz.ntmps28 Tryz.results28 rfl rfl (by simp) ?_)
  simp
  by_cases h1 : x.j = 4
  · simp [h1, grpB, keeps_app]
  · simp [h1, grpB, keeps_app]
theorem SlP.part {α : Type} {k : Nat} [Inhabited α] {P : RecP α k} {M : Mem} {id off n lo hi a b : Nat} {l : List α} (h : SlP P lo hi M (some ⟨id, off, none⟩) n l) (hab : a ≤ b) (hb : b ≤ n) : SlP P lo hi M (some ⟨id, off + a * k, none⟩) (b - a) ((l.drop a).take (b - a)) := by
  have hl := h.1
  refine ⟨by rw [List.length_take, List.length_drop]; omega, fun hp => ?_⟩
  obtain ⟨_, _, e, h1, h2, h3, h4⟩ := h.2 (by omega)
  cases e
  refine ⟨id, off + a * k, rfl, h1, h2, h3, fun i hi => ?_⟩
  obtain ⟨us, q1, q2⟩ := h4 (a + i) (by omega)
  refine ⟨us, ?_, ?_⟩
  · have : el ((l.drop a).take (b - a)) i = el l (a + i) := by
      simp [el, List.getElem?_take, hi]
    rw [this]
    exact q1
  · rw [show off + a * k + i * k = off + (a + i) * k by rw [Nat.add_mul]; omega]
    exact q2
def NestTo (N : Nat) : Prop := ∀ (M : Mem) (A : Option Addr) (n c : Nat) (l : List Item) (lo hi g : Nat), SlP itemP lo hi M A n l → n ≤ 1048576 → g ≤ 3 → n < N → (∀ x, x ∈ l → itemI x = true) →
  Det Tryz.prog M.length 26 [.slice A n c, iv g] M (.bool (scanI (3 - g) l)) M
theorem nest4 {M : Mem} {A : Option Addr} {n c : Nat} (hn : 1 ≤ n) : Det Tryz.prog M.length 26 [.slice A n c, iv 4] M (.bool false) M := by
  first | (refine det_fn Tryz.func26 rfl Tryz.ntmps26 Tryz.results26 rfl rfl rfl (by simp) ?_) | (refine det_fnC Tryz.func26 rfl Tryz.ntmps26 Tryz.results26 rfl rfl (by simp) ?_)
  simp
  exact ⟨by omega, Keeps.refl _⟩
set_option maxHeartbeats 2000000 in
theorem nest_step {N : Nat} (hN : NestTo N) : NestTo (N + 1) := by
  intro M A n c l lo hi g h hn hg hlt hv
  have hl := h.1
  have hg' : ¬ (3 : Int) < g := by omega
  first | (refine det_fn Tryz.func26 rfl Tryz.ntmps26 Tryz.results26 rfl rfl rfl (by simp) ?_) | (refine det_fnC Tryz.func26 rfl Tryz.ntmps26 Tryz.results26 rfl rfl (by simp) ?_)
  simp [hg']
  refine awLoop_T (fun m T M' => ∃ i : Nat, i + m = n ∧ M' = M ∧ scanI (3 - g) l = scanI (3 - g) (subI l i n) ∧ look T 5 = some (iv i) ∧ look T 0 = some (.slice A n c) ∧ look T 1 = some (iv g)) n ⟨0, by omega, rfl, by rw [show subI l 0 n = l by rw [← hl]; exact subI_all], by simp, by simp, by simp⟩ ?_
  rintro m T M' ⟨i, hm, rfl, hs, t5, t0, t1⟩
  simp (disch := omega) [t5, t0, t1]
  refine awCall_det' sizeItem_a (by omega) ?_
  by_cases hib : i < n
  case neg =>
    obtain rfl : i = n := by omega
    rw [hs, subI_nil, scanI_nil]
    simp (disch := omega) [t5, t0, t1, Keeps.refl]
  have hib' : (i : Int) < n := by omega
  obtain ⟨id, off, us, rfl, he, hrd, hc⟩ := h.at_ hib
  have hrd2 := hrd
  obtain ⟨A1, n1, c1', hu, hus, c0, c1, c2, c4, c5, c7, c8⟩ := item_cells hrd2 hc
  have hcons := subI_cons (l := l) hib (by omega)
  have hrl : (subI l (i + 1) n).length = n - (i + 1) := subI_len (by omega) (by omega)
  have hiI := hv _ (el_mem (show i < l.length by omega))
  unfold itemI at hiI
  rw [Bool.and_eq_true] at hiI
  obtain ⟨h1, h2⟩ := hiI
  rw [hcons, scanI_cons, h1, Bool.true_and] at hs
  simp (disch := omega) [t5, t0, t1, hib, hib', he, c8]
  refine awCall_det' (isGroup_i hrd) (by omega) ?_
  by_cases hg2 : grpB (el l i) = true
  case neg =>
    rw [if_neg hg2] at hs
    simp (disch := omega) [hg2, t5, t0, t1, wrap_in]
    exact lpI (m - 1) (by omega) ⟨i + 1, by omega, rfl, hs, by simp, by simp [t0], by simp [t1]⟩
  have hz1 : 1 ≤ (el l i).z := by simpa [hg2] using h2
  rw [if_pos hg2, hrl] at hs
  simp (disch := omega) [hg2, t5, t0, t1, hib, hib', c7, wrap_in]
  refine awCall_det' sizeItem_a (by omega) ?_
  have eI : inB (el l i).z 1 ((n - (i + 1) : Nat) : Int) = decide ((el l i).z ≤ (n : Int) - i - 1) := by
    unfold inB
    rw [decide_eq_true hz1, Bool.true_and]
    exact decide_eq_decide.2 (by omega)
  rw [eI] at hs
  by_cases hz : (el l i).z ≤ (n : Int) - i - 1
  case neg =>
    have hz' : (n : Int) - i - 1 < (el l i).z := by omega
    rw [hs]
    simp (disch := omega) [hz, hz', t5, t0, t1, wrap_in, Keeps.refl]
  have hz' : ¬ (n : Int) - i - 1 < (el l i).z := by omega
  obtain ⟨z, hz2⟩ : ∃ z : Nat, (el l i).z = z := ⟨(el l i).z.toNat, by omega⟩
  rw [decide_eq_true hz, Bool.true_and, hz2, Int.toNat_natCast, subI_take (by omega), subI_drop] at hs
  rw [hz2] at c7 hz1 hz hz'
  simp (disch := omega) [hz2, hz, hz', t5, t0, t1, wrap_in, he]
  have ez : ((i : Int) + 1 + z).toNat - (i + 1) = z := by omega
  rw [ez]
  refine ⟨by omega, ?_⟩
  by_cases hg3 : g = 3
  · subst hg3
    refine awCall_det' (nest4 (M := M') (A := some ⟨id, off + (i + 1) * 8, none⟩) (n := z) (c := z) (by omega)) (by omega) ?_
    rw [hs]
    simp (disch := omega) [t5, t0, t1, Keeps.refl]
  have hd0 : decide (0 < 3 - g) = true := decide_eq_true (by omega)
  rw [hd0, Bool.true_and] at hs
  have hpart := h.part (a := i + 1) (b := i + 1 + z) (by omega) (by omega)
  rw [show i + 1 + z - (i + 1) = z by omega] at hpart
  have esub : (l.drop (i + 1)).take z = subI l (i + 1) (i + 1 + z) := by unfold subI; rw [show i + 1 + z - (i + 1) = z by omega]
  rw [esub] at hpart
  have hcall := hN M' (some ⟨id, off + (i + 1) * 8, none⟩) z z (subI l (i + 1) (i + 1 + z)) lo hi (g + 1) hpart (by omega) (by omega) (by omega) (fun x hx => hv x (by rw [← esub] at hx; exact List.mem_of_mem_drop (List.mem_of_mem_take hx)))
  rw [show 3 - (g + 1) = 3 - g - 1 by omega, show ((g + 1 : Nat) : Int) = (g : Int) + 1 by omega] at hcall
  refine awCall_det' hcall (by omega) ?_
  by_cases hr : scanI (3 - g - 1) (subI l (i + 1) (i + 1 + z)) = true
  case neg =>
    rw [hs]
    simp (disch := omega) [hr, t5, t0, t1, Keeps.refl]
  rw [hr, Bool.true_and] at hs
  simp (disch := omega) [hr, t5, t0, t1, wrap_in]
  exact lpI (m - 1 - z) (by omega) ⟨i + 1 + z, by omega, rfl, hs, by simp; omega, by simp [t0], by simp [t1]⟩
theorem nest_to : ∀ N, NestTo N
  | 0 => fun M A n c l lo hi g _ _ _ h => by omega
  | N + 1 => nest_step (nest_to N)
set_option maxHeartbeats 1000000 in
theorem areItems_i {M : Mem} {A : Option Addr} {n c lo hi : Nat} {l : List Item} (h : SlP itemP lo hi M A n l) (hn : n ≤ 1048576) : Det Tryz.prog M.length 13 [.slice A n c] M (.bool (okI l)) M := by
  have hl := h.1
  first | (refine det_fn Tryz.func13 rfl Tryz.ntmps13 Tryz.results13 rfl rfl rfl (by simp) ?_) | (refine det_fnC Tryz.func13 rfl Tryz.ntmps13 Tryz.results13 rfl rfl (by simp) ?_)
  simp
  refine awLoop_T (fun m T M' => ∃ k : Nat, k + m = n ∧ Keeps M M' ∧ (∀ i, i < k → itemI (el l i) = true) ∧ look T 7 = some (iv k) ∧ look T 6 = some (iv n) ∧ look T 5 = some (.slice A n c) ∧ look T 0 = some (.slice A n c)) n ⟨0, by omega, Keeps.refl _, fun i hi => by omega, by simp, by simp, by simp, by simp⟩ ?_
  rintro m T M' ⟨k, hm, hK, hok, t7, t6, t5, t0⟩
  have hKl := hK.len
  by_cases hlt : k < n
  · have hlt' : (k : Int) < n := by omega
    obtain ⟨id, off, us, rfl, he, hrd, hc⟩ := (h.keeps hK).at_ hlt
    have hrd2 := hrd
    obtain ⟨A1, n1, c1', hu, hus, -, -, -, -, -, -, c8⟩ := item_cells hrd2 hc
    subst hus
    simp (disch := omega) [t7, t6, t5, t0, hlt, hlt', he, c8]
    refine awCall_det' (isItem_i (RecP.app itemP hrd _)) (by first | omega | (simp; omega)) ?_
    by_cases h1 : itemI (el l k) = true
    case neg =>
      have e : okI l = false := by
        unfold okI
        rw [Bool.and_eq_false_iff]
        right
        cases hs : scanI 3 l with
        | false => rfl
        | true => exact absurd (scanI_all _ _ _ (Nat.le_refl _) hs _ (el_mem (by omega))) h1
      simp (disch := omega) [h1, e]
      exact hK.app _
    simp (disch := omega) [h1, t7, t6, t5, t0, wrap_in]
    refine lpI (m - 1) (by omega) ⟨k + 1, by omega, hK.app _, fun i hi => ?_, by simp, by simp [t6], by simp [t5], by simp [t0]⟩
    by_cases hik : i = k
    · subst hik; exact h1
    · exact hok i (by omega)
  · obtain rfl : k = n := by omega
    have hall : ∀ x, x ∈ l → itemI x = true := fun x hx => by
      obtain ⟨i, hi, rfl⟩ := List.getElem_of_mem hx
      rw [el_eq hi]
      exact hok i (by omega)
    by_cases h80 : k ≤ 80
    · have h80' : (k : Int) ≤ 80 := by omega
      simp (disch := omega) [t7, t6, t5, t0, h80, h80']
      have hcall := nest_to (k + 1) M' A k c l lo hi 0 (h.keeps hK) hn (by omega) (by omega) hall
      refine awCall_det' hcall (by omega) ?_
      simp [okI, hl, h80, hK]
    · have h80' : ¬ (k : Int) ≤ 80 := by omega
      simp (disch := omega) [t7, t6, t5, t0, h80, h80', okI, hl, hK]
end Go.Proofs.YtodbjnngkonklaaGreatDoor

namespace Go.Proofs.YtodbjnngkonklaaGreatDoor
open Go.RowKit
set_option linter.unusedVariables false
set_option linter.unusedSimpArgs false
set_option maxRecDepth 100000
attribute [local simp] List.getElem?_cons_zero
attribute [local irreducible] awCond awCall awLoop awDraw ow retQ retC resQ Keeps
def jtB (sep : ByteArray) : List ByteArray → ByteArray
  | [] => ⟨#[]⟩
  | y :: r => sep ++ y ++ jtB sep r
theorem ba_data (l : List UInt8) : (⟨l.toArray⟩ : ByteArray).data.toList = l := rfl
theorem ba_eq {a b : ByteArray} (h : a.data.toList = b.data.toList) : a = b := by
  cases a; cases b
  simp only at h
  rw [Array.toList_inj.1 h]
theorem ba_app (a b : ByteArray) : (a ++ b).data.toList = a.data.toList ++ b.data.toList := by
  rw [ByteArray.data_append, Array.toList_append]
theorem jtB_list (sep : ByteArray) : ∀ r, (jtB sep r).data.toList = Lib.joinTail sep.data.toList (r.map (·.data.toList))
  | [] => rfl
  | y :: r => by
    rw [jtB, ba_app, ba_app, jtB_list sep r]
    simp [Lib.joinTail]
theorem joinB_nil (sep : ByteArray) : joinB [] sep = ⟨#[]⟩ := rfl
theorem joinB_cons (x : ByteArray) (r : List ByteArray) (sep : ByteArray) : joinB (x :: r) sep = x ++ jtB sep r := by
  apply ba_eq
  unfold joinB
  rw [ba_data, List.map_cons, Lib.join_cons, ba_app, jtB_list]
theorem jtB_app (sep : ByteArray) : ∀ r s, jtB sep (r ++ s) = jtB sep r ++ jtB sep s
  | [], s => by rw [List.nil_append, jtB]; exact ByteArray.empty_append.symm
  | y :: r, s => by rw [List.cons_append, jtB, jtB, jtB_app sep r s]; simp only [ByteArray.append_assoc]
theorem jtB_one (sep w : ByteArray) : jtB sep [w] = sep ++ w := by
  rw [jtB, jtB]
  exact ByteArray.append_empty
theorem joinB_snoc {ws : List ByteArray} (h : ws ≠ []) (w sep : ByteArray) : joinB (ws ++ [w]) sep = joinB ws sep ++ sep ++ w := by
  cases ws with
  | nil => exact absurd rfl h
  | cons x r => rw [List.cons_append, joinB_cons, joinB_cons, jtB_app, jtB_one, ByteArray.append_assoc, ByteArray.append_assoc]
theorem joinB_one (w sep : ByteArray) : joinB [w] sep = w := by
  rw [joinB_cons, jtB]
  exact ByteArray.append_empty
def totB : List ByteArray → Nat
  | [] => 0
  | y :: r => y.size + 1 + totB r
theorem totB_app : ∀ a b, totB (a ++ b) = totB a + totB b
  | [], b => by simp [totB]
  | y :: a, b => by rw [List.cons_append, totB, totB, totB_app a b]; omega
theorem jtB_size (sep : ByteArray) (h : sep.size = 1) : ∀ r, (jtB sep r).size = totB r
  | [] => rfl
  | y :: r => by rw [jtB, totB, ByteArray.size_append, ByteArray.size_append, jtB_size sep h r]; omega
theorem joinB_size (sep : ByteArray) (h : sep.size = 1) (ws : List ByteArray) : (joinB ws sep).size ≤ totB ws := by
  cases ws with
  | nil => exact Nat.zero_le _
  | cons x r => rw [joinB_cons, ByteArray.size_append, jtB_size sep h, totB]; omega
theorem join_len (ws : List ByteArray) (sep : ByteArray) : (Lib.join (ws.map (·.data.toList)) sep.data.toList).length = (joinB ws sep).size := by
  unfold joinB
  simp [ByteArray.size]
def spcB : ByteArray := ⟨#[32]⟩
def pluB : ByteArray := ⟨#[43]⟩
def colB : ByteArray := ⟨#[58]⟩
def rclB : ByteArray := ⟨#[114, 58]⟩
def exB : ByteArray := ⟨#[33]⟩
def opaB : ByteArray := ⟨#[40]⟩
def cpaB : ByteArray := ⟨#[41]⟩
def staB : ByteArray := ⟨#[42]⟩
def hatB : ByteArray := ⟨#[94]⟩
theorem spcB_lit : (⟨#[32]⟩ : ByteArray) = spcB := rfl
theorem pluB_lit : (⟨#[43]⟩ : ByteArray) = pluB := rfl
theorem colB_lit : (⟨#[58]⟩ : ByteArray) = colB := rfl
theorem rclB_lit : (⟨#[114, 58]⟩ : ByteArray) = rclB := rfl
theorem exB_lit : (⟨#[33]⟩ : ByteArray) = exB := rfl
theorem opaB_lit : (⟨#[40]⟩ : ByteArray) = opaB := rfl
theorem cpaB_lit : (⟨#[41]⟩ : ByteArray) = cpaB := rfl
theorem staB_lit : (⟨#[42]⟩ : ByteArray) = staB := rfl
theorem hatB_lit : (⟨#[94]⟩ : ByteArray) = hatB := rfl
theorem spcB_sz : spcB.size = 1 := rfl
theorem pluB_sz : pluB.size = 1 := rfl
theorem colB_sz : colB.size = 1 := rfl
theorem rclB_sz : rclB.size = 2 := rfl
theorem exB_sz : exB.size = 1 := rfl
theorem opaB_sz : opaB.size = 1 := rfl
theorem cpaB_sz : cpaB.size = 1 := rfl
theorem staB_sz : staB.size = 1 := rfl
theorem hatB_sz : hatB.size = 1 := rfl
def pitL (ps : List Pitch) : List ByteArray := ps.map pitchS
def wordS (x : Item) : ByteArray := if x.j = 2 then rclB ++ fracS x.len else if x.j = 3 then exB ++ decS x.x else joinB (pitL x.ps) pluB ++ colB ++ fracS x.len
def tailS (x : Item) : ByteArray := if x.j = 4 then staB ++ decS x.x else hatB ++ nameS x.mv
def wordsI : List Item → List ByteArray
  | [] => []
  | x :: r => if grpB x = true then (opaB ++ joinB (wordsI (r.take x.z.toNat)) spcB ++ cpaB ++ tailS x) :: wordsI (r.drop x.z.toNat) else wordS x :: wordsI r
termination_by l => l.length
decreasing_by
  · simp only [List.length_take, List.length_cons]; omega
  · simp only [List.length_drop, List.length_cons]; omega
  · simp
theorem wordsI_nil : wordsI [] = [] := by rw [wordsI]
theorem wordsI_cons (x : Item) (r : List Item) : wordsI (x :: r) = if grpB x = true then (opaB ++ joinB (wordsI (r.take x.z.toNat)) spcB ++ cpaB ++ tailS x) :: wordsI (r.drop x.z.toNat) else wordS x :: wordsI r := by rw [wordsI]
def textI (l : List Item) : ByteArray := joinB (wordsI l) spcB
def itemsT (l : List Item) : ByteArray := if okI l = true then textI l else ⟨#[]⟩
theorem itemB_1 {x : Item} (j : x.j = 1) (h : itemB x = true) : chordB x.ps = true ∧ lenB x.len = true := by
  unfold itemB at h
  rw [if_pos j] at h
  simp only [Bool.and_eq_true] at h
  exact ⟨h.1, h.2.1⟩
theorem itemB_2 {x : Item} (j : x.j = 2) (h : itemB x = true) : lenB x.len = true := by
  unfold itemB at h
  rw [if_neg (by omega), if_pos j] at h
  simp only [Bool.and_eq_true] at h
  exact h.2.1
theorem itemB_3 {x : Item} (j : x.j = 3) (h : itemB x = true) : 1 ≤ x.x ∧ x.x ≤ 127 := by
  unfold itemB at h
  rw [if_neg (by omega), if_neg (by omega), if_pos j] at h
  simp only [Bool.and_eq_true] at h
  exact inB_iff.1 h.2.2.1
theorem itemB_4 {x : Item} (j : x.j = 4) (h : itemB x = true) : 2 ≤ x.x ∧ x.x ≤ 8 := by
  unfold itemB at h
  rw [if_neg (by omega), if_neg (by omega), if_neg (by omega), if_pos j] at h
  simp only [Bool.and_eq_true] at h
  exact inB_iff.1 h.2.2.1
theorem itemB_5 {x : Item} (j : x.j = 5) (h : itemB x = true) : intervalB x.mv = true := by
  unfold itemB at h
  rw [if_neg (by omega), if_neg (by omega), if_neg (by omega), if_neg (by omega), if_pos j] at h
  simp only [Bool.and_eq_true] at h
  exact h.2.2.2
theorem itemB_j {x : Item} (h : itemB x = true) : x.j = 1 ∨ x.j = 2 ∨ x.j = 3 ∨ x.j = 4 ∨ x.j = 5 := by
  unfold itemB at h
  by_cases j1 : x.j = 1
  · exact .inl j1
  by_cases j2 : x.j = 2
  · exact .inr (.inl j2)
  by_cases j3 : x.j = 3
  · exact .inr (.inr (.inl j3))
  by_cases j4 : x.j = 4
  · exact .inr (.inr (.inr (.inl j4)))
  by_cases j5 : x.j = 5
  · exact .inr (.inr (.inr (.inr j5)))
  rw [if_neg j1, if_neg j2, if_neg j3, if_neg j4, if_neg j5] at h
  cases h
theorem lenB_f {f : Frac} (h : lenB f = true) : fracB f = true := by
  unfold lenB beatB at h
  simp only [Bool.and_eq_true] at h
  exact h.1.1.1
theorem chord_all {l : List Pitch} (h : chordB l = true) : l.length ≤ 6 ∧ ∀ i, i < l.length → pitchB (el l i) = true := by
  unfold chordB at h
  simp only [Bool.and_eq_true, decide_eq_true_eq] at h
  exact ⟨h.2.2, fun i hi => (h.1 i hi).1⟩
theorem pit_tot {l : List Pitch} (h : ∀ i, i < l.length → pitchB (el l i) = true) : totB (pitL l) ≤ 31 * l.length := by
  induction l with
  | nil => exact Nat.le_refl _
  | cons p l ih =>
    have h0 := pitchS_size (h 0 (by simp))
    have h1 := ih fun i hi => h (i + 1) (by simpa using hi)
    have e : el (p :: l) 0 = p := rfl
    rw [e] at h0
    show (pitchS p).size + 1 + totB (pitL l) ≤ 31 * (l.length + 1)
    omega
theorem nameS_size {i : Interval} (h : intervalB i = true) : (nameS i).size ≤ 30 := by
  obtain ⟨i1, i2, i3, i4⟩ := intervalB_r h
  have z1 := qualS_size (s := (upI i).t) i3
  have z2 := decS_size ((upI i).t + 1) (by omega) (by omega)
  have z3 : (⟨#[]⟩ : ByteArray).size = 0 := rfl
  unfold nameS
  rw [ByteArray.size_append, ByteArray.size_append]
  split
  · rw [dshB_sz]; omega
  · rw [z3]; omega
theorem tail_size {x : Item} (h : itemB x = true) (hg : grpB x = true) : (tailS x).size ≤ 40 := by
  unfold tailS
  split
  · rename_i j
    have := itemB_4 j h
    have := decS_size x.x (by omega) (by omega)
    rw [ByteArray.size_append, staB_sz]
    omega
  · rename_i j
    have j5 : x.j = 5 := by
      unfold grpB at hg
      simpa [j] using hg
    have := nameS_size (itemB_5 j5 h)
    rw [ByteArray.size_append, hatB_sz]
    omega
theorem word_size {x : Item} (h : itemB x = true) (hg : ¬ grpB x = true) : (wordS x).size ≤ 250 := by
  unfold wordS
  split
  · rename_i j
    have := fracS_size (lenB_f (itemB_2 j h))
    rw [ByteArray.size_append, rclB_sz]
    omega
  · split
    · rename_i j
      have := itemB_3 j h
      have := decS_size x.x (by omega) (by omega)
      rw [ByteArray.size_append, exB_sz]
      omega
    · rename_i j2 j3
      have j1 : x.j = 1 := by
        have := itemB_j h
        have g4 : ¬ x.j = 4 := fun e => hg (by simp [grpB, e])
        have g5 : ¬ x.j = 5 := fun e => hg (by simp [grpB, e])
        omega
      obtain ⟨hc, hf⟩ := itemB_1 j1 h
      have f := fracS_size (lenB_f hf)
      obtain ⟨c1, c2⟩ := chord_all hc
      have a := joinB_size pluB pluB_sz (pitL x.ps)
      have b := pit_tot c2
      rw [ByteArray.size_append, ByteArray.size_append, colB_sz]
      omega
theorem words_tot : ∀ (N d : Nat) (l : List Item), l.length ≤ N → scanI d l = true → totB (wordsI l) ≤ 300 * l.length
  | 0, d, l, hl, _ => by
    obtain rfl : l = [] := List.eq_nil_of_length_eq_zero (by omega)
    rw [wordsI_nil]; exact Nat.le_refl _
  | N + 1, d, [], _, _ => by rw [wordsI_nil]; exact Nat.le_refl _
  | N + 1, d, x :: r, hl, h => by
    simp only [List.length_cons] at hl ⊢
    rw [scanI_cons, Bool.and_eq_true] at h
    obtain ⟨h1, h2⟩ := h
    rw [wordsI_cons]
    by_cases hg : grpB x = true
    · rw [if_pos hg] at h2 ⊢
      simp only [Bool.and_eq_true, decide_eq_true_eq] at h2
      obtain ⟨h3, h4, h5, h6⟩ := h2
      have h4 := inB_iff.1 h4
      have a := words_tot N _ _ (by rw [List.length_take]; omega) h5
      have b := words_tot N _ _ (by rw [List.length_drop]; omega) h6
      have c := joinB_size spcB spcB_sz (wordsI (r.take x.z.toNat))
      have e := tail_size h1 hg
      rw [List.length_take] at a
      rw [List.length_drop] at b
      rw [totB, ByteArray.size_append, ByteArray.size_append, ByteArray.size_append, opaB_sz, cpaB_sz]
      omega
    · rw [if_neg hg] at h2 ⊢
      have a := word_size h1 hg
      have b := words_tot N _ _ (by omega) h2
      rw [totB]
      omega
end Go.Proofs.YtodbjnngkonklaaGreatDoor

namespace Go.Proofs.YtodbjnngkonklaaGreatDoor
open Go.RowKit
set_option linter.unusedVariables false
set_option linter.unusedSimpArgs false
set_option maxRecDepth 100000
attribute [local simp] List.getElem?_cons_zero
attribute [local irreducible] awCond awCall awLoop awDraw ow retQ retC resQ Keeps
theorem str_one (s : ByteArray) : (strR.row s).all (fun u => u.oneCell') = true := by rfl
theorem fill_oneS (z : ByteArray) (s : ByteArray) : Instr.fill (fun i => some (i, 1)) (zrow [.string z] 1).toArray [(0, .string s)] = some #[.string s] := by rfl
theorem pitL_snoc {l : List Pitch} {k : Nat} (h : k < l.length) : pitL (l.take (k + 1)) = pitL (l.take k) ++ [pitchS (el l k)] := by
  unfold pitL
  rw [List.take_add_one, List.map_append]
  simp [el, h]
set_option maxHeartbeats 2000000 in
theorem itemText_i {M : Mem} {lo hi : Nat} {us : List Value} {x : Item} (h : itemP.rd lo hi M x us) (hB : itemB x = true) (hg : ¬ grpB x = true) : Det Tryz.prog M.length 29 [.agg us.toArray] M (.string (wordS x)) M := by
  obtain ⟨u, rfl, hu⟩ := h
  have hu2 := hu
  obtain ⟨A, n, c, rfl, hn, hcn, hS⟩ := hu2
  have hl := hS.1
  first | (refine det_fn Tryz.func29 rfl Tryz.ntmps29 Tryz.results29 rfl rfl rfl (by simp) ?_) | (refine det_fnC Tryz.func29 rfl Tryz.ntmps29 Tryz.results29 rfl rfl (by simp) ?_)
  simp
  by_cases j2 : x.j = 2
  · have hf := lenB_f (itemB_2 j2 hB)
    have z := fracS_size hf
    have e : wordS x = rclB ++ fracS x.len := by unfold wordS; rw [if_pos j2]
    rw [e]
    simp [j2]
    refine awCall_det' (FracText_i x.len hf) (by first | omega | simp) ?_
    simp (disch := first | omega | (simp only [ByteArray.size_append, rclB_sz]; omega)) [rclB_lit, str_addX, keeps_app]
  simp [j2]
  by_cases j3 : x.j = 3
  · have hb := itemB_3 j3 hB
    have z := decS_size x.x (by omega) (by omega)
    have e : wordS x = exB ++ decS x.x := by unfold wordS; rw [if_neg j2, if_pos j3]
    rw [e]
    simp [j3]
    refine awCall_det' (Decimal_a x.x (by omega) (by omega)) (by first | omega | simp) ?_
    simp (disch := first | omega | (simp only [ByteArray.size_append, exB_sz]; omega)) [exB_lit, str_addX, keeps_app]
  have j1 : x.j = 1 := by
    have := itemB_j hB
    have g4 : ¬ x.j = 4 := fun e => hg (by simp [grpB, e])
    have g5 : ¬ x.j = 5 := fun e => hg (by simp [grpB, e])
    omega
  obtain ⟨hc, hf⟩ := itemB_1 j1 hB
  have hf := lenB_f hf
  obtain ⟨c6, call⟩ := chord_all hc
  have z := fracS_size hf
  have e : wordS x = joinB (pitL x.ps) pluB ++ colB ++ fracS x.len := by unfold wordS; rw [if_neg j2, if_neg j3]
  rw [e]
  simp [j3]
  obtain ⟨M0, hM0⟩ : ∃ M0 : Mem, M0 = M ++ [Slot.live ⟨[iv x.j, .slice A n c, iv x.ln, iv x.ld, iv x.x, iv x.mt, iv x.mh, iv x.z], true, true, 42, 8⟩] := ⟨_, rfl⟩
  have k0 : Keeps M M0 := by rw [hM0]; exact keeps_app _
  have n0 : M0.length = M.length + 1 := by rw [hM0]; simp
  have cx : cellsAt M0 M.length 2 2 = some [iv x.ln, iv x.ld] := by rw [hM0]; simp [cellsAt]
  have hM1 : M ++ [Slot.live ⟨[iv x.j, .slice A n c, iv x.ln, iv x.ld, iv x.x, iv x.mt, iv x.mh, iv x.z], true, true, 42, 8⟩, Slot.live ⟨[], true, true, 9, 1⟩] = M0 ++ [Slot.live ⟨[], true, true, 9, 1⟩] := by rw [hM0]; simp
  rw [hM1]
  clear hM1 hM0
  have hS0 := hS.sl.keeps k0
  refine awLoop_T (fun m T M' => ∃ (k : Nat) (v : Value), k + m = n ∧ Keeps M0 M' ∧ Acc strR 9 M0.length M' v (pitL (x.ps.take k)) ∧ look T 24 = some (iv k) ∧ look T 23 = some (iv n) ∧ look T 22 = some (.slice A n c) ∧ look T 3 = some v ∧ look T 1 = some (.pointer (some ⟨M.length, 0, none⟩))) n ⟨0, _, by omega, keeps_app _, ⟨_, 0, 0, rfl, rfl, .inr ⟨M0.length, true, by rw [n0], Nat.le_refl _, by simp [pitL, cellsL]⟩⟩, by simp, by simp, by simp, by simp, by simp⟩ ?_
  rintro m T M1 ⟨k, v, hm, hK, hA, t24, t23, t22, t3, t1⟩
  have hKl := hK.len
  by_cases hlt : k < n
  · have hlt' : (k : Int) < n := by omega
    obtain ⟨id, off, rfl, he, hcl⟩ := (hS0.keeps hK).at_ hlt
    have ld := pitch_load hcl
    have hp := call k (by omega)
    have hpl : (pitL (x.ps.take k)).length = k := by unfold pitL; rw [List.length_map, List.length_take]; omega
    obtain ⟨A4, n4, c4, rfl, -, -, ho4⟩ := hA.sl
    simp (disch := omega) [t24, t23, t22, t3, t1, hlt, hlt', he, ld]
    refine awCall_det' (PitchText_i (el x.ps k) hp) (by first | omega | (simp; omega)) ?_
    generalize hM2 : M1 ++ [Slot.live ⟨[iv (el x.ps k).s, iv (el x.ps k).a, iv (el x.ps k).o], true, true, 51, 3⟩] = M2
    have k12 : Keeps M1 M2 := by rw [← hM2]; exact keeps_app _
    have l2 : M2.length = M1.length + 1 := by rw [← hM2]; simp
    simp (disch := omega) [t24, t23, t22, t3, t1, fill_oneS, l2]
    have k23 : Keeps M2 (M2 ++ [Slot.live ⟨[.string (pitchS (el x.ps k))], true, true, 9, 1⟩]) := keeps_app _
    refine (hA.keeps (k12.trans k23)).append (R := strR) (e := 9) (by_ := 16) (a := pitchS (el x.ps k)) (by omega) (by simp; omega) (by omega) (by simp) (by kernel_rfl) ?_ (str_one _) (by omega) (by unfold maxLen; omega) ?_
    · simp [srcOf, Tryz.underlying60, strR]
      simp [cellsAt, ← l2]
    intro v' M' hA2 hS2
    refine lpI (m - 1) (by omega) ?_
    refine ⟨k + 1, v', by omega, hS2.keeps ((hK.trans k12).trans k23) (Nat.le_refl _), ?_, ?_, ?_, ?_, ?_, ?_⟩
    · rw [pitL_snoc (by omega)]; exact hA2
    · simp (disch := omega) [wrap_in]
    · simp [t23]
    · simp [t22]
    · simp
    · simp [t1]
  · obtain rfl : k = n := by omega
    rw [List.take_of_length_le (by omega)] at hA
    simp (disch := omega) [t24, t23, t22, t3, t1]
    refine awDraw_E 6 [[],[0],[1,0],[],[3],[4,3,1,0],[2,1,0,5,4,3],[6,2,1,0,5,4,3]] (by kernel_rfl) (by kernel_rfl) ?_
    simp (disch := omega) [t24, t23, t22, t3, t1]
    have hpl : (pitL x.ps).length = x.ps.length := by unfold pitL; rw [List.length_map]
    have ht := pit_tot call
    have hjs := joinB_size pluB pluB_sz (pitL x.ps)
    refine awCall_det' (Join_a (b := M1.length) pluB hA (by omega) (by rw [join_len]; omega)) (by omega) ?_
    have kk := k0.trans hK
    simp (disch := first | omega | (simp only [ByteArray.size_append, colB_sz]; omega)) [t24, t23, t22, t3, t1, colB_lit, str_addX, cellsAt_keeps hK cx]
    refine awCall_det' (FracText_i x.len hf) (by omega) ?_
    simp (disch := first | omega | (simp only [ByteArray.size_append, colB_sz]; omega)) [str_addX, kk]
theorem inner_i {M : Mem} {id off n i z : Nat} {us : List Value} {c lo hi : Nat} {x : Item} (hi' : i < n) (hrd : itemP.rd lo hi M x us) (hc : Cl M id (off + i * 8) us) (hz : x.z = z) (h1 : i + 1 + z ≤ n) (hn : n ≤ 1048576) (he : rowEsz M id = some 8) : Det Tryz.prog M.length 30 [.slice (some ⟨id, off, none⟩) n c, iv i] M (.slice (some ⟨id, off + (i + 1) * 8, none⟩) z z) M := by
  obtain ⟨A1, n1, c1', hu, hus, c0, c1, c2, c4, c5, c7, c8⟩ := item_cells hrd hc
  rw [hz] at c7
  have hib' : (i : Int) < n := by omega
  refine Ctr.det ?_
  first | (refine ctr_fn Tryz.func30 rfl Tryz.ntmps30 Tryz.results30 rfl rfl (by simp) ?_) | (refine ctr_fnC Tryz.func30 rfl Tryz.ntmps30 Tryz.results30 rfl (by simp) ?_)
  simp (disch := omega) [hi', hib', c7, wrap_in, he]
  omega
theorem Acc.apartN {α : Type} {k i : Nat} {R : RecV α k} {e : TypeId} {B : Nat} {M : Mem} {v : Value} {l : List α} (h : Acc R e B M v l) (hi : M.length ≤ i) : Apart v i := by
  obtain ⟨A, n, c, rfl, hl, hA⟩ := h
  rcases hA with ⟨rfl, -, -⟩ | ⟨id, t, rfl, hid, hr⟩
  · intro ad n c sp h h2
    cases h
    cases h2
  · have := (List.getElem?_eq_some_iff.1 hr).1
    intro ad n c sp h h2
    cases h
    cases h2
    show i ≠ id
    omega
def TextTo (N : Nat) : Prop := ∀ (M : Mem) (A : Option Addr) (n c : Nat) (l : List Item) (lo hi d : Nat), SlP itemP lo hi M A n l → n ≤ 80 → scanI d l = true → n < N →
  Det Tryz.prog M.length 14 [.slice A n c] M (.string (textI l)) M
set_option maxHeartbeats 2000000 in
theorem text_step {N : Nat} (hN : TextTo N) : TextTo (N + 1) := by
  intro M A n c l lo hi d h hn hs0 hlt
  have hl := h.1
  first | (refine det_fn Tryz.func14 rfl Tryz.ntmps14 Tryz.results14 rfl rfl rfl (by simp) ?_) | (refine det_fnC Tryz.func14 rfl Tryz.ntmps14 Tryz.results14 rfl rfl (by simp) ?_)
  simp
  obtain ⟨M0, hM0⟩ : ∃ M0 : Mem, M0 = M := ⟨_, rfl⟩
  refine awLoop_T (fun m T M' => ∃ (i : Nat) (ws : List ByteArray) (v : Value), i + m = n ∧ Keeps M M' ∧ Acc strR 9 M.length M' v ws ∧ wordsI l = ws ++ wordsI (subI l i n) ∧ scanI d (subI l i n) = true ∧ ws.length ≤ i ∧ look T 4 = some (iv i) ∧ look T 3 = some v ∧ look T 0 = some (.slice A n c)) n ⟨0, [], _, by omega, keeps_app _, ⟨_, 0, 0, rfl, rfl, .inr ⟨M.length, true, rfl, Nat.le_refl _, by simp [cellsL]⟩⟩, by rw [show subI l 0 n = l by rw [← hl]; exact subI_all]; rfl, by rw [show subI l 0 n = l by rw [← hl]; exact subI_all]; exact hs0, by simp, by simp, by simp, by simp⟩ ?_
  rintro m T M1 ⟨i, ws, v, hm, hK, hA, hw, hs, hwl, t4, t3, t0⟩
  have hKl := hK.len
  have hwt := words_tot n d l (by omega) hs0
  simp (disch := omega) [t4, t3, t0]
  refine awCall_det' sizeItem_a (by omega) ?_
  by_cases hib : i < n
  case neg =>
    obtain rfl : i = n := by omega
    rw [subI_nil, wordsI_nil, List.append_nil] at hw
    simp (disch := omega) [t4, t3, t0]
    rw [hw] at hwt
    have hjs := joinB_size spcB spcB_sz ws
    refine awCall_det' (Join_a (b := M1.length) spcB hA (by omega) (by rw [join_len]; omega)) (by omega) ?_
    simp [textI, hw, hK]
  have hib' : (i : Int) < n := by omega
  obtain ⟨id, off, us, rfl, he, hrd, hc⟩ := (h.keeps hK).at_ hib
  have hrd2 := hrd
  obtain ⟨A1, n1, c1', hu, hus, c0, c1, c2, c4, c5, c7, c8⟩ := item_cells hrd2 hc
  subst hus
  have hcons := subI_cons (l := l) hib (by omega)
  have hrl : (subI l (i + 1) n).length = n - (i + 1) := subI_len (by omega) (by omega)
  rw [hcons, wordsI_cons] at hw
  rw [hcons, scanI_cons, Bool.and_eq_true] at hs
  obtain ⟨hB, hs⟩ := hs
  simp (disch := omega) [t4, t3, t0, hib, hib', he, c8]
  obtain ⟨M2, hM2⟩ : ∃ M2 : Mem, M2 = M1 ++ [Slot.live ⟨[iv (el l i).j, .slice A1 n1 c1', iv (el l i).ln, iv (el l i).ld, iv (el l i).x, iv (el l i).mt, iv (el l i).mh, iv (el l i).z], true, true, 42, 8⟩] := ⟨_, rfl⟩
  have k12 : Keeps M1 M2 := by rw [hM2]; exact keeps_app _
  have l2 : M2.length = M1.length + 1 := by rw [hM2]; simp
  have hcl : Cl M2 M1.length 0 [iv (el l i).j, .slice A1 n1 c1', iv (el l i).ln, iv (el l i).ld, iv (el l i).x, iv (el l i).mt, iv (el l i).mh, iv (el l i).z] := fun j y hy => by rw [hM2]; simp [cellAt, hy]
  have hrow : M2[M1.length]? = some (.live ⟨[iv (el l i).j, .slice A1 n1 c1', iv (el l i).ln, iv (el l i).ld, iv (el l i).x, iv (el l i).mt, iv (el l i).mh, iv (el l i).z], true, true, 42, 8⟩) := by rw [hM2]; simp
  rw [← hM2]
  clear hM2
  have hrd3 := itemP.keeps hrd k12
  obtain ⟨-, -, -, -, -, b0, -, -, b4, b5, b7, b8⟩ := item_cells hrd3 hcl
  simp only [Nat.zero_add] at b0 b4 b5 b7 b8
  refine awCall_det' (isGroup_i hrd3) (by omega) ?_
  by_cases hg2 : grpB (el l i) = true
  case neg =>
    rw [if_neg hg2] at hs hw
    simp (disch := omega) [hg2, t4, t3, t0, b8]
    refine awCall_det' (itemText_i hrd3 hB hg2) (by omega) ?_
    obtain ⟨A4, n4, c4, rfl, -, -, ho4⟩ := hA.sl
    simp (disch := omega) [t4, t3, t0, fill_oneS, l2]
    have k23 : Keeps M2 (M2 ++ [Slot.live ⟨[.string (wordS (el l i))], true, true, 9, 1⟩]) := keeps_app _
    refine (hA.keeps (k12.trans k23)).append (R := strR) (e := 9) (by_ := 16) (a := wordS (el l i)) (by omega) (by simp; omega) (by omega) (by simp) (by kernel_rfl) ?_ (str_one _) (by omega) (by unfold maxLen; omega) ?_
    · simp [srcOf, Tryz.underlying60, strR]
      simp [cellsAt, ← l2]
    intro v' M' hA2 hS2
    refine lpI (m - 1) (by omega) ?_
    refine ⟨i + 1, ws ++ [wordS (el l i)], v', by omega, hS2.keeps ((hK.trans k12).trans k23) (Nat.le_refl _), hA2, by rw [hw]; simp, hs, by simp; omega, ?_, ?_, ?_⟩
    · simp (disch := omega) [wrap_in, t4]
    · simp
    · simp [t0]
  rw [if_pos hg2, hrl] at hs
  rw [if_pos hg2] at hw
  simp only [Bool.and_eq_true, decide_eq_true_eq] at hs
  obtain ⟨hd0, hz, hs1, hs2⟩ := hs
  have hz := inB_iff.1 hz
  obtain ⟨z, hz2⟩ : ∃ z : Nat, (el l i).z = z := ⟨(el l i).z.toNat, by omega⟩
  rw [hz2] at hz
  rw [hz2, Int.toNat_natCast, subI_take (by omega)] at hs1
  rw [hz2, Int.toNat_natCast, subI_drop] at hs2
  rw [hz2, Int.toNat_natCast, subI_take (by omega), subI_drop] at hw
  simp (disch := omega) [hg2, t4, t3, t0]
  obtain ⟨_, _, _, e', he2, -, -⟩ := ((h.keeps hK).keeps k12).at_ hib
  cases e'
  refine awCall_det' (inner_i hib (itemP.keeps hrd k12) (hc.keeps k12) hz2 (by omega) (by omega) he2) (by omega) ?_
  have hpart := ((h.keeps hK).keeps k12).part (a := i + 1) (b := i + 1 + z) (by omega) (by omega)
  rw [show i + 1 + z - (i + 1) = z by omega] at hpart
  have esub : (l.drop (i + 1)).take z = subI l (i + 1) (i + 1 + z) := by unfold subI; rw [show i + 1 + z - (i + 1) = z by omega]
  rw [esub] at hpart
  refine awCall_det' (hN M2 (some ⟨id, off + (i + 1) * 8, none⟩) z z (subI l (i + 1) (i + 1 + z)) lo hi (d - 1) hpart (by omega) hs1 (by omega)) (by omega) ?_
  have hwp := words_tot n (d - 1) (subI l (i + 1) (i + 1 + z)) (by rw [hpart.1]; omega) hs1
  rw [hpart.1] at hwp
  have hjp := joinB_size spcB spcB_sz (wordsI (subI l (i + 1) (i + 1 + z)))
  change (textI (subI l (i + 1) (i + 1 + z))).size ≤ _ at hjp
  simp (disch := first | omega | (simp only [ByteArray.size_append, opaB_sz, cpaB_sz]; omega)) [t4, t3, t0, opaB_lit, cpaB_lit, str_addX, b0]
  by_cases j4 : (el l i).j = 4
  case pos =>
    have hx := itemB_4 j4 hB
    have z4 := decS_size (el l i).x (by omega) (by omega)
    have et : tailS (el l i) = staB ++ decS (el l i).x := by unfold tailS; rw [if_pos j4]
    simp (disch := omega) [j4, b4]
    refine awCall_det' (Decimal_a (el l i).x (by omega) (by omega)) (by omega) ?_
    simp (disch := first | omega | (simp only [ByteArray.size_append, opaB_sz, cpaB_sz, staB_sz]; omega)) [t4, t3, t0, staB_lit, str_addX, fill_oneS, l2]
    rw [← et]
    obtain ⟨w, hwe⟩ : ∃ w : ByteArray, opaB ++ textI (subI l (i + 1) (i + 1 + z)) ++ cpaB ++ tailS (el l i) = w := ⟨_, rfl⟩
    have hw2 : wordsI l = ws ++ w :: wordsI (subI l (i + 1 + z) n) := by rw [hw, ← hwe]; rfl
    rw [hwe]
    obtain ⟨A4, n4, c4, rfl, -, -, ho4⟩ := hA.sl
    have k23 : Keeps M2 (M2 ++ [Slot.live ⟨[.string w], true, true, 9, 1⟩]) := keeps_app _
    refine (hA.keeps (k12.trans k23)).append2 (R := strR) (e := 9) (by_ := 16) (a := w) (by omega) (by simp; omega) (by omega) (by simp) (by kernel_rfl) ?_ (str_one _) (by omega) (by unfold maxLen; omega) ?_
    · simp [srcOf, Tryz.underlying60, strR]
      simp [cellsAt, ← l2]
    intro v' M' hA2 hS2 hp2
    have b7' : cellAt M' M1.length 7 = some (iv z) := by
      have := (hp2 M1.length _ (hA.apartN (Nat.le_refl _)) (k23.get hrow)).1
      unfold cellAt
      rw [this, ← hz2]
      rfl
    simp (disch := omega) [b7', wrap_in]
    refine lpI (m - 1 - z) (by omega) ?_
    refine ⟨i + 1 + z, ws ++ [w], v', by omega, hS2.keeps ((hK.trans k12).trans k23) (Nat.le_refl _), hA2, by rw [hw2]; simp, hs2, by simp; omega, ?_, ?_, ?_⟩
    · simp (disch := omega) [wrap_in, t4]
      omega
    · simp
    · simp [t0]
  case neg =>
    have j5 : (el l i).j = 5 := by
      unfold grpB at hg2
      simpa [j4] using hg2
    have hx := itemB_5 j5 hB
    have z4 := nameS_size hx
    have et : tailS (el l i) = hatB ++ nameS (el l i).mv := by unfold tailS; rw [if_neg j4]
    simp (disch := omega) [j4, b5]
    refine awCall_det' (IntervalName_i (el l i).mv hx) (by omega) ?_
    simp (disch := first | omega | (simp only [ByteArray.size_append, opaB_sz, cpaB_sz, hatB_sz]; omega)) [t4, t3, t0, hatB_lit, str_addX, fill_oneS, l2]
    rw [← et]
    obtain ⟨w, hwe⟩ : ∃ w : ByteArray, opaB ++ textI (subI l (i + 1) (i + 1 + z)) ++ cpaB ++ tailS (el l i) = w := ⟨_, rfl⟩
    have hw2 : wordsI l = ws ++ w :: wordsI (subI l (i + 1 + z) n) := by rw [hw, ← hwe]; rfl
    rw [hwe]
    obtain ⟨A4, n4, c4, rfl, -, -, ho4⟩ := hA.sl
    have k23 : Keeps M2 (M2 ++ [Slot.live ⟨[.string w], true, true, 9, 1⟩]) := keeps_app _
    refine (hA.keeps (k12.trans k23)).append2 (R := strR) (e := 9) (by_ := 16) (a := w) (by omega) (by simp; omega) (by omega) (by simp) (by kernel_rfl) ?_ (str_one _) (by omega) (by unfold maxLen; omega) ?_
    · simp [srcOf, Tryz.underlying60, strR]
      simp [cellsAt, ← l2]
    intro v' M' hA2 hS2 hp2
    have b7' : cellAt M' M1.length 7 = some (iv z) := by
      have := (hp2 M1.length _ (hA.apartN (Nat.le_refl _)) (k23.get hrow)).1
      unfold cellAt
      rw [this, ← hz2]
      rfl
    simp (disch := omega) [b7', wrap_in]
    refine lpI (m - 1 - z) (by omega) ?_
    refine ⟨i + 1 + z, ws ++ [w], v', by omega, hS2.keeps ((hK.trans k12).trans k23) (Nat.le_refl _), hA2, by rw [hw2]; simp, hs2, by simp; omega, ?_, ?_, ?_⟩
    · simp (disch := omega) [wrap_in, t4]
      omega
    · simp
    · simp [t0]
theorem text_to : ∀ N, TextTo N
  | 0 => fun M A n c l lo hi d _ _ _ h => by omega
  | N + 1 => text_step (text_to N)
theorem ItemsText_i {M : Mem} {A : Option Addr} {n c lo hi : Nat} {l : List Item} (h : SlP itemP lo hi M A n l) (hn : n ≤ 1048576) : Det Tryz.prog M.length 7 [.slice A n c] M (.string (itemsT l)) M := by
  have hl := h.1
  first | (refine det_fn Tryz.func7 rfl Tryz.ntmps7 Tryz.results7 rfl rfl rfl (by simp) ?_) | (refine det_fnC Tryz.func7 rfl Tryz.ntmps7 Tryz.results7 rfl rfl (by simp) ?_)
  simp
  refine awCall_det' (areItems_i h hn) (by omega) ?_
  by_cases h1 : okI l = true
  · have h2 := h1
    unfold okI at h2
    simp only [Bool.and_eq_true, decide_eq_true_eq] at h2
    simp [h1]
    refine awCall_det' (text_to (n + 1) M A n c l lo hi 3 h (by omega) h2.2 (by omega)) (by omega) ?_
    simp [itemsT, h1, Keeps.refl]
  · simp [h1, itemsT, Keeps.refl]
end Go.Proofs.YtodbjnngkonklaaGreatDoor

namespace Go.Proofs.YtodbjnngkonklaaGreatDoor
open Go.RowKit
set_option linter.unusedVariables false
set_option linter.unusedSimpArgs false
/-- m waits for k, through others too. -/
def reachE (ops : List Oper) : Nat → Nat → Nat → Bool
  | 0, m, k => edge ops m k
  | n + 1, m, k => edge ops m k || (List.range ops.length).any fun j => edge ops m j && reachE ops n j k
theorem reachE_at {ops : List Oper} {X : Nat → Bool} (hC : Closed ops X) : ∀ {n m k : Nat}, reachE ops n m k = true → X m = true → X k = true
  | 0, m, k, h, hm => hC.at_ k hm h
  | n + 1, m, k, h, hm => by
    simp only [reachE, Bool.or_eq_true, List.any_eq_true, Bool.and_eq_true] at h
    rcases h with h | ⟨j, _, h1, h2⟩
    · exact hC.at_ k hm h
    · exact reachE_at hC h2 (hC.at_ j hm h1)
def chainOk (ops : List Oper) (ms : List Nat) : Bool := decide ms.Nodup && ms.all (fun m => decide (m < ops.length)) && (List.range ms.length).all fun i => match ms[i + 1]?, ms[i]? with
  | some a, some b => reachE ops 4 a b
  | _, _ => true
/-- What is known of an operation that is waited for. -/
def Dep (ms : List Nat) (Φ : Nat → Value → Prop) (vs : List Value) (j : Nat) (v : Value) : Prop := (ms.contains j = false → Φ j v) ∧ ∀ i : Nat, ms[i]? = some j → vs[i]? = some v
theorem chain_at {ops : List Oper} {ms : List Nat} (h : chainOk ops ms = true) {i a b : Nat} (ha : ms[i + 1]? = some a) (hb : ms[i]? = some b) : reachE ops 4 a b = true := by
  unfold chainOk at h
  simp only [Bool.and_eq_true, List.all_eq_true] at h
  have := h.2 i (List.mem_range.2 (List.getElem?_eq_some_iff.1 hb).1)
  rw [ha, hb] at this
  exact this
theorem chain_inj {ops : List Oper} {ms : List Nat} (h : chainOk ops ms = true) {i j a : Nat} (hi : ms[i]? = some a) (hj : ms[j]? = some a) : i = j := by
  unfold chainOk at h
  simp only [Bool.and_eq_true, decide_eq_true_eq] at h
  have hn := h.1.1
  obtain ⟨h1, e1⟩ := List.getElem?_eq_some_iff.1 hi
  obtain ⟨h2, e2⟩ := List.getElem?_eq_some_iff.1 hj
  exact (List.getElem_inj hn).1 (e1.trans e2.symm)
theorem chain_lt {ops : List Oper} {ms : List Nat} (h : chainOk ops ms = true) {i a : Nat} (hi : ms[i]? = some a) : a < ops.length := by
  unfold chainOk at h
  simp only [Bool.and_eq_true, List.all_eq_true] at h
  have := h.1.2 a (List.mem_of_getElem? hi)
  simpa using this
theorem not_ms {ms : List Nat} {k : Nat} (h : ms.contains k = false) {i a : Nat} (hi : ms[i]? = some a) : a ≠ k := by
  intro e
  subst e
  have := List.mem_of_getElem? hi
  simp [this] at h
theorem awDraw_C {P : Program} {b : Nat} {ops : List Oper} {Q : St → Prop} {S : St} (ms : List Nat) (Φ : Nat → Value → Prop) (Ψ : List Value → Mem → Prop)
    (h1 : P.follows .mixedOrders = true) (h2 : drawBack ⟨ops⟩ = true) (h3 : dstOnce ⟨ops⟩ = true) (hms : chainOk ops ms = true) (h0 : Ψ [] S.M)
    (hread : ∀ (k : Nat) (o : Oper) (T : List (Nat × Value)) (M : Mem) (vs : List Value) (K : Value → Mem → Prop), ms.contains k = false → ops[k]? = some o → Ψ vs M → (∀ i m, ms[i]? = some m → reachE ops 3 m k = true → vs.length ≤ i) →
      (∀ j d, edge ops k j = true → dstOf ⟨ops⟩ j = some d → ∃ v, look T d = some v ∧ Dep ms Φ vs j v) → (∀ t, noDst ⟨ops⟩ t = true → look T t = look S.T t) → (∀ v, Φ k v → K v M) → sOp P false b o ⟨S.n, T, M⟩ K)
    (hmove : ∀ (i k : Nat) (o : Oper) (T : List (Nat × Value)) (M : Mem) (vs : List Value) (K : Value → Mem → Prop), ms[i]? = some k → ops[k]? = some o → Ψ vs M → vs.length = i →
      (∀ j d, edge ops k j = true → dstOf ⟨ops⟩ j = some d → ∃ v, look T d = some v ∧ Dep ms Φ vs j v) → (∀ t, noDst ⟨ops⟩ t = true → look T t = look S.T t) → (∀ v M', Ψ (vs ++ [v]) M' → K v M') → sOp P false b o ⟨S.n, T, M⟩ K)
    (hend : ∀ (T : List (Nat × Value)) (M : Mem) (vs : List Value), vs.length = ms.length → Ψ vs M → (∀ j d, j < ops.length → dstOf ⟨ops⟩ j = some d → ∃ v, look T d = some v ∧ Dep ms Φ vs j v) → (∀ t, noDst ⟨ops⟩ t = true → look T t = look S.T t) → Q ⟨S.n, T, M⟩) : awDraw P b ⟨ops⟩ Q S := by
  have dep : ∀ {X : Nat → Bool} {γ : Nat → Value} {s j : Nat}, (∀ k, X k = true → ms.contains k = false → Φ k (γ k)) → (∀ i m, ms[i]? = some m → X m = decide (i < s)) → X j = true → Dep ms Φ ((ms.take s).map γ) j (γ j) := by
    intro X γ s j hΦ hs hj
    refine ⟨fun hm => hΦ j hj hm, fun i hi => ?_⟩
    have := hs i j hi
    rw [hj] at this
    have hlt : i < s := by simpa using this.symm
    rw [List.getElem?_map, List.getElem?_take, if_pos hlt, hi]; rfl
  have len : ∀ {γ : Nat → Value} {s : Nat}, s ≤ ms.length → ((ms.take s).map γ).length = s := fun {γ s} h => by simp; omega
  refine awDraw_G (fun X γ M => (∀ k, X k = true → ms.contains k = false → Φ k (γ k)) ∧ ∃ s, s ≤ ms.length ∧ (∀ i m, ms[i]? = some m → X m = decide (i < s)) ∧ Ψ ((ms.take s).map γ) M) h1 h2 h3 (fun γ => ⟨fun k h => (by cases h), 0, Nat.zero_le _, fun i m _ => by simp, h0⟩) ?_ ?_
  · rintro X γ T M k o K hC hT ⟨hΦ, s, hs1, hs2, hΨ⟩ ho hX ha hK
    have hdep : ∀ j d, edge ops k j = true → dstOf ⟨ops⟩ j = some d → ∃ v, look T d = some v ∧ Dep ms Φ ((ms.take s).map γ) j v := fun j d he hd => by
      have hj := edge_ahead ho ha j he
      exact ⟨γ j, hT.done j d hj hd, dep hΦ hs2 hj⟩
    by_cases hk : ms.contains k = false
    · refine hread k o T M _ K hk ho hΨ (fun i m hi he => ?_) hdep (fun t ht => hT.frame' t ht) fun v hv => hK v M ⟨fun j hj hm => ?_, s, hs1, fun i m hi => ?_, ?_⟩
      · rw [len hs1]
        apply Classical.byContradiction
        intro hn
        have hXm : X m = true := by rw [hs2 i m hi]; simp; omega
        have := reachE_at hC he hXm
        rw [hX] at this
        cases this
      · by_cases e : j = k
        · subst e
          rw [show upG γ j v j = v by simp [upG]]
          exact hv
        · rw [upX_ne e] at hj
          rw [upG_ne e]
          exact hΦ j hj hm
      · rw [upX_ne (not_ms hk hi)]
        exact hs2 i m hi
      · rw [List.map_congr_left (g := γ) fun a ha => ?_]
        · exact hΨ
        · obtain ⟨i, hi⟩ := List.mem_iff_getElem?.1 (List.mem_of_mem_take ha)
          exact upG_ne (not_ms hk hi)
    · have hk' : k ∈ ms := by simpa using hk
      obtain ⟨i, hi⟩ := List.mem_iff_getElem?.1 hk'
      have hil := (List.getElem?_eq_some_iff.1 hi).1
      have his : s = i := by
        have h5 := hs2 i k hi
        rw [hX] at h5
        have h6 : ¬ i < s := by simpa using h5.symm
        rcases i with _ | i
        · omega
        · have hb : ms[i]? = some (ms[i]'(by omega)) := List.getElem?_eq_getElem _
          have he := chain_at hms hi hb
          have hj : X (ms[i]'(by omega)) = true := by
            rw [show (4 : Nat) = 3 + 1 from rfl] at he
            simp only [reachE, Bool.or_eq_true, List.any_eq_true, Bool.and_eq_true] at he
            rcases he with he | ⟨j, _, h1, h2⟩
            · exact edge_ahead ho ha _ he
            · exact reachE_at hC (n := 3) (by simp only [reachE, Bool.or_eq_true, List.any_eq_true, Bool.and_eq_true]; exact h2) (edge_ahead ho ha _ h1)
          rw [hs2 i _ hb] at hj
          simp at hj
          omega
      subst his
      refine hmove s k o T M _ K hi ho hΨ (len hs1) hdep (fun t ht => hT.frame' t ht) fun v M' hv => hK v M' ⟨fun j hj hm => ?_, s + 1, hil, fun j m hj => ?_, ?_⟩
      · have e : j ≠ k := fun e => by subst e; rw [hm] at hk; exact hk rfl
        rw [upX_ne e] at hj
        rw [upG_ne e]
        exact hΦ j hj hm
      · by_cases e : m = k
        · subst e
          obtain rfl := chain_inj hms hj hi
          rw [upX_same]
          simp
        · rw [upX_ne e, hs2 j m hj]
          have hne : j ≠ s := fun h => by subst h; rw [hi] at hj; injection hj with hj; exact e hj.symm
          by_cases hlt : j < s
          · simp [hlt, Nat.lt_succ_of_lt hlt]
          · have : ¬ j < s + 1 := by omega
            simp [hlt, this]
      · have e1 : ms.take (s + 1) = ms.take s ++ [k] := by
          rw [List.take_add_one, hi]
          rfl
        rw [e1, List.map_append, List.map_singleton, show upG γ k v k = v by simp [upG], List.map_congr_left (g := γ) fun a ha => ?_]
        · exact hv
        · refine upG_ne fun e => ?_
          subst e
          obtain ⟨j, hj⟩ := List.mem_iff_getElem?.1 ha
          rw [List.getElem?_take] at hj
          split at hj
          · have := chain_inj hms hj hi
            omega
          · cases hj
  · rintro X γ T M hX hT ⟨hΦ, s, hs1, hs2, hΨ⟩
    have hs : s = ms.length := by
      apply Classical.byContradiction
      intro hn
      have hlt : s < ms.length := by omega
      have hb : ms[s]? = some (ms[s]'hlt) := List.getElem?_eq_getElem _
      have := hs2 s _ hb
      rw [hX _ (chain_lt hms hb)] at this
      simp at this
    subst hs
    exact hend T M _ (len hs1) hΨ (fun j d hj hd => ⟨γ j, hT.done j d (hX j hj) hd, dep hΦ hs2 (hX j hj)⟩) fun t ht => hT.frame' t ht
end Go.Proofs.YtodbjnngkonklaaGreatDoor

namespace Go.Proofs.YtodbjnngkonklaaGreatDoor
open Go.RowKit
set_option linter.unusedVariables false
theorem awCond_join {P : Program} {b n : Nat} {c : Bool} {A B Y : Code} {Q : Ex → St → Prop} {T : List (Nat × Value)} {M : Mem} (J : List (Nat × Value) → Mem → Prop)
    (h1 : ∀ Q' : Ex → St → Prop, (∀ T' M', J T' M' → Q' .normal ⟨n, T', M'⟩) → c = true → sAw P b A Q' ⟨n, T, M⟩)
    (h2 : ∀ Q' : Ex → St → Prop, (∀ T' M', J T' M' → Q' .normal ⟨n, T', M'⟩) → c = false → sAw P b B Q' ⟨n, T, M⟩)
    (h3 : ∀ T' M', J T' M' → sAw P b Y Q ⟨n, T', M'⟩) : awCond (.bool c) (sAw P b A (sThen P b Y Q tk) ⟨n, T, M⟩) (sAw P b B (sThen P b Y Q tk) ⟨n, T, M⟩) :=
  ⟨fun h => h1 _ (fun T' M' hJ => by rw [sThen_normal]; exact h3 T' M' hJ) h, fun h => h2 _ (fun T' M' hJ => by rw [sThen_normal]; exact h3 T' M' hJ) h⟩
theorem awThen_join {P : Program} {b n : Nat} {A Y : Code} {Q : Ex → St → Prop} {T : List (Nat × Value)} {M : Mem} (J : List (Nat × Value) → Mem → Prop)
    (h1 : ∀ Q' : Ex → St → Prop, (∀ T' M', J T' M' → Q' .normal ⟨n, T', M'⟩) → sAw P b A Q' ⟨n, T, M⟩)
    (h3 : ∀ T' M', J T' M' → sAw P b Y Q ⟨n, T', M'⟩) : sAw P b A (sThen P b Y Q tk) ⟨n, T, M⟩ :=
  h1 _ fun T' M' hJ => by rw [sThen_normal]; exact h3 T' M' hJ
theorem awLoop_join {P : Program} {b n id : Nat} {F : (Ex → St → Prop) → St → Prop} {Y : Code} {Q : Ex → St → Prop} {T : List (Nat × Value)} {M : Mem} (J : List (Nat × Value) → Mem → Prop)
    (h1 : ∀ Q' : Ex → St → Prop, (∀ T' M', J T' M' → Q' .normal ⟨n, T', M'⟩) → awLoop F (sBlock id Q' tk) ⟨n, T, M⟩)
    (h3 : ∀ T' M', J T' M' → sAw P b Y Q ⟨n, T', M'⟩) : awLoop F (sBlock id (sThen P b Y Q tk) tk) ⟨n, T, M⟩ :=
  h1 _ fun T' M' hJ => by rw [sThen_normal]; exact h3 T' M' hJ
end Go.Proofs.YtodbjnngkonklaaGreatDoor
