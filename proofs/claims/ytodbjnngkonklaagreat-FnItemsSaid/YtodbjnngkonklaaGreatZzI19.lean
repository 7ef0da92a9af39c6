/- Parts of the proof, together: Scores and channels out of codes. What items play: PlayItems. The reference's SameItems. Rests between chords, in plain words. The chords of a score, in plain words. The items of a score play its notes, in plain words. The items of a score are valid, in plain words. Items of a score: what holds of them, in plain words. The law of the items is walked. An argument that is a slice of bytes. No conditions. -/
import Derived.Test.YtodbjnngkonklaaGreatZzI18
import Derived.Test.YtodbjnngkonklaaGreatZzI17
import Derived.Test.YtodbjnngkonklaaGreatZzI12
import Derived.Test.YtodbjnngkonklaaGreatZzI13
import Derived.Test.YtodbjnngkonklaaGreatZzI14
import Derived.Test.YtodbjnngkonklaaGreatZzI8
import Derived.Test.YtodbjnngkonklaaGreatZzI10
namespace Go.Proofs.YtodbjnngkonklaaGreat
open Go.RowKit
set_option linter.unusedVariables false
set_option linter.unusedSimpArgs false
set_option maxRecDepth 100000
attribute [local simp] List.getElem?_cons_zero
attribute [local irreducible] awCond awCall awLoop awDraw ow retQ retC resQ Keeps
theorem l00Min_w {M : Mem} (a b : Int) : Det Tryz.prog M.length 19 [iv a, iv b] M (iv (if a < b then a else b)) M := by
  first | (refine det_fn Tryz.func19 rfl Tryz.ntmps19 Tryz.results19 rfl rfl rfl (by simp) ?_) | (refine det_fnC Tryz.func19 rfl Tryz.ntmps19 Tryz.results19 rfl rfl (by simp) ?_)
  simp
  by_cases h : a < b
  · simp [h, Keeps.refl]
  · simp [h, Keeps.refl]
theorem l00Max_w {M : Mem} (a b : Int) : Det Tryz.prog M.length 18 [iv a, iv b] M (iv (if b < a then a else b)) M := by
  first | (refine det_fn Tryz.func18 rfl Tryz.ntmps18 Tryz.results18 rfl rfl rfl (by simp) ?_) | (refine det_fnC Tryz.func18 rfl Tryz.ntmps18 Tryz.results18 rfl rfl (by simp) ?_)
  simp
  by_cases h : b < a
  · simp [h, Keeps.refl]
  · simp [h, Keeps.refl]
theorem fin_dr {M N : Mem} {v : Value} {ns : List Note} (hA : Acc noteR 36 (M.length + 1) N v ns) (hl : ns.length ≤ 61) (hk : Keeps M N) (hr : N[M.length]? = some (.live ⟨[.slice none 0 0], true, true, 26, 1⟩)) : ow (putCells M.length N M.length 0 [v]) fun M' => ow (cellsAt M' M.length 0 1) fun cs => (∃ v', Value.agg cs.toArray = .agg #[v'] ∧ Keeps M M' ∧ ∃ ns : List Note, Acc noteR 36 M.length M' v' ns ∧ ns.length ≤ 61) := by
  have lr := (List.getElem?_eq_some_iff.1 hr).1
  obtain ⟨A, n, c, rfl, -, -, -⟩ := hA.sl
  rw [put_whole (vs := [.slice A n c]) hr (Nat.le_refl _) rfl (by simp), ow_some, cells_hr (r := ⟨[.slice A n c], true, true, 26, 1⟩) (n := 1) (set_get lr) rfl, ow_some]
  exact ⟨_, rfl, keeps_set hk (Nat.le_refl _), ns, (hA.set_ne (by omega)).low (by omega), hl⟩
set_option maxHeartbeats 4000000 in
theorem DrawItemsOfScore_s {M : Mem} {A : Option Addr} {n c : Nat} {cs : List Int} (h : Sl codeR M A n cs) (hn : n ≤ 1048576) (hcs : ∀ x, x ∈ cs → 0 ≤ x ∧ x ≤ 255) :
    Ctr Tryz.prog M.length 5 [.slice A n c] M fun r M' => ∃ v ch, r = .tuple #[.agg #[v], iv ch] ∧ Keeps M M' ∧ ∃ ns, Acc noteR 36 M.length M' v ns ∧ ns.length ≤ 61 := by
  first | (refine ctr_fn Tryz.func5 rfl Tryz.ntmps5 Tryz.results5 rfl rfl (by simp) ?_) | (refine ctr_fnC Tryz.func5 rfl Tryz.ntmps5 Tryz.results5 rfl (by simp) ?_)
  simp
  obtain ⟨M0, hM0⟩ : ∃ M0 : Mem, M0 = M ++ [Slot.live ⟨[.slice none 0 0], true, true, 26, 1⟩] := ⟨_, rfl⟩
  have k0 : Keeps M M0 := by rw [hM0]; exact keeps_app _
  have r0 : M0[M.length]? = some (.live ⟨[.slice none 0 0], true, true, 26, 1⟩) := by rw [hM0]; exact getElem?_snoc_eq
  have n0 : M0.length = M.length + 1 := by rw [hM0]; simp
  rw [← hM0]
  clear hM0
  refine awCall_det' (l00From_a (h.keeps k0) hn hcs) (by omega) ?_
  have hs := src_new (h.keeps k0) hn hcs (c := c)
  obtain ⟨M1, hM1⟩ : ∃ M1 : Mem, M1 = M0 ++ [.live ⟨[.slice A n c, iv 0, .int .u64 0], true, true, 77, 3⟩] := ⟨_, rfl⟩
  have k1 : Keeps M M1 := by rw [hM1]; exact k0.trans (keeps_app _)
  have r1 : M1[M.length]? = some (.live ⟨[.slice none 0 0], true, true, 26, 1⟩) := by rw [hM1]; exact (keeps_app _).get r0
  have n1 : M1.length = M0.length + 1 := by rw [hM1]; simp
  rw [← hM1] at hs
  rw [← hM1]
  clear hM1
  generalize hg : M0.length = g at *
  rw [fill7I, ow_some]
  simp
  refine awCall_ctr (among_new (b := M.length) (M := M1) (n := 7) [0, 0, 0, 1, 15, 16, -1] rfl hs (by omega) (by omega) (by omega) (by omega) rfl (by omega)) ?_
  rintro _ M2 ⟨ch, q2, rfl, hch, hq2, h2, g2⟩
  have n2 := g2.1
  have ch1 : -1 ≤ ch ∧ ch ≤ 16 := by simp at hch; omega
  clear hch
  try simp
  refine awCall_ctr (one_b 3 h2 (by omega) (by omega) (by omega)) ?_
  rintro _ M3 ⟨yes, q3, rfl, hq3, h3, u3⟩
  have g3 := g2.trans u3.grow
  have n3 := g3.1
  have keep : ∀ {N : Mem}, Grow g M1 N → Keeps M N := fun u => (u.same (B := M.length) (by omega)).keeps k1 (Nat.le_refl _)
  have bent : ∀ {N : Mem} {q : Nat} {K : Value → Mem → Prop}, Src g (g + 1) N q → q ≤ 60000 → Grow g M1 N → (∀ v N', (∃ l : List Note, Acc noteR 36 (M.length + 1) N' v l ∧ l.length ≤ 61) → Keeps M N' → N'[M.length]? = some (.live ⟨[.slice none 0 0], true, true, 26, 1⟩) → K (.agg #[v]) N') → awCall Tryz.prog false M.length 15 [.pointer (some ⟨g, 0, none⟩)] N K := by
    intro N q K hS hq hG hK
    have := hG.1
    refine awCall_ctr (l18Bent_b hS (by omega) (by omega) hq) ?_
    rintro _ N' ⟨l, v, rfl, hA, hl, u, -⟩
    exact hK v N' ⟨l, hA.low (by omega), hl⟩ (keep (hG.trans u)) ((hG.trans u).2 _ _ (by omega) r1)
  cases yes
  case true =>
    simp
    refine bent h3 (by omega) g3 ?_
    rintro v N ⟨l, hA, hl⟩ hk hr
    simp
    exact fin_dr hA hl hk hr
  simp
  refine awCall_ctr (draw_0 M3 M.length g q3 (g + 1) h3 (by omega) (by omega) (by omega)) ?_
  rintro v4 M4 ⟨l, hT, hl, hp, g4, q4, hq4, h4⟩
  obtain ⟨A4, c4, rfl, hsl, -⟩ := hT.slp (fun x hx => by have := hp x hx; omega)
  have g14 := g3.trans g4
  have n4 := g14.1
  try simp
  refine awCall_det' (l00Min_w ch 15) (by omega) ?_
  refine awCall_det' (l00Max_w 0 _) (by omega) ?_
  refine awCall_ctr ((PlayItems_s _ hsl (by omega)).weaken (by omega)) ?_
  rintro _ M5 ⟨v5, e5, rfl, k5, ns, hA5, hns⟩
  have g15 := g14.trans k5.growQ
  have n5 := k5.len
  simp
  obtain ⟨A5, q5, c5, rfl, hq5, -, -⟩ := hA5.sl
  rw [put_box (b := M.length) (cs := [.slice none 0 0]) (vs := [.slice A5 q5 c5]) (by omega) rfl (by simp), ow_some]
  obtain ⟨M6, hM6⟩ : ∃ M6 : Mem, M6 = M5 ++ [Slot.live ⟨[.slice A5 q5 c5], true, true, 26, 1⟩] := ⟨_, rfl⟩
  have b6 : M6[M5.length]? = some (.live ⟨[.slice A5 q5 c5], true, true, 26, 1⟩) := by rw [hM6]; exact getElem?_snoc_eq
  have g16 : Grow g M1 M6 := by rw [hM6]; exact g15.trans (Grow.app g M5 _)
  have h6 : Src g (g + 1) M6 q4 := by rw [hM6]; exact (h4.same k5.same).app _
  have hA6 : Acc noteR 36 M4.length M6 (.slice A5 q5 c5) ns := by rw [hM6]; exact hA5.keeps (keeps_app _)
  rw [← hM6]
  clear hM6
  have l6 := cells_hr (n := 1) b6 rfl
  simp only at l6
  by_cases he : e5 = 0
  · simp [he, l6]
    exact fin_dr (hA6.low (by omega)) (by omega) (keep g16) (g16.2 _ _ (by omega) r1)
  · simp [he]
    refine bent h6 (by omega) g16 ?_
    rintro v N ⟨l, hA, hl⟩ hk hr
    simp
    exact fin_dr hA hl hk hr
end Go.Proofs.YtodbjnngkonklaaGreat

namespace Go.Proofs.YtodbjnngkonklaaGreat
open Go.RowKit
set_option linter.unusedVariables false
set_option linter.unusedSimpArgs false
set_option maxRecDepth 100000
attribute [local simp] List.getElem?_cons_zero
attribute [local irreducible] awCond awCall awLoop awDraw ow retQ retC resQ Keeps
theorem PlayItems_i {M : Mem} {A : Option Addr} {n c lo hi : Nat} {l : List Item} {ns : List Note} (ch : Int) (h : SlP itemP lo hi M A n l) (hok : okI l = true) (hmv : ∀ x, x ∈ l → x.j ≠ 5) (hc : cntI l ≤ 80) (hch : inB ch 0 15 = true) (hp : PlG ch ⟨0, 1⟩ 80 (flatI l) ns) (hns : ns.length ≤ 60) :
    Ctr Tryz.prog M.length 7 [.slice A n c, iv ch] M fun r M' => ∃ v, r = .tuple #[.agg #[v], iv 0] ∧ Keeps M M' ∧ Acc noteR 36 M.length M' v ns := by
  have hl := h.1
  have h2 := hok
  unfold okI at h2
  simp only [Bool.and_eq_true, decide_eq_true_eq] at h2
  first | (refine ctr_fn Tryz.func7 rfl Tryz.ntmps7 Tryz.results7 rfl rfl (by simp) ?_) | (refine ctr_fnC Tryz.func7 rfl Tryz.ntmps7 Tryz.results7 rfl (by simp) ?_)
  simp
  obtain ⟨M1, hM1⟩ : ∃ M1 : Mem, M1 = M ++ [Slot.live ⟨[.slice none 0 0], true, true, 26, 1⟩] := ⟨_, rfl⟩
  have k01 : Keeps M M1 := by rw [hM1]; exact keeps_app _
  have l1 : M1.length = M.length + 1 := by rw [hM1]; simp
  have r1 : M1[M.length]? = some (.live ⟨[.slice none 0 0], true, true, 26, 1⟩) := by rw [hM1]; simp
  rw [← hM1]
  clear hM1
  refine awCall_det' (areItems_i (h.keeps k01) (by omega)) (by omega) ?_
  simp [hok]
  refine awCall_ctr ((playItems_i (c := c) ch (h.keeps k01) hok hmv hc hch hp hns).weaken (by omega)) ?_
  rintro _ M2 ⟨v, rfl, k12, hA⟩
  have n2 := k12.len
  obtain ⟨A7, n7, c7, rfl, hn7, -, -⟩ := hA.sl
  have rr := k12.get r1
  have hpr := put_whole (b := M.length) (vs := [.slice A7 n7 c7]) rr (Nat.le_refl _) rfl (by simp)
  have lr := (List.getElem?_eq_some_iff.1 rr).1
  simp [hpr]
  rw [cells_hrq (n := 1) (List.getElem?_set_self lr) rfl, ow_some]
  refine ⟨_, rfl, (Same.set (B := M.length) (Nat.le_refl _)).keeps (k01.trans k12) (Nat.le_refl _), (hA.set_ne (by omega)).low (by omega)⟩
end Go.Proofs.YtodbjnngkonklaaGreat

namespace Go.Proofs.YtodbjnngkonklaaGreat
open Go.RowKit
set_option linter.unusedVariables false
set_option linter.unusedSimpArgs false
set_option maxRecDepth 100000
attribute [local simp] List.getElem?_cons_zero
attribute [local irreducible] awCond awCall awLoop awDraw ow retQ retC resQ Keeps
theorem pitch_neqP (a b : Pitch) : binV Tryz.prog .neq 62 (.agg #[iv a.s, iv a.a, iv a.o]) (.agg #[iv b.s, iv b.a, iv b.o]) = some (.bool (decide (a ≠ b))) := by
  simp only [binV, eqV, Tryz.underlying62, pitch_same, Option.map_some]
  simp
set_option maxHeartbeats 1000000 in
theorem l19Pitches_s {M : Mem} {A B : Option Addr} {n c m d : Nat} {x y : List Pitch} (hx : Sl pitchR M A n x) (hy : Sl pitchR M B m y) (hn : n ≤ 1048576) : Det Tryz.prog M.length 69 [.slice A n c, .slice B m d] M (.bool (decide (x = y))) M := by
  have hlx := hx.1
  have hly := hy.1
  first | (refine det_fn Tryz.func69 rfl Tryz.ntmps69 Tryz.results69 rfl rfl rfl (by simp) ?_) | (refine det_fnC Tryz.func69 rfl Tryz.ntmps69 Tryz.results69 rfl rfl (by simp) ?_)
  simp
  refine awCond_split ?_ ?_ <;> intro hnm
  · simp at hnm
    simp
    exact ⟨fun e => by subst e; omega, Keeps.refl _⟩
  simp at hnm
  obtain rfl : n = m := by omega
  simp
  refine awLoop_T (fun m T M' => ∃ k : Nat, k + m = n ∧ M' = M ∧ look T 5 = some (iv k) ∧ look T 0 = some (.slice A n c) ∧ look T 1 = some (.slice B n d) ∧ x.take k = y.take k) n ⟨0, by omega, rfl, by simp, by simp, by simp, by simp⟩ ?_
  rintro m T M' ⟨k, hm, rfl, t5, t0, t1, hk⟩
  by_cases hlt : k < n
  · have hlt' : (k : Int) < n := by omega
    obtain ⟨id, off, rfl, he, hc⟩ := hx.at_ hlt
    obtain ⟨id', off', rfl, he', hc'⟩ := hy.at_ hlt
    simp (disch := omega) [t5, t0, t1, hlt, hlt']
    refine awDraw_E 8 [[],[],[0,1],[2,0,1],[],[],[4,5],[6,4,5],[3,2,0,1,7,6,4,5]] (by kernel_rfl) (by kernel_rfl) ?_
    simp (disch := omega) [t5, t0, t1, hlt, hlt', he, he', pitch_load hc, pitch_load hc', pitch_neqP, wrap_in]
    by_cases heq : el x k = el y k
    · simp (disch := omega) [heq, t5, wrap_in]
      exact lpI (m - 1) (by omega) ⟨k + 1, by omega, rfl, by simp, by simp [t0], by simp [t1], by rw [take_el (by omega), take_el (by omega), hk, heq]⟩
    · simp (disch := omega) [heq]
      exact ⟨fun e => heq (by rw [e]), Keeps.refl _⟩
  · obtain rfl : k = n := by omega
    simp (disch := omega) [t5, t0, t1]
    rw [List.take_of_length_le (by omega), List.take_of_length_le (by omega)] at hk
    exact ⟨hk, Keeps.refl _⟩
set_option maxHeartbeats 1000000 in
theorem l19Same_s {M : Mem} {id off id' off' lo hi lo' hi' : Nat} {us vs : List Value} {x y : Item} (h : itemP.rd lo hi M x us) (hc : Cl M id off us) (h' : itemP.rd lo' hi' M y vs) (hc' : Cl M id' off' vs) (hx6 : x.ps.length ≤ 1048576) : Det Tryz.prog M.length 37 [.pointer (some ⟨id, off, none⟩), .pointer (some ⟨id', off', none⟩)] M (.bool (decide (x = y))) M := by
  obtain ⟨A, n, c, hu, -, c0, c1, c2, c4, c5, c7, -⟩ := item_cells h hc
  obtain ⟨B, m, d, hw, -, e0, e1, e2, e4, e5, e7, -⟩ := item_cells h' hc'
  first | (refine det_fn Tryz.func37 rfl Tryz.ntmps37 Tryz.results37 rfl rfl rfl (by simp) ?_) | (refine det_fnC Tryz.func37 rfl Tryz.ntmps37 Tryz.results37 rfl rfl (by simp) ?_)
  simp
  have hp : Det Tryz.prog M.length 69 [.slice A n c, .slice B m d] M (.bool (decide (x.ps = y.ps))) M := by
    obtain ⟨_, _, _, ea, g1, g2, g3⟩ := hu
    cases ea
    obtain ⟨_, _, _, eb, k1, k2, k3⟩ := hw
    cases eb
    exact l19Pitches_s g3.sl k3.sl (by have := g3.1; omega)
  refine awDraw_E 62 [[],[0],[1,0],[2,1,0],[],[4],[5,4],[6,5,4],[3,2,1,0,7,6,5,4],[8,3,2,1,0,7,6,5,4],[9,8,3,2,1,0,7,6,5,4],[10,9,8,3,2,1,0,7,6,5,4],[11,10,9,8,3,2,1,0,7,6,5,4],[12,11,10,9,8,3,2,1,0,7,6,5,4],[9,8,3,2,1,0,7,6,5,4],[14,9,8,3,2,1,0,7,6,5,4],[15,14,9,8,3,2,1,0,7,6,5,4],[16,15,14,9,8,3,2,1,0,7,6,5,4],[13,12,11,10,9,8,3,2,1,0,7,6,5,4,17,16,15,14],[9,8,3,2,1,0,7,6,5,4,18,13,12,11,10,17,16,15,14],[19,9,8,3,2,1,0,7,6,5,4,18,13,12,11,10,17,16,15,14],[20,19,9,8,3,2,1,0,7,6,5,4,18,13,12,11,10,17,16,15,14],[21,20,19,9,8,3,2,1,0,7,6,5,4,18,13,12,11,10,17,16,15,14],[22,21,20,19,9,8,3,2,1,0,7,6,5,4,18,13,12,11,10,17,16,15,14],[23,22,21,20,19,9,8,3,2,1,0,7,6,5,4,18,13,12,11,10,17,16,15,14],[20,19,9,8,3,2,1,0,7,6,5,4,18,13,12,11,10,17,16,15,14],[25,20,19,9,8,3,2,1,0,7,6,5,4,18,13,12,11,10,17,16,15,14],[26,25,20,19,9,8,3,2,1,0,7,6,5,4,18,13,12,11,10,17,16,15,14],[27,26,25,20,19,9,8,3,2,1,0,7,6,5,4,18,13,12,11,10,17,16,15,14],[24,23,22,21,20,19,9,8,3,2,1,0,7,6,5,4,18,13,12,11,10,17,16,15,14,28,27,26,25],[20,19,9,8,3,2,1,0,7,6,5,4,18,13,12,11,10,17,16,15,14,29,24,23,22,21,28,27,26,25],[30,20,19,9,8,3,2,1,0,7,6,5,4,18,13,12,11,10,17,16,15,14,29,24,23,22,21,28,27,26,25],[31,30,20,19,9,8,3,2,1,0,7,6,5,4,18,13,12,11,10,17,16,15,14,29,24,23,22,21,28,27,26,25],[32,31,30,20,19,9,8,3,2,1,0,7,6,5,4,18,13,12,11,10,17,16,15,14,29,24,23,22,21,28,27,26,25],[33,32,31,30,20,19,9,8,3,2,1,0,7,6,5,4,18,13,12,11,10,17,16,15,14,29,24,23,22,21,28,27,26,25],[34,33,32,31,30,20,19,9,8,3,2,1,0,7,6,5,4,18,13,12,11,10,17,16,15,14,29,24,23,22,21,28,27,26,25],[31,30,20,19,9,8,3,2,1,0,7,6,5,4,18,13,12,11,10,17,16,15,14,29,24,23,22,21,28,27,26,25],[36,31,30,20,19,9,8,3,2,1,0,7,6,5,4,18,13,12,11,10,17,16,15,14,29,24,23,22,21,28,27,26,25],[37,36,31,30,20,19,9,8,3,2,1,0,7,6,5,4,18,13,12,11,10,17,16,15,14,29,24,23,22,21,28,27,26,25],[38,37,36,31,30,20,19,9,8,3,2,1,0,7,6,5,4,18,13,12,11,10,17,16,15,14,29,24,23,22,21,28,27,26,25],[35,34,33,32,31,30,20,19,9,8,3,2,1,0,7,6,5,4,18,13,12,11,10,17,16,15,14,29,24,23,22,21,28,27,26,25,39,38,37,36],[31,30,20,19,9,8,3,2,1,0,7,6,5,4,18,13,12,11,10,17,16,15,14,29,24,23,22,21,28,27,26,25,40,35,34,33,32,39,38,37,36],[41,31,30,20,19,9,8,3,2,1,0,7,6,5,4,18,13,12,11,10,17,16,15,14,29,24,23,22,21,28,27,26,25,40,35,34,33,32,39,38,37,36],[42,41,31,30,20,19,9,8,3,2,1,0,7,6,5,4,18,13,12,11,10,17,16,15,14,29,24,23,22,21,28,27,26,25,40,35,34,33,32,39,38,37,36],[43,42,41,31,30,20,19,9,8,3,2,1,0,7,6,5,4,18,13,12,11,10,17,16,15,14,29,24,23,22,21,28,27,26,25,40,35,34,33,32,39,38,37,36],[44,43,42,41,31,30,20,19,9,8,3,2,1,0,7,6,5,4,18,13,12,11,10,17,16,15,14,29,24,23,22,21,28,27,26,25,40,35,34,33,32,39,38,37,36],[45,44,43,42,41,31,30,20,19,9,8,3,2,1,0,7,6,5,4,18,13,12,11,10,17,16,15,14,29,24,23,22,21,28,27,26,25,40,35,34,33,32,39,38,37,36],[42,41,31,30,20,19,9,8,3,2,1,0,7,6,5,4,18,13,12,11,10,17,16,15,14,29,24,23,22,21,28,27,26,25,40,35,34,33,32,39,38,37,36],[47,42,41,31,30,20,19,9,8,3,2,1,0,7,6,5,4,18,13,12,11,10,17,16,15,14,29,24,23,22,21,28,27,26,25,40,35,34,33,32,39,38,37,36],[48,47,42,41,31,30,20,19,9,8,3,2,1,0,7,6,5,4,18,13,12,11,10,17,16,15,14,29,24,23,22,21,28,27,26,25,40,35,34,33,32,39,38,37,36],[49,48,47,42,41,31,30,20,19,9,8,3,2,1,0,7,6,5,4,18,13,12,11,10,17,16,15,14,29,24,23,22,21,28,27,26,25,40,35,34,33,32,39,38,37,36],[46,45,44,43,42,41,31,30,20,19,9,8,3,2,1,0,7,6,5,4,18,13,12,11,10,17,16,15,14,29,24,23,22,21,28,27,26,25,40,35,34,33,32,39,38,37,36,50,49,48,47],[42,41,31,30,20,19,9,8,3,2,1,0,7,6,5,4,18,13,12,11,10,17,16,15,14,29,24,23,22,21,28,27,26,25,40,35,34,33,32,39,38,37,36,51,46,45,44,43,50,49,48,47],[52,42,41,31,30,20,19,9,8,3,2,1,0,7,6,5,4,18,13,12,11,10,17,16,15,14,29,24,23,22,21,28,27,26,25,40,35,34,33,32,39,38,37,36,51,46,45,44,43,50,49,48,47],[53,52,42,41,31,30,20,19,9,8,3,2,1,0,7,6,5,4,18,13,12,11,10,17,16,15,14,29,24,23,22,21,28,27,26,25,40,35,34,33,32,39,38,37,36,51,46,45,44,43,50,49,48,47],[54,53,52,42,41,31,30,20,19,9,8,3,2,1,0,7,6,5,4,18,13,12,11,10,17,16,15,14,29,24,23,22,21,28,27,26,25,40,35,34,33,32,39,38,37,36,51,46,45,44,43,50,49,48,47],[55,54,53,52,42,41,31,30,20,19,9,8,3,2,1,0,7,6,5,4,18,13,12,11,10,17,16,15,14,29,24,23,22,21,28,27,26,25,40,35,34,33,32,39,38,37,36,51,46,45,44,43,50,49,48,47],[56,55,54,53,52,42,41,31,30,20,19,9,8,3,2,1,0,7,6,5,4,18,13,12,11,10,17,16,15,14,29,24,23,22,21,28,27,26,25,40,35,34,33,32,39,38,37,36,51,46,45,44,43,50,49,48,47],[53,52,42,41,31,30,20,19,9,8,3,2,1,0,7,6,5,4,18,13,12,11,10,17,16,15,14,29,24,23,22,21,28,27,26,25,40,35,34,33,32,39,38,37,36,51,46,45,44,43,50,49,48,47],[58,53,52,42,41,31,30,20,19,9,8,3,2,1,0,7,6,5,4,18,13,12,11,10,17,16,15,14,29,24,23,22,21,28,27,26,25,40,35,34,33,32,39,38,37,36,51,46,45,44,43,50,49,48,47],[59,58,53,52,42,41,31,30,20,19,9,8,3,2,1,0,7,6,5,4,18,13,12,11,10,17,16,15,14,29,24,23,22,21,28,27,26,25,40,35,34,33,32,39,38,37,36,51,46,45,44,43,50,49,48,47],[60,59,58,53,52,42,41,31,30,20,19,9,8,3,2,1,0,7,6,5,4,18,13,12,11,10,17,16,15,14,29,24,23,22,21,28,27,26,25,40,35,34,33,32,39,38,37,36,51,46,45,44,43,50,49,48,47],[57,56,55,54,53,52,42,41,31,30,20,19,9,8,3,2,1,0,7,6,5,4,18,13,12,11,10,17,16,15,14,29,24,23,22,21,28,27,26,25,40,35,34,33,32,39,38,37,36,51,46,45,44,43,50,49,48,47,61,60,59,58],[53,52,42,41,31,30,20,19,9,8,3,2,1,0,7,6,5,4,18,13,12,11,10,17,16,15,14,29,24,23,22,21,28,27,26,25,40,35,34,33,32,39,38,37,36,51,46,45,44,43,50,49,48,47,62,57,56,55,54,61,60,59,58],[63,53,52,42,41,31,30,20,19,9,8,3,2,1,0,7,6,5,4,18,13,12,11,10,17,16,15,14,29,24,23,22,21,28,27,26,25,40,35,34,33,32,39,38,37,36,51,46,45,44,43,50,49,48,47,62,57,56,55,54,61,60,59,58]] (by kernel_rfl) (by kernel_rfl) ?_
  simp (disch := omega) [c0, e0]
  by_cases h1 : x.j = y.j
  case neg => simp [h1, item_eq, Keeps.refl]
  simp (disch := omega) [h1, c1, e1]
  refine awCall_det' (d := true) hp (by omega) ?_
  refine ⟨rfl, ?_⟩
  have f3 := frac_eql ⟨x.ln, x.ld⟩ ⟨y.ln, y.ld⟩
  have f5 := interval_eql ⟨x.mt, x.mh⟩ ⟨y.mt, y.mh⟩
  simp only [interval_eq, frac_eq, Bool.decide_and] at f3 f5
  by_cases h2 : x.ps = y.ps
  case neg => simp [h2, item_eq, Keeps.refl]
  simp (disch := omega) [h2, c2, e2, f3]
  by_cases h3 : x.ln = y.ln
  case neg => simp [h3, item_eq, Keeps.refl]
  by_cases h4 : x.ld = y.ld
  case neg => simp [h3, h4, item_eq, Keeps.refl]
  simp (disch := omega) [h3, h4, c4, e4]
  by_cases h5 : x.x = y.x
  case neg => simp [h5, item_eq, Keeps.refl]
  simp (disch := omega) [h5, c5, e5, f5]
  by_cases h6 : x.mt = y.mt
  case neg => simp [h6, item_eq, Keeps.refl]
  by_cases h7 : x.mh = y.mh
  case neg => simp [h6, h7, item_eq, Keeps.refl]
  simp (disch := omega) [h6, h7, c7, e7]
  by_cases h8 : x.z = y.z
  · simp [h1, h2, h3, h4, h5, h6, h7, h8, item_eq, Keeps.refl]
  · simp [h8, item_eq, Keeps.refl]
set_option maxHeartbeats 1000000 in
theorem SameItems_s {M : Mem} {A B : Option Addr} {n c m d lo hi lo' hi' : Nat} {x y : List Item} (hx : SlP itemP lo hi M A n x) (hy : SlP itemP lo' hi' M B m y) (hn : n ≤ 1048576) (hp : ∀ z, z ∈ x → z.ps.length ≤ 1048576) : Det Tryz.prog M.length 11 [.slice A n c, .slice B m d] M (.bool (decide (x = y))) M := by
  have hlx := hx.1
  have hly := hy.1
  first | (refine det_fn Tryz.func11 rfl Tryz.ntmps11 Tryz.results11 rfl rfl rfl (by simp) ?_) | (refine det_fnC Tryz.func11 rfl Tryz.ntmps11 Tryz.results11 rfl rfl (by simp) ?_)
  simp
  refine awCond_split ?_ ?_ <;> intro hnm
  · simp at hnm
    simp
    exact ⟨fun e => by subst e; omega, Keeps.refl _⟩
  simp at hnm
  obtain rfl : n = m := by omega
  simp
  refine awLoop_T (fun m T M' => ∃ k : Nat, k + m = n ∧ Keeps M M' ∧ look T 5 = some (iv k) ∧ look T 0 = some (.slice A n c) ∧ look T 1 = some (.slice B n d) ∧ x.take k = y.take k) n ⟨0, by omega, Keeps.refl _, by simp, by simp, by simp, by simp⟩ ?_
  rintro m T M' ⟨k, hm, hK, t5, t0, t1, hk⟩
  have hKl := hK.len
  by_cases hlt : k < n
  · have hlt' : (k : Int) < n := by omega
    obtain ⟨id, off, us, rfl, he, hrd, hc⟩ := (hx.keeps hK).at_ hlt
    obtain ⟨id', off', us', rfl, he', hrd', hc'⟩ := (hy.keeps hK).at_ hlt
    simp (disch := omega) [t5, t0, t1, hlt, hlt']
    refine awDraw_E 6 [[],[],[0,1],[],[],[3,4],[2,0,1,5,3,4],[6,2,0,1,5,3,4]] (by kernel_rfl) (by kernel_rfl) ?_
    simp (disch := omega) [t5, t0, t1, hlt, hlt', he, he']
    refine awCall_det' (l19Same_s hrd hc hrd' hc' (hp _ (el_mem (by omega)))) (by omega) ?_
    by_cases heq : el x k = el y k
    · simp (disch := omega) [heq, t5, wrap_in]
      exact lpI (m - 1) (by omega) ⟨k + 1, by omega, hK, by simp, by simp [t0], by simp [t1], by rw [take_el (by omega), take_el (by omega), hk, heq]⟩
    · simp (disch := omega) [heq]
      exact ⟨fun e => heq (by rw [e]), hK⟩
  · obtain rfl : k = n := by omega
    simp (disch := omega) [t5, t0, t1]
    rw [List.take_of_length_le (by omega), List.take_of_length_le (by omega)] at hk
    exact ⟨hk, hK⟩
end Go.Proofs.YtodbjnngkonklaaGreat

namespace Go.Proofs.YtodbjnngkonklaaGreat
open Go.RowKit
set_option linter.unusedVariables false
set_option linter.unusedSimpArgs false
set_option maxRecDepth 100000
attribute [local simp] List.getElem?_cons_zero
attribute [local irreducible] awCond awCall awLoop awDraw ow retQ retC resQ Keeps
theorem mkF_backP {f : Frac} {x D : Int} (hf : fracB f = true) (h0 : 0 ≤ f.n) (hD : 0 < D) (hx : f.n * D = x * f.d) : mkF x D = (f, 0) := by
  obtain ⟨hd, hn, hg⟩ := fracB_iff.1 hf
  obtain ⟨fn, fd⟩ := f
  simp only at *
  obtain ⟨a, rfl⟩ := Int.eq_ofNat_of_zero_le h0
  obtain ⟨b, rfl⟩ := Int.eq_ofNat_of_zero_le (show 0 ≤ fd by omega)
  obtain ⟨E, rfl⟩ := Int.eq_ofNat_of_zero_le (show 0 ≤ D by omega)
  have hb : 0 < b := by omega
  have hx0 : 0 ≤ x := by
    rcases Int.lt_or_le x 0 with h | h
    · have h1 := Int.mul_neg_of_neg_of_pos h (show (0 : Int) < (b : Int) by omega)
      have h2 : (0 : Int) ≤ (a : Int) * E := Int.mul_nonneg (by omega) (by omega)
      omega
    · exact h
  obtain ⟨X, rfl⟩ := Int.eq_ofNat_of_zero_le hx0
  have hN : a * E = X * b := by
    apply Int.ofNat.inj
    simpa using hx
  have hg1 : a.gcd b = 1 := by simpa using hg
  have hco : Nat.Coprime b a := by unfold Nat.Coprime; rw [Nat.gcd_comm]; exact hg1
  obtain ⟨t, rfl⟩ : b ∣ E := hco.dvd_of_dvd_mul_left ⟨X, by rw [hN, Nat.mul_comm]⟩
  have hXt : X = a * t := by
    have : X * b = a * t * b := by rw [← hN, Nat.mul_comm b t, Nat.mul_assoc]
    exact Nat.eq_of_mul_eq_mul_right hb this
  subst hXt
  have ht : 0 < t := by
    rcases Nat.eq_zero_or_pos t with h | h
    · subst h; simp at hD
    · exact h
  have hgcd : (a * t).gcd (b * t) = t := by rw [Nat.gcd_mul_right, hg1, Nat.one_mul]
  have e1 : ((a * t : Nat) : Int).natAbs = a * t := Int.natAbs_natCast _
  have e2 : ((b * t : Nat) : Int).natAbs = b * t := Int.natAbs_natCast _
  unfold mkF
  rw [if_neg (by omega), e1, e2, hgcd, Nat.mul_div_cancel _ ht, Nat.mul_div_cancel _ ht, if_neg (by omega)]
  have d1 : ¬ (((a * t : Nat) : Int) < 0) := Int.not_lt.2 (Int.natCast_nonneg _)
  have d2 : ¬ (((b * t : Nat) : Int) < 0) := Int.not_lt.2 (Int.natCast_nonneg _)
  have h3 : (decide (((a * t : Nat) : Int) < 0) != decide (((b * t : Nat) : Int) < 0)) = false := by rw [decide_eq_false d1, decide_eq_false d2]; rfl
  rw [h3]
  rfl
theorem sub_ok {a e : Frac} (ha : fracB a = true) (he : fracB e = true) (h : (subF a e).2 = 0) : fracB (subF a e).1 = true := by
  unfold subF at h ⊢
  rw [if_pos ⟨ha, he⟩] at h ⊢
  exact mkF_ok h
theorem sub_add {a e : Frac} (ha : fracB a = true) (he : fracB e = true) (h0 : 0 ≤ a.n) (h : (subF a e).2 = 0) : addF e (subF a e).1 = (a, 0) := by
  have hr := sub_ok ha he h
  have hq := subF_q ha he h
  generalize (subF a e).1 = r at *
  obtain ⟨a1, -⟩ := fracB_iff.1 ha
  obtain ⟨e1, -⟩ := fracB_iff.1 he
  obtain ⟨r1, -⟩ := fracB_iff.1 hr
  have hd : 0 < e.d * r.d := Int.mul_pos (by omega) (by omega)
  unfold addF
  rw [if_pos ⟨he, hr⟩]
  refine mkF_backP ha h0 hd ?_
  have hq2 : a.q = e.q + r.q := by rw [hq]; grind
  unfold Frac.q at hq2
  rw [Rat.divInt_add_divInt _ _ (by omega) (by omega), Rat.divInt_eq_divInt_iff (by omega) (by omega)] at hq2
  exact hq2
theorem q_inj {a e : Frac} (ha : fracB a = true) (he : fracB e = true) (h0 : 0 ≤ a.n) (h : a.q = e.q) : a = e := by
  obtain ⟨a1, -⟩ := fracB_iff.1 ha
  obtain ⟨e1, -⟩ := fracB_iff.1 he
  unfold Frac.q at h
  rw [Rat.divInt_eq_divInt_iff (by omega) (by omega)] at h
  have h1 := mkF_backP (x := e.n) (D := e.d) ha h0 (by omega) h
  rw [mkF_self he] at h1
  exact (congrArg Prod.fst h1).symm
theorem q_le {f : Frac} {x : Int} (h : 0 < f.d) : f.q ≤ Rat.divInt x 1 ↔ f.n ≤ x * f.d := by
  unfold Frac.q
  rw [divInt_le h (by omega), Int.mul_one]
theorem q_ge {f : Frac} {x : Int} (h : 0 < f.d) : Rat.divInt x 1 ≤ f.q ↔ x * f.d ≤ f.n := by
  unfold Frac.q
  rw [divInt_le (by omega) h, Int.mul_one]
theorem sub_len {a e : Frac} (ha : beatB a = true) (he : fracB e = true) (he0 : 0 ≤ e.n) (hc : 0 ≤ cmpF a e) (hne : a ≠ e) (h : (subF a e).2 = 0) : lenB (subF a e).1 = true := by
  obtain ⟨ha1, ha0, ham⟩ := beatB_iff.1 ha
  obtain ⟨a1, -⟩ := fracB_iff.1 ha1
  obtain ⟨e1, -⟩ := fracB_iff.1 he
  have hr := sub_ok ha1 he h
  have hq := subF_q ha1 he h
  obtain ⟨r1, -⟩ := fracB_iff.1 hr
  generalize (subF a e).1 = r at *
  have hle : e.q ≤ a.q := (cmpF_q e1.1 a1.1).1 (by rw [cmpF_neg]; omega)
  have hlt : ¬ a.q ≤ e.q := fun h' => hne (q_inj ha1 he ha0 (by grind))
  have hz : Rat.divInt 0 1 = 0 := by decide
  have e0 : Rat.divInt 0 1 ≤ e.q := (q_ge (by omega)).2 (by omega)
  have am : a.q ≤ Rat.divInt 1000 1 := (q_le (by omega)).2 ham
  have r0 : ¬ r.q ≤ Rat.divInt 0 1 := by rw [hz, hq]; grind
  have rm : r.q ≤ Rat.divInt 1000 1 := by rw [hz] at e0; rw [hq]; grind
  rw [q_le (by omega)] at r0 rm
  unfold lenB
  rw [Bool.and_eq_true, decide_eq_true_eq]
  exact ⟨beatB_iff.2 ⟨hr, by omega, rm⟩, by omega⟩
end Go.Proofs.YtodbjnngkonklaaGreat

namespace Go.Proofs.YtodbjnngkonklaaGreat
open Go.RowKit
set_option linter.unusedVariables false
set_option linter.unusedSimpArgs false
set_option maxRecDepth 100000
attribute [local simp] List.getElem?_cons_zero
attribute [local irreducible] awCond awCall awLoop awDraw ow retQ retC resQ Keeps
theorem chS_flat (a : List (List Note)) (n : Note) : (chS a n).flatten = a.flatten ++ [n] := by
  rcases List.eq_nil_or_concat a with rfl | ⟨b, c, rfl⟩
  · rfl
  · try simp only [List.concat_eq_append] at *
    rw [chS_snoc]
    split
    · simp
    · simp
theorem fold_flat : ∀ (l : List Note) (a : List (List Note)), (l.foldl chS a).flatten = a.flatten ++ l
  | [], a => by simp
  | n :: l, a => by rw [List.foldl_cons, fold_flat l, chS_flat, List.append_assoc]; rfl
theorem chF_flat (l : List Note) (ch : Int) : (chF l ch).flatten = l.filter fun n => decide (n.o = ch) := by
  unfold chF
  rw [fold_flat]
  rfl
/-- A chord: some notes at one place. -/
def OneC (c : List Note) : Prop := c ≠ [] ∧ ∀ n, n ∈ c → n.at_ = (el c 0).at_
theorem oneC_snoc {c : List Note} {n : Note} (h : OneC c) (hn : (el c 0).at_ = n.at_) : OneC (c ++ [n]) := by
  obtain ⟨h1, h2⟩ := h
  have e : el (c ++ [n]) 0 = el c 0 := el_append_left (List.length_pos_iff.2 h1)
  refine ⟨by simp, fun m hm => ?_⟩
  rw [e]
  rcases List.mem_append.1 hm with hm | hm
  · exact h2 m hm
  · rw [List.mem_singleton.1 hm]; exact hn.symm
theorem chS_one {a : List (List Note)} {n : Note} (h : ∀ c, c ∈ a → OneC c) : ∀ c, c ∈ chS a n → OneC c := by
  have one : OneC [n] := ⟨by simp, fun m hm => by rw [List.mem_singleton.1 hm]; rfl⟩
  rcases List.eq_nil_or_concat a with rfl | ⟨b, d, rfl⟩
  · intro c hc
    rw [chS_nil] at hc
    rw [List.mem_singleton.1 hc]
    exact one
  · try simp only [List.concat_eq_append] at *
    intro c hc
    rw [chS_snoc] at hc
    split at hc
    · rename_i he
      rcases List.mem_append.1 hc with hc | hc
      · exact h c (List.mem_append_left _ hc)
      · rw [List.mem_singleton.1 hc]
        exact oneC_snoc (h d (List.mem_append_right _ (List.mem_singleton_self _))) he
    · rcases List.mem_append.1 hc with hc | hc
      · exact h c hc
      · rw [List.mem_singleton.1 hc]; exact one
theorem fold_one : ∀ (l : List Note) (a : List (List Note)), (∀ c, c ∈ a → OneC c) → ∀ c, c ∈ l.foldl chS a → OneC c
  | [], a, h => h
  | n :: l, a, h => by rw [List.foldl_cons]; exact fold_one l _ (chS_one h)
theorem chF_one {l : List Note} {ch : Int} : ∀ c, c ∈ chF l ch → OneC c := fold_one _ [] (fun c h => by cases h)
end Go.Proofs.YtodbjnngkonklaaGreat

namespace Go.Proofs.YtodbjnngkonklaaGreat
open Go.RowKit
set_option linter.unusedVariables false
set_option linter.unusedSimpArgs false
set_option maxRecDepth 100000
attribute [local simp] List.getElem?_cons_zero
attribute [local irreducible] awCond awCall awLoop awDraw ow retQ retC resQ Keeps
/-- A chord of a channel that items can tell. -/
structure Chd (ch : Int) (c : List Note) : Prop where
  one : OneC c
  ok : ∀ n, n ∈ c → noteB n = true ∧ n.o = ch ∧ n.len = (el c 0).len ∧ n.u = (el c 0).u
theorem Chd.first {ch : Int} {c : List Note} (h : Chd ch c) : el c 0 ∈ c := el_mem (List.length_pos_iff.2 h.one.1)
theorem pl_chd {ch : Int} {c : List Note} (h : Chd ch c) : plN (el c 0).at_ (el c 0).u ch (chdI c) = c := by
  unfold plN chdI
  simp only [List.map_map]
  have : ∀ n, n ∈ c → ((fun p : Pitch => (⟨(el c 0).at_.n, (el c 0).at_.d, (el c 0).ln, (el c 0).ld, keyV p, (el c 0).u, ch⟩ : Note)) ∘ fun n : Note => spellV n.k) n = n := fun n hn => by
    obtain ⟨h1, h2, h3, h4⟩ := h.ok n hn
    have h5 := h.one.2 n hn
    have hk := (spell_ok (noteB_iff.1 h1).2.2.2.2.1).2
    show (⟨(el c 0).at_.n, (el c 0).at_.d, (el c 0).len.n, (el c 0).len.d, keyV (spellV n.k), (el c 0).u, ch⟩ : Note) = n
    rw [hk, ← h5, ← h3, ← h4, ← h2]
    rfl
  exact (List.map_congr_left this).trans (List.map_id _)
theorem it_step {ch : Int} {c : List Note} {e : Frac} {u : Int} {r : List Item} {ns : List Note} (h : Chd ch c) (he : fracB e = true) (hor : (el c 0).at_ = e ∨ (subF (el c 0).at_ e).2 = 0) (hp : PlG ch (el c 0).fin (el c 0).u r ns) : PlG ch e u (itP c e u ++ r) (c ++ ns) := by
  have hv := (h.ok _ h.first).1
  have hn := noteB_iff.1 hv
  have hfa := beatB_iff.1 hn.1
  have h1 : PlG ch (el c 0).at_ (el c 0).u (chdI c :: r) (c ++ ns) := by
    have hs := PlG.sound (ch := ch) (a := (el c 0).at_) (u := (el c 0).u) (x := chdI c) (r := r) (ns := ns) (show (1 : Int) ≠ 3 by decide) (by rw [pl_chd h]; exact fun n hn => (h.ok n hn).1) (show (addF (el c 0).at_ (el c 0).len).2 = 0 from hn.2.2.2.1) hp
    rwa [pl_chd h] at hs
  have h2 : ∀ u, PlG ch (el c 0).at_ u ((if (el c 0).u = u then [] else [loudI (el c 0).u]) ++ [chdI c] ++ r) (c ++ ns) := fun u => by
    by_cases hu : (el c 0).u = u
    · rw [if_pos hu, ← hu]; exact h1
    · rw [if_neg hu]; exact .loud rfl h1
  unfold itP
  rw [List.append_assoc]
  by_cases ha : (el c 0).at_ = e
  · rw [if_pos ha, ← ha]
    exact h2 u
  · rw [if_neg ha]
    have hz := hor.resolve_left ha
    have hb := sub_add hfa.1 he hfa.2.1 hz
    have hl : (restI (subF (el c 0).at_ e).1).len = (subF (el c 0).at_ e).1 := rfl
    have hs := PlG.sound (ch := ch) (a := e) (u := u) (x := restI (subF (el c 0).at_ e).1) (r := (if (el c 0).u = u then [] else [loudI (el c 0).u]) ++ [chdI c] ++ r) (ns := c ++ ns) (show (2 : Int) ≠ 3 by decide) (fun n hn => by cases hn) (by rw [hl, hb]) (by rw [hl, hb]; exact h2 u)
    exact hs
theorem it_end {ch : Int} {cs : List (List Note)} {out : List Item} {e : Frac} {u : Int} (h : ItG cs out e u) (hc : ∀ c, c ∈ cs → Chd ch c) : fracB e = true := by
  cases h with
  | nil => exact whole_ok (n := 0) (by omega) (by omega)
  | snoc h hor =>
    have hcc := hc _ (List.mem_append_right _ (List.mem_singleton_self _))
    exact (note_end (hcc.ok _ hcc.first).1).2
theorem it_play {ch : Int} {cs : List (List Note)} {out : List Item} {e : Frac} {u : Int} (h : ItG cs out e u) : (∀ c, c ∈ cs → Chd ch c) → ∀ r ns, PlG ch e u r ns → PlG ch ⟨0, 1⟩ 80 (out ++ r) (cs.flatten ++ ns) := by
  induction h with
  | nil => intro _ r ns hp; exact hp
  | snoc h hor ih =>
    rename_i cs out e u c
    intro hc r ns hp
    have h1 := fun c hc2 => hc c (List.mem_append_left _ hc2)
    have hcc := hc c (List.mem_append_right _ (List.mem_singleton_self _))
    have := ih h1 _ _ (it_step (u := u) hcc (it_end h h1) hor hp)
    rw [List.append_assoc, List.flatten_append, List.append_assoc]
    simpa using this
end Go.Proofs.YtodbjnngkonklaaGreat

namespace Go.Proofs.YtodbjnngkonklaaGreat
open Go.RowKit
set_option linter.unusedVariables false
set_option linter.unusedSimpArgs false
set_option maxRecDepth 100000
attribute [local simp] List.getElem?_cons_zero
attribute [local irreducible] awCond awCall awLoop awDraw ow retQ retC resQ Keeps
theorem restI_ok {f : Frac} (h : lenB f = true) : itemB (restI f) = true := by
  unfold itemB
  rw [if_neg (show ¬ (restI f).j = 1 by show ¬ (2 : Int) = 1; decide), if_pos (show (restI f).j = 2 from rfl)]
  have : lenB (restI f).len = true := h
  rw [this]
  rfl
theorem loudI_ok {u : Int} (h : 1 ≤ u ∧ u ≤ 127) : itemB (loudI u) = true := by
  unfold itemB
  rw [if_neg (show ¬ (loudI u).j = 1 by show ¬ (3 : Int) = 1; decide), if_neg (show ¬ (loudI u).j = 2 by show ¬ (3 : Int) = 2; decide), if_pos (show (loudI u).j = 3 from rfl)]
  have : inB (loudI u).x 1 127 = true := inB_iff.2 h
  rw [this]
  rfl
/-- Keys of a chord rise. -/
def Rise (c : List Note) : Prop := ∀ i, i < c.length → 0 < i → (el c (i - 1)).k < (el c i).k
theorem chdI_ok {ch : Int} {c : List Note} (h : Chd ch c) (hr : Rise c) (h6 : c.length ≤ 6) : itemB (chdI c) = true := by
  have hv := (h.ok _ h.first).1
  have hn := noteB_iff.1 hv
  unfold itemB
  rw [if_pos (show (chdI c).j = 1 from rfl)]
  have hp : 0 < c.length := List.length_pos_iff.2 h.one.1
  have hkk : ∀ i, i < c.length → pitchB (spellV (el c i).k) = true ∧ keyV (spellV (el c i).k) = (el c i).k := fun i hi => spell_ok (noteB_iff.1 (h.ok _ (el_mem hi)).1).2.2.2.2.1
  have hc : chordB (chdI c).ps = true := by
    unfold chordB
    rw [Bool.and_eq_true, Bool.and_eq_true, decide_eq_true_eq, decide_eq_true_eq, decide_eq_true_eq]
    have hl : (chdI c).ps.length = c.length := by unfold chdI; simp
    have he : ∀ i, i < c.length → el (chdI c).ps i = spellV (el c i).k := fun i hi => by unfold chdI; exact el_map _ hi
    refine ⟨fun i hi => ?_, by omega, by omega⟩
    rw [hl] at hi
    rw [he i hi]
    refine ⟨(hkk i hi).1, fun h0 => ?_⟩
    rw [he (i - 1) (by omega), (hkk i hi).2, (hkk (i - 1) (by omega)).2]
    exact hr i hi h0
  have hl : lenB (chdI c).len = true := by
    have hbl := beatB_iff.1 hn.2.1
    unfold lenB
    rw [Bool.and_eq_true, decide_eq_true_eq]
    have h3 := hn.2.2.1
    have h4 := hbl.2.1
    exact ⟨hn.2.1, show 0 < (el c 0).ln by have : (el c 0).len.n = (el c 0).ln := rfl; omega⟩
  rw [hc, hl]
  rfl
theorem it_e {cs : List (List Note)} {out : List Item} {e : Frac} {u : Int} (h : ItG cs out e u) : (cs = [] ∧ e = ⟨0, 1⟩) ∨ ∃ cs' c, cs = cs' ++ [c] ∧ e = (el c 0).fin := by
  cases h with
  | nil => exact .inl ⟨rfl, rfl⟩
  | snoc h hor => exact .inr ⟨_, _, rfl, rfl⟩
theorem fin_pos {n : Note} (h : noteB n = true) : 0 ≤ n.fin.n := by
  have hn := noteB_iff.1 h
  obtain ⟨a1, a2, -⟩ := beatB_iff.1 hn.1
  obtain ⟨l1, l2, -⟩ := beatB_iff.1 hn.2.1
  have hq := addF_q a1 l1 hn.2.2.2.1
  obtain ⟨f1, -⟩ := fracB_iff.1 (note_end h).2
  obtain ⟨b1, -⟩ := fracB_iff.1 a1
  obtain ⟨b2, -⟩ := fracB_iff.1 l1
  have hz : Rat.divInt 0 1 = 0 := by decide
  have e0 : Rat.divInt 0 1 ≤ n.at_.q := (q_ge (by omega)).2 (by omega)
  have e1 : Rat.divInt 0 1 ≤ n.len.q := (q_ge (by omega)).2 (by omega)
  have e2 : Rat.divInt 0 1 ≤ n.fin.q := by
    have : n.fin.q = n.at_.q + n.len.q := hq
    rw [hz] at e0 e1 ⊢
    rw [this]
    grind
  have := (q_ge (x := 0) (by omega)).1 e2
  omega
theorem it_ok {ch : Int} {cs : List (List Note)} {out : List Item} {e : Frac} {u : Int} (h : ItG cs out e u) : (∀ c, c ∈ cs → Chd ch c ∧ Rise c ∧ c.length ≤ 6) → (∀ i, i < cs.length → 0 < i → 0 ≤ cmpF (el (el cs i) 0).at_ (el (el cs (i - 1)) 0).fin) → ∀ x, x ∈ out → itemB x = true ∧ grpB x = false := by
  induction h with
  | nil => intro _ _ x hx; cases hx
  | snoc h hor ih =>
    rename_i cs out e u c
    intro hc ho x hx
    have h1 := fun c hc2 => hc c (List.mem_append_left _ hc2)
    have hcc := hc c (List.mem_append_right _ (List.mem_singleton_self _))
    have hel : ∀ i, i < cs.length → el (cs ++ [c]) i = el cs i := fun i hi => el_append_left hi
    rcases List.mem_append.1 hx with hx | hx
    · refine ih h1 (fun i hi h0 => ?_) x hx
      have := ho i (by simp; omega) h0
      rwa [hel i hi, hel (i - 1) (by omega)] at this
    have hv := (hcc.1.ok _ hcc.1.first).1
    have hn := noteB_iff.1 hv
    unfold itP at hx
    rcases List.mem_append.1 hx with hx | hx
    · by_cases ha : (el c 0).at_ = e
      · rw [if_pos ha] at hx; cases hx
      rw [if_neg ha] at hx
      rw [List.mem_singleton.1 hx]
      have he := it_end h fun c hc2 => (h1 c hc2).1
      have hpos : 0 ≤ e.n ∧ 0 ≤ cmpF (el c 0).at_ e := by
        rcases it_e h with ⟨e1, e2⟩ | ⟨cs', c', e1, e2⟩
        · subst e2
          refine ⟨by decide, ?_⟩
          have hb := (beatB_iff.1 hn.1).2.1
          rcases Int.lt_or_le (cmpF (el c 0).at_ ⟨0, 1⟩) 0 with hh | hh
          · rw [cmpF_lt] at hh
            simp at hh
            omega
          · exact hh
        · have hc' : c' ∈ cs := by rw [e1]; simp
          have hv' := h1 c' hc'
          have := ho cs.length (by simp) (by rw [e1]; simp)
          rw [show el (cs ++ [c]) cs.length = c by simp [el], hel (cs.length - 1) (by rw [e1]; simp)] at this
          have elast : el cs (cs.length - 1) = c' := by rw [e1]; simp [el]
          rw [elast] at this
          rw [e2]
          exact ⟨fin_pos (hv'.1.ok _ hv'.1.first).1, this⟩
      exact ⟨restI_ok (sub_len hn.1 he hpos.1 hpos.2 ha (hor.resolve_left ha)), rfl⟩
    rcases List.mem_append.1 hx with hx | hx
    · by_cases hu : (el c 0).u = u
      · rw [if_pos hu] at hx; cases hx
      rw [if_neg hu] at hx
      rw [List.mem_singleton.1 hx]
      exact ⟨loudI_ok hn.2.2.2.2.2.1, rfl⟩
    · rw [List.mem_singleton.1 hx]
      exact ⟨chdI_ok hcc.1 hcc.2.1 hcc.2.2, rfl⟩
end Go.Proofs.YtodbjnngkonklaaGreat

namespace Go.Proofs.YtodbjnngkonklaaGreat
open Go.RowKit
set_option linter.unusedVariables false
set_option linter.unusedSimpArgs false
set_option maxRecDepth 100000
attribute [local simp] List.getElem?_cons_zero
attribute [local irreducible] awCond awCall awLoop awDraw ow retQ retC resQ Keeps
theorem el_eqP {α : Type} [Inhabited α] {l : List α} {i : Nat} (h : i < l.length) : l[i] = el l i := by unfold el; rw [List.getD_eq_getElem?_getD, List.getElem?_eq_getElem h]; rfl
theorem strictP {l : List Note} (hs : scoreB l = true) : l.Pairwise fun a b => ordN a b < 0 := by
  unfold scoreB at hs
  simp only [Bool.and_eq_true, decide_eq_true_eq] at hs
  obtain ⟨⟨_, hv⟩, ho⟩ := hs
  have nv : ∀ i, i < l.length → noteB (el l i) = true := fun i hi => all_el hv hi
  rw [List.pairwise_iff_getElem]
  intro i j hi hj hij
  rw [el_eqP hi, el_eqP hj]
  clear hi
  induction j with
  | zero => omega
  | succ j ih =>
    have s := ho (j + 1) hj (by omega)
    rw [Nat.add_sub_cancel] at s
    by_cases e : i = j
    · subst e; exact s
    · have s2 := ih (by omega) (by omega)
      have t1 := ordN_trans (nv i (by omega)) (nv j (by omega)) (nv (j + 1) hj) (by omega) (by omega)
      rcases Int.lt_or_le (ordN (el l i) (el l (j + 1))) 0 with h | h
      · exact h
      · have n1 := ordN_neg (el l i) (el l (j + 1))
        have n2 := ordN_neg (el l j) (el l (j + 1))
        have t2 := ordN_trans (nv (j + 1) hj) (nv i (by omega)) (nv j (by omega)) (by omega) (by omega)
        omega
theorem flat_no {l : List Item} (h : ∀ x, x ∈ l → grpB x = false) : flatI l = l := by
  induction l with
  | nil => exact flatI_nil
  | cons x r ih => rw [flatI_cons, if_neg (by rw [h x (List.mem_cons_self ..)]; decide), ih fun y hy => h y (List.mem_cons_of_mem _ hy)]
theorem scan_no {l : List Item} (h : ∀ x, x ∈ l → itemB x = true ∧ grpB x = false) : ∀ d, scanI d l = true := by
  induction l with
  | nil => exact fun d => scanI_nil d
  | cons x r ih =>
    intro d
    rw [scanI_cons, (h x (List.mem_cons_self ..)).1, Bool.true_and, if_neg (by rw [(h x (List.mem_cons_self ..)).2]; decide)]
    exact ih (fun y hy => h y (List.mem_cons_of_mem _ hy)) d
theorem score_items {l : List Note} {ch : Int} {out : List Item} {e : Frac} {u : Int} (hs : scoreB l = true) (ha : areC (chF l ch) = true) (h : ItG (chF l ch) out e u) (h80 : out.length ≤ 80) :
    okI out = true ∧ (∀ x, x ∈ out → x.j ≠ 5) ∧ cntI out ≤ 80 ∧ PlG ch ⟨0, 1⟩ 80 (flatI out) (l.filter fun n => decide (n.o = ch)) ∧ (l.filter fun n => decide (n.o = ch)).length ≤ 60 := by
  have hs2 := hs
  unfold scoreB at hs2
  simp only [Bool.and_eq_true, decide_eq_true_eq, List.all_eq_true] at hs2
  have hpw := ((strictP hs).filter fun n => decide (n.o = ch))
  rw [← chF_flat, List.pairwise_flatten] at hpw
  have hok : ∀ i, i < (chF l ch).length → okR (chF l ch) i = true := by
    unfold areC at ha
    rw [List.all_eq_true] at ha
    exact fun i hi => ha i (List.mem_range.2 hi)
  have hchd : ∀ c, c ∈ chF l ch → Chd ch c ∧ Rise c ∧ c.length ≤ 6 := by
    intro c hc
    obtain ⟨i, hi, rfl⟩ := List.mem_iff_getElem.1 hc
    have ho := hok i hi
    unfold okR at ho
    rw [← el_eqP hi] at ho
    simp only [Bool.and_eq_true, decide_eq_true_eq, List.all_eq_true] at ho
    have h1 := chF_one _ hc
    refine ⟨⟨h1, fun n hn => ⟨hs2.1.2 n (chF_mem _ hc n hn).1, (chF_mem _ hc n hn).2, (ho.1 n hn).1, (ho.1 n hn).2⟩⟩, fun j hj h0 => ?_, ho.2.1⟩
    have hp := hpw.1 _ hc
    rw [List.pairwise_iff_getElem] at hp
    have hp := hp (j - 1) j (by omega) hj (by omega)
    rw [el_eqP (by omega), el_eqP hj] at hp
    have m1 : el (chF l ch)[i] (j - 1) ∈ (chF l ch)[i] := el_mem (by omega)
    have m2 : el (chF l ch)[i] j ∈ (chF l ch)[i] := el_mem hj
    have a1 := h1.2 _ m1
    have a2 := h1.2 _ m2
    have o1 := (chF_mem _ hc _ m1).2
    have o2 := (chF_mem _ hc _ m2).2
    unfold ordN at hp
    have hz : cmpF (el (chF l ch)[i] (j - 1)).at_ (el (chF l ch)[i] j).at_ = 0 := by
      rw [a1, a2]
      have := cmpF_neg (el (chF l ch)[i] 0).at_ (el (chF l ch)[i] 0).at_
      omega
    rw [if_neg (by omega), if_neg (by omega)] at hp
    omega
  have hall := it_ok h hchd (fun i hi h0 => by
    have ho := hok i hi
    unfold okR at ho
    simp only [Bool.and_eq_true, decide_eq_true_eq, Bool.or_eq_true] at ho
    exact ho.2.2.resolve_left (by omega))
  have hgr : ∀ x, x ∈ out → grpB x = false := fun x hx => (hall x hx).2
  have hfl := flat_no hgr
  have hlen : (l.filter fun n => decide (n.o = ch)).length ≤ l.length := List.length_filter_le _ _
  refine ⟨?_, ?_, ?_, ?_, ?_⟩
  · unfold okI
    rw [scan_no hall, Bool.and_true, decide_eq_true_eq]
    exact h80
  · intro x hx e
    have := hgr x hx
    simp [grpB, e] at this
  · rw [← flat_len _ out (Nat.le_refl _), hfl]; exact h80
  · have := it_play h (fun c hc => (hchd c hc).1) [] [] .nil
    rw [List.append_nil, List.append_nil, chF_flat] at this
    rw [hfl]
    exact this
  · have := hs2.1.1
    omega
end Go.Proofs.YtodbjnngkonklaaGreat

namespace Go.Proofs.YtodbjnngkonklaaGreat
open Go.RowKit
set_option linter.unusedVariables false
set_option linter.unusedSimpArgs false
set_option maxRecDepth 100000
attribute [local simp] List.getElem?_cons_zero
attribute [local irreducible] awCond awCall awLoop awDraw ow retQ retC resQ Keeps
theorem a2Long_a {M : Mem} {A B : Option Addr} {n c m d : Nat} : Det Tryz.prog M.length 4 [.slice A n c, .slice B m d] M (.bool (decide (3000 < n) || decide (3000 < m))) M := by
  first | (refine det_fn Tryz.func4 rfl Tryz.ntmps4 Tryz.results4 rfl rfl rfl (by simp) ?_) | (refine det_fnC Tryz.func4 rfl Tryz.ntmps4 Tryz.results4 rfl rfl (by simp) ?_)
  simp
  by_cases h1 : 3000 < n
  · have h1' : (3000 : Int) < n := by omega
    simp [h1, h1', Keeps.refl]
  · have h1' : ¬ (3000 : Int) < n := by omega
    simp [h1, h1', Keeps.refl]
    omega
theorem filter_at {α : Type} [Inhabited α] {f : α → Bool} {l : List α} {i : Nat} (hi : i < l.length) (h : f (el l i) = true) : ((l.take i).filter f).length < (l.filter f).length ∧ el (l.filter f) ((l.take i).filter f).length = el l i := by
  have e : l = l.take i ++ (el l i :: l.drop (i + 1)) := by
    conv => lhs; rw [← List.take_append_drop i l, drop_el hi]
  have e2 : l.filter f = (l.take i).filter f ++ (el l i :: (l.drop (i + 1)).filter f) := by
    conv => lhs; rw [e]
    rw [List.filter_append, List.filter_cons_of_pos h]
  rw [e2]
  refine ⟨by simp, ?_⟩
  rw [el_append_right (Nat.le_refl _), Nat.sub_self]
  rfl
theorem okI_all {l : List Item} (h : okI l = true) : ∀ x, x ∈ l → itemB x = true := by
  intro x hx
  unfold okI at h
  rw [Bool.and_eq_true] at h
  have := scanI_all l.length 3 l (Nat.le_refl _) h.2 x hx
  unfold itemI at this
  rw [Bool.and_eq_true] at this
  exact this.1
theorem okI_len {l : List Item} (h : okI l = true) : l.length ≤ 80 := by
  unfold okI at h
  rw [Bool.and_eq_true, decide_eq_true_eq] at h
  exact h.1
set_option maxHeartbeats 8000000 in
theorem lawItems_a {M : Mem} {A B : Option Addr} {n c m d : Nat} {cs ds : List Int} (h : Sl codeR M A n cs) (hcs : ∀ x, x ∈ cs → 0 ≤ x ∧ x ≤ 255) (h2 : Sl codeR M B m ds) (hds : ∀ x, x ∈ ds → 0 ≤ x ∧ x ≤ 255) :
    Det Tryz.prog M.length 3 [.slice A n c, .slice B m d] M (.bool true) M := by
  have K0 := Keeps.refl M
  by_cases hlong : (decide (3000 < n) || decide (3000 < m)) = true
  · first | (refine det_fn Tryz.func3 rfl Tryz.ntmps3 Tryz.results3 rfl rfl rfl (by simp) ?_) | (refine det_fnC Tryz.func3 rfl Tryz.ntmps3 Tryz.results3 rfl rfl (by simp) ?_)
    simp
    refine awCall_det' a2Long_a (by omega) ?_
    simp [hlong, K0]
  have hn : n ≤ 3000 := by simp at hlong; omega
  have hm : m ≤ 3000 := by simp at hlong; omega
  simp only [Bool.not_eq_true] at hlong
  first | (refine det_fn Tryz.func3 rfl Tryz.ntmps3 Tryz.results3 rfl rfl rfl (by simp) ?_) | (refine det_fnC Tryz.func3 rfl Tryz.ntmps3 Tryz.results3 rfl rfl (by simp) ?_)
  simp
  refine awCall_det' a2Long_a (by omega) ?_
  simp [hlong]
  refine awCall_ctr (DrawItemsOfScore_s h (by omega) hcs) ?_
  rintro _ M1 ⟨sv, ch, rfl, k1, l, hL, hl⟩
  have n1 := k1.len
  obtain ⟨A1, q1, c1, rfl, hq1, hs1, -⟩ := hL.sl
  simp
  rw [put_box (b := M.length) (cs := [.slice none 0 0]) (vs := [.slice A1 q1 c1]) (by omega) rfl (by simp), ow_some]
  obtain ⟨M2, hM2⟩ : ∃ M2 : Mem, M2 = M1 ++ [Slot.live ⟨[.slice A1 q1 c1], true, true, 26, 1⟩] := ⟨_, rfl⟩
  have k2 : Keeps M1 M2 := by rw [hM2]; exact keeps_app _
  have b2 : M2[M1.length]? = some (.live ⟨[.slice A1 q1 c1], true, true, 26, 1⟩) := by rw [hM2]; exact getElem?_snoc_eq
  have n2 : M2.length = M1.length + 1 := by rw [hM2]; simp
  rw [← hM2]
  clear hM2
  have l2 := cells_hr (n := 1) b2 rfl
  simp only at l2
  simp [l2]
  refine awCall_ctr ((ItemsOfScore_i ch (hs1.keeps k2) (by omega)).weaken (by omega)) ?_
  rintro _ M3 ⟨iv1, e, rfl, k3, hok3⟩
  have n3 := k3.len
  have b3 := k3.get b2
  have hs3 := (hs1.keeps k2).keeps k3
  simp
  refine awCond_join (fun T' M' => Keeps M M' ∧ look T' 1 = some (.slice B m d) ∧ ∃ e : Int, look T' 8 = some (iv e)) ?_ ?_ ?_
  · intro Q' hQ' he
    have he0 : e = 0 := by simpa using he
    subst he0
    obtain ⟨hsc, hchB, hac, out, e2, u2, hIt, h80, hT3⟩ := hok3 rfl
    obtain ⟨p1, p2, p3, p4, p5⟩ := score_items hsc hac hIt h80
    obtain ⟨A3, c3, rfl, hsl3, -⟩ := hT3.slp (fun x hx => by have := itemB_ps (okI_all p1 x hx); omega)
    simp
    refine awCall_ctr ((PlayItems_i ch hsl3 p1 p2 p3 hchB p4 p5).weaken (by omega)) ?_
    rintro _ M4 ⟨xv, rfl, k4, hX⟩
    obtain ⟨A4, q4, c4, rfl, hq4, hs4, -⟩ := hX.sl
    have n4 := k4.len
    simp
    rw [put_box (b := M.length) (cs := [.slice none 0 0]) (vs := [.slice A4 q4 c4]) (by omega) rfl (by simp), ow_some]
    obtain ⟨M5, hM5⟩ : ∃ M5 : Mem, M5 = M4 ++ [Slot.live ⟨[.slice A4 q4 c4], true, true, 26, 1⟩] := ⟨_, rfl⟩
    have k5 : Keeps M4 M5 := by rw [hM5]; exact keeps_app _
    have bx : M5[M4.length]? = some (.live ⟨[.slice A4 q4 c4], true, true, 26, 1⟩) := by rw [hM5]; exact getElem?_snoc_eq
    have n5 : M5.length = M4.length + 1 := by rw [hM5]; simp
    rw [← hM5]
    clear hM5
    have cx := cell_hr bx 0
    have cS := cell_hr (k5.get (k4.get b3)) 0
    simp at cx cS
    have hx5 := hs4.keeps k5
    have hs5 := (hs3.keeps k4).keeps k5
    have kM5 : Keeps M M5 := (((k1.trans k2).trans k3).trans k4).trans k5
    clear hs4 hs3 hs1 b3 b2 l2 hX hL
    refine awLoop_T (fun r T M' => ∃ i : Nat, i + r = q1 ∧ M' = M5 ∧ look T 11 = some (iv ((l.take i).filter fun n => decide (n.o = ch)).length) ∧ look T 12 = some (iv i) ∧ look T 9 = some (.pointer (some ⟨M4.length, 0, none⟩)) ∧ look T 8 = some (iv 0) ∧ look T 6 = some (iv ch) ∧ look T 5 = some (.pointer (some ⟨M1.length, 0, none⟩)) ∧ look T 1 = some (.slice B m d)) q1
      ⟨0, by omega, rfl, by simp, by simp, by simp, by simp, by simp, by simp, by simp⟩ ?_
    rintro m1 T M' ⟨i, hi, rfl, t11, t12, t9, t8, t6, t5, t1⟩
    by_cases hlt : i < q1
    case neg =>
      obtain rfl : i = q1 := by omega
      have hlt' : ¬ (i : Int) < i := by omega
      rw [List.take_of_length_le (by omega), hq4] at t11
      simp (disch := omega) [t12, t11, t5, t9, cS, cx]
      exact hQ' _ _ ⟨kM5, by simp [t1], 0, by simp [t8]⟩
    have hlt' : (i : Int) < q1 := by omega
    obtain ⟨ids, offs, rfl, hes, hcS⟩ := hs5.at_ hlt
    have hfield : cellAt M' ids (offs + i * 7 + 6) = some (iv (el l i).o) := hcS 6 _ rfl
    simp (disch := omega) [t12, t5, cS, hlt, hlt', hes, hfield, t6]
    have htk : (l.take (i + 1)).filter (fun n => decide (n.o = ch)) = (l.take i).filter (fun n => decide (n.o = ch)) ++ (if (el l i).o = ch then [el l i] else []) := by
      rw [take_el (by omega), List.filter_append]
      congr 1
      by_cases hc : (el l i).o = ch
      · simp [hc]
      · simp [hc]
    by_cases hc : (el l i).o = ch
    case neg =>
      rw [if_neg hc, List.append_nil] at htk
      simp (disch := omega) [hc, t12, wrap_in]
      exact lpI (m1 - 1) (by omega) ⟨i + 1, by omega, rfl, by rw [htk]; simp [t11], by simp, by simp [t9], by simp [t8], by simp [t6], by simp [t5], by simp [t1]⟩
    rw [if_pos hc] at htk
    obtain ⟨hf1, hf2⟩ := filter_at (f := fun n : Note => decide (n.o = ch)) (l := l) (i := i) (by omega) (by simp [hc])
    obtain ⟨w, hw⟩ : ∃ w : Nat, w = ((l.take i).filter fun n => decide (n.o = ch)).length := ⟨_, rfl⟩
    rw [← hw] at t11 hf1 hf2
    have hw4 : w < q4 := by omega
    have hw4' : (w : Int) < q4 := by omega
    have hw4n : ¬ (q4 : Int) ≤ w := by omega
    obtain ⟨idx, offx, rfl, hex, hcX⟩ := hx5.at_ hw4
    have lx := note_load hcX
    have lS := note_load hcS
    rw [hf2] at lx
    simp (disch := omega) [hc]
    refine awDraw_E 16 [[],[],[1],[2,1],[0,3,2,1],[4,0,3,2,1],[5,4,0,3,2,1],[6,5,4,0,3,2,1],[5,4,0,3,2,1],[7,6,5,4,0,3,2,1,8],[9,7,6,5,4,0,3,2,1,8],[5,4,0,3,2,1],[11,5,4,0,3,2,1],[5,4,0,3,2,1],[12,11,5,4,0,3,2,1,13],[14,12,11,5,4,0,3,2,1,13],[10,9,7,6,5,4,0,3,2,1,8,15,14,12,11,13],[5,4,0,3,2,1,16,10,9,7,6,8,15,14,12,11,13]] (by kernel_rfl) (by kernel_rfl) ?_
    simp (disch := omega) [t11, t12, t9, t5, cx, cS, hw4, hw4', hw4n, hlt, hlt', hex, hes, lx, lS, note_neq, wrap_in]
    exact lpI (m1 - 1) (by omega) ⟨i + 1, by omega, rfl, by rw [htk, List.length_append, ← hw]; simp, by simp, by simp [t9], by simp [t8], by simp [t6], by simp [t5], by simp [t1]⟩
  · intro Q' hQ' he
    try simp
    exact hQ' _ _ ⟨(k1.trans k2).trans k3, by simp, e, by simp⟩
  rintro T5 M5 ⟨k5, t1, e5, t8⟩
  have n5 := k5.len
  simp [t1]
  refine awCall_ctr ((A2Flat_b (h2.keeps k5) (by omega) hds).weaken (by omega)) ?_
  rintro fv M6 ⟨fl, hT6, hok6, hg6, k6⟩
  have n6 := k6.len
  have hfl := okI_len hok6
  obtain ⟨A6, c6, rfl, hsl6, -⟩ := hT6.slp (fun x hx => by have := itemB_ps (okI_all hok6 x hx); omega)
  try simp
  refine awCall_ctr ((FoldItems_i hsl6 hfl hok6 hg6).weaken (by omega)) ?_
  rintro _ M7 ⟨ov, o, rfl, k7, hFo, hT7⟩
  have n7 := k7.len
  have hB6 := okI_all hok6
  have hoko := fog_ok hFo hB6 hfl
  have hlo := fog_len hFo
  obtain ⟨A7, c7, rfl, hsl7, -⟩ := hT7.slp (fun x hx => by have := itemB_ps (okI_all hoko x hx); omega)
  simp
  refine awCall_ctr ((FlattenItems_i hsl7 (by omega) hoko (fog_mv hFo) (by rw [fog_cnt hFo]; exact hfl)).weaken (by omega)) ?_
  rintro _ M8 ⟨bv, rfl, k8, hT8⟩
  have n8 := k8.len
  rw [fog_flat hFo] at hT8
  obtain ⟨A8, c8, rfl, hsl8, -⟩ := hT8.slp (fun x hx => by have := itemB_ps (okI_all hok6 x hx); omega)
  simp
  refine awCall_det' (SameItems_s hsl8 ((hsl6.keeps k7).keeps k8) (by omega) (fun x hx => by have := itemB_ps (okI_all hok6 x hx); omega)) (by omega) ?_
  have hle : (o.length : Int) ≤ fl.length := by omega
  simp [hle, hlo]
  exact (((k5.trans k6).trans k7).trans k8)
end Go.Proofs.YtodbjnngkonklaaGreat

namespace Go.Proofs.YtodbjnngkonklaaGreat
open Go.ChangeShapes Go.WideShapes Go.ChangeAt Go.RowKit Go.Deep
set_option linter.unusedVariables false
set_option linter.unusedSimpArgs false
set_option maxRecDepth 100000
theorem code_cells (l : List Int) : cellsL codeR l = l.map (.int .u8) := by
  induction l with
  | nil => rfl
  | cons a l ih => rw [cellsL_cons, ih]; rfl
theorem open_code {H : Type} {enc : TypeId × Value → H} {W : World} {base : Nat} {t e : TypeId} {v : Value} {d : DataW H} {p q : List MemPlace} (ht : Tryz.prog.underlying t = some (.slice e)) (he : Tryz.prog.underlying e = some (.int .u8)) (hk : Tryz.prog.cellsOf e = 1)
    (hlt : ∀ x ∈ q, x.block < W.heap.size) (hv : Value.okWide Tryz.prog W .any base t v)
    (h : DataW.Trod enc Tryz.prog W 0 (fun _ => true) true t v d p) (hp : ∀ x ∈ p, x ∈ q) : ∃ (A : Option Addr) (n c : Nat) (zs : List Int), v = .slice A n c ∧ Rd W 1 A n c (cellsL codeR zs) ∧ (A = none → n = 0 ∧ c = 0) ∧ zs.length = n ∧ ∀ z ∈ zs, 0 ≤ z ∧ z ≤ 255 := by
  obtain ⟨a0, len, cap, rfl⟩ := okWide_slice ht hv
  obtain ⟨fuel, hf⟩ := h
  rcases open_slice ht hf with ⟨hcs, hx⟩ | ⟨a, len', cap', m, n, D, Pl, hcs, hb, hl, hm, hmm, hx, hi⟩
  · have hcs' : [Value.slice a0 len cap] = [.slice none 0 0] := hcs
    injection hcs' with hcs''
    injection hcs'' with h1 h2 h3
    subst h1; subst h2; subst h3
    exact ⟨_, _, _, [], rfl, ⟨by simp [cellsL], Nat.le_refl _, Nat.zero_le _, fun h => absurd h (by omega)⟩, fun _ => ⟨rfl, rfl⟩, rfl, by simp⟩
  · have hcs' : [Value.slice a0 len cap] = [.slice (some a) len' cap'] := hcs
    injection hcs' with hcs''
    injection hcs'' with h1 h2 h3
    subst h1; subst h2; subst h3
    simp only [if_pos] at hmm
    subst hmm
    rw [hk] at hx hi
    have each : ∀ i, i < len → ∃ z : Int, (0 ≤ z ∧ z ≤ 255) ∧ W.cell? (a.add i) = some (.int .u8 z) := by
      intro i hil
      obtain ⟨cs', hc, ht'⟩ := hi i (by omega)
      obtain ⟨_, hcl, hat⟩ := World.cells?_some hc
      obtain ⟨z, rfl, -, hw⟩ := DataW.trod_int he ht'
      refine ⟨z, ?_, ?_⟩
      · have e : (2 : Int) ^ IntKind.u8.bits = 256 := by decide
        have e2 : IntKind.u8.signed = false := rfl
        simp [Lit.wf, IntKind.min, IntKind.max, e2] at hw
        simp [IntKind.bits] at hw
        omega
      · have := hat 0 (by omega)
        rw [Nat.mul_one, add_add', Nat.add_zero] at this
        simpa using this
    have all : ∀ n', n' ≤ len → ∃ zs : List Int, zs.length = n' ∧ (∀ z ∈ zs, 0 ≤ z ∧ z ≤ 255) ∧ ∀ j x, zs[j]? = some x → W.cell? (a.add j) = some (.int .u8 x) := by
      intro n'
      induction n' with
      | zero => exact fun _ => ⟨[], rfl, by simp, fun j x h => by simp at h⟩
      | succ n' ih =>
        intro hn'
        obtain ⟨zs, hz1, hz2, hz3⟩ := ih (by omega)
        obtain ⟨y, hy1, hy2⟩ := each n' (by omega)
        refine ⟨zs ++ [y], by simp [hz1], fun z hz => ?_, fun j x hx => ?_⟩
        · rcases List.mem_append.1 hz with h | h
          · exact hz2 z h
          · simp at h; subst h; exact hy1
        · by_cases hj : j < n'
          · rw [List.getElem?_append_left (by omega)] at hx
            exact hz3 j x hx
          · rw [List.getElem?_append_right (by omega)] at hx
            have hj2 : j = n' := by
              have := (List.getElem?_eq_some_iff.1 hx).1
              simp at this
              omega
            subst hj2
            rw [hz1, Nat.sub_self] at hx
            simp at hx
            subst hx
            exact hy2
    obtain ⟨zs, hz1, hz2, hz3⟩ := all len (Nat.le_refl _)
    refine ⟨_, _, _, zs, rfl, ⟨by rw [cellsL_len, hz1], hl, hm, fun hn => ⟨a, rfl, ?_, fun j u hu => ?_⟩⟩, (fun h => nomatch h), hz1, hz2⟩
    · injection hx with _ hp'
      have hmem : ∃ x ∈ p, x.block = a.block := by
        refine ⟨.cell a.block (a.off + 0), ?_, rfl⟩
        rw [hp']
        refine List.mem_append_left _ ?_
        unfold MemPlace.row
        exact List.mem_map.2 ⟨0, by rw [List.mem_range]; omega, rfl⟩
      obtain ⟨x, hx1, hx2⟩ := hmem
      rw [← hx2]
      exact hlt x (hp x hx1)
    · rw [code_cells, List.getElem?_map] at hu
      obtain ⟨x, hx', rfl⟩ := Option.map_eq_some_iff.1 hu
      exact hz3 j x hx'
theorem Arg.code {H : Type} {enc : TypeId × Value → H} {W : World} {base : Nat} {t e : TypeId} {v : Value} {d : DataW H} {p q : List MemPlace} (ht : Tryz.prog.underlying t = some (.slice e)) (he : Tryz.prog.underlying e = some (.int .u8)) (hk : Tryz.prog.cellsOf e = 1)
    (hlt : ∀ x ∈ q, x.block < W.heap.size) (hv : Value.okWide Tryz.prog W .any base t v)
    (h : DataW.Trod enc Tryz.prog W 0 (fun _ => true) true t v d p) (hp : ∀ x ∈ p, x ∈ q) :
    Arg W v fun M v' => ∃ B n c cs, v' = .slice B n c ∧ n ≤ maxLen ∧ Sl codeR M B n cs ∧ ∀ x ∈ cs, 0 ≤ x ∧ x ≤ 255 := by
  obtain ⟨A, n, c, zs, rfl, h1, h2, h3, h4⟩ := open_code ht he hk hlt hv h hp
  intro M μ hr
  obtain ⟨L, μ', v, a1, a2, ⟨B, a3, a4, a5⟩, a6⟩ := Arg.slice h1 h3 (fun v hv => by rw [code_cells] at hv; obtain ⟨x, -, rfl⟩ := List.mem_map.1 hv; rfl) h2 M μ hr
  exact ⟨L, μ', v, a1, a2, ⟨B, n, c, zs, a3, a4, a5, h4⟩, a6⟩
attribute [local simp] List.getElem?_cons_zero
attribute [local irreducible] awCond awCall awLoop awDraw ow retQ retC resQ Keeps












































end Go.Proofs.YtodbjnngkonklaaGreat
