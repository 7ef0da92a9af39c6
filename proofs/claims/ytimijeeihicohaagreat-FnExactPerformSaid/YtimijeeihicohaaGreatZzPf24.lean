/- Parts of the proof, together: Gates: the program's allocation, its parts. Gates: both allocations do the same, in plain words. Gates: the program's allocation. Gates: what an allocation leaves is good, in order, and no voice plays two at a time. Gates: what voices have after an allocation, in plain words. No conditions. -/
import Derived.Test.YtimijeeihicohaaGreatZzPf23
namespace Go.Proofs.YtimijeeihicohaaGreat
open Go.RowKit
set_option linter.unusedVariables false
set_option linter.unusedSimpArgs false
set_option maxRecDepth 100000
attribute [local simp] List.getElem?_cons_zero
attribute [local irreducible] awCond awCall awLoop awDraw ow retQ retC resQ Keeps
theorem IndexFuncI_a {M : Mem} {A : Option Addr} {n c : Nat} {l : List Int} {g : FuncId} {us vs : Array Value} (p : Int → Bool) (h : Sl intR M A n l) (hn : n ≤ 1099511627776)
    (hp : ∀ (M' : Mem) a, Keeps M M' → a ∈ l → Det Tryz.prog M'.length g (us.toList ++ [iv a] ++ vs.toList) M' (.bool (p a)) M') : Det Tryz.prog M.length 183 [.slice A n c, .func (.func g) us vs] M (iv (fstI p l)) M := by
  have hl := h.1
  first | (refine det_fn Tryz.func183 rfl Tryz.ntmps183 Tryz.results183 rfl rfl rfl (by simp) ?_) | (refine det_fnC Tryz.func183 rfl Tryz.ntmps183 Tryz.results183 rfl rfl (by simp) ?_)
  simp
  refine awLoop_T (fun m T M' => ∃ k : Nat, k + m = n ∧ M = M' ∧ look T 8 = some (iv k) ∧ look T 7 = some (iv n) ∧ look T 0 = some (.slice A n c) ∧ look T 1 = some (.func (.func g) us vs) ∧ ∀ i, i < k → p (el l i) = false) n ⟨0, by omega, rfl, by simp, by simp, by simp, by simp, by omega⟩ ?_
  rintro m T M' ⟨k, hm, rfl, h8, h7, h0, h1, hk⟩
  by_cases hlt : k < n
  · obtain ⟨id, off, rfl, he, hc⟩ := h.at_ hlt
    have hc0 : cellAt M id (off + k * 1) = some (iv (el l k)) := hc 0 _ rfl
    simp only [Nat.mul_one] at hc0
    simp (disch := omega) [h8, h7, h0, h1, hlt, wrap_in, he, hc0]
    refine awCall_det' (hp M (el l k) (Keeps.refl M) (el_mem (by omega))) (Nat.le_refl _) ?_
    try simp
    refine awCond_split ?_ ?_ <;> intro hq <;> try simp at hq
    · simp (disch := omega) [h8]
      exact ⟨(fstI_some (by omega) hq hk).symm, Keeps.refl _⟩
    · simp (disch := omega) [h8, h7, h0, h1, wrap_in]
      refine lpI (m - 1) (by omega) ?_
      refine ⟨k + 1, by omega, rfl, by simp, by simp [h7], by simp [h0], by simp [h1], fun i hi => ?_⟩
      by_cases hik : i < k
      · exact hk i hik
      · obtain rfl : i = k := by omega
        exact hq
  · obtain rfl : k = n := by omega
    simp [h8, h7, h0, h1]
    exact ⟨(fstI_none (by rw [hl]; exact hk)).symm, Keeps.refl _⟩
/-- The program's allocation in memory. -/
structure AlM (B : Nat) (M : Mem) (aid rid lid : Nat) (u : Value) (gs : List Gate) (rm : List Bool) (ls : List Int) (sh : Int) : Prop where
  arow : M[aid]? = some (.live ⟨[u, .slice (some ⟨rid, 0, none⟩) rm.length rm.length, .slice (some ⟨lid, 0, none⟩) ls.length ls.length, iv sh], true, true, 187, 4⟩)
  rrow : M[rid]? = some (.live ⟨rm.map .bool, true, true, 4, 1⟩)
  lrow : M[lid]? = some (.live ⟨ls.map iv, true, true, 3, 1⟩)
  grow : ∃ A c, u = .slice A gs.length c ∧ (0 < gs.length → ∃ gid t, A = some ⟨gid, 0, none⟩ ∧ B ≤ gid ∧ gid < rid ∧ M[gid]? = some (.live ⟨cellsL gateR gs, true, t, 90, 5⟩))
  ids : B ≤ rid ∧ rid < lid ∧ lid < aid
theorem AlM.keeps {M M' : Mem} {B aid rid lid : Nat} {u : Value} {gs : List Gate} {rm : List Bool} {ls : List Int} {sh : Int} (h : AlM B M aid rid lid u gs rm ls sh) (hk : Keeps M M') : AlM B M' aid rid lid u gs rm ls sh := by
  obtain ⟨A, c, e, hg⟩ := h.grow
  exact ⟨hk.get h.arow, hk.get h.rrow, hk.get h.lrow, ⟨A, c, e, fun h0 => by
    obtain ⟨gid, t, e1, e2, e3, e4⟩ := hg h0
    exact ⟨gid, t, e1, e2, e3, hk.get e4⟩⟩, h.ids⟩
theorem AlM.gsl {M : Mem} {B aid rid lid : Nat} {u : Value} {gs : List Gate} {rm : List Bool} {ls : List Int} {sh : Int} (h : AlM B M aid rid lid u gs rm ls sh) : ∃ A c, u = .slice A gs.length c ∧ Sl gateR M A gs.length gs := by
  obtain ⟨A, c, e, hg⟩ := h.grow
  refine ⟨A, c, e, rfl, fun h0 => ?_⟩
  obtain ⟨gid, t, e1, _, _, e3⟩ := hg h0
  exact ⟨gid, 0, e1, by simp [rowEsz, e3], fun j x hx => by simp [cellAt, e3, hx]⟩
theorem AlM.lsl {M : Mem} {B aid rid lid : Nat} {u : Value} {gs : List Gate} {rm : List Bool} {ls : List Int} {sh : Int} (h : AlM B M aid rid lid u gs rm ls sh) : Sl intR M (some ⟨lid, 0, none⟩) ls.length ls := by
  have e : cellsL intR ls = ls.map iv := by
    have : ∀ l : List Int, cellsL intR l = l.map iv := by
      intro l
      induction l with
      | nil => rfl
      | cons a l ih => rw [cellsL_cons, ih]; rfl
    exact this ls
  exact ⟨rfl, fun _ => ⟨lid, 0, rfl, by simp [rowEsz, h.lrow], fun j x hx => by rw [e] at hx; simp [cellAt, h.lrow]; simpa using hx⟩⟩
def freeB (gs : List Gate) (s : Int) (i : Int) : Bool := decide (i < 0) || decide ((el gs i.toNat).e ≤ s)
theorem free1_a {M : Mem} {B aid rid lid q1 q2 : Nat} {u : Value} {gs : List Gate} {rm : List Bool} {ls : List Int} {sh : Int} (s i : Int) (h : AlM B M aid rid lid u gs rm ls sh) (hi : i < 0 ∨ i.toNat < gs.length) (hgl : gs.length ≤ 60) (h1 : cellAt M q1 0 = some (.pointer (some ⟨aid, 0, none⟩))) (h2 : cellAt M q2 0 = some (iv s)) :
    Det Tryz.prog M.length 184 [iv i, .pointer (some ⟨q1, 0, none⟩), .pointer (some ⟨q2, 0, none⟩)] M (.bool (freeB gs s i)) M := by
  obtain ⟨A, c, rfl, hsl⟩ := h.gsl
  have a0 : cellAt M aid 0 = some (.slice A gs.length c) := by simp [cellAt, h.arow]
  first | (refine det_fn Tryz.func184 rfl Tryz.ntmps184 Tryz.results184 rfl rfl rfl (by simp) ?_) | (refine det_fnC Tryz.func184 rfl Tryz.ntmps184 Tryz.results184 rfl rfl (by simp) ?_)
  simp
  refine awDraw_E 12 [[],[0],[1,0],[2,1,0],[3,2,1,0],[4,3,2,1,0],[5,4,3,2,1,0],[2,1,0],[6,5,4,3,2,1,0,7],[8,6,5,4,3,2,1,0,7],[9,8,6,5,4,3,2,1,0,7],[2,1,0],[10,9,8,6,5,4,3,2,1,0,7,11],[2,1,0,12,10,9,8,6,5,4,3,7,11],[13,2,1,0,12,10,9,8,6,5,4,3,7,11]] (by kernel_rfl) (by kernel_rfl) ?_
  by_cases hi0 : i < 0
  · simp (disch := omega) [hi0, freeB, Keeps.refl]
  · obtain ⟨j, rfl⟩ := Int.eq_ofNat_of_zero_le (show 0 ≤ i by omega)
    have hj : j < gs.length := by omega
    obtain ⟨gid, goff, rfl, hge, hgc⟩ := hsl.at_ hj
    obtain ⟨c0, c1, c2, c3, c4⟩ := gate_cells hgc
    have hj0 : ¬ ((j : Int) < 0) := by omega
    simp (disch := omega) [hj0, h1, h2, a0, hge, c2]
    exact ⟨by omega, by simp [freeB, hj0], Keeps.refl _⟩
theorem free_a {M : Mem} {B aid rid lid : Nat} {u : Value} {gs : List Gate} {rm : List Bool} {ls : List Int} {sh : Int} (s : Int) (h : AlM B M aid rid lid u gs rm ls sh) (hls : ∀ i, i ∈ ls → i < 0 ∨ i.toNat < gs.length) (hgl : gs.length ≤ 60) (hll : ls.length ≤ 60) :
    Det Tryz.prog M.length 129 [.pointer (some ⟨aid, 0, none⟩), iv s] M (iv (fstI (freeB gs s) ls)) M := by
  have a2 : cellAt M aid 2 = some (.slice (some ⟨lid, 0, none⟩) ls.length ls.length) := by simp [cellAt, h.arow]
  first | (refine det_fn Tryz.func129 rfl Tryz.ntmps129 Tryz.results129 rfl rfl rfl (by simp) ?_) | (refine det_fnC Tryz.func129 rfl Tryz.ntmps129 Tryz.results129 rfl rfl (by simp) ?_)
  simp (disch := omega) [a2, cellAt_app a2]
  refine awCall_det' (IndexFuncI_a (freeB gs s) ((h.keeps (keeps_app _)).lsl) (by omega) fun M' a hK ha => free1_a s a ((h.keeps (keeps_app _)).keeps hK) (hls a ha) hgl (cellAt_keeps hK (by simp)) (cellAt_keeps hK (by simp))) (by simp) ?_
  simp [keeps_app]
theorem put_at {b : Nat} {M : Mem} {id p : Nat} {v : Value} {cs : List Value} {t : Bool} {e : TypeId} {z : Nat} (hr : M[id]? = some (.live ⟨cs, true, t, e, z⟩)) (hb : b ≤ id) (hp : p < cs.length) (h1 : oneV v = true) :
    putCells b M id p [v] = some (M.set id (.live ⟨cs.set p v, true, t, e, z⟩)) := by
  have := put_set (b := b) (M := M) (id := id) (p := p) (v := v) (cs := cs) (t := t) (e := e) (z := z) (List.getElem?_eq_some_iff.1 hr).1 hb hp h1
  rw [set_self hr] at this
  exact this
/-- Of the first v voices, the one whose last gate began first. -/
def oldV (gs : List Gate) (ls : List Int) : Nat → Nat
  | 0 => 0
  | v + 1 => if (el gs (el ls v).toNat).s < (el gs (el ls (oldV gs ls v)).toNat).s then v else oldV gs ls v
theorem oldV_lt (gs : List Gate) (ls : List Int) : ∀ v, oldV gs ls v < v ∨ (v = 0 ∧ oldV gs ls v = 0)
  | 0 => .inr ⟨rfl, rfl⟩
  | v + 1 => by
    rcases oldV_lt gs ls v with h | ⟨h, h'⟩ <;> rw [oldV] <;> split <;> omega
theorem steal_a {B : Nat} {M : Mem} {b aid rid lid : Nat} {u : Value} {gs : List Gate} {rm : List Bool} {ls : List Int} {sh : Int} (s : Int) (h : AlM B M aid rid lid u gs rm ls sh) (hls : ∀ v, v < ls.length → 0 ≤ el ls v ∧ (el ls v).toNat < gs.length) (hgl : gs.length ≤ 60) (hll : 0 < ls.length ∧ ls.length ≤ 60) (hrl : rm.length = gs.length) (hb : b ≤ B) (hsh : 0 ≤ sh ∧ sh ≤ 60) :
    Ctr Tryz.prog b 130 [.pointer (some ⟨aid, 0, none⟩), iv s] M fun r M' => r = iv (oldV gs ls ls.length) ∧ AlM B M' aid rid lid u (gs.set (el ls (oldV gs ls ls.length)).toNat { el gs (el ls (oldV gs ls ls.length)).toNat with e := s }) (rm.set (el ls (oldV gs ls ls.length)).toNat (decide ((el gs (el ls (oldV gs ls ls.length)).toNat).s = s))) ls (sh + 1) ∧ Turn B (aid + 1) M M' := by
  obtain ⟨A, c, rfl, hsl⟩ := h.gsl
  have hlsl := h.lsl
  have a0 : cellAt M aid 0 = some (.slice A gs.length c) := by simp [cellAt, h.arow]
  have a2 : cellAt M aid 2 = some (.slice (some ⟨lid, 0, none⟩) ls.length ls.length) := by simp [cellAt, h.arow]
  have a3 : cellAt M aid 3 = some (iv sh) := by simp [cellAt, h.arow]
  have hle : rowEsz M lid = some 1 := by simp [rowEsz, h.lrow]
  have lcell : ∀ k, k < ls.length → cellAt M lid k = some (iv (el ls k)) := by
    intro k hk
    obtain ⟨_, _, e, _, hc⟩ := hlsl.at_ hk
    cases e
    have := hc 0 _ rfl
    simpa using this
  first | (refine ctr_fn Tryz.func130 rfl Tryz.ntmps130 Tryz.results130 rfl rfl (by simp) ?_) | (refine ctr_fnC Tryz.func130 rfl Tryz.ntmps130 Tryz.results130 rfl (by simp) ?_)
  simp (disch := omega) [a2]
  refine awLoop_T (fun m T M' => ∃ k : Nat, k + m = ls.length ∧ M' = M ∧ look T 14 = some (iv k) ∧ look T 13 = some (iv ls.length) ∧ look T 12 = some (.slice (some ⟨lid, 0, none⟩) ls.length ls.length) ∧ look T 5 = some (iv (oldV gs ls k)) ∧ look T 0 = some (.pointer (some ⟨aid, 0, none⟩)) ∧ look T 1 = some (iv s)) ls.length ⟨0, by omega, rfl, by simp, by simp, by simp, by simp [oldV], by simp, by simp⟩ ?_
  rintro m T M' ⟨k, hm, hMM, h14, h13, h12, h5, h0, h1⟩
  subst hMM
  have hmk := oldV_lt gs ls k
  by_cases hlt : k < ls.length
  · have hlt' : (k : Int) < ls.length := by omega
    obtain ⟨p1, p2⟩ := hls k hlt
    obtain ⟨p3, p4⟩ := hls (oldV gs ls k) (by omega)
    obtain ⟨gid, goff, rfl, hge, hgc⟩ := hsl.at_ p2
    obtain ⟨_, _, ee, _, hgc2⟩ := hsl.at_ p4
    cases ee
    obtain ⟨c0, c1, c2, c3, c4⟩ := gate_cells hgc
    obtain ⟨d0, d1, d2, d3, d4⟩ := gate_cells hgc2
    have l1 := lcell k hlt
    have l2 := lcell (oldV gs ls k) (by omega)
    have n1 : el ls k < gs.length := by omega
    have n2 : el ls (oldV gs ls k) < gs.length := by omega
    simp (disch := omega) [h14, h13, h12, hlt', hle, l1, wrap_in]
    refine awDraw_E 22 [[],[0],[1,0],[2,1,0],[],[3,2,1,0,4],[5,3,2,1,0,4],[6,5,3,2,1,0,4],[],[8],[9,8],[10,9,8],[],[12],[13,12],[14,13,12],[],[15,14,13,12,16],[17,15,14,13,12,16],[11,10,9,8,18,17,15,14,13,12,16],[19,11,10,9,8,18,17,15,14,13,12,16],[20,19,11,10,9,8,18,17,15,14,13,12,16],[7,6,5,3,2,1,0,4,21,20,19,11,10,9,8,18,17,15,14,13,12,16]] (by kernel_rfl) (by kernel_rfl) ?_
    have n3 : ((oldV gs ls k : Nat) : Int) < ls.length := by omega
    by_cases hc0 : (el gs (el ls k).toNat).s < (el gs (el ls (oldV gs ls k)).toNat).s
    · simp (disch := omega) [h0, h5, a0, a2, hle, hge, p1, p3, n1, n2, n3, l2, c1, d1, hc0, h14, wrap_in]
      refine lpI (m - 1) (by omega) ?_
      exact ⟨k + 1, by omega, rfl, by simp, by simp [h13], by simp [h12], by simp [oldV, hc0], by simp [h0], by simp [h1]⟩
    · simp (disch := omega) [h0, h5, a0, a2, hle, hge, p1, p3, n1, n2, n3, l2, c1, d1, hc0, h14, wrap_in]
      refine lpI (m - 1) (by omega) ?_
      exact ⟨k + 1, by omega, rfl, by simp, by simp [h13], by simp [h12], by simp [oldV, hc0, h5], by simp [h0], by simp [h1]⟩
  · have hke : k = ls.length := by omega
    rw [hke] at h14 h5
    obtain ⟨w, hw⟩ : ∃ w, w = oldV gs ls ls.length := ⟨_, rfl⟩
    have hwl : w < ls.length := by rcases oldV_lt gs ls ls.length with h' | h' <;> omega
    rw [← hw] at h5 ⊢
    obtain ⟨p1, p2⟩ := hls w hwl
    obtain ⟨j, hj⟩ := Int.eq_ofNat_of_zero_le p1
    have l1 := lcell w hwl
    rw [hj] at l1 p2 ⊢
    rw [show (j : Int).toNat = j by omega] at p2 ⊢
    obtain ⟨A2, c2, eA, hg⟩ := h.grow
    injection eA with e1 e2 e3
    subst e1; subst e3
    obtain ⟨gid, tt, rfl, hgB, hgr, hgrow⟩ := hg (by omega)
    obtain ⟨i1, i2, i3⟩ := h.ids
    have hput1 := put_at (b := b) (p := 3) (v := iv (sh + 1)) h.arow (by omega) (by simp) rfl
    obtain ⟨M1, hM1⟩ : ∃ M1 : Mem, M1 = M'.set aid (.live ⟨[.slice (some ⟨gid, 0, none⟩) gs.length c, .slice (some ⟨rid, 0, none⟩) rm.length rm.length, .slice (some ⟨lid, 0, none⟩) ls.length ls.length, iv (sh + 1)], true, true, 187, 4⟩) := ⟨_, rfl⟩
    have hput1' : putCells b M' aid 3 [iv (sh + 1)] = some M1 := by rw [hput1, hM1]; rfl
    have al := (List.getElem?_eq_some_iff.1 h.arow).1
    have k1 : M1[aid]? = some (.live ⟨[.slice (some ⟨gid, 0, none⟩) gs.length c, .slice (some ⟨rid, 0, none⟩) rm.length rm.length, .slice (some ⟨lid, 0, none⟩) ls.length ls.length, iv (sh + 1)], true, true, 187, 4⟩) := by rw [hM1, List.getElem?_set_self al]
    have k2 : M1[gid]? = some (.live ⟨cellsL gateR gs, true, tt, 90, 5⟩) := by rw [hM1, List.getElem?_set_ne (by omega)]; exact hgrow
    have k3 : M1[rid]? = some (.live ⟨rm.map .bool, true, true, 4, 1⟩) := by rw [hM1, List.getElem?_set_ne (by omega)]; exact h.rrow
    have k4 : M1[lid]? = some (.live ⟨ls.map iv, true, true, 3, 1⟩) := by rw [hM1, List.getElem?_set_ne (by omega)]; exact h.lrow
    have kT : Turn B (aid + 1) M' M1 := ⟨by rw [hM1]; simp, fun i x hx hi => by rw [hM1, List.getElem?_set_ne (by omega)]; exact hx⟩
    clear hM1
    have hput2 := put_at (b := b) (p := j * 5 + 2) (v := iv s) k2 (by omega) (by rw [cellsL_len]; omega) rfl
    rw [cells_set_e p2] at hput2
    obtain ⟨M2, hM2⟩ : ∃ M2 : Mem, M2 = M1.set gid (.live ⟨cellsL gateR (gs.set j { el gs j with e := s }), true, tt, 90, 5⟩) := ⟨_, rfl⟩
    rw [← hM2] at hput2
    have gl := (List.getElem?_eq_some_iff.1 k2).1
    have m1 : M2[aid]? = some (.live ⟨[.slice (some ⟨gid, 0, none⟩) gs.length c, .slice (some ⟨rid, 0, none⟩) rm.length rm.length, .slice (some ⟨lid, 0, none⟩) ls.length ls.length, iv (sh + 1)], true, true, 187, 4⟩) := by rw [hM2, List.getElem?_set_ne (by omega)]; exact k1
    have m2 : M2[gid]? = some (.live ⟨cellsL gateR (gs.set j { el gs j with e := s }), true, tt, 90, 5⟩) := by rw [hM2, List.getElem?_set_self gl]
    have m3 : M2[rid]? = some (.live ⟨rm.map .bool, true, true, 4, 1⟩) := by rw [hM2, List.getElem?_set_ne (by omega)]; exact k3
    have m4 : M2[lid]? = some (.live ⟨ls.map iv, true, true, 3, 1⟩) := by rw [hM2, List.getElem?_set_ne (by omega)]; exact k4
    have mT : Turn B (aid + 1) M1 M2 := ⟨by rw [hM2]; simp, fun i x hx hi => by rw [hM2, List.getElem?_set_ne (by omega)]; exact hx⟩
    clear hM2
    have hput3 := put_at (b := b) (p := j) (v := .bool (decide ((el gs j).s = s))) m3 (by omega) (by simp; omega) rfl
    obtain ⟨M3, hM3⟩ : ∃ M3 : Mem, M3 = M2.set rid (.live ⟨(rm.map .bool).set j (.bool (decide ((el gs j).s = s))), true, true, 4, 1⟩) := ⟨_, rfl⟩
    rw [← hM3] at hput3
    have rl := (List.getElem?_eq_some_iff.1 m3).1
    have r1 : M3[aid]? = some (.live ⟨[.slice (some ⟨gid, 0, none⟩) gs.length c, .slice (some ⟨rid, 0, none⟩) rm.length rm.length, .slice (some ⟨lid, 0, none⟩) ls.length ls.length, iv (sh + 1)], true, true, 187, 4⟩) := by rw [hM3, List.getElem?_set_ne (by omega)]; exact m1
    have r2 : M3[gid]? = some (.live ⟨cellsL gateR (gs.set j { el gs j with e := s }), true, tt, 90, 5⟩) := by rw [hM3, List.getElem?_set_ne (by omega)]; exact m2
    have r3 : M3[rid]? = some (.live ⟨(rm.set j (decide ((el gs j).s = s))).map .bool, true, true, 4, 1⟩) := by rw [hM3, List.getElem?_set_self rl, List.map_set]
    have r4 : M3[lid]? = some (.live ⟨ls.map iv, true, true, 3, 1⟩) := by rw [hM3, List.getElem?_set_ne (by omega)]; exact m4
    have rT : Turn B (aid + 1) M2 M3 := ⟨by rw [hM3]; simp, fun i x hx hi => by rw [hM3, List.getElem?_set_ne (by omega)]; exact hx⟩
    clear hM3
    have z0 : cellAt M1 aid 0 = some (.slice (some ⟨gid, 0, none⟩) gs.length c) := by simp [cellAt, k1]
    have z1 : rowEsz M1 gid = some 5 := by simp [rowEsz, k2]
    have z2 : cellAt M2 aid 0 = some (.slice (some ⟨gid, 0, none⟩) gs.length c) := by simp [cellAt, m1]
    have z3 : cellAt M2 aid 1 = some (.slice (some ⟨rid, 0, none⟩) rm.length rm.length) := by simp [cellAt, m1]
    have z4 : rowEsz M2 gid = some 5 := by simp [rowEsz, m2]
    have z5 : rowEsz M2 rid = some 1 := by simp [rowEsz, m3]
    have z6 : cellAt M2 gid (j * 5 + 1) = some (iv (el gs j).s) := by
      have hsl2 : Sl gateR M2 (some ⟨gid, 0, none⟩) gs.length (gs.set j { el gs j with e := s }) := ⟨by simp, fun _ => ⟨gid, 0, rfl, z4, fun q x hx => by simp [cellAt, m2, hx]⟩⟩
      obtain ⟨_, _, ee, _, hcc⟩ := hsl2.at_ p2
      cases ee
      rw [el_set_self p2] at hcc
      have := hcc 1 _ rfl
      simpa using this
    have n1 : (j : Int) < gs.length := by omega
    have n2 : (j : Int) < rm.length := by omega
    have n3 : (w : Int) < ls.length := by omega
    have hsi : aid < M'.length := al
    simp (disch := omega) [h14, h13, h0, h1, h5, a2, a3, hle, l1, n1, n2, n3, z0, z1, z2, z3, z4, z5, z6, hput1', hput2, hput3, wrap_in]
    refine awDraw_E 15 [[],[0],[1,0],[2,1,0],[],[],[5],[6,5],[7,6,5],[],[8,7,6,5,9],[10,8,7,6,5,9],[11,10,8,7,6,5,9],[],[12,11,10,8,7,6,5,9,13],[3,2,1,0,4,5,6,7,8,9,10,11,12,13,14],[15,3,2,1,0,4,5,6,7,8,9,10,11,12,13,14]] (by kernel_rfl) (by kernel_rfl) ?_
    simp (disch := omega) [h0, h1, h5, z2, z3, z4, z5, z6, n1, n2, hput3]
    refine ⟨⟨by simpa using r1, r3, r4, ⟨_, c, by simp, fun _ => ⟨gid, tt, rfl, hgB, hgr, r2⟩⟩, h.ids⟩, by have := kT.1; have := mT.1; have := rT.1; omega, fun i x hx hi => rT.2 i x (mT.2 i x (kT.2 i x hx hi) hi) hi⟩
end Go.Proofs.YtimijeeihicohaaGreat

namespace Go.Proofs.YtimijeeihicohaaGreat
open Go.RowKit
set_option linter.unusedVariables false
set_option linter.unusedSimpArgs false
theorem lastI_snoc (v : Int) (l : List Gate) (g : Gate) : lastI v (l ++ [g]) = if g.o = v then (l.length : Int) else lastI v l := by
  by_cases h : g.o = v
  · rw [if_pos h]
    refine lastI_some (by simp) ?_ fun j h1 h2 => ?_
    · rw [el_append_right (Nat.le_refl _), Nat.sub_self]; exact h
    · simp at h2; omega
  · rw [if_neg h]
    rcases lastI_spec v l with ⟨h1, h2⟩ | ⟨i, h1, h2, h3, h4⟩
    · rw [h1]
      refine lastI_none fun i hi => ?_
      by_cases hil : i < l.length
      · rw [el_append_left hil]; exact h2 i hil
      · rw [el_append_right (by omega), show i - l.length = 0 by simp at hi; omega]; exact h
    · rw [h1]
      refine lastI_some (by simp; omega) (by rw [el_append_left h2]; exact h3) fun j hj hjl => ?_
      by_cases hil : j < l.length
      · rw [el_append_left hil]; exact h4 j hj hil
      · rw [el_append_right (by omega), show j - l.length = 0 by simp at hjl; omega]; exact h
/-- Of the first i gates, those that are not removed. -/
def keepR (gs : List Gate) (rm : List Bool) : Nat → List Gate
  | 0 => []
  | i + 1 => keepR gs rm i ++ (if el rm i = true then [] else [el gs i])
theorem keepR_congr {gs gs' : List Gate} {rm rm' : List Bool} : ∀ {i : Nat}, (∀ j, j < i → el gs j = el gs' j ∧ el rm j = el rm' j) → keepR gs rm i = keepR gs' rm' i
  | 0, _ => rfl
  | i + 1, h => by
    rw [keepR, keepR, keepR_congr fun j hj => h j (by omega), (h i (by omega)).1, (h i (by omega)).2]
theorem keepR_last {gs : List Gate} {rm : List Bool} {v : Int} {j : Nat} : ∀ {i : Nat}, j ≤ i → (∀ q, j ≤ q → q < i → el rm q = true ∨ (el gs q).o ≠ v) → lastI v (keepR gs rm i) = lastI v (keepR gs rm j)
  | 0, hj, _ => by rw [show j = 0 by omega]
  | i + 1, hj, h => by
    by_cases e : j = i + 1
    · rw [e]
    · have ih := keepR_last (v := v) (j := j) (i := i) (by omega) fun q h1 h2 => h q h1 (by omega)
      rw [keepR]
      rcases h i (by omega) (by omega) with h1 | h1
      · rw [if_pos h1, List.append_nil, ih]
      · split
        · rw [List.append_nil, ih]
        · rw [lastI_snoc, if_neg h1, ih]
theorem keepR_len_le (gs : List Gate) (rm : List Bool) {j : Nat} : ∀ {i : Nat}, j ≤ i → (keepR gs rm j).length ≤ (keepR gs rm i).length
  | 0, hj => by rw [show j = 0 by omega]; exact Nat.le_refl _
  | i + 1, hj => by
    by_cases e : j = i + 1
    · rw [e]; exact Nat.le_refl _
    · have := keepR_len_le gs rm (j := j) (i := i) (by omega)
      rw [keepR, List.length_append]
      omega
theorem keepR_el {gs : List Gate} {rm : List Bool} {j : Nat} (hr : el rm j = false) : ∀ {i : Nat}, j < i → (keepR gs rm j).length < (keepR gs rm i).length ∧ el (keepR gs rm i) (keepR gs rm j).length = el gs j
  | 0, hj => by omega
  | i + 1, hj => by
    by_cases e : j = i
    · subst e
      rw [keepR, if_neg (by rw [hr]; simp)]
      refine ⟨by simp, ?_⟩
      rw [el_append_right (Nat.le_refl _), Nat.sub_self]
      rfl
    · obtain ⟨h1, h2⟩ := keepR_el (gs := gs) hr (i := i) (by omega)
      rw [keepR]
      exact ⟨by rw [List.length_append]; omega, by rw [el_append_left h1]; exact h2⟩
/-- One gate of those is changed. -/
theorem keepR_set {gs : List Gate} {rm : List Bool} {j : Nat} {g : Gate} (hj : j < gs.length) (hr : el rm j = false) : ∀ {i : Nat}, j < i → keepR (gs.set j g) rm i = (keepR gs rm i).set (keepR gs rm j).length g
  | 0, h => by omega
  | i + 1, h => by
    by_cases e : j = i
    · subst e
      rw [keepR, keepR, if_neg (by rw [hr]; simp), if_neg (by rw [hr]; simp), el_set_self hj, keepR_congr (gs := gs.set j g) (gs' := gs) (rm' := rm) fun q hq => ⟨by simp [el, List.getElem?_set_ne (show j ≠ q by omega)], rfl⟩, List.set_append_right _ _ (Nat.le_refl _), Nat.sub_self]
      rfl
    · have h1 := (keepR_el (gs := gs) hr (i := i) (by omega)).1
      have e2 : el (gs.set j g) i = el gs i := by simp [el, List.getElem?_set_ne e]
      rw [keepR, keepR, keepR_set hj hr (by omega), List.set_append_left _ _ h1, e2]
theorem keepR_erase {gs : List Gate} {rm : List Bool} {j : Nat} (hj : j < rm.length) (hr : el rm j = false) : ∀ {i : Nat}, j < i → keepR gs (rm.set j true) i = (keepR gs rm i).eraseIdx (keepR gs rm j).length
  | 0, h => by omega
  | i + 1, h => by
    by_cases e : j = i
    · subst e
      have e1 : el (rm.set j true) j = true := by simp [el, hj]
      rw [keepR, keepR, if_pos e1, if_neg (by rw [hr]; simp), List.append_nil, keepR_congr (rm := rm.set j true) (gs' := gs) (rm' := rm) fun q hq => ⟨rfl, by simp [el, List.getElem?_set_ne (show j ≠ q by omega)]⟩]
      rw [List.eraseIdx_append_of_length_le (Nat.le_refl _), Nat.sub_self]
      simp
    · have h1 := (keepR_el (gs := gs) hr (i := i) (by omega)).1
      have e2 : el (rm.set j true) i = el rm i := by simp [el, List.getElem?_set_ne e]
      rw [keepR, keepR, keepR_erase hj hr (by omega), List.eraseIdx_append_of_lt_length h1, e2]
/-- What the program's lists have to do with the reference's. -/
structure RelA (V i : Nat) (l gs : List Gate) (rm : List Bool) (ls : List Int) (out : List Gate) : Prop where
  gl : gs.length = l.length
  rl : rm.length = l.length
  ll : ls.length = V
  hi : i ≤ l.length
  rest : ∀ j, i ≤ j → j < l.length → el rm j = false ∧ el gs j = el l j
  out_ : out = keepR gs rm i
  last : ∀ v, v < V → (el ls v = -1 ∧ ∀ j, j < i → el rm j = true ∨ (el gs j).o ≠ v) ∨ (∃ j : Nat, j < i ∧ el ls v = j ∧ el rm j = false ∧ (el gs j).o = v ∧ ∀ q, j < q → q < i → el rm q = true ∨ (el gs q).o ≠ v)
theorem RelA.at_ {V i : Nat} {l gs : List Gate} {rm : List Bool} {ls : List Int} {out : List Gate} (h : RelA V i l gs rm ls out) {v : Nat} (hv : v < V) : (el ls v = -1 ∧ lastI v out = -1) ∨ (∃ j : Nat, j < i ∧ el ls v = j ∧ el rm j = false ∧ (el gs j).o = v ∧ lastI v out = (keepR gs rm j).length ∧ el out (keepR gs rm j).length = el gs j) := by
  rcases h.last v hv with ⟨h1, h2⟩ | ⟨j, h1, h2, h3, h4, h5⟩
  · left
    refine ⟨h1, ?_⟩
    rw [h.out_, keepR_last (j := 0) (by omega) fun q _ hq => h2 q hq]
    rfl
  · right
    refine ⟨j, h1, h2, h3, h4, ?_, by rw [h.out_]; exact (keepR_el h3 h1).2⟩
    rw [h.out_, keepR_last (j := j + 1) (by omega) fun q h6 h7 => h5 q (by omega) h7, keepR, if_neg (by rw [h3]; simp), lastI_snoc, if_pos h4]
theorem RelA.free {V i : Nat} {l gs : List Gate} {rm : List Bool} {ls : List Int} {out : List Gate} (h : RelA V i l gs rm ls out) (s : Int) : ∀ v, v ≤ V → ((scanS out s v).1 = -1 ∧ (∀ u, u < v → freeB gs s (el ls u) = false) ∧ (scanS out s v).2 = oldV gs ls v) ∨ (∃ f : Nat, f < v ∧ (scanS out s v).1 = f ∧ freeB gs s (el ls f) = true ∧ ∀ u, u < f → freeB gs s (el ls u) = false)
  | 0, _ => .inl ⟨rfl, fun u hu => by omega, rfl⟩
  | v + 1, hv => by
    have ih := h.free s v (by omega)
    have ha := h.at_ (v := v) (by omega)
    rcases ih with ⟨h1, h2, h3⟩ | ⟨f, h1, h2, h3, h4⟩
    · rcases ha with ⟨a1, a2⟩ | ⟨j, a1, a2, a3, a4, a5, a6⟩
      · right
        refine ⟨v, by omega, ?_, by simp [freeB, a1], h2⟩
        simp [scanS, h1, a2]
      · by_cases hs : (el gs j).e ≤ s
        · right
          refine ⟨v, by omega, ?_, by rw [a2]; simp [freeB, hs], h2⟩
          simp [scanS, h1, a5, a6, hs]
        · left
          have hfb : freeB gs s (el ls v) = false := by rw [a2]; simp [freeB]; omega
          -- the oldest up to now
          have hold : ∃ jo : Nat, el ls (oldV gs ls v) = jo ∧ el out (lastI (oldV gs ls v) out).toNat = el gs jo := by
            have hlt := oldV_lt gs ls v
            by_cases hv0 : v = 0
            · subst hv0
              refine ⟨j, a2, ?_⟩
              show el out (lastI ((0 : Nat) : Int) out).toNat = _
              rw [a5]
              exact a6
            · have hb2 := h2 (oldV gs ls v) (by omega)
              rcases h.at_ (v := oldV gs ls v) (by omega) with ⟨b1, b2⟩ | ⟨jo, b1, b2, b3, b4, b5, b6⟩
              · rw [b1] at hb2
                simp [freeB] at hb2
              · exact ⟨jo, b2, by rw [b5]; exact b6⟩
          obtain ⟨jo, o1, o2⟩ := hold
          refine ⟨by simp [scanS, h1, a5, a6, hs], fun u hu => ?_, ?_⟩
          · by_cases e : u = v
            · rw [e]; exact hfb
            · exact h2 u (by omega)
          · have e5 : ((keepR gs rm j).length : Int).toNat = (keepR gs rm j).length := by omega
            simp only [scanS, h1, a5, e5, a6, h3, o2, oldV, a2, o1]
            have n1 : ¬ (((keepR gs rm j).length : Int) < 0) := by omega
            have n2 : (0 : Int) ≤ (keepR gs rm j).length := by omega
            simp [n1, n2, hs]
            split <;> rfl
    · right
      refine ⟨f, by omega, ?_, h3, h4⟩
      have : ¬ ((f : Int) < 0) := by omega
      simp [scanS, h2, this]
theorem el_set_ne {α : Type} [Inhabited α] {l : List α} {j q : Nat} {x : α} (h : j ≠ q) : el (l.set j x) q = el l q := by simp [el, List.getElem?_set_ne h]
theorem el_set_eq {α : Type} [Inhabited α] {l : List α} {j : Nat} {x : α} (h : j < l.length) : el (l.set j x) j = x := by simp [el, h]
theorem relA_assign {V i w : Nat} {l gs : List Gate} {rm : List Bool} {ls : List Int} (hw : w < V) (hi : i < l.length) (gl : gs.length = l.length) (rl : rm.length = l.length) (ll : ls.length = V) (rest : ∀ j, i ≤ j → j < l.length → el rm j = false ∧ el gs j = el l j)
    (last : ∀ v, v < V → v ≠ w → (el ls v = -1 ∧ ∀ j, j < i → el rm j = true ∨ (el gs j).o ≠ v) ∨ (∃ j : Nat, j < i ∧ el ls v = j ∧ el rm j = false ∧ (el gs j).o = v ∧ ∀ q, j < q → q < i → el rm q = true ∨ (el gs q).o ≠ v)) :
    RelA V (i + 1) l (gs.set i { el l i with o := w }) rm (ls.set w i) (keepR gs rm i ++ [{ el l i with o := w }]) := by
  have hgi : el (gs.set i { el l i with o := w }) i = { el l i with o := w } := el_set_eq (by omega)
  refine ⟨by simp [gl], rl, by simp [ll], by omega, fun j h1 h2 => ?_, ?_, fun v hv => ?_⟩
  · rw [el_set_ne (by omega)]
    exact rest j (by omega) h2
  · rw [keepR, if_neg (by rw [(rest i (Nat.le_refl _) hi).1]; simp), hgi, keepR_congr (gs' := gs.set i { el l i with o := w }) (rm' := rm) fun j hj => ⟨(el_set_ne (by omega)).symm, rfl⟩]
  · by_cases e : v = w
    · subst e
      refine .inr ⟨i, by omega, el_set_eq (by omega), (rest i (Nat.le_refl _) hi).1, by rw [hgi], fun q h1 h2 => by omega⟩
    · have hne : (w : Int) ≠ v := by omega
      rcases last v hv e with ⟨h1, h2⟩ | ⟨j, h1, h2, h3, h4, h5⟩
      · refine .inl ⟨by rw [el_set_ne (by omega)]; exact h1, fun j hj => ?_⟩
        by_cases e2 : j = i
        · subst e2; exact .inr (by rw [hgi]; exact hne)
        · rw [el_set_ne (by omega)]; exact h2 j (by omega)
      · refine .inr ⟨j, by omega, by rw [el_set_ne (by omega)]; exact h2, h3, by rw [el_set_ne (by omega)]; exact h4, fun q h6 h7 => ?_⟩
        by_cases e2 : q = i
        · subst e2; exact .inr (by rw [hgi]; exact hne)
        · rw [el_set_ne (by omega)]; exact h5 q h6 (by omega)
theorem RelA.step_free {V i f : Nat} {l gs : List Gate} {rm : List Bool} {ls : List Int} {out : List Gate} {sh : Int} (h : RelA V i l gs rm ls out) (hi : i < l.length) (hf : f < V) (hs : (scanS out (el l i).s V).1 = f) :
    RelA V (i + 1) l (gs.set i { el l i with o := f }) rm (ls.set f i) (stepS V (out, sh) (el l i)).1 ∧ (stepS V (out, sh) (el l i)).2 = sh := by
  have hn : ¬ ((f : Int) < 0) := by omega
  have e : stepS V (out, sh) (el l i) = (out ++ [{ el l i with o := f }], sh) := by simp [stepS, hs, hn]
  rw [e]
  refine ⟨?_, rfl⟩
  simp only
  rw [h.out_]
  exact relA_assign hf hi h.gl h.rl h.ll h.rest fun v hv _ => h.last v hv
theorem RelA.step_steal {V i w j : Nat} {l gs : List Gate} {rm : List Bool} {ls : List Int} {out : List Gate} {sh : Int} (h : RelA V i l gs rm ls out) (hi : i < l.length) (hs : (scanS out (el l i).s V).1 = -1) (hw : (scanS out (el l i).s V).2 = w) (hwV : w < V) (hj : el ls w = j) :
    RelA V (i + 1) l ((gs.set j { el gs j with e := (el l i).s }).set i { el l i with o := w }) (rm.set j (decide ((el gs j).s = (el l i).s))) (ls.set w i) (stepS V (out, sh) (el l i)).1 ∧ (stepS V (out, sh) (el l i)).2 = sh + 1 := by
  rcases h.at_ hwV with ⟨a1, a2⟩ | ⟨j', a1, a2, a3, a4, a5, a6⟩
  · rw [hj] at a1; omega
  obtain rfl : j' = j := by rw [hj] at a2; omega
  have hjl : j' < gs.length := by have := h.gl; omega
  have hjr : j' < rm.length := by have := h.rl; omega
  have hp : ((keepR gs rm j').length : Int).toNat = (keepR gs rm j').length := by omega
  have hout1 : keepR (gs.set j' { el gs j' with e := (el l i).s }) (rm.set j' (decide ((el gs j').s = (el l i).s))) i = if (el gs j').s = (el l i).s then out.eraseIdx (keepR gs rm j').length else out.set (keepR gs rm j').length { el gs j' with e := (el l i).s } := by
    have k1 : keepR (gs.set j' { el gs j' with e := (el l i).s }) rm j' = keepR gs rm j' := keepR_congr fun q hq => ⟨el_set_ne (by omega), rfl⟩
    by_cases hsj : (el gs j').s = (el l i).s
    · rw [if_pos hsj, decide_eq_true hsj, keepR_erase hjr a3 a1, keepR_set hjl a3 a1, k1, List.eraseIdx_set_eq, h.out_]
    · rw [if_neg hsj, decide_eq_false hsj, keepR_congr (gs' := gs.set j' { el gs j' with e := (el l i).s }) (rm' := rm) fun q hq => ⟨rfl, ?_⟩, keepR_set hjl a3 a1, h.out_]
      by_cases e : j' = q
      · subst e; rw [el_set_eq hjr, a3]
      · rw [el_set_ne e]
  have e : stepS V (out, sh) (el l i) = ((if (el gs j').s = (el l i).s then out.eraseIdx (keepR gs rm j').length else out.set (keepR gs rm j').length { el gs j' with e := (el l i).s }) ++ [{ el l i with o := w }], sh + 1) := by
    simp [stepS, hs, hw, a5, a6]
  rw [e]
  refine ⟨?_, rfl⟩
  simp only
  rw [← hout1]
  refine relA_assign hwV hi (by simp [h.gl]) (by simp [h.rl]) h.ll (fun q h1 h2 => ?_) (fun v hv hvw => ?_)
  · rw [el_set_ne (by omega), el_set_ne (by omega)]
    exact h.rest q h1 h2
  · have ho : ∀ q, (el (gs.set j' { el gs j' with e := (el l i).s }) q).o = (el gs q).o := fun q => by
      by_cases e : j' = q
      · subst e; rw [el_set_eq hjl]
      · rw [el_set_ne e]
    have hr : ∀ q, (el rm q = true ∨ (el gs q).o ≠ v) → (el (rm.set j' (decide ((el gs j').s = (el l i).s))) q = true ∨ (el (gs.set j' { el gs j' with e := (el l i).s }) q).o ≠ v) := fun q hq => by
      rw [ho]
      by_cases e : j' = q
      · subst e; exact .inr (by rw [a4]; omega)
      · rw [el_set_ne e]; exact hq
    rcases h.last v hv with ⟨h1, h2⟩ | ⟨q, h1, h2, h3, h4, h5⟩
    · exact .inl ⟨h1, fun q hq => hr q (h2 q hq)⟩
    · have hqj : j' ≠ q := fun e => by subst e; rw [a4] at h4; omega
      exact .inr ⟨q, h1, h2, by rw [el_set_ne hqj]; exact h3, by rw [ho]; exact h4, fun q' h6 h7 => hr q' (h5 q' h6 h7)⟩
theorem relA_zero {V : Nat} {l : List Gate} : RelA V 0 l l (List.replicate l.length false) (List.replicate V (-1)) [] := by
  refine ⟨rfl, by simp, by simp, by omega, fun j _ hj => ⟨by simp [el, hj], rfl⟩, rfl, fun v hv => .inl ⟨by simp [el, hv], fun j hj => by omega⟩⟩
end Go.Proofs.YtimijeeihicohaaGreat

namespace Go.Proofs.YtimijeeihicohaaGreat
open Go.RowKit
set_option linter.unusedVariables false
set_option linter.unusedSimpArgs false
set_option maxRecDepth 100000
attribute [local simp] List.getElem?_cons_zero
attribute [local irreducible] awCond awCall awLoop awDraw ow retQ retC resQ Keeps
theorem CloneGate_d {M : Mem} {A : Option Addr} {n c : Nat} {l : List Gate} (h : Sl gateR M A n l) (hn : n ≤ 1048576) : ∃ A' c' N, Det Tryz.prog M.length 128 [.slice A n c] M (.slice A' n c') (M ++ N) ∧ (0 < n → ∃ gid t, A' = some ⟨gid, 0, none⟩ ∧ M.length ≤ gid ∧ gid < (M ++ N).length ∧ (M ++ N)[gid]? = some (.live ⟨cellsL gateR l, true, t, 90, 5⟩)) := by
  have hl := h.1
  rcases A with _ | ad
  · have h0 : n = 0 := by
      rcases Nat.eq_zero_or_pos n with e | e
      · exact e
      · obtain ⟨_, _, e', _⟩ := h.2 e
        cases e'
    subst h0
    refine ⟨none, 0, [], Ctr.det ?_, fun h => by omega⟩
    first | (refine ctr_fn Tryz.func128 rfl Tryz.ntmps128 Tryz.results128 rfl rfl (by simp) ?_) | (refine ctr_fnC Tryz.func128 rfl Tryz.ntmps128 Tryz.results128 rfl (by simp) ?_)
    simp [nil_eq Tryz.underlying46]
  · by_cases h0 : n = 0
    · subst h0
      obtain rfl := List.eq_nil_of_length_eq_zero hl
      refine ⟨some ⟨M.length, 0, none⟩, 0, [.live ⟨[], true, true, 90, 5⟩], Ctr.det ?_, fun h => by omega⟩
      first | (refine ctr_fn Tryz.func128 rfl Tryz.ntmps128 Tryz.results128 rfl rfl (by simp) ?_) | (refine ctr_fnC Tryz.func128 rfl Tryz.ntmps128 Tryz.results128 rfl (by simp) ?_)
      simp [nil_eq Tryz.underlying46]
      refine append_newG (R := gateR) (e := 90) (by_ := 40) (ls := []) (by simp) (by simp) (by kernel_rfl) ((h.app _).src (by omega) ⟨_, Tryz.underlying46⟩) (gate_one _) (by simp) (by simp) (fun _ => ?_) (fun h => absurd rfl h)
      simp
    · refine ⟨some ⟨M.length + 1, 0, none⟩, n, [.live ⟨[], true, true, 90, 5⟩, .live ⟨cellsL gateR l, true, false, 90, 5⟩], Ctr.det ?_, fun _ => ⟨M.length + 1, false, rfl, by omega, by simp, by simp⟩⟩
      first | (refine ctr_fn Tryz.func128 rfl Tryz.ntmps128 Tryz.results128 rfl rfl (by simp) ?_) | (refine ctr_fnC Tryz.func128 rfl Tryz.ntmps128 Tryz.results128 rfl (by simp) ?_)
      simp [nil_eq Tryz.underlying46]
      refine append_newG (R := gateR) (e := 90) (by_ := 40) (ls := l) (by simp) (by simp) (by kernel_rfl) ((h.app _).src (by omega) ⟨_, Tryz.underlying46⟩) (gate_one _) (by omega) (by unfold maxLen; omega) (fun h => by rw [h] at hl; simp at hl; omega) (fun _ => ?_)
      simp [hl]
theorem cells_set_o {l : List Gate} {j : Nat} {x : Int} (h : j < l.length) : (cellsL gateR l).set (j * 5) (iv x) = cellsL gateR (l.set j { el l j with o := x }) := by
  have e1 : l = l.take j ++ (el l j :: l.drop (j + 1)) := by
    conv => lhs; rw [← List.take_append_drop j l, drop_el h]
  have hl : (l.take j).length = j := by simp; omega
  have e2 : l.set j { el l j with o := x } = l.take j ++ ({ el l j with o := x } :: l.drop (j + 1)) := by
    conv => lhs; rw [e1]
    rw [List.set_append_right _ _ (by omega), hl, Nat.sub_self]
    simp [hl, el_append_right]
    rw [show el (el l j :: List.drop (j + 1) l) 0 = el l j from rfl]
    exact ⟨rfl, rfl, rfl, rfl⟩
  rw [e2]
  conv => lhs; rw [e1]
  have e3 : (cellsL gateR (l.take j)).length = j * 5 := by rw [cellsL_len, hl]
  rw [cellsL_append, cellsL_append, cellsL_cons, cellsL_cons, List.set_append_right _ _ (by omega), e3, Nat.sub_self]
  rfl
theorem AlM.setLast {B : Nat} {M : Mem} {b aid rid lid k : Nat} {u : Value} {gs : List Gate} {rm : List Bool} {ls : List Int} {sh x : Int} (h : AlM B M aid rid lid u gs rm ls sh) (hb : b ≤ B) (hk : k < ls.length) : ∃ M', putCells b M lid k [iv x] = some M' ∧ AlM B M' aid rid lid u gs rm (ls.set k x) sh ∧ Turn B (aid + 1) M M' := by
  obtain ⟨i1, i2, i3⟩ := h.ids
  refine ⟨_, put_at h.lrow (by omega) (by simpa using hk) rfl, ⟨?_, ?_, ?_, ?_, h.ids⟩, by simp, fun i y hy hi => by rw [List.getElem?_set_ne (by omega)]; exact hy⟩
  · rw [List.getElem?_set_ne (by omega)]; simpa using h.arow
  · rw [List.getElem?_set_ne (by omega)]; exact h.rrow
  · rw [List.getElem?_set_self (List.getElem?_eq_some_iff.1 h.lrow).1, List.map_set]
  · obtain ⟨A, c, e, hg⟩ := h.grow
    refine ⟨A, c, e, fun h0 => ?_⟩
    obtain ⟨gid, t, e1, e2, e3, e4⟩ := hg h0
    exact ⟨gid, t, e1, e2, e3, by rw [List.getElem?_set_ne (by omega)]; exact e4⟩
theorem AlM.setVoice {B : Nat} {M : Mem} {b aid rid lid k : Nat} {A : Option Addr} {n c : Nat} {gs : List Gate} {rm : List Bool} {ls : List Int} {sh x : Int} (h : AlM B M aid rid lid (.slice A n c) gs rm ls sh) (hb : b ≤ B) (hk : k < gs.length) : ∃ gid M', A = some ⟨gid, 0, none⟩ ∧ n = gs.length ∧ rowEsz M gid = some 5 ∧ putCells b M gid (k * 5) [iv x] = some M' ∧ AlM B M' aid rid lid (.slice A n c) (gs.set k { el gs k with o := x }) rm ls sh ∧ Turn B (aid + 1) M M' := by
  obtain ⟨i1, i2, i3⟩ := h.ids
  obtain ⟨A', c', e, hg⟩ := h.grow
  injection e with e1 e2 e3
  subst e1; subst e2; subst e3
  obtain ⟨gid, t, rfl, g2, g3, g4⟩ := hg (by omega)
  have hp := put_at (b := b) (p := k * 5) (v := iv x) g4 (by omega) (by rw [cellsL_len]; omega) rfl
  rw [cells_set_o hk] at hp
  refine ⟨gid, _, rfl, rfl, by simp [rowEsz, g4], hp, ⟨?_, ?_, ?_, ⟨_, c, by simp, fun _ => ⟨gid, t, rfl, g2, g3, by rw [List.getElem?_set_self (List.getElem?_eq_some_iff.1 g4).1]⟩⟩, h.ids⟩, by simp, fun i y hy hi => by rw [List.getElem?_set_ne (by omega)]; exact hy⟩
  · rw [List.getElem?_set_ne (by omega)]; exact h.arow
  · rw [List.getElem?_set_ne (by omega)]; exact h.rrow
  · rw [List.getElem?_set_ne (by omega)]; exact h.lrow
theorem AlM.same {B : Nat} {M M' : Mem} {aid rid lid : Nat} {u : Value} {gs : List Gate} {rm : List Bool} {ls : List Int} {sh : Int} (h : AlM B M aid rid lid u gs rm ls sh) (hs : Same (aid + 1) M M') : AlM B M' aid rid lid u gs rm ls sh := by
  obtain ⟨i1, i2, i3⟩ := h.ids
  obtain ⟨A, c, e, hg⟩ := h.grow
  exact ⟨hs.2 _ _ (by omega) h.arow, hs.2 _ _ (by omega) h.rrow, hs.2 _ _ (by omega) h.lrow, ⟨A, c, e, fun h0 => by
    obtain ⟨gid, t, e1, e2, e3, e4⟩ := hg h0
    exact ⟨gid, t, e1, e2, e3, hs.2 _ _ (by omega) e4⟩⟩, h.ids⟩
theorem al_build (A A2 A3 : Option Addr) (n c n2 c2 n3 c3 : Nat) : Instr.fill (fun x => [(0, 1), (1, 1), (2, 1), (3, 1)][x]?) #[.slice none 0 0, .slice none 0 0, .slice none 0 0, iv 0] [(0, .slice A n c), (1, .slice A2 n2 c2), (2, .slice A3 n3 c3)] = some #[.slice A n c, .slice A2 n2 c2, .slice A3 n3 c3, iv 0] := by rfl
set_option maxHeartbeats 4000000 in
theorem allocate_a {M : Mem} {A : Option Addr} {n c : Nat} {l : List Gate} (V : Nat) (h : Sl gateR M A n l) (hok : okG l = true) (hn : n ≤ 60) (hV : 1 ≤ V ∧ V ≤ 4) : Ctr Tryz.prog M.length 73 [.slice A n c, iv V] M fun r M' => ∃ v0, r = .tuple #[v0, iv (allocP V l).2] ∧ Fresh gateR M v0 M' (allocP V l).1 := by
  have hl := h.1
  obtain ⟨A', c', N, dcl, hcl⟩ := CloneGate_d (c := c) h (by omega)
  first | (refine ctr_fn Tryz.func73 rfl Tryz.ntmps73 Tryz.results73 rfl rfl (by simp) ?_) | (refine ctr_fnC Tryz.func73 rfl Tryz.ntmps73 Tryz.results73 rfl (by simp) ?_)
  simp
  refine awDraw_D 7 [[],[0],[],[2],[3,2],[],[5],[1,0,4,3,2,6,5],[7,1,0,4,3,2,6,5],[8,7,1,0,4,3,2,6,5]] (by kernel_rfl) (by decide +kernel) ?_
  simp
  refine awCall_det' dcl (Nat.le_refl _) ?_
  simp (disch := omega) [al_build]
  refine ⟨⟨by omega, by omega⟩, ⟨by omega, by omega⟩, ?_⟩
  obtain ⟨P, hP⟩ : ∃ P : Mem, P = M ++ (N ++ [.live ⟨zrow [.bool false] n, true, true, 4, 1⟩, .live ⟨zrow [.int .i64 0] V, true, true, 3, 1⟩, .live ⟨[.slice A' n c', .slice (some ⟨M.length + N.length, 0, none⟩) n n, .slice (some ⟨M.length + (N.length + 1), 0, none⟩) V V, iv 0], true, true, 187, 4⟩]) := ⟨_, rfl⟩
  have hPg : ∀ q, P[M.length + (N.length + q)]? = ([.live ⟨zrow [.bool false] n, true, true, 4, 1⟩, .live ⟨zrow [.int .i64 0] V, true, true, 3, 1⟩, .live ⟨[.slice A' n c', .slice (some ⟨M.length + N.length, 0, none⟩) n n, .slice (some ⟨M.length + (N.length + 1), 0, none⟩) V V, iv 0], true, true, 187, 4⟩] : List Slot)[q]? := by
    intro q
    rw [hP, List.getElem?_append_right (by omega), show M.length + (N.length + q) - M.length = N.length + q by omega, List.getElem?_append_right (by omega), show N.length + q - N.length = q by omega]
  have hAl : AlM M.length P (M.length + (N.length + 2)) (M.length + N.length) (M.length + (N.length + 1)) (.slice A' n c') l (List.replicate n false) (List.replicate V 0) 0 := by
    refine ⟨?_, ?_, ?_, ⟨A', c', by rw [hl], fun h0 => ?_⟩, by omega, by omega, by omega⟩
    · rw [hPg 2]; simp
    · have := hPg 0
      rw [Nat.add_zero] at this
      rw [this, zrow_one]
      simp
    · rw [hPg 1]; simp [zrow_one]
    · obtain ⟨gid, t, e1, e2, e3, e4⟩ := hcl (by omega)
      refine ⟨gid, t, e1, e2, by simpa using e3, ?_⟩
      rw [hP, ← List.append_assoc, List.getElem?_append_left e3]
      exact e4
  have hKP : Keeps M P := by rw [hP]; exact keeps_app _
  rw [← hP]
  clear hPg hP dcl hcl
  generalize M.length + (N.length + 2) = aid at hAl ⊢
  generalize M.length + (N.length + 1) = lid at hAl ⊢
  generalize M.length + N.length = rid at hAl ⊢
  refine awLoop_T (fun m T M' => ∃ k : Nat, k + m = V ∧ Keeps M M' ∧ AlM M.length M' aid rid lid (.slice A' n c') l (List.replicate n false) (List.replicate k (-1) ++ List.replicate m 0) 0 ∧ look T 28 = some (iv k) ∧ look T 27 = some (iv V) ∧ look T 6 = some (.pointer (some ⟨aid, 0, none⟩)) ∧ look T 0 = some (.slice A n c) ∧ look T 1 = some (iv V)) V ⟨0, by omega, hKP, hAl, by simp, by simp, by simp, by simp, by simp⟩ ?_
  clear hAl hKP P
  rintro m T M' ⟨k, hm, hK, hAl, h28, h27, h6, h0, h1⟩
  have hKl := hK.len
  have hle : rowEsz M' lid = some 1 := by simp [rowEsz, hAl.lrow]
  by_cases hlt : k < V
  · obtain ⟨m, rfl⟩ : ∃ m', m = m' + 1 := ⟨m - 1, by omega⟩
    have hlen : (List.replicate k (-1 : Int) ++ List.replicate (m + 1) 0).length = V := by simp; omega
    have a2 : cellAt M' aid 2 = some (.slice (some ⟨lid, 0, none⟩) V V) := by
      have := hAl.arow
      rw [hlen] at this
      simp [cellAt, this]
    obtain ⟨M2, hput, hAl2, hT⟩ := hAl.setLast (b := M.length) (x := -1) (k := k) (Nat.le_refl _) (by omega)
    have hset : (List.replicate k (-1 : Int) ++ List.replicate (m + 1) 0).set k (-1) = List.replicate (k + 1) (-1) ++ List.replicate m 0 := by
      rw [List.set_append_right _ _ (by simp), List.length_replicate, Nat.sub_self, List.replicate_succ, List.set_cons_zero, List.replicate_succ' , List.append_assoc]
      rfl
    rw [hset] at hAl2
    have hlt' : (k : Int) < V := by omega
    simp (disch := omega) [h28, h27, h6, hlt', a2, hle, hput, wrap_in]
    refine lpI m (by omega) ?_
    exact ⟨k + 1, by omega, hT.keeps hK (Nat.le_refl _), hAl2, by simp, by simp [h27], by simp [h6], by simp [h0], by simp [h1]⟩
  · obtain rfl : k = V := by omega
    obtain rfl : m = 0 := by omega
    simp only [List.replicate_zero, List.append_nil] at hAl
    simp (disch := omega) [h28, h27, h6, h0]
    have hR0 := relA_zero (V := k) (l := l)
    rw [hl] at hR0
    refine awLoop_T (fun m T M' => ∃ (i : Nat) (gs : List Gate) (rm : List Bool) (ls : List Int), i + m = n ∧ Keeps M M' ∧ AlM M.length M' aid rid lid (.slice A' n c') gs rm ls (allocP k (l.take i)).2 ∧ RelA k i l gs rm ls (allocP k (l.take i)).1 ∧ look T 40 = some (iv i) ∧ look T 39 = some (iv n) ∧ look T 38 = some (.slice A n c) ∧ look T 6 = some (.pointer (some ⟨aid, 0, none⟩))) n ⟨0, l, _, _, by omega, hK, by simpa [allocP] using hAl, by simpa [allocP] using hR0, by simp, by simp, by simp, by simp [h6]⟩ ?_
    clear hAl hK hR0 hle hKl h28 h27 h6 h0 h1 hlt
    rintro m T M' ⟨i, gs, rm, ls, hm, hK, hAl, hR, h40, h39, h38, h6⟩
    have hKl := hK.len
    have hal := allocP_len k (l.take i) ([], 0)
    have hsh : 0 ≤ (allocP k (l.take i)).2 ∧ (allocP k (l.take i)).2 ≤ i := by
      have e : (l.take i).length ≤ i := by simp; omega
      unfold allocP
      simp only [List.length_nil] at hal
      omega
    by_cases hlt : i < n
    · have hst : allocP k (l.take (i + 1)) = stepS k (allocP k (l.take i)) (el l i) := by rw [take_el (by omega), allocP_snoc]
      rcases hP : allocP k (l.take i) with ⟨out, sh⟩
      rw [hP] at hst hR hAl hsh
      simp only at hR hAl hsh
      obtain ⟨id, off, rfl, he, hc⟩ := h.at_ hlt
      have hb := okG_el hok (el_mem (l := l) (i := i) (by omega))
      have hgl := hR.gl
      have hll := hR.ll
      have hrl := hR.rl
      have hlsb : ∀ v, v < k → el ls v = -1 ∨ ∃ j : Nat, el ls v = j ∧ j < gs.length := by
        intro v hv
        rcases hR.last v hv with ⟨q1, _⟩ | ⟨j, q1, q2, _⟩
        · exact .inl q1
        · exact .inr ⟨j, q2, by omega⟩
      have hlsm : ∀ x, x ∈ ls → x < 0 ∨ x.toNat < gs.length := by
        intro x hx
        obtain ⟨v, hv, rfl⟩ := List.getElem_of_mem hx
        rw [el_eq hv]
        rcases hlsb v (by omega) with e | ⟨j, e, hj⟩ <;> rw [e] <;> omega
      obtain ⟨al1, al2, al3⟩ := hAl.ids
      have hal' := (List.getElem?_eq_some_iff.1 hAl.arow).1
      simp (disch := omega) [h40, h39, h38, hlt, wrap_in, rowEsz_keeps hK he, gate_load (hc.keeps hK), h6]
      refine awCall_det' (free_a (el l i).s (hAl.keeps (keeps_app _)) hlsm (by omega) (by omega)) (by simp; omega) ?_
      rcases hR.free (el l i).s k (Nat.le_refl _) with ⟨f1, f2, f3⟩ | ⟨f, f0, f1, f2, f3⟩
      · have hfr : fstI (freeB gs (el l i).s) ls = -1 := fstI_none fun u hu => f2 u (by omega)
        simp (disch := omega) [hfr, h6]
        have hlsb2 : ∀ v, v < ls.length → 0 ≤ el ls v ∧ (el ls v).toNat < gs.length := by
          intro v hv
          have hf := f2 v (by omega)
          rcases hlsb v (by omega) with e | ⟨j, e, hj⟩
          · rw [e] at hf; simp [freeB] at hf
          · rw [e]; omega
        refine awCall_ctr (steal_a (B := M.length) (el l i).s (hAl.keeps (keeps_app _)) hlsb2 (by omega) (by omega) (by omega) (Nat.le_refl _) (by omega)) ?_
        rintro r M2 ⟨rfl, hAl2, hT2⟩
        rw [hll] at hAl2 ⊢
        obtain ⟨w, hw⟩ : ∃ w, w = oldV gs ls k := ⟨_, rfl⟩
        have hwl : w < k := by rcases oldV_lt gs ls k with h' | h' <;> omega
        rw [← hw] at hAl2 f3 ⊢
        rcases hR.at_ hwl with ⟨w1, w2⟩ | ⟨j, w1, w2, w3, w4, w5, w6⟩
        · have := hlsb2 w (by omega); omega
        rw [w2] at hAl2
        rw [show (j : Int).toNat = j by omega] at hAl2
        have hstep := hR.step_steal (sh := sh) (by omega) f1 f3 hwl w2
        have hK2 := hT2.keeps (hK.app _) (Nat.le_refl _)
        have hegi : el (gs.set j { el gs j with e := (el l i).s }) i = el l i := by rw [el_set_ne (by omega)]; exact (hR.rest i (Nat.le_refl _) (by omega)).2
        have b0 : cellAt M2 aid 0 = some (.slice A' n c') := by simp [cellAt, hAl2.arow]
        obtain ⟨gid, M3, rfl, hnn, hge3, hput3, hAl3, hT3⟩ := hAl2.setVoice (b := M.length) (x := ((w : Nat) : Int)) (k := i) (Nat.le_refl _) (by first | (simp; omega) | omega)
        rw [hegi] at hAl3
        obtain ⟨M4, hput4, hAl4, hT4⟩ := hAl3.setLast (b := M.length) (x := (i : Int)) (k := w) (Nat.le_refl _) (by omega)
        have b2 : cellAt M3 aid 2 = some (.slice (some ⟨lid, 0, none⟩) ls.length ls.length) := by simp [cellAt, hAl3.arow]
        have b3 : rowEsz M3 lid = some 1 := by simp [rowEsz, hAl3.lrow]
        have b4 : ((w : Nat) : Int) < ls.length := by omega
        have hK4 := hT4.keeps (hT3.keeps hK2 (Nat.le_refl _)) (Nat.le_refl _)
        simp (disch := omega) [h6, b0, hge3, hput3, b2, b3, b4, hput4, hlt, h40, wrap_in]
        refine lpI (m - 1) (by omega) ?_
        exact ⟨i + 1, _, _, _, by omega, hK4, by rw [hst, hstep.2]; exact hAl4, by rw [hst]; exact hstep.1, by simp, by simp [h39], by simp [h38], by simp [h6]⟩
      · have hfr : fstI (freeB gs (el l i).s) ls = f := fstI_some (by omega) f2 f3
        have hfn : ¬ ((f : Int) < 0) := by omega
        simp (disch := omega) [hfr, hfn, h6]
        have hAlb := hAl.keeps (keeps_app [.live ⟨[iv (el l i).o, iv (el l i).s, iv (el l i).e, iv (el l i).k, iv (el l i).u], true, true, 90, 5⟩])
        have hstep := hR.step_free (sh := sh) (by omega) f0 f1
        have hKb : Keeps M (M' ++ [.live ⟨[iv (el l i).o, iv (el l i).s, iv (el l i).e, iv (el l i).k, iv (el l i).u], true, true, 90, 5⟩]) := hK.app _
        have hegi : el gs i = el l i := (hR.rest i (Nat.le_refl _) (by omega)).2
        have b0 : cellAt (M' ++ [.live ⟨[iv (el l i).o, iv (el l i).s, iv (el l i).e, iv (el l i).k, iv (el l i).u], true, true, 90, 5⟩]) aid 0 = some (.slice A' n c') := by simp [cellAt, hAlb.arow]
        obtain ⟨gid, M3, rfl, hnn, hge3, hput3, hAl3, hT3⟩ := hAlb.setVoice (b := M.length) (x := ((f : Nat) : Int)) (k := i) (Nat.le_refl _) (by first | (simp; omega) | omega)
        rw [hegi] at hAl3
        obtain ⟨M4, hput4, hAl4, hT4⟩ := hAl3.setLast (b := M.length) (x := (i : Int)) (k := f) (Nat.le_refl _) (by omega)
        have b2 : cellAt M3 aid 2 = some (.slice (some ⟨lid, 0, none⟩) ls.length ls.length) := by simp [cellAt, hAl3.arow]
        have b3 : rowEsz M3 lid = some 1 := by simp [rowEsz, hAl3.lrow]
        have b4 : ((f : Nat) : Int) < ls.length := by omega
        have hK4 := hT4.keeps (hT3.keeps hKb (Nat.le_refl _)) (Nat.le_refl _)
        simp (disch := omega) [h6, b0, hge3, hput3, b2, b3, b4, hput4, hlt, h40, wrap_in]
        refine lpI (m - 1) (by omega) ?_
        exact ⟨i + 1, _, _, _, by omega, hK4, by rw [hst, hstep.2]; exact hAl4, by rw [hst]; exact hstep.1, by simp, by simp [h39], by simp [h38], by simp [h6]⟩
    · obtain rfl : i = n := by omega
      rw [List.take_of_length_le (by omega)] at hAl hR hsh
      have hgl := hR.gl
      have hrl := hR.rl
      have a0 : cellAt M' aid 0 = some (.slice A' i c') := by simp [cellAt, hAl.arow]
      have hal' := (List.getElem?_eq_some_iff.1 hAl.arow).1
      obtain ⟨al1, al2, al3⟩ := hAl.ids
      simp (disch := omega) [h40, h39, h6, a0, cellAt_app a0]
      refine awLoop_T (fun m T M2 => ∃ (q : Nat) (u : Value), q + m = i ∧ Keeps M M2 ∧ AlM M.length M2 aid rid lid (.slice A' i c') gs rm ls (allocP k l).2 ∧ Acc gateR 90 (aid + 1) M2 u (keepR gs rm q) ∧ look T 77 = some (iv q) ∧ look T 76 = some (iv i) ∧ look T 75 = some (.slice A' i c') ∧ look T 11 = some u ∧ look T 6 = some (.pointer (some ⟨aid, 0, none⟩))) i ⟨0, .slice (some ⟨M'.length, 0, none⟩) 0 0, by omega, hK.app _, hAl.keeps (keeps_app _), ⟨some ⟨M'.length, 0, none⟩, 0, 0, rfl, rfl, .inr ⟨M'.length, true, rfl, by omega, by simp [keepR, cellsL]⟩⟩, by simp, by simp, by simp, by simp, by simp [h6]⟩ ?_
      clear hK hAl a0 hal' h40 h39 h38 h6 hKl hlt hal
      rintro m T M2 ⟨q, u, hm, hK, hAl, hA, h77, h76, h75, h11, h6⟩
      have hKl := hK.len
      have hal' := (List.getElem?_eq_some_iff.1 hAl.arow).1
      have hkl := keepR_len_le gs rm (j := q) (i := q) (Nat.le_refl _)
      have hkb : ∀ q, (keepR gs rm q).length ≤ q := by
        intro q
        induction q with
        | zero => simp [keepR]
        | succ q ih => rw [keepR, List.length_append]; split <;> simp <;> omega
      have hkq := hkb q
      by_cases hlt : q < i
      · obtain ⟨A2, c2, e2, hsl⟩ := hAl.gsl
        injection e2 with e3 e4 e5
        subst e3; subst e5
        obtain ⟨gid, goff, rfl, hge, hgc⟩ := hsl.at_ (i := q) (by omega)
        have b1 : cellAt M2 aid 1 = some (.slice (some ⟨rid, 0, none⟩) rm.length rm.length) := by simp [cellAt, hAl.arow]
        have b2 : rowEsz M2 rid = some 1 := by simp [rowEsz, hAl.rrow]
        have b3 : cellAt M2 rid q = some (.bool (el rm q)) := by
          simp only [cellAt, hAl.rrow, List.getElem?_map]
          rw [el_some (by omega)]
          rfl
        have n1 : (q : Int) < rm.length := by omega
        have hb4 : rowEsz (M2 ++ [.live ⟨[iv (el gs q).o, iv (el gs q).s, iv (el gs q).e, iv (el gs q).k, iv (el gs q).u], true, true, 90, 5⟩]) rid = some 1 := rowEsz_keeps (keeps_app _) b2
        simp (disch := omega) [h77, h76, h75, h6, hlt, hge, gate_load hgc, wrap_in, cellAt_app b1, hb4, n1, cellAt_app b3]
        cases hrq : el rm q
        · simp (disch := omega) [h11]
          refine Acc.append (R := gateR) (e := 90) (by_ := 40) (a := el gs q) (hA.keeps (keeps_app _)) (by omega) (by simp; omega) (by omega) (by simp) (by kernel_rfl) (by simp [srcOf, gateR, Gate.row]) (by rfl) (by omega) (by unfold maxLen; omega) ?_
          intro v' M3 hA3 hS3
          try simp (disch := omega) [h77, wrap_in]
          refine lpI (m - 1) (by omega) ?_
          exact ⟨q + 1, v', by omega, hS3.keeps (hK.app _) (by omega), (hAl.keeps (keeps_app _)).same hS3, by rw [keepR, if_neg (by rw [hrq]; simp)]; exact hA3, by simp, by simp [h76], by simp [h75], by simp, by simp [h6]⟩
        · simp (disch := omega) [h77, wrap_in]
          refine lpI (m - 1) (by omega) ?_
          exact ⟨q + 1, u, by omega, hK.app _, hAl.keeps (keeps_app _), by rw [keepR, if_pos hrq, List.append_nil]; exact hA.keeps (keeps_app _), by simp, by simp [h76], by simp [h75], by simp [h11], by simp [h6]⟩
      · obtain rfl : q = i := by omega
        have a3 : cellAt M2 aid 3 = some (iv (allocP k l).2) := by simp [cellAt, hAl.arow]
        simp (disch := omega) [h77, h76, h75, h6, h11]
        refine awDraw_E 6 [[],[],[1],[2,1],[3,2,1],[0],[4,3,2,1,5,0]] (by kernel_rfl) (by kernel_rfl) ?_
        simp (disch := omega) [h6, h11, a3]
        rw [hR.out_]
        exact (hA.low (B' := M.length) (by omega)).fresh (by omega) hK





























end Go.Proofs.YtimijeeihicohaaGreat

namespace Go.Proofs.YtimijeeihicohaaGreat
open Go.RowKit
set_option linter.unusedVariables false
set_option linter.unusedSimpArgs false
/-- Gates in order that begin at x or before, each good, no two of a voice at a time. -/
structure GoodG (out : List Gate) (x : Int) : Prop where
  gate : ∀ i, i < out.length → gateB (el out i) = true
  le : ∀ i, i < out.length → (el out i).s ≤ x
  sort : ∀ i j, i < j → j < out.length → (el out i).s ≤ (el out j).s
  play : ∀ i j, i < j → j < out.length → (el out i).o = (el out j).o → (el out i).e ≤ (el out j).s
theorem gateB_iff {g : Gate} : gateB g = true ↔ (0 ≤ g.o ∧ g.o ≤ 3) ∧ 0 ≤ g.s ∧ g.s < g.e ∧ g.e ≤ 4000 ∧ (0 ≤ g.k ∧ g.k ≤ 127) ∧ (1 ≤ g.u ∧ g.u ≤ 127) := by
  simp only [gateB, Bool.and_eq_true, decide_eq_true_eq, inB_iff]
  constructor <;> (intro h; simp only [and_assoc] at h ⊢; exact h)
theorem GoodG.later {out : List Gate} {x y : Int} (h : GoodG out x) (hxy : x ≤ y) : GoodG out y := ⟨h.gate, fun i hi => by have := h.le i hi; omega, h.sort, h.play⟩
theorem GoodG.snoc {out : List Gate} {g : Gate} (h : GoodG out g.s) (hg : gateB g = true) (hp : ∀ i, i < out.length → (el out i).o = g.o → (el out i).e ≤ g.s) : GoodG (out ++ [g]) g.s := by
  have e1 : el (out ++ [g]) out.length = g := by rw [el_append_right (Nat.le_refl _), Nat.sub_self]; rfl
  have e2 : ∀ i, i < out.length → el (out ++ [g]) i = el out i := fun i hi => el_append_left hi
  have hl : (out ++ [g]).length = out.length + 1 := by simp
  have sp : ∀ i, i < out.length + 1 → i < out.length ∨ i = out.length := fun i hi => by omega
  refine ⟨fun i hi => ?_, fun i hi => ?_, fun i j hij hj => ?_, fun i j hij hj ho => ?_⟩
  · rcases sp i (by omega) with h' | rfl
    · rw [e2 i h']; exact h.gate i h'
    · rw [e1]; exact hg
  · rcases sp i (by omega) with h' | rfl
    · rw [e2 i h']; exact h.le i h'
    · rw [e1]; omega
  · rw [e2 i (by omega)]
    rcases sp j (by omega) with h' | rfl
    · rw [e2 j h']; exact h.sort i j hij h'
    · rw [e1]; exact h.le i (by omega)
  · rw [e2 i (by omega)] at ho ⊢
    rcases sp j (by omega) with h' | rfl
    · rw [e2 j h'] at ho ⊢; exact h.play i j hij h' ho
    · rw [e1] at ho ⊢; exact hp i (by omega) ho
theorem el_erase {l : List Gate} {k i : Nat} (hk : k < l.length) : el (l.eraseIdx k) i = if i < k then el l i else el l (i + 1) := by
  unfold el
  simp only [List.getD_eq_getElem?_getD, List.getElem?_eraseIdx]
  split <;> rfl
theorem GoodG.erase {out : List Gate} {x : Int} {k : Nat} (h : GoodG out x) (hk : k < out.length) : GoodG (out.eraseIdx k) x := by
  have hl : (out.eraseIdx k).length = out.length - 1 := by rw [List.length_eraseIdx, if_pos hk]
  have e : ∀ i, i < out.length - 1 → ∃ q, q < out.length ∧ el (out.eraseIdx k) i = el out q ∧ q = (if i < k then i else i + 1) := fun i hi => by
    refine ⟨if i < k then i else i + 1, by split <;> omega, ?_, rfl⟩
    rw [el_erase hk]
    split <;> rfl
  refine ⟨fun i hi => ?_, fun i hi => ?_, fun i j hij hj => ?_, fun i j hij hj ho => ?_⟩
  · obtain ⟨q, q1, q2, q3⟩ := e i (by omega); rw [q2]; exact h.gate q q1
  · obtain ⟨q, q1, q2, q3⟩ := e i (by omega); rw [q2]; exact h.le q q1
  · obtain ⟨q, q1, q2, q3⟩ := e i (by omega)
    obtain ⟨r, r1, r2, r3⟩ := e j (by omega)
    rw [q2, r2]
    exact h.sort q r (by rw [q3, r3]; split <;> split <;> omega) r1
  · obtain ⟨q, q1, q2, q3⟩ := e i (by omega)
    obtain ⟨r, r1, r2, r3⟩ := e j (by omega)
    rw [q2, r2] at ho ⊢
    exact h.play q r (by rw [q3, r3]; split <;> split <;> omega) r1 ho
theorem GoodG.cut {out : List Gate} {x : Int} {k : Nat} (h : GoodG out x) (hk : k < out.length) (h1 : (el out k).s < x) (h2 : x < (el out k).e) : GoodG (out.set k { el out k with e := x }) x := by
  have hl : (out.set k { el out k with e := x }).length = out.length := by simp
  have e : ∀ i, (el (out.set k { el out k with e := x }) i).s = (el out i).s ∧ (el (out.set k { el out k with e := x }) i).o = (el out i).o ∧ (el (out.set k { el out k with e := x }) i).e ≤ (el out i).e := fun i => by
    by_cases e : k = i
    · subst e; rw [el_set_eq hk]; exact ⟨rfl, rfl, by simp only; omega⟩
    · rw [el_set_ne e]; exact ⟨rfl, rfl, Int.le_refl _⟩
  refine ⟨fun i hi => ?_, fun i hi => ?_, fun i j hij hj => ?_, fun i j hij hj ho => ?_⟩
  · by_cases e : k = i
    · subst e
      rw [el_set_eq hk]
      have := gateB_iff.1 (h.gate k hk)
      exact gateB_iff.2 ⟨this.1, this.2.1, by simp only; omega, by simp only; omega, this.2.2.2.2⟩
    · rw [el_set_ne e]; exact h.gate i (by omega)
  · rw [(e i).1]; exact h.le i (by omega)
  · rw [(e i).1, (e j).1]; exact h.sort i j hij (by omega)
  · rw [(e i).2.1, (e j).2.1] at ho
    rw [(e j).1]
    have := h.play i j hij (by omega) ho
    have := (e i).2.2
    omega
theorem scanS_why (out : List Gate) (s : Int) : ∀ v, ((scanS out s v).1 < 0 → ∀ u : Nat, u < v → s < (el out (lastI u out).toNat).e) ∧ (0 ≤ (scanS out s v).1 → lastI (scanS out s v).1 out < 0 ∨ (el out (lastI (scanS out s v).1 out).toNat).e ≤ s)
  | 0 => by simp [scanS]
  | v + 1 => by
    obtain ⟨h1, h2⟩ := scanS_why out s v
    simp only [scanS]
    refine ⟨fun h u hu => ?_, fun h => ?_⟩
    · split at h
      · omega
      · rename_i hc
        rcases Nat.lt_or_ge u v with h' | h'
        · exact h1 h u h'
        · obtain rfl : u = v := by omega
          by_cases hl : s < (el out (lastI u out).toNat).e
          · exact hl
          · exact absurd ⟨h, .inr (by omega)⟩ hc
    · split at h
      · rename_i hc
        rw [if_pos hc]
        exact hc.2
      · rename_i hc
        rw [if_neg hc]
        exact h2 h
theorem GoodG.step {out : List Gate} {x sh : Int} {V : Nat} {g : Gate} (h : GoodG out x) (hx : x ≤ g.s) (hg : gateB g = true) (hV : 1 ≤ V ∧ V ≤ 4) : GoodG (stepS V (out, sh) g).1 g.s := by
  have h' := h.later hx
  have hgb := gateB_iff.1 hg
  obtain ⟨s1, s2, s3, s4⟩ := scanS_bd out g.s V
  have hgo : ∀ o : Int, 0 ≤ o → o ≤ 3 → gateB { g with o := o } = true := fun o a b => gateB_iff.2 ⟨⟨a, b⟩, hgb.2⟩
  -- the gates of a voice end where its last one begins, or before
  have volast : ∀ (w : Int) (k : Nat), lastI w out = k → ∀ i, i < out.length → (el out i).o = w → i = k ∨ (i < k ∧ k < out.length ∧ (el out i).e ≤ (el out k).s) := by
    intro w k hk i hi ho
    rcases lastI_spec w out with ⟨a1, a2⟩ | ⟨j, a1, a2, a3, a4⟩
    · exact absurd ho (a2 i hi)
    · obtain rfl : j = k := by rw [hk] at a1; omega
      rcases Nat.lt_trichotomy i j with h1 | h1 | h1
      · exact .inr ⟨h1, a2, h'.play i j h1 a2 (by rw [ho, a3])⟩
      · exact .inl h1
      · exact absurd ho (a4 i h1 hi)
  unfold stepS
  by_cases hf : (scanS out g.s V).1 < 0
  · rw [if_pos hf]
    simp only
    obtain ⟨k, hk, hkl, hko⟩ : ∃ k : Nat, lastI (scanS out g.s V).2 out = k ∧ k < out.length ∧ (el out k).o = (scanS out g.s V).2 := by
      rcases lastI_spec (scanS out g.s V).2 out with ⟨a1, a2⟩ | ⟨j, a1, a2, a3, a4⟩
      · have := s4 hf (scanS out g.s V).2.toNat (by omega)
        rw [show (((scanS out g.s V).2.toNat : Nat) : Int) = (scanS out g.s V).2 by omega, a1] at this
        omega
      · exact ⟨j, a1, a2, a3⟩
    rw [hk, show (k : Int).toNat = k by omega]
    have hvl := volast _ k hk
    by_cases hs : (el out k).s = g.s
    · rw [if_pos hs]
      refine (h'.erase hkl).snoc (g := { g with o := (scanS out g.s V).2 }) (hgo _ (by omega) (by omega)) fun i hi ho => ?_
      rw [el_erase hkl] at ho ⊢
      rw [List.length_eraseIdx, if_pos hkl] at hi
      split at ho
      · rename_i hik
        rw [if_pos hik]
        rcases hvl i (by omega) ho with h1 | ⟨-, -, h1⟩
        · omega
        · simp only; omega
      · rename_i hik
        rcases hvl (i + 1) (by omega) ho with h1 | ⟨h1, -, -⟩ <;> omega
    · rw [if_neg hs]
      have hle := h'.le k hkl
      -- the last gate goes on
      have hend : g.s < (el out k).e := by
        have := (scanS_why out g.s V).1 hf (scanS out g.s V).2.toNat (by omega)
        rw [show (((scanS out g.s V).2.toNat : Nat) : Int) = (scanS out g.s V).2 by omega, hk, show (k : Int).toNat = k by omega] at this
        exact this
      refine (h'.cut hkl (by omega) hend).snoc (g := { g with o := (scanS out g.s V).2 }) (hgo _ (by omega) (by omega)) fun i hi ho => ?_
      by_cases e : k = i
      · subst e; rw [el_set_eq hkl]; exact Int.le_refl _
      · rw [el_set_ne e] at ho ⊢
        rw [List.length_set] at hi
        rcases hvl i hi ho with h1 | ⟨-, -, h1⟩
        · omega
        · simp only; omega
  · rw [if_neg hf]
    simp only
    refine h'.snoc (g := { g with o := (scanS out g.s V).1 }) (hgo _ (by omega) (by omega)) fun i hi ho => ?_
    have hw := (scanS_why out g.s V).2 (by omega)
    rcases lastI_spec (scanS out g.s V).1 out with ⟨a1, a2⟩ | ⟨j, a1, a2, a3, a4⟩
    · exact absurd ho (a2 i hi)
    · rw [a1, show (j : Int).toNat = j by omega] at hw
      have hj : (el out j).e ≤ g.s := by omega
      have hjs := gateB_iff.1 (h'.gate j a2)
      rcases volast _ j a1 i hi ho with h1 | ⟨-, -, h1⟩
      · rw [h1]; exact hj
      · simp only; omega
end Go.Proofs.YtimijeeihicohaaGreat

namespace Go.Proofs.YtimijeeihicohaaGreat
open Go.RowKit
set_option linter.unusedVariables false
set_option linter.unusedSimpArgs false
theorem GoodG.ok {out : List Gate} {x : Int} (h : GoodG out x) (hl : out.length ≤ 60) : okG out = true := by
  rw [okG_of fun i hi => ⟨h.gate i hi, fun h0 => h.sort (i - 1) i (by omega) hi⟩]
  exact decide_eq_true hl
theorem GoodG.playB {out : List Gate} {x : Int} (h : GoodG out x) : playB out = true :=
  decide_eq_true fun i hi k hk hc => by have := h.play k i hk hi hc.1; omega
theorem GoodG.nil (x : Int) : GoodG [] x := ⟨fun i hi => by simp at hi, fun i hi => by simp at hi, fun i j _ hj => by simp at hj, fun i j _ hj => by simp at hj⟩
theorem GoodG.alloc {V : Nat} (hV : 1 ≤ V ∧ V ≤ 4) : ∀ (l : List Gate) (out : List Gate) (sh x : Int), GoodG out x → (∀ i, i < l.length → gateB (el l i) = true ∧ x ≤ (el l i).s) → (∀ i, 0 < i → i < l.length → (el l (i - 1)).s ≤ (el l i).s) →
    ∃ y, GoodG (l.foldl (stepS V) (out, sh)).1 y
  | [], out, sh, x, h, _, _ => ⟨x, h⟩
  | g :: l, out, sh, x, h, h1, h2 => by
    have hg := h1 0 (by simp)
    have hs := h.step (sh := sh) (V := V) hg.2 hg.1 hV
    rw [el_zero] at hs
    have up : ∀ i, i < l.length → g.s ≤ (el l i).s := by
      intro i
      induction i with
      | zero => intro hi; have := h2 1 (by omega) (by simpa using hi); rw [el_succ, show (1 - 1 : Nat) = 0 from rfl, el_zero] at this; exact this
      | succ i ih =>
        intro hi
        have := h2 (i + 2) (by omega) (by simp only [List.length_cons]; omega)
        rw [el_succ, show (i + 2 - 1 : Nat) = i + 1 from rfl, el_succ] at this
        exact Int.le_trans (ih (by omega)) this
    rw [List.foldl_cons]
    obtain ⟨o, s⟩ : ∃ o s, stepS V (out, sh) g = (o, s) := ⟨_, _, rfl⟩
    obtain ⟨s, e⟩ := s
    rw [e] at hs ⊢
    refine GoodG.alloc hV l o s g.s hs (fun i hi => ⟨by have := (h1 (i + 1) (by simpa using hi)).1; rwa [el_succ] at this, up i hi⟩) fun i h0 hi => ?_
    have := h2 (i + 1) (by omega) (by simpa using hi)
    rw [el_succ, show i + 1 - 1 = (i - 1) + 1 by omega, el_succ] at this
    exact this
end Go.Proofs.YtimijeeihicohaaGreat
