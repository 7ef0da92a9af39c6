/- Gates: the program's allocation, its parts. No conditions. -/
import Derived.Test.YtdcfofaojalilaaG8
namespace Go.Proofs.Ytdcfofaojalilaa
open Go.RowKit
set_option linter.unusedVariables false
set_option linter.unusedSimpArgs false
set_option maxRecDepth 100000
attribute [local simp] List.getElem?_cons_zero
attribute [local irreducible] awCond awCall awLoop awDraw ow retQ retC resQ Keeps
theorem IndexFuncI_a {M : Mem} {A : Option Addr} {n c : Nat} {l : List Int} {g : FuncId} {us vs : Array Value} (p : Int → Bool) (h : Sl intR M A n l) (hn : n ≤ 1099511627776)
    (hp : ∀ (M' : Mem) a, Keeps M M' → a ∈ l → Det Try.prog M'.length g (us.toList ++ [iv a] ++ vs.toList) M' (.bool (p a)) M') : Det Try.prog M.length 68 [.slice A n c, .func (.func g) us vs] M (iv (fstI p l)) M := by
  have hl := h.1
  first | (refine det_fn Try.func68 rfl Try.ntmps68 Try.results68 rfl rfl rfl (by simp) ?_) | (refine det_fnC Try.func68 rfl Try.ntmps68 Try.results68 rfl rfl (by simp) ?_)
  simp
  refine awLoop_T (fun m T M' => ∃ k : Nat, k + m = n ∧ M = M' ∧ look T 8 = some (iv k) ∧ look T 7 = some (iv n) ∧ look T 0 = some (.slice A n c) ∧ look T 1 = some (.func (.func g) us vs) ∧ ∀ i, i < k → p (el l i) = false) n ⟨0, by omega, rfl, by simp, by simp, by simp, by simp, by omega⟩ ?_
  rintro m T M' ⟨k, hm, rfl, h8, h7, h0, h1, hk⟩
  by_cases hlt : k < n
  · obtain ⟨id, off, rfl, he, hc⟩ := h.at_ hlt
    have hc0 : cellAt M id (off + k * 1) = some (iv (el l k)) := hc 0 _ rfl
    simp only [Nat.mul_one] at hc0
    simp (disch := omega) [h8, h7, h0, h1, hlt, wrap_in, he, hc0]
    refine awCall_det' (hp M (el l k) (Keeps.refl M) (el_mem (by omega))) (Nat.le_refl _) ?_
    try simp
    refine awCond_split ?_ ?_ <;> intro hq <;> try simp at hq
    · simp (disch := omega) [h8]
      exact ⟨(fstI_some (by omega) hq hk).symm, Keeps.refl _⟩
    · simp (disch := omega) [h8, h7, h0, h1, wrap_in]
      refine lpI (m - 1) (by omega) ?_
      refine ⟨k + 1, by omega, rfl, by simp, by simp [h7], by simp [h0], by simp [h1], fun i hi => ?_⟩
      by_cases hik : i < k
      · exact hk i hik
      · obtain rfl : i = k := by omega
        exact hq
  · obtain rfl : k = n := by omega
    simp [h8, h7, h0, h1]
    exact ⟨(fstI_none (by rw [hl]; exact hk)).symm, Keeps.refl _⟩
/-- The program's allocation in memory. -/
structure AlM (B : Nat) (M : Mem) (aid rid lid : Nat) (u : Value) (gs : List Gate) (rm : List Bool) (ls : List Int) (sh : Int) : Prop where
  arow : M[aid]? = some (.live ⟨[u, .slice (some ⟨rid, 0, none⟩) rm.length rm.length, .slice (some ⟨lid, 0, none⟩) ls.length ls.length, iv sh], true, true, 71, 4⟩)
  rrow : M[rid]? = some (.live ⟨rm.map .bool, true, true, 4, 1⟩)
  lrow : M[lid]? = some (.live ⟨ls.map iv, true, true, 3, 1⟩)
  grow : ∃ A c, u = .slice A gs.length c ∧ (0 < gs.length → ∃ gid t, A = some ⟨gid, 0, none⟩ ∧ B ≤ gid ∧ gid < rid ∧ M[gid]? = some (.live ⟨cellsL gateR gs, true, t, 45, 5⟩))
  ids : B ≤ rid ∧ rid < lid ∧ lid < aid
theorem AlM.keeps {M M' : Mem} {B aid rid lid : Nat} {u : Value} {gs : List Gate} {rm : List Bool} {ls : List Int} {sh : Int} (h : AlM B M aid rid lid u gs rm ls sh) (hk : Keeps M M') : AlM B M' aid rid lid u gs rm ls sh := by
  obtain ⟨A, c, e, hg⟩ := h.grow
  exact ⟨hk.get h.arow, hk.get h.rrow, hk.get h.lrow, ⟨A, c, e, fun h0 => by
    obtain ⟨gid, t, e1, e2, e3, e4⟩ := hg h0
    exact ⟨gid, t, e1, e2, e3, hk.get e4⟩⟩, h.ids⟩
theorem AlM.gsl {M : Mem} {B aid rid lid : Nat} {u : Value} {gs : List Gate} {rm : List Bool} {ls : List Int} {sh : Int} (h : AlM B M aid rid lid u gs rm ls sh) : ∃ A c, u = .slice A gs.length c ∧ Sl gateR M A gs.length gs := by
  obtain ⟨A, c, e, hg⟩ := h.grow
  refine ⟨A, c, e, rfl, fun h0 => ?_⟩
  obtain ⟨gid, t, e1, _, _, e3⟩ := hg h0
  exact ⟨gid, 0, e1, by simp [rowEsz, e3], fun j x hx => by simp [cellAt, e3, hx]⟩
theorem AlM.lsl {M : Mem} {B aid rid lid : Nat} {u : Value} {gs : List Gate} {rm : List Bool} {ls : List Int} {sh : Int} (h : AlM B M aid rid lid u gs rm ls sh) : Sl intR M (some ⟨lid, 0, none⟩) ls.length ls := by
  have e : cellsL intR ls = ls.map iv := by
    have : ∀ l : List Int, cellsL intR l = l.map iv := by
      intro l
      induction l with
      | nil => rfl
      | cons a l ih => rw [cellsL_cons, ih]; rfl
    exact this ls
  exact ⟨rfl, fun _ => ⟨lid, 0, rfl, by simp [rowEsz, h.lrow], fun j x hx => by rw [e] at hx; simp [cellAt, h.lrow]; simpa using hx⟩⟩
def freeB (gs : List Gate) (s : Int) (i : Int) : Bool := decide (i < 0) || decide ((el gs i.toNat).e ≤ s)
theorem free1_a {M : Mem} {B aid rid lid q1 q2 : Nat} {u : Value} {gs : List Gate} {rm : List Bool} {ls : List Int} {sh : Int} (s i : Int) (h : AlM B M aid rid lid u gs rm ls sh) (hi : i < 0 ∨ i.toNat < gs.length) (hgl : gs.length ≤ 60) (h1 : cellAt M q1 0 = some (.pointer (some ⟨aid, 0, none⟩))) (h2 : cellAt M q2 0 = some (iv s)) :
    Det Try.prog M.length 69 [iv i, .pointer (some ⟨q1, 0, none⟩), .pointer (some ⟨q2, 0, none⟩)] M (.bool (freeB gs s i)) M := by
  obtain ⟨A, c, rfl, hsl⟩ := h.gsl
  have a0 : cellAt M aid 0 = some (.slice A gs.length c) := by simp [cellAt, h.arow]
  first | (refine det_fn Try.func69 rfl Try.ntmps69 Try.results69 rfl rfl rfl (by simp) ?_) | (refine det_fnC Try.func69 rfl Try.ntmps69 Try.results69 rfl rfl (by simp) ?_)
  simp
  refine awDraw_E 12 [[],[0],[1,0],[2,1,0],[3,2,1,0],[4,3,2,1,0],[5,4,3,2,1,0],[2,1,0],[6,5,4,3,2,1,0,7],[8,6,5,4,3,2,1,0,7],[9,8,6,5,4,3,2,1,0,7],[2,1,0],[10,9,8,6,5,4,3,2,1,0,7,11],[2,1,0,12,10,9,8,6,5,4,3,7,11],[13,2,1,0,12,10,9,8,6,5,4,3,7,11]] (by kernel_rfl) (by kernel_rfl) ?_
  by_cases hi0 : i < 0
  · simp (disch := omega) [hi0, freeB, Keeps.refl]
  · obtain ⟨j, rfl⟩ := Int.eq_ofNat_of_zero_le (show 0 ≤ i by omega)
    have hj : j < gs.length := by omega
    obtain ⟨gid, goff, rfl, hge, hgc⟩ := hsl.at_ hj
    obtain ⟨c0, c1, c2, c3, c4⟩ := gate_cells hgc
    have hj0 : ¬ ((j : Int) < 0) := by omega
    simp (disch := omega) [hj0, h1, h2, a0, hge, c2]
    exact ⟨by omega, by simp [freeB, hj0], Keeps.refl _⟩
theorem free_a {M : Mem} {B aid rid lid : Nat} {u : Value} {gs : List Gate} {rm : List Bool} {ls : List Int} {sh : Int} (s : Int) (h : AlM B M aid rid lid u gs rm ls sh) (hls : ∀ i, i ∈ ls → i < 0 ∨ i.toNat < gs.length) (hgl : gs.length ≤ 60) (hll : ls.length ≤ 60) :
    Det Try.prog M.length 64 [.pointer (some ⟨aid, 0, none⟩), iv s] M (iv (fstI (freeB gs s) ls)) M := by
  have a2 : cellAt M aid 2 = some (.slice (some ⟨lid, 0, none⟩) ls.length ls.length) := by simp [cellAt, h.arow]
  first | (refine det_fn Try.func64 rfl Try.ntmps64 Try.results64 rfl rfl rfl (by simp) ?_) | (refine det_fnC Try.func64 rfl Try.ntmps64 Try.results64 rfl rfl (by simp) ?_)
  simp (disch := omega) [a2, cellAt_app a2]
  refine awCall_det' (IndexFuncI_a (freeB gs s) ((h.keeps (keeps_app _)).lsl) (by omega) fun M' a hK ha => free1_a s a ((h.keeps (keeps_app _)).keeps hK) (hls a ha) hgl (cellAt_keeps hK (by simp)) (cellAt_keeps hK (by simp))) (by simp) ?_
  simp [keeps_app]
theorem put_at {b : Nat} {M : Mem} {id p : Nat} {v : Value} {cs : List Value} {t : Bool} {e : TypeId} {z : Nat} (hr : M[id]? = some (.live ⟨cs, true, t, e, z⟩)) (hb : b ≤ id) (hp : p < cs.length) (h1 : oneV v = true) :
    putCells b M id p [v] = some (M.set id (.live ⟨cs.set p v, true, t, e, z⟩)) := by
  have := put_set (b := b) (M := M) (id := id) (p := p) (v := v) (cs := cs) (t := t) (e := e) (z := z) (List.getElem?_eq_some_iff.1 hr).1 hb hp h1
  rw [set_self hr] at this
  exact this
/-- Of the first v voices, the one whose last gate began first. -/
def oldV (gs : List Gate) (ls : List Int) : Nat → Nat
  | 0 => 0
  | v + 1 => if (el gs (el ls v).toNat).s < (el gs (el ls (oldV gs ls v)).toNat).s then v else oldV gs ls v
theorem oldV_lt (gs : List Gate) (ls : List Int) : ∀ v, oldV gs ls v < v ∨ (v = 0 ∧ oldV gs ls v = 0)
  | 0 => .inr ⟨rfl, rfl⟩
  | v + 1 => by
    rcases oldV_lt gs ls v with h | ⟨h, h'⟩ <;> rw [oldV] <;> split <;> omega
theorem steal_a {B : Nat} {M : Mem} {b aid rid lid : Nat} {u : Value} {gs : List Gate} {rm : List Bool} {ls : List Int} {sh : Int} (s : Int) (h : AlM B M aid rid lid u gs rm ls sh) (hls : ∀ v, v < ls.length → 0 ≤ el ls v ∧ (el ls v).toNat < gs.length) (hgl : gs.length ≤ 60) (hll : 0 < ls.length ∧ ls.length ≤ 60) (hrl : rm.length = gs.length) (hb : b ≤ B) (hsh : 0 ≤ sh ∧ sh ≤ 60) :
    Ctr Try.prog b 65 [.pointer (some ⟨aid, 0, none⟩), iv s] M fun r M' => r = iv (oldV gs ls ls.length) ∧ AlM B M' aid rid lid u (gs.set (el ls (oldV gs ls ls.length)).toNat { el gs (el ls (oldV gs ls ls.length)).toNat with e := s }) (rm.set (el ls (oldV gs ls ls.length)).toNat (decide ((el gs (el ls (oldV gs ls ls.length)).toNat).s = s))) ls (sh + 1) ∧ Turn B (aid + 1) M M' := by
  obtain ⟨A, c, rfl, hsl⟩ := h.gsl
  have hlsl := h.lsl
  have a0 : cellAt M aid 0 = some (.slice A gs.length c) := by simp [cellAt, h.arow]
  have a2 : cellAt M aid 2 = some (.slice (some ⟨lid, 0, none⟩) ls.length ls.length) := by simp [cellAt, h.arow]
  have a3 : cellAt M aid 3 = some (iv sh) := by simp [cellAt, h.arow]
  have hle : rowEsz M lid = some 1 := by simp [rowEsz, h.lrow]
  have lcell : ∀ k, k < ls.length → cellAt M lid k = some (iv (el ls k)) := by
    intro k hk
    obtain ⟨_, _, e, _, hc⟩ := hlsl.at_ hk
    cases e
    have := hc 0 _ rfl
    simpa using this
  first | (refine ctr_fn Try.func65 rfl Try.ntmps65 Try.results65 rfl rfl (by simp) ?_) | (refine ctr_fnC Try.func65 rfl Try.ntmps65 Try.results65 rfl (by simp) ?_)
  simp (disch := omega) [a2]
  refine awLoop_T (fun m T M' => ∃ k : Nat, k + m = ls.length ∧ M' = M ∧ look T 14 = some (iv k) ∧ look T 13 = some (iv ls.length) ∧ look T 12 = some (.slice (some ⟨lid, 0, none⟩) ls.length ls.length) ∧ look T 5 = some (iv (oldV gs ls k)) ∧ look T 0 = some (.pointer (some ⟨aid, 0, none⟩)) ∧ look T 1 = some (iv s)) ls.length ⟨0, by omega, rfl, by simp, by simp, by simp, by simp [oldV], by simp, by simp⟩ ?_
  rintro m T M' ⟨k, hm, hMM, h14, h13, h12, h5, h0, h1⟩
  subst hMM
  have hmk := oldV_lt gs ls k
  by_cases hlt : k < ls.length
  · have hlt' : (k : Int) < ls.length := by omega
    obtain ⟨p1, p2⟩ := hls k hlt
    obtain ⟨p3, p4⟩ := hls (oldV gs ls k) (by omega)
    obtain ⟨gid, goff, rfl, hge, hgc⟩ := hsl.at_ p2
    obtain ⟨_, _, ee, _, hgc2⟩ := hsl.at_ p4
    cases ee
    obtain ⟨c0, c1, c2, c3, c4⟩ := gate_cells hgc
    obtain ⟨d0, d1, d2, d3, d4⟩ := gate_cells hgc2
    have l1 := lcell k hlt
    have l2 := lcell (oldV gs ls k) (by omega)
    have n1 : el ls k < gs.length := by omega
    have n2 : el ls (oldV gs ls k) < gs.length := by omega
    simp (disch := omega) [h14, h13, h12, hlt', hle, l1, wrap_in]
    refine awDraw_E 22 [[],[0],[1,0],[2,1,0],[],[3,2,1,0,4],[5,3,2,1,0,4],[6,5,3,2,1,0,4],[],[8],[9,8],[10,9,8],[],[12],[13,12],[14,13,12],[],[15,14,13,12,16],[17,15,14,13,12,16],[11,10,9,8,18,17,15,14,13,12,16],[19,11,10,9,8,18,17,15,14,13,12,16],[20,19,11,10,9,8,18,17,15,14,13,12,16],[7,6,5,3,2,1,0,4,21,20,19,11,10,9,8,18,17,15,14,13,12,16]] (by kernel_rfl) (by kernel_rfl) ?_
    have n3 : ((oldV gs ls k : Nat) : Int) < ls.length := by omega
    by_cases hc0 : (el gs (el ls k).toNat).s < (el gs (el ls (oldV gs ls k)).toNat).s
    · simp (disch := omega) [h0, h5, a0, a2, hle, hge, p1, p3, n1, n2, n3, l2, c1, d1, hc0, h14, wrap_in]
      refine lpI (m - 1) (by omega) ?_
      exact ⟨k + 1, by omega, rfl, by simp, by simp [h13], by simp [h12], by simp [oldV, hc0], by simp [h0], by simp [h1]⟩
    · simp (disch := omega) [h0, h5, a0, a2, hle, hge, p1, p3, n1, n2, n3, l2, c1, d1, hc0, h14, wrap_in]
      refine lpI (m - 1) (by omega) ?_
      exact ⟨k + 1, by omega, rfl, by simp, by simp [h13], by simp [h12], by simp [oldV, hc0, h5], by simp [h0], by simp [h1]⟩
  · have hke : k = ls.length := by omega
    rw [hke] at h14 h5
    obtain ⟨w, hw⟩ : ∃ w, w = oldV gs ls ls.length := ⟨_, rfl⟩
    have hwl : w < ls.length := by rcases oldV_lt gs ls ls.length with h' | h' <;> omega
    rw [← hw] at h5 ⊢
    obtain ⟨p1, p2⟩ := hls w hwl
    obtain ⟨j, hj⟩ := Int.eq_ofNat_of_zero_le p1
    have l1 := lcell w hwl
    rw [hj] at l1 p2 ⊢
    rw [show (j : Int).toNat = j by omega] at p2 ⊢
    obtain ⟨A2, c2, eA, hg⟩ := h.grow
    injection eA with e1 e2 e3
    subst e1; subst e3
    obtain ⟨gid, tt, rfl, hgB, hgr, hgrow⟩ := hg (by omega)
    obtain ⟨i1, i2, i3⟩ := h.ids
    have hput1 := put_at (b := b) (p := 3) (v := iv (sh + 1)) h.arow (by omega) (by simp) rfl
    obtain ⟨M1, hM1⟩ : ∃ M1 : Mem, M1 = M'.set aid (.live ⟨[.slice (some ⟨gid, 0, none⟩) gs.length c, .slice (some ⟨rid, 0, none⟩) rm.length rm.length, .slice (some ⟨lid, 0, none⟩) ls.length ls.length, iv (sh + 1)], true, true, 71, 4⟩) := ⟨_, rfl⟩
    have hput1' : putCells b M' aid 3 [iv (sh + 1)] = some M1 := by rw [hput1, hM1]; rfl
    have al := (List.getElem?_eq_some_iff.1 h.arow).1
    have k1 : M1[aid]? = some (.live ⟨[.slice (some ⟨gid, 0, none⟩) gs.length c, .slice (some ⟨rid, 0, none⟩) rm.length rm.length, .slice (some ⟨lid, 0, none⟩) ls.length ls.length, iv (sh + 1)], true, true, 71, 4⟩) := by rw [hM1, List.getElem?_set_self al]
    have k2 : M1[gid]? = some (.live ⟨cellsL gateR gs, true, tt, 45, 5⟩) := by rw [hM1, List.getElem?_set_ne (by omega)]; exact hgrow
    have k3 : M1[rid]? = some (.live ⟨rm.map .bool, true, true, 4, 1⟩) := by rw [hM1, List.getElem?_set_ne (by omega)]; exact h.rrow
    have k4 : M1[lid]? = some (.live ⟨ls.map iv, true, true, 3, 1⟩) := by rw [hM1, List.getElem?_set_ne (by omega)]; exact h.lrow
    have kT : Turn B (aid + 1) M' M1 := ⟨by rw [hM1]; simp, fun i x hx hi => by rw [hM1, List.getElem?_set_ne (by omega)]; exact hx⟩
    clear hM1
    have hput2 := put_at (b := b) (p := j * 5 + 2) (v := iv s) k2 (by omega) (by rw [cellsL_len]; omega) rfl
    rw [cells_set_e p2] at hput2
    obtain ⟨M2, hM2⟩ : ∃ M2 : Mem, M2 = M1.set gid (.live ⟨cellsL gateR (gs.set j { el gs j with e := s }), true, tt, 45, 5⟩) := ⟨_, rfl⟩
    rw [← hM2] at hput2
    have gl := (List.getElem?_eq_some_iff.1 k2).1
    have m1 : M2[aid]? = some (.live ⟨[.slice (some ⟨gid, 0, none⟩) gs.length c, .slice (some ⟨rid, 0, none⟩) rm.length rm.length, .slice (some ⟨lid, 0, none⟩) ls.length ls.length, iv (sh + 1)], true, true, 71, 4⟩) := by rw [hM2, List.getElem?_set_ne (by omega)]; exact k1
    have m2 : M2[gid]? = some (.live ⟨cellsL gateR (gs.set j { el gs j with e := s }), true, tt, 45, 5⟩) := by rw [hM2, List.getElem?_set_self gl]
    have m3 : M2[rid]? = some (.live ⟨rm.map .bool, true, true, 4, 1⟩) := by rw [hM2, List.getElem?_set_ne (by omega)]; exact k3
    have m4 : M2[lid]? = some (.live ⟨ls.map iv, true, true, 3, 1⟩) := by rw [hM2, List.getElem?_set_ne (by omega)]; exact k4
    have mT : Turn B (aid + 1) M1 M2 := ⟨by rw [hM2]; simp, fun i x hx hi => by rw [hM2, List.getElem?_set_ne (by omega)]; exact hx⟩
    clear hM2
    have hput3 := put_at (b := b) (p := j) (v := .bool (decide ((el gs j).s = s))) m3 (by omega) (by simp; omega) rfl
    obtain ⟨M3, hM3⟩ : ∃ M3 : Mem, M3 = M2.set rid (.live ⟨(rm.map .bool).set j (.bool (decide ((el gs j).s = s))), true, true, 4, 1⟩) := ⟨_, rfl⟩
    rw [← hM3] at hput3
    have rl := (List.getElem?_eq_some_iff.1 m3).1
    have r1 : M3[aid]? = some (.live ⟨[.slice (some ⟨gid, 0, none⟩) gs.length c, .slice (some ⟨rid, 0, none⟩) rm.length rm.length, .slice (some ⟨lid, 0, none⟩) ls.length ls.length, iv (sh + 1)], true, true, 71, 4⟩) := by rw [hM3, List.getElem?_set_ne (by omega)]; exact m1
    have r2 : M3[gid]? = some (.live ⟨cellsL gateR (gs.set j { el gs j with e := s }), true, tt, 45, 5⟩) := by rw [hM3, List.getElem?_set_ne (by omega)]; exact m2
    have r3 : M3[rid]? = some (.live ⟨(rm.set j (decide ((el gs j).s = s))).map .bool, true, true, 4, 1⟩) := by rw [hM3, List.getElem?_set_self rl, List.map_set]
    have r4 : M3[lid]? = some (.live ⟨ls.map iv, true, true, 3, 1⟩) := by rw [hM3, List.getElem?_set_ne (by omega)]; exact m4
    have rT : Turn B (aid + 1) M2 M3 := ⟨by rw [hM3]; simp, fun i x hx hi => by rw [hM3, List.getElem?_set_ne (by omega)]; exact hx⟩
    clear hM3
    have z0 : cellAt M1 aid 0 = some (.slice (some ⟨gid, 0, none⟩) gs.length c) := by simp [cellAt, k1]
    have z1 : rowEsz M1 gid = some 5 := by simp [rowEsz, k2]
    have z2 : cellAt M2 aid 0 = some (.slice (some ⟨gid, 0, none⟩) gs.length c) := by simp [cellAt, m1]
    have z3 : cellAt M2 aid 1 = some (.slice (some ⟨rid, 0, none⟩) rm.length rm.length) := by simp [cellAt, m1]
    have z4 : rowEsz M2 gid = some 5 := by simp [rowEsz, m2]
    have z5 : rowEsz M2 rid = some 1 := by simp [rowEsz, m3]
    have z6 : cellAt M2 gid (j * 5 + 1) = some (iv (el gs j).s) := by
      have hsl2 : Sl gateR M2 (some ⟨gid, 0, none⟩) gs.length (gs.set j { el gs j with e := s }) := ⟨by simp, fun _ => ⟨gid, 0, rfl, z4, fun q x hx => by simp [cellAt, m2, hx]⟩⟩
      obtain ⟨_, _, ee, _, hcc⟩ := hsl2.at_ p2
      cases ee
      rw [el_set_self p2] at hcc
      have := hcc 1 _ rfl
      simpa using this
    have n1 : (j : Int) < gs.length := by omega
    have n2 : (j : Int) < rm.length := by omega
    have n3 : (w : Int) < ls.length := by omega
    have hsi : aid < M'.length := al
    simp (disch := omega) [h14, h13, h0, h1, h5, a2, a3, hle, l1, n1, n2, n3, z0, z1, z2, z3, z4, z5, z6, hput1', hput2, hput3, wrap_in]
    refine awDraw_E 15 [[],[0],[1,0],[2,1,0],[],[],[5],[6,5],[7,6,5],[],[8,7,6,5,9],[10,8,7,6,5,9],[11,10,8,7,6,5,9],[],[12,11,10,8,7,6,5,9,13],[3,2,1,0,4,5,6,7,8,9,10,11,12,13,14],[15,3,2,1,0,4,5,6,7,8,9,10,11,12,13,14]] (by kernel_rfl) (by kernel_rfl) ?_
    simp (disch := omega) [h0, h1, h5, z2, z3, z4, z5, z6, n1, n2, hput3]
    refine ⟨⟨by simpa using r1, r3, r4, ⟨_, c, by simp, fun _ => ⟨gid, tt, rfl, hgB, hgr, r2⟩⟩, h.ids⟩, by have := kT.1; have := mT.1; have := rT.1; omega, fun i x hx hi => rT.2 i x (mT.2 i x (kT.2 i x hx hi) hi) hi⟩
end Go.Proofs.Ytdcfofaojalilaa
