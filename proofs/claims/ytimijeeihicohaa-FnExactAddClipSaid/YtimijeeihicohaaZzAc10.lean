/- Parts of the proof, together: Tracks: a clip is put, the reference. Rows of records in which one is set. A region that draws its order: an invariant over what has been done and what each operation gave. Regions that draw their order and only make new values: each operation's value is told by what it is. Regions that draw their order, whose values are known and whose stores lie in known memory. Tracks: a clip is split, the prog No conditions. -/
import Derived.Test.YtimijeeihicohaaZzAc9
import Derived.Test.YtimijeeihicohaaZzAc8
import Derived.Test.YtimijeeihicohaaZzAc6
import Derived.Test.YtimijeeihicohaaZzAc7
import Derived.Test.YtimijeeihicohaaZzAc5
namespace Go.Proofs.Ytimijeeihicohaa
open Go.RowKit
set_option linter.unusedVariables false
set_option linter.unusedSimpArgs false
set_option maxRecDepth 100000
attribute [local simp] List.getElem?_cons_zero
attribute [local irreducible] awCond awCall awLoop awDraw ow retQ retC resQ Keeps
theorem Sl.take {α : Type} {k : Nat} {R : RecV α k} {M : Mem} {id off n m : Nat} {l : List α} (h : Sl R M (some ⟨id, off, none⟩) n l) (hm : m ≤ n) : Sl R M (some ⟨id, off, none⟩) m (l.take m) := by
  refine ⟨by rw [List.length_take, h.1]; omega, fun hp => ?_⟩
  obtain ⟨_, _, e, he, hc⟩ := h.2 (by omega)
  cases e
  refine ⟨id, off, rfl, he, fun j x hx => hc j x ?_⟩
  rw [cellsL_take] at hx
  rw [List.getElem?_take] at hx
  split at hx
  · exact hx
  · cases hx
theorem Sl.drop {α : Type} {k : Nat} {R : RecV α k} {M : Mem} {id off n m : Nat} {l : List α} (h : Sl R M (some ⟨id, off, none⟩) n l) (hm : m ≤ n) : Sl R M (some ⟨id, off + m * k, none⟩) (n - m) (l.drop m) := by
  refine ⟨by rw [List.length_drop, h.1], fun hp => ?_⟩
  obtain ⟨_, _, e, he, hc⟩ := h.2 (by omega)
  cases e
  refine ⟨id, off + m * k, rfl, he, fun j x hx => ?_⟩
  rw [cellsL_drop, List.getElem?_drop] at hx
  rw [Nat.add_assoc]
  exact hc _ x hx
set_option maxHeartbeats 2000000 in
theorem l23Put_s {M : Mem} {B : Nat} {v : Value} {l : List Clip} (g : Clip) (hA : Acc clipR 34 B M v l) (hn : l.length ≤ 12) (hup : ∀ (d i : Nat), i + d < l.length → (el l i).at_ ≤ (el l (i + d)).at_) : Ctr Try.prog M.length 33 [v, g.v] M fun r M' => ∃ v0, r = .tuple #[v0, iv (putK l g.at_)] ∧ Acc clipR 34 M.length M' v0 (insL l g) ∧ Keeps M M' := by
  obtain ⟨A, n, c, rfl, hl, hA⟩ := hA
  rcases hA with ⟨rfl, rfl, rfl⟩ | ⟨id, t, rfl, hid, hrow⟩
  · obtain rfl := List.eq_nil_of_length_eq_zero hl
    have h : Sl clipR M none 0 ([] : List Clip) := ⟨rfl, fun h => by omega⟩
    first | (refine ctr_fn Try.func33 rfl Try.ntmps33 Try.results33 rfl rfl (by simp) ?_) | (refine ctr_fnC Try.func33 rfl Try.ntmps33 Try.results33 rfl (by simp) ?_)
    simp
    obtain ⟨M0, hM0⟩ : ∃ M0 : Mem, M0 = M ++ [Slot.live ⟨[iv g.src, iv g.fr, iv g.len, iv g.at_, iv g.gain], true, true, 34, 5⟩] := ⟨_, rfl⟩
    have kb : Keeps M M0 := by rw [hM0]; exact keeps_app _
    have qb : M0.length = M.length + 1 := by rw [hM0]; simp
    have b1 : cellsAt M0 M.length 0 5 = some [iv g.src, iv g.fr, iv g.len, iv g.at_, iv g.gain] := by rw [hM0]; simp
    have b13 : cellAt M0 M.length 3 = some (iv g.at_) := by rw [hM0]; simp
    rw [← hM0]
    clear hM0
    have h0 := h.keeps kb
    refine awLoop_T (fun k T M' => k ≤ 0 ∧ M' = M0 ∧ look T 6 = some (iv k) ∧ look T 0 = some (.slice none 0 0) ∧ look T 3 = some (.pointer (some ⟨M.length, 0, none⟩)) ∧ ∀ i, k ≤ i → i < 0 → ¬ (el ([] : List Clip) i).at_ ≤ g.at_) 0 ⟨by omega, rfl, by simp, by simp, by simp, fun i hi hi2 => by omega⟩ ?_
    rintro k T M' ⟨hkn, rfl, t6, t0, t3, hk⟩
    obtain rfl : k = 0 := by omega
    have hK : putK [] g.at_ = 0 := rfl
    simp
    refine awDraw_E 11 [[],[0],[1,0],[2,1,0],[2,1,0],[4,2,1,0],[3,2,1,0,5,4],[6,3,2,1,0,5,4],[7,6,3,2,1,0,5,4],[2,1,0],[9,2,1,0],[8,7,6,3,2,1,0,5,4,10,9],[2,1,0,11,8,7,6,3,5,4,10,9]] (by kernel_rfl) (by kernel_rfl) ?_
    simp (disch := omega) [t6, t0, t3, wrap_in]
    refine Acc.extend (R := clipR) (e := 34) (B := M'.length) (by_ := 40) (l := []) (ls := ([] : List Clip).take 0) ⟨_, 0, 0, rfl, rfl, .inr ⟨M'.length, true, rfl, Nat.le_refl _, by simp [cellsL]⟩⟩ (by omega) (by simp) (by simp) (by kernel_rfl) (by simp [srcOf, Try.underlying28, cellsL]) (clip_one _) (by simp <;> omega) (by unfold maxLen; simp <;> omega) ?_
    intro v1 M1 a1 s1
    have k1 : Keeps M' M1 := s1.keeps (keeps_app _) (Nat.le_refl _)
    have l1 := k1.len
    have b2 := cellsAt_keeps k1 b1
    simp (disch := omega) [b2]
    have tl : (([] : List Clip).take 0).length ≤ 12 := by simp <;> omega
    refine Acc.append (R := clipR) (e := 34) (by_ := 40) (a := g) (a1.keeps (keeps_app _)) (by omega) (by simp; omega) (by omega) (by simp) (by kernel_rfl) (by simp [srcOf, clipR, Clip.row]) (by rfl) ?_ ?_ ?_
    · simp <;> omega
    · unfold maxLen; simp <;> omega
    intro v2 M2 a2 s2
    have k2 : Keeps M' M2 := s2.keeps (k1.app _) (Nat.le_refl _)
    have l2 := k2.len
    simp (disch := omega) [t0, t6]
    refine Acc.extend (R := clipR) (e := 34) (by_ := 40) (ls := ([] : List Clip).drop 0) a2 (by omega) (by omega) (by simp) (by kernel_rfl) (by simp [srcOf, Try.underlying28, cellsL]) (clip_one _) (by simp <;> omega) (by unfold maxLen; simp <;> omega) ?_
    intro v3 M3 a3 s3
    have k3 : Keeps M' M3 := s3.keeps k2 (Nat.le_refl _)
    try simp
    refine ⟨v3, ⟨rfl, by simp [hK]⟩, ?_, kb.trans k3⟩
    unfold insL
    rw [hK]
    have a4 := a3.low (B' := M.length) (by omega)
    simpa using a4
  · have heM0 : rowEsz M id = some 5 := by simp [rowEsz, hrow]
    have h : Sl clipR M (some ⟨id, 0, none⟩) n l := ⟨hl, fun _ => ⟨id, 0, rfl, heM0, fun j x hx => by simp [cellAt, hrow, hx]⟩⟩
    first | (refine ctr_fn Try.func33 rfl Try.ntmps33 Try.results33 rfl rfl (by simp) ?_) | (refine ctr_fnC Try.func33 rfl Try.ntmps33 Try.results33 rfl (by simp) ?_)
    simp
    obtain ⟨M0, hM0⟩ : ∃ M0 : Mem, M0 = M ++ [Slot.live ⟨[iv g.src, iv g.fr, iv g.len, iv g.at_, iv g.gain], true, true, 34, 5⟩] := ⟨_, rfl⟩
    have kb : Keeps M M0 := by rw [hM0]; exact keeps_app _
    have qb : M0.length = M.length + 1 := by rw [hM0]; simp
    have b1 : cellsAt M0 M.length 0 5 = some [iv g.src, iv g.fr, iv g.len, iv g.at_, iv g.gain] := by rw [hM0]; simp
    have b13 : cellAt M0 M.length 3 = some (iv g.at_) := by rw [hM0]; simp
    rw [← hM0]
    clear hM0
    have h0 := h.keeps kb
    refine awLoop_T (fun k T M' => k ≤ n ∧ M' = M0 ∧ look T 6 = some (iv k) ∧ look T 0 = some (.slice (some ⟨id, 0, none⟩) n c) ∧ look T 3 = some (.pointer (some ⟨M.length, 0, none⟩)) ∧ ∀ i, k ≤ i → i < n → ¬ (el l i).at_ ≤ g.at_) n ⟨by omega, rfl, by simp, by simp, by simp, fun i hi hi2 => by omega⟩ ?_
    rintro k T M' ⟨hkn, rfl, t6, t0, t3, hk⟩
    have heM : rowEsz M' id = some 5 := rowEsz_keeps kb heM0
    rcases k with _ | k
    · have hK : putK l g.at_ = 0 := putK_eq (by omega) (fun i hi => by omega) fun h => hk 0 (by omega) (by omega)
      simp
      refine awDraw_E 11 [[],[0],[1,0],[2,1,0],[2,1,0],[4,2,1,0],[3,2,1,0,5,4],[6,3,2,1,0,5,4],[7,6,3,2,1,0,5,4],[2,1,0],[9,2,1,0],[8,7,6,3,2,1,0,5,4,10,9],[2,1,0,11,8,7,6,3,5,4,10,9]] (by kernel_rfl) (by kernel_rfl) ?_
      simp (disch := omega) [t6, t0, t3, wrap_in]
      refine ⟨rowEsz_keeps (keeps_app _) heM, ?_⟩
      refine Acc.extend (R := clipR) (e := 34) (B := M'.length) (by_ := 40) (l := []) (ls := l.take 0) ⟨_, 0, 0, rfl, rfl, .inr ⟨M'.length, true, rfl, Nat.le_refl _, by simp [cellsL]⟩⟩ (by omega) (by simp) (by simp) (by kernel_rfl) (((h0.app _).take (m := 0) (by omega)).src (by omega) ⟨_, Try.underlying28⟩) (clip_one _) (by simp <;> omega) (by unfold maxLen; simp <;> omega) ?_
      intro v1 M1 a1 s1
      have k1 : Keeps M' M1 := s1.keeps (keeps_app _) (Nat.le_refl _)
      have l1 := k1.len
      have b2 := cellsAt_keeps k1 b1
      simp (disch := omega) [b2]
      have tl : (l.take 0).length ≤ 12 := by simp <;> omega
      refine Acc.append (R := clipR) (e := 34) (by_ := 40) (a := g) (a1.keeps (keeps_app _)) (by omega) (by simp; omega) (by omega) (by simp) (by kernel_rfl) (by simp [srcOf, clipR, Clip.row]) (by rfl) ?_ ?_ ?_
      · simp <;> omega
      · unfold maxLen; simp <;> omega
      intro v2 M2 a2 s2
      have k2 : Keeps M' M2 := s2.keeps (k1.app _) (Nat.le_refl _)
      have l2 := k2.len
      simp (disch := omega) [t0, t6]
      refine ⟨rowEsz_keeps k2 heM, ?_⟩
      refine Acc.extend (R := clipR) (e := 34) (by_ := 40) (ls := l.drop 0) a2 (by omega) (by omega) (by simp) (by kernel_rfl) (by have := ((h0.keeps k2).drop (m := 0) (by omega)).src (P := Try.prog) (c := 0) (by omega) ⟨_, Try.underlying28⟩; simp only [srcOf, Nat.zero_add] at this ⊢; simpa using this) (clip_one _) (by simp <;> omega) (by unfold maxLen; simp <;> omega) ?_
      intro v3 M3 a3 s3
      have k3 : Keeps M' M3 := s3.keeps k2 (Nat.le_refl _)
      try simp
      refine ⟨v3, ⟨rfl, by simp [hK]⟩, ?_, kb.trans k3⟩
      unfold insL
      rw [hK]
      have a4 := a3.low (B' := M.length) (by omega)
      simpa using a4
    · obtain ⟨_, _, ee, he, hc⟩ := h0.at_ (i := k) (by omega)
      cases ee
      obtain ⟨c0, c1, c2, c3, c4⟩ := clip_cells hc
      simp only [Nat.zero_add] at c3
      have e1 : ((k + 1 : Nat) : Int) - 1 = k := by omega
      have hpos : (0 : Int) < ((k + 1 : Nat) : Int) := by omega
      simp
      refine awDraw_E 11 [[],[0],[1,0],[2,1,0],[2,1,0],[4,2,1,0],[3,2,1,0,5,4],[6,3,2,1,0,5,4],[7,6,3,2,1,0,5,4],[2,1,0],[9,2,1,0],[8,7,6,3,2,1,0,5,4,10,9],[2,1,0,11,8,7,6,3,5,4,10,9]] (by kernel_rfl) (by kernel_rfl) ?_
      simp (disch := omega) [t6, t0, t3, wrap_in, he, c3, b13, e1, hpos]
      refine ⟨by omega, ?_⟩
      refine awCond_split ?_ ?_ <;> intro hq <;> simp at hq
      · simp (disch := omega) [t6, t0, t3, wrap_in, e1]
        refine lpI k (by omega) ⟨by omega, rfl, by simp, by simp [t0], by simp [t3], fun i hi hi2 => ?_⟩
        by_cases hik : i = k
        · subst hik; omega
        · exact hk i (by omega) hi2
      · have hK : putK l g.at_ = k + 1 := putK_eq (by omega) (fun i hi => by
            have := hup (k - i) i (by omega)
            rw [show i + (k - i) = k by omega] at this
            omega) fun h => hk (k + 1) (by omega) (by omega)
        simp (disch := omega) [t6, t0, t3, wrap_in]
        refine ⟨⟨by omega, by omega⟩, rowEsz_keeps (keeps_app _) heM, ?_⟩
        refine Acc.extend (R := clipR) (e := 34) (B := M'.length) (by_ := 40) (l := []) (ls := l.take (k + 1)) ⟨_, 0, 0, rfl, rfl, .inr ⟨M'.length, true, rfl, Nat.le_refl _, by simp [cellsL]⟩⟩ (by omega) (by simp) (by simp) (by kernel_rfl) (((h0.app _).take (m := (k + 1)) (by omega)).src (by omega) ⟨_, Try.underlying28⟩) (clip_one _) (by simp <;> omega) (by unfold maxLen; simp <;> omega) ?_
        intro v1 M1 a1 s1
        have k1 : Keeps M' M1 := s1.keeps (keeps_app _) (Nat.le_refl _)
        have l1 := k1.len
        have b2 := cellsAt_keeps k1 b1
        simp (disch := omega) [b2]
        have tl : (l.take (k + 1)).length ≤ 12 := by simp <;> omega
        refine Acc.append (R := clipR) (e := 34) (by_ := 40) (a := g) (a1.keeps (keeps_app _)) (by omega) (by simp; omega) (by omega) (by simp) (by kernel_rfl) (by simp [srcOf, clipR, Clip.row]) (by rfl) ?_ ?_ ?_
        · simp <;> omega
        · unfold maxLen; simp <;> omega
        intro v2 M2 a2 s2
        have k2 : Keeps M' M2 := s2.keeps (k1.app _) (Nat.le_refl _)
        have l2 := k2.len
        simp (disch := omega) [t0, t6]
        refine ⟨⟨by omega, by omega⟩, rowEsz_keeps k2 heM, ?_⟩
        refine Acc.extend (R := clipR) (e := 34) (by_ := 40) (ls := l.drop (k + 1)) a2 (by omega) (by omega) (by simp) (by kernel_rfl) (by have := ((h0.keeps k2).drop (m := (k + 1)) (by omega)).src (P := Try.prog) (c := 0) (by omega) ⟨_, Try.underlying28⟩; simp only [srcOf, Nat.zero_add] at this ⊢; simpa using this) (clip_one _) (by simp <;> omega) (by unfold maxLen; simp <;> omega) ?_
        intro v3 M3 a3 s3
        have k3 : Keeps M' M3 := s3.keeps k2 (Nat.le_refl _)
        try simp
        refine ⟨v3, ⟨rfl, by simp [hK]⟩, ?_, kb.trans k3⟩
        unfold insL
        rw [hK]
        have a4 := a3.low (B' := M.length) (by omega)
        simpa using a4
end Go.Proofs.Ytimijeeihicohaa

namespace Go.Proofs.Ytimijeeihicohaa
open Go.RowKit
set_option linter.unusedVariables false
set_option linter.unusedSimpArgs false
set_option maxRecDepth 100000
attribute [local simp] List.getElem?_cons_zero
attribute [local irreducible] awCond awCall awLoop awDraw ow retQ retC resQ Keeps
section
variable {α : Type} {k : Nat}
theorem put_splice {b : Nat} {M : Mem} {id p : Nat} {vs cs : List Value} {t : Bool} {e : TypeId} {z : Nat} (hr : M[id]? = some (.live ⟨cs, true, t, e, z⟩)) (hb : b ≤ id) (hp : p + vs.length ≤ cs.length) (h1 : vs.all oneV = true) :
    putCells b M id p vs = some (M.set id (.live ⟨splice cs p vs, true, t, e, z⟩)) := by
  unfold putCells
  rw [hr]
  simp only
  rw [if_pos ⟨hb, trivial, hp, h1⟩]
theorem splice_set [Inhabited α] (R : RecV α k) {l : List α} {i : Nat} {a : α} (hi : i < l.length) : splice (cellsL R l) (i * k) (R.row a) = cellsL R (l.set i a) := by
  have h1 : l = l.take i ++ (el l i :: l.drop (i + 1)) := by
    conv => lhs; rw [← List.take_append_drop i l, drop_el hi]
  have hl : (cellsL R (l.take i)).length = i * k := by rw [cellsL_len, List.length_take, Nat.min_eq_left (by omega)]
  have h2 : cellsL R l = cellsL R (l.take i) ++ (R.row (el l i) ++ cellsL R (l.drop (i + 1))) := by
    conv => lhs; rw [h1]
    rw [cellsL_append, cellsL_cons]
  rw [h2, ← hl, splice_app _ _ _ (by rw [List.length_append, R.len, R.len]; omega), R.len, List.drop_append_of_le_length (by rw [R.len]; omega), List.drop_of_length_le (by rw [R.len]; omega), List.nil_append]
  have h3 : l.set i a = l.take i ++ (a :: l.drop (i + 1)) := List.set_eq_take_append_cons_drop .. |>.trans (by rw [if_pos hi])
  rw [h3, cellsL_append, cellsL_cons]
theorem put_rec [Inhabited α] {R : RecV α k} {b : Nat} {M : Mem} {id i off : Nat} {l : List α} {a : α} {t : Bool} {e : TypeId} (hr : M[id]? = some (.live ⟨cellsL R l, true, t, e, k⟩)) (hb : b ≤ id) (hi : i < l.length) (ho : off = i * k) (h1 : (R.row a).all oneV = true) :
    putCells b M id off (R.row a) = some (M.set id (.live ⟨cellsL R (l.set i a), true, t, e, k⟩)) := by
  subst ho
  rw [put_splice hr hb (by rw [R.len, cellsL_len]; have := Nat.mul_le_mul_right k (show i + 1 ≤ l.length from hi); rw [Nat.add_mul, Nat.one_mul] at this; exact this) h1, splice_set R hi]
end
/-- The list lies in a row of its own. -/
theorem Acc.put {α : Type} {k : Nat} [Inhabited α] {R : RecV α k} {e : TypeId} {B b : Nat} {M : Mem} {A : Option Addr} {n c : Nat} {l : List α} (h : Acc R e B M (.slice A n c) l) (hb : b ≤ B) (h0 : 0 < l.length) :
    ∃ id, A = some ⟨id, 0, none⟩ ∧ B ≤ id ∧ rowEsz M id = some k ∧ (∀ (i j : Nat) x, i < l.length → (R.row (el l i))[j]? = some x → cellAt M id (i * k + j) = some x) ∧
      ∀ (i : Nat) (a : α), i < l.length → (R.row a).all oneV = true → ∃ M', putCells b M id (i * k) (R.row a) = some M' ∧ Acc R e B M' (.slice A n c) (l.set i a) ∧ M'.length = M.length ∧ ∀ (q : Nat) s, q ≠ id → M[q]? = some s → M'[q]? = some s := by
  obtain ⟨A', n', c', he, hl, hA⟩ := h
  injection he with h1 h2 h3
  subst h1; subst h2; subst h3
  rcases hA with ⟨rfl, h1, rfl⟩ | ⟨id, t, rfl, hid, hr⟩
  · omega
  refine ⟨id, rfl, hid, by simp [rowEsz, hr], fun i j x hi hx => ?_, fun i a hi h1 => ⟨_, put_rec hr (by omega) hi rfl h1, ⟨_, _, _, rfl, by simp [hl], .inr ⟨id, t, rfl, hid, List.getElem?_set_self (List.getElem?_eq_some_iff.1 hr).1⟩⟩, by simp, fun q s hq hs => by rw [List.getElem?_set_ne (Ne.symm hq)]; exact hs⟩⟩
  have hj : j < k := by have := (List.getElem?_eq_some_iff.1 hx).1; rwa [R.len] at this
  simp only [cellAt, hr]
  show (cellsL R l)[i * k + j]? = some x
  rw [cellsL_get R hi hj]
  exact hx
end Go.Proofs.Ytimijeeihicohaa

namespace Go.Proofs.Ytimijeeihicohaa
open Go.RowKit
set_option linter.unusedVariables false
def upG (γ : Nat → Value) (k : Nat) (v : Value) : Nat → Value := fun j => if j = k then v else γ j
@[simp] theorem upG_same (γ : Nat → Value) (k : Nat) (v : Value) : upG γ k v k = v := if_pos rfl
theorem upG_ne {γ : Nat → Value} {j k : Nat} {v : Value} (h : j ≠ k) : upG γ k v j = γ j := if_neg h
/-- No temporary is set twice. -/
def dstOnce (ops : Array Oper) : Bool := (List.range ops.size).all fun k => (List.range ops.size).all fun j => decide (j = k) || (dstOf ops j).isNone || dstOf ops j != dstOf ops k
theorem dstOnce_spec {ops : Array Oper} (h : dstOnce ops = true) {j k : Nat} {t : Nat} (hj : dstOf ops j = some t) (hk : dstOf ops k = some t) : j = k := by
  have lt : ∀ i, dstOf ops i = some t → i < ops.size := by
    intro i hi
    unfold dstOf at hi
    obtain ⟨o, ho, -⟩ := Option.bind_eq_some_iff.1 hi
    exact (Array.getElem?_eq_some_iff.1 ho).1
  have h1 := List.all_eq_true.1 h k (List.mem_range.2 (lt k hk))
  have h2 := List.all_eq_true.1 h1 j (List.mem_range.2 (lt j hj))
  rw [hj, hk] at h2
  simpa using h2
/-- What the temporaries hold: what has been done gave its value, the others are as they were. -/
structure TS (ops : Array Oper) (T0 : List (Nat × Value)) (X : Nat → Bool) (γ : Nat → Value) (T : List (Nat × Value)) : Prop where
  done : ∀ j d, X j = true → dstOf ops j = some d → look T d = some (γ j)
  frame : ∀ t, (∀ j, X j = true → dstOf ops j ≠ some t) → look T t = look T0 t
def noDst (ops : Array Oper) (t : Nat) : Bool := (List.range ops.size).all fun j => decide (dstOf ops j ≠ some t)
theorem TS.frame' {ops : Array Oper} {T0 T : List (Nat × Value)} {X : Nat → Bool} {γ : Nat → Value} (h : TS ops T0 X γ T) (t : Nat) (hn : noDst ops t = true) : look T t = look T0 t :=
  h.frame t fun j _ hj => by
    have hl : j < ops.size := by
      unfold dstOf at hj
      obtain ⟨o, ho, -⟩ := Option.bind_eq_some_iff.1 hj
      exact (Array.getElem?_eq_some_iff.1 ho).1
    have := List.all_eq_true.1 hn j (List.mem_range.2 hl)
    exact (of_decide_eq_true this) hj
/-- What has been done is closed under what must come ahead. -/
def Closed (ops : List Oper) (X : Nat → Bool) : Prop := ∀ k o, X k = true → ops[k]? = some o → ∀ e ∈ o.after.toList, Region.binds .any e = true → X e.on = true
def edge (ops : List Oper) (k j : Nat) : Bool := match ops[k]? with
  | some o => o.after.toList.any fun e => Region.binds .any e && decide (e.on = j)
  | none => false
theorem Closed.at_ {ops : List Oper} {X : Nat → Bool} (h : Closed ops X) {k : Nat} (j : Nat) (hk : X k = true) (he : edge ops k j = true) : X j = true := by
  unfold edge at he
  split at he
  · rename_i o ho
    obtain ⟨e, h1, h2⟩ := List.any_eq_true.1 he
    simp only [Bool.and_eq_true, decide_eq_true_eq] at h2
    have := h k o hk ho e h1 h2.1
    rwa [h2.2] at this
  · cases he
theorem edge_ahead {ops : List Oper} {X : Nat → Bool} {k : Nat} {o : Oper} (ho : ops[k]? = some o) (ha : ∀ e ∈ o.after.toList, Region.binds .any e = true → X e.on = true) (j : Nat) (he : edge ops k j = true) : X j = true := by
  unfold edge at he
  rw [ho] at he
  obtain ⟨e, h1, h2⟩ := List.any_eq_true.1 he
  simp only [Bool.and_eq_true, decide_eq_true_eq] at h2
  have := ha e h1 h2.1
  rwa [h2.2] at this
theorem awDraw_G {P : Program} {b : Nat} {ops : List Oper} {Q : St → Prop} {S : St} (G : (Nat → Bool) → (Nat → Value) → Mem → Prop) (h1 : P.follows .mixedOrders = true) (h2 : drawBack ⟨ops⟩ = true) (h3 : dstOnce ⟨ops⟩ = true)
    (h0 : ∀ γ, G (fun _ => false) γ S.M)
    (hstep : ∀ X γ T M k o (K : Value → Mem → Prop), Closed ops X → TS ⟨ops⟩ S.T X γ T → G X γ M → ops[k]? = some o → X k = false → (∀ e ∈ o.after.toList, Region.binds .any e = true → X e.on = true) → (∀ v M', G (upX X k) (upG γ k v) M' → K v M') → sOp P false b o ⟨S.n, T, M⟩ K)
    (hend : ∀ X γ T M, (∀ k, k < ops.length → X k = true) → TS ⟨ops⟩ S.T X γ T → G X γ M → Q ⟨S.n, T, M⟩) : awDraw P b ⟨ops⟩ Q S := by
  refine awDraw_I (fun X S' => S'.n = S.n ∧ Closed ops X ∧ ∃ γ, TS ⟨ops⟩ S.T X γ S'.T ∧ G X γ S'.M) h1 h2 ⟨rfl, fun k o h => (by cases h), fun _ => undef, ⟨(fun j d h => by cases h), fun t _ => rfl⟩, h0 _⟩ ?_ ?_
  · rintro X ⟨n, T, M⟩ k o ⟨hn, hC, γ, hT, hG⟩ ho hX ha
    simp only at hn hT hG
    subst hn
    refine hstep X γ T M k o _ hC hT hG ho hX ha fun v M' hG' => ⟨by cases o.dst <;> rfl, fun i o' hi ho' e he hb => ?_, upG γ k v, ?_, by cases o.dst <;> exact hG'⟩
    · by_cases e1 : e.on = k
      · rw [e1]; simp
      · rw [upX_ne e1]
        by_cases e2 : i = k
        · subst e2
          rw [ho] at ho'
          injection ho' with ho'
          subst ho'
          exact ha e he hb
        · rw [upX_ne e2] at hi
          exact hC i o' hi ho' e he hb
    have hdk : dstOf ⟨ops⟩ k = o.dst := by simp [dstOf, ho]
    refine ⟨fun j d hj hd => ?_, fun t ht => ?_⟩
    · by_cases e : j = k
      · subst e
        rw [hdk] at hd
        rw [hd]
        simp [St.put, look]
      · rw [upX_ne e] at hj
        rw [upG_ne e]
        have := hT.done j d hj hd
        cases hod : o.dst with
        | none => exact this
        | some d' =>
          simp only [St.put, look]
          rw [if_neg (fun e' => e (dstOnce_spec h3 hd (by rw [hdk, hod, e'])))]
          exact this
    · have hf := hT.frame t fun j hj => ht j (by
        by_cases e : j = k
        · subst e; simp
        · rw [upX_ne e]; exact hj)
      cases hod : o.dst with
      | none => exact hf
      | some d' =>
        have := ht k (by simp)
        rw [hdk, hod] at this
        simp only [St.put, look]
        rw [if_neg (fun e' => this (by rw [e']))]
        exact hf
  · rintro X ⟨n, T, M⟩ hX ⟨hn, hC, γ, hT, hG⟩
    simp only at hn hT hG
    subst hn
    exact hend X γ T M hX hT hG
end Go.Proofs.Ytimijeeihicohaa

namespace Go.Proofs.Ytimijeeihicohaa
open Go.RowKit
set_option linter.unusedVariables false
set_option linter.unusedSimpArgs false
/-- kill j: the operations behind which nothing is said of j's value. -/
theorem awDraw_K {P : Program} {b : Nat} {ops : List Oper} {Q : St → Prop} {S : St} (kill : Nat → List Nat) (Φ : Nat → Value → Mem → Prop) (mono : ∀ k v M M', Φ k v M → Keeps M M' → Φ k v M')
    (h1 : P.follows .mixedOrders = true) (h2 : drawBack ⟨ops⟩ = true) (h3 : dstOnce ⟨ops⟩ = true)
    (hstep : ∀ (X : Nat → Bool) (k : Nat) (o : Oper) (T : List (Nat × Value)) (M : Mem) (K : Value → Mem → Prop), Closed ops X → X k = false → Keeps S.M M → (∀ j d, edge ops k j = true → dstOf ⟨ops⟩ j = some d → ∃ v, look T d = some v ∧ ((∀ z, z ∈ kill j → X z = false) → Φ j v M)) → (∀ t, noDst ⟨ops⟩ t = true → look T t = look S.T t) → ops[k]? = some o →
      (∀ v M', (Keeps M M' ∨ (Keeps S.M M' ∧ ∀ j u, X j = true → k ∉ kill j → Φ j u M → Φ j u M')) → Φ k v M' → K v M') → sOp P false b o ⟨S.n, T, M⟩ K)
    (hend : ∀ (T : List (Nat × Value)) (M : Mem), Keeps S.M M → (∀ k d, k < ops.length → dstOf ⟨ops⟩ k = some d → ∃ v, look T d = some v ∧ (kill k = [] → Φ k v M)) → (∀ t, noDst ⟨ops⟩ t = true → look T t = look S.T t) → Q ⟨S.n, T, M⟩) : awDraw P b ⟨ops⟩ Q S := by
  refine awDraw_G (fun X γ M => Keeps S.M M ∧ ∀ k, X k = true → (∀ z, z ∈ kill k → X z = false) → Φ k (γ k) M) h1 h2 h3 (fun γ => ⟨Keeps.refl _, fun k h => by cases h⟩) ?_ ?_
  · intro X γ T M k o K hC hT hG ho hX ha hK
    refine hstep X k o T M K hC hX hG.1 (fun j d he hd => ?_) (fun t ht => hT.frame' t ht) ho fun v M' hk hv => hK v M' ⟨?_, fun j hj hz => ?_⟩
    · have hj := edge_ahead ho ha j he
      exact ⟨γ j, hT.done j d hj hd, hG.2 j hj⟩
    · rcases hk with hk | hk
      · exact hG.1.trans hk
      · exact hk.1
    · by_cases e : j = k
      · subst e
        rw [show upG γ j v j = v by simp [upG]]
        exact hv
      · rw [upX_ne e] at hj
        rw [upG_ne e]
        have hkn : k ∉ kill j := fun h => by have := hz k h; rw [upX_same] at this; cases this
        have hz' : ∀ z, z ∈ kill j → X z = false := fun z h => by
          have := hz z h
          rw [upX_ne (fun e => hkn (by rw [← e]; exact h))] at this
          exact this
        rcases hk with hk | hk
        · exact mono _ _ _ _ (hG.2 j hj hz') hk
        · exact hk.2 j _ hj hkn (hG.2 j hj hz')
  · intro X γ T M hX hT hG
    refine hend T M hG.1 (fun k d hk hd => ⟨γ k, hT.done k d (hX k hk) hd, fun hn => hG.2 k (hX k hk) fun z hz => by rw [hn] at hz; cases hz⟩) fun t ht => hT.frame' t ht
end Go.Proofs.Ytimijeeihicohaa

namespace Go.Proofs.Ytimijeeihicohaa
open Go.RowKit
set_option linter.unusedVariables false
set_option linter.unusedSimpArgs false
theorem awDraw_W {P : Program} {b : Nat} {ops : List Oper} {Q : St → Prop} {S : St} (mem : (Nat → Bool) → Mem) (φ : Nat → Value)
    (h1 : P.follows .mixedOrders = true) (h2 : drawBack ⟨ops⟩ = true) (h3 : dstOnce ⟨ops⟩ = true) (h0 : S.M = mem fun _ => false)
    (hstep : ∀ (X : Nat → Bool) (k : Nat) (o : Oper) (T : List (Nat × Value)) (K : Value → Mem → Prop), X k = false → (∀ j d, edge ops k j = true → dstOf ⟨ops⟩ j = some d → look T d = some (φ j)) → (∀ t, noDst ⟨ops⟩ t = true → look T t = look S.T t) → ops[k]? = some o →
      (∀ v, (v = φ k ∨ dstOf ⟨ops⟩ k = none) → K v (mem (upX X k))) → sOp P false b o ⟨S.n, T, mem X⟩ K)
    (hend : ∀ (X : Nat → Bool) (T : List (Nat × Value)), (∀ k, k < ops.length → X k = true) → (∀ t, noDst ⟨ops⟩ t = true → look T t = look S.T t) → Q ⟨S.n, T, mem X⟩) : awDraw P b ⟨ops⟩ Q S := by
  refine awDraw_G (fun X γ M => M = mem X ∧ ∀ k, X k = true → dstOf ⟨ops⟩ k ≠ none → γ k = φ k) h1 h2 h3 (fun γ => ⟨h0, fun k h => by cases h⟩) ?_ ?_
  · intro X γ T M k o K hC hT hG ho hX ha hK
    obtain ⟨rfl, hγ⟩ := hG
    refine hstep X k o T K hX (fun j d he hd => ?_) (fun t ht => hT.frame' t ht) ho fun v hv => hK v _ ⟨rfl, fun j hj hd => ?_⟩
    · have hj := edge_ahead ho ha j he
      rw [← hγ j hj (by rw [hd]; simp)]
      exact hT.done j d hj hd
    · by_cases e : j = k
      · subst e
        rw [show upG γ j v j = v by simp [upG]]
        exact hv.resolve_right hd
      · rw [upX_ne e] at hj
        rw [upG_ne e]
        exact hγ j hj hd
  · intro X γ T M hX hT hG
    obtain ⟨rfl, hγ⟩ := hG
    exact hend X T hX (fun t ht => hT.frame' t ht)
end Go.Proofs.Ytimijeeihicohaa

namespace Go.Proofs.Ytimijeeihicohaa
open Go.RowKit
set_option linter.unusedVariables false
set_option linter.unusedSimpArgs false
set_option maxRecDepth 100000
attribute [local simp] List.getElem?_cons_zero
attribute [local irreducible] awCond awCall awLoop awDraw ow retQ retC resQ Keeps
theorem cells_set_len {l : List Clip} {j : Nat} {x : Int} (h : j < l.length) : (cellsL clipR l).set (j * 5 + 2) (iv x) = cellsL clipR (l.set j { el l j with len := x }) := by
  have e1 : l = l.take j ++ (el l j :: l.drop (j + 1)) := by
    conv => lhs; rw [← List.take_append_drop j l, drop_el h]
  have hl : (l.take j).length = j := by simp; omega
  have e2 : l.set j { el l j with len := x } = l.take j ++ ({ el l j with len := x } :: l.drop (j + 1)) := by
    conv => lhs; rw [e1]
    rw [List.set_append_right _ _ (by omega), hl, Nat.sub_self]
    simp [hl, el_append_right]
    rw [show el (el l j :: List.drop (j + 1) l) 0 = el l j from rfl]
    exact ⟨rfl, rfl, rfl, rfl⟩
  rw [e2]
  conv => lhs; rw [e1]
  have e3 : (cellsL clipR (l.take j)).length = j * 5 := by rw [cellsL_len, hl]
  rw [cellsL_append, cellsL_append, cellsL_cons, cellsL_cons, List.set_append_right _ _ (by omega), e3, show j * 5 + 2 - j * 5 = 2 by omega]
  rfl
theorem put_atC {b : Nat} {M : Mem} {id p : Nat} {v : Value} {cs : List Value} {t : Bool} {e : TypeId} {z : Nat} (hr : M[id]? = some (.live ⟨cs, true, t, e, z⟩)) (hb : b ≤ id) (hp : p < cs.length) (h1 : oneV v = true) :
    putCells b M id p [v] = some (M.set id (.live ⟨cs.set p v, true, t, e, z⟩)) := by
  have := put_set (b := b) (M := M) (id := id) (p := p) (v := v) (cs := cs) (t := t) (e := e) (z := z) (List.getElem?_eq_some_iff.1 hr).1 hb hp h1
  rw [set_self hr] at this
  exact this
def clipCo (l : List Clip) (k : Int) : Int := if okC l = false then 1 else if inB k 0 (l.length - 1) = false then 2 else 0
def cutC (c : Clip) (a : Int) : Clip := { c with fr := c.fr + (a - c.at_), len := c.len - (a - c.at_), at_ := a }
def setLen (l : List Clip) (k : Nat) (a : Int) : List Clip := l.set k { el l k with len := a - (el l k).at_ }
def splV (l : List Clip) (k a : Int) : List Clip × Int :=
  if clipCo l k ≠ 0 then ([], clipCo l k) else if a ≤ (el l k.toNat).at_ ∨ (el l k.toNat).at_ + (el l k.toNat).len ≤ a then ([], 2) else if l.length = 12 then ([], 5) else (insL (setLen l k.toNat a) (cutC (el l k.toNat) a), 0)
theorem setLen_len (l : List Clip) (k : Nat) (a : Int) : (setLen l k a).length = l.length := by simp [setLen]
theorem setLen_at (l : List Clip) (k : Nat) (a : Int) (i : Nat) : (el (setLen l k a) i).at_ = (el l i).at_ := by
  unfold setLen
  by_cases hi : i < l.length
  · by_cases h : k = i
    · subst h; simp [el, hi]
    · have e : (l.set k { el l k with len := a - (el l k).at_ })[i]? = l[i]? := List.getElem?_set_ne h
      simp only [el, List.getD_eq_getElem?_getD] at e ⊢
      rw [e]
  · have e1 : (l.set k { el l k with len := a - (el l k).at_ })[i]? = none := List.getElem?_eq_none (by rw [List.length_set]; omega)
    have e2 : l[i]? = none := List.getElem?_eq_none (by omega)
    simp only [el, List.getD_eq_getElem?_getD] at e1 ⊢
    rw [e1, e2]
theorem setLen_up {l : List Clip} (h : okC l = true) (k : Nat) (a : Int) (d i : Nat) (hi : i + d < (setLen l k a).length) : (el (setLen l k a) i).at_ ≤ (el (setLen l k a) (i + d)).at_ := by
  rw [setLen_len] at hi
  rw [setLen_at, setLen_at]
  exact okC_up h d i hi
theorem sizeClip_a {M : Mem} {A : Option Addr} {n c : Nat} : Det Try.prog M.length 67 [.slice A n c] M (iv n) M := by
  first | (refine det_fn Try.func67 rfl Try.ntmps67 Try.results67 rfl rfl rfl (by simp) ?_) | (refine det_fnC Try.func67 rfl Try.ntmps67 Try.results67 rfl rfl (by simp) ?_)
  simp [Keeps.refl]
theorem clipCode_i {M : Mem} {A : Option Addr} {n c : Nat} {l : List Clip} (k : Int) (h : Sl clipR M A n l) (hn : n ≤ 1048576) : Det Try.prog M.length 42 [.agg #[.slice A n c], iv k] M (iv (clipCo l k)) M := by
  have hl := h.1
  first | (refine det_fn Try.func42 rfl Try.ntmps42 Try.results42 rfl rfl rfl (by simp) ?_) | (refine det_fnC Try.func42 rfl Try.ntmps42 Try.results42 rfl rfl (by simp) ?_)
  simp
  refine awCall_det' (isTrack_a (c := c) (h.keeps (keeps_app _)) (by omega)) (by simp) ?_
  cases e1 : okC l
  · simp [clipCo, e1, keeps_app]
  simp
  refine awCall_det' (sizeClip_a (A := A) (n := n) (c := c)) (by simp) ?_
  simp (disch := omega) [wrap_in]
  refine awCall_det' (within_a k 0 (n - 1)) (by simp) ?_
  cases e2 : inB k 0 (n - 1)
  · simp [clipCo, e1, hl, e2, keeps_app]
  · simp [clipCo, e1, hl, e2, keeps_app]
set_option maxHeartbeats 4000000 in
theorem SplitClip_i {M : Mem} {B : Nat} {v : Value} {l : List Clip} (k a : Int) (hA : Acc clipR 34 B M v l) (hn : l.length ≤ 1048576) (ha : (Lit.int .i64 a).wf = true) : Ctr Try.prog M.length 16 [.agg #[v], iv k, iv a] M fun r M' => ∃ v0, r = .tuple #[.agg #[v0], iv (splV l k a).2] ∧ Acc clipR 34 M.length M' v0 (splV l k a).1 ∧ Keeps M M' := by
  obtain ⟨A, n, c, rfl, hl, h, -⟩ := hA.sl
  first | (refine ctr_fn Try.func16 rfl Try.ntmps16 Try.results16 rfl rfl (by simp) ?_) | (refine ctr_fnC Try.func16 rfl Try.ntmps16 Try.results16 rfl (by simp) ?_)
  simp
  refine awCall_det' (clipCode_i (c := c) k (h.app _) (by omega)) (by simp) ?_
  by_cases e0 : clipCo l k = 0
  case neg =>
    have hv : splV l k a = ([], clipCo l k) := by unfold splV; rw [if_pos e0]
    simp [e0]
    rw [hv]
    exact ⟨_, ⟨rfl, rfl⟩, .nil, keeps_app _⟩
  have hok : okC l = true := by
    unfold clipCo at e0
    split at e0
    · cases e0
    · rename_i hh; simpa using hh
  have hn12 := okC_len hok
  have hk : inB k 0 (l.length - 1) = true := by
    unfold clipCo at e0
    rw [if_neg (by simp [hok])] at e0
    split at e0
    · cases e0
    · rename_i hh; simpa using hh
  have hk' := inB_iff.1 hk
  obtain ⟨q, rfl⟩ := Int.eq_ofNat_of_zero_le hk'.1
  have hq : q < n := by omega
  obtain ⟨id, off, rfl, he, hc⟩ := h.at_ hq
  obtain ⟨c0, c1, c2, c3, c4⟩ := clip_cells hc
  have hcl := clip_load hc
  have hcb := okC_el hok (i := q) (by omega)
  unfold clipB at hcb
  simp only [Bool.and_eq_true, inB_iff] at hcb
  obtain ⟨⟨⟨⟨w1, w2⟩, w3⟩, w4⟩, w5⟩ := hcb
  simp [Lit.wf, IntKind.min, IntKind.max, IntKind.bits, IntKind.signed] at ha
  have hco : ¬ clipCo l (q : Int) ≠ 0 := fun h => h e0
  simp (disch := omega) [e0, wrap_in, hq, cellsAt_app hcl]
  by_cases e1 : a ≤ (el l q).at_ ∨ (el l q).at_ + (el l q).len ≤ a
  · have hv : splV l q a = ([], 2) := by unfold splV; rw [if_neg hco, Int.toNat_natCast, if_pos e1]
    rw [hv]
    by_cases e2 : a ≤ (el l q).at_
    · simp (disch := omega) [e2]
      exact ⟨.nil, keeps_app _⟩
    · have e3 : (el l q).at_ + (el l q).len ≤ a := by omega
      simp (disch := omega) [e2, e3, wrap_in]
      exact ⟨.nil, keeps_app _⟩
  have e2 : ¬ a ≤ (el l q).at_ := fun h => e1 (.inl h)
  have e3 : ¬ (el l q).at_ + (el l q).len ≤ a := fun h => e1 (.inr h)
  simp (disch := omega) [e2, e3, wrap_in]
  by_cases e12 : n = 12
  · have e12' : l.length = 12 := by omega
    have hv : splV l q a = ([], 5) := by unfold splV; rw [if_neg hco, Int.toNat_natCast, if_neg e1, if_pos e12']
    rw [hv]
    simp (disch := omega) [e12]
    exact ⟨.nil, keeps_app _⟩
  have e12' : ¬ l.length = 12 := by omega
  have e12i : ¬ (n : Int) = 12 := by omega
  have hv : splV l q a = (insL (setLen l q a) (cutC (el l q) a), 0) := by unfold splV; rw [if_neg hco, Int.toNat_natCast, if_neg e1, if_neg e12']
  rw [hv]
  simp (disch := omega) [e12i]
  obtain ⟨M3, hM3⟩ : ∃ M3 : Mem, M3 = M ++ [Slot.live ⟨[.slice (some ⟨id, off, none⟩) n c], true, true, 30, 1⟩, Slot.live ⟨[.slice none 0 0], true, true, 30, 1⟩, Slot.live ⟨[iv (el l q).src, iv (el l q).fr, iv (el l q).len, iv (el l q).at_, iv (el l q).gain], true, true, 34, 5⟩] := ⟨_, rfl⟩
  have kb : Keeps M M3 := by rw [hM3]; exact keeps_app _
  have qb : M3.length = M.length + 3 := by rw [hM3]; simp
  have x1 : M3[M.length + 1]? = some (Slot.live ⟨[.slice none 0 0], true, true, 30, 1⟩) := by rw [hM3]; simp
  have x2 : M3[M.length + 2]? = some (Slot.live ⟨[iv (el l q).src, iv (el l q).fr, iv (el l q).len, iv (el l q).at_, iv (el l q).gain], true, true, 34, 5⟩) := by rw [hM3]; simp
  rw [← hM3]
  clear hM3
  refine awCall_ctr ((CloneClip_a (c := c) (h.keeps kb) (by omega)).weaken (by omega)) ?_
  rintro r M4 ⟨hA4, k4⟩
  have l4 := k4.len
  obtain ⟨A5, n5, c5, rfl, hl5, hA5⟩ := hA4
  obtain rfl : n = n5 := by omega
  rcases hA5 with ⟨-, h5, -⟩ | ⟨id5, t5, rfl, hid5, hr5⟩
  · omega
  have y1 := k4.get x1
  have y2 := k4.get x2
  have hid5l := (List.getElem?_eq_some_iff.1 hr5).1
  have hfill : Instr.fill (fun x => [(0, 1)][x]?) #[Value.slice none 0 0] [(0, .slice (some ⟨id5, 0, none⟩) n c5)] = some #[.slice (some ⟨id5, 0, none⟩) n c5] := by rfl
  have z2 : cellAt M4 (M.length + 2) 3 = some (iv (el l q).at_) := by simp [cellAt, y2]
  simp (disch := omega) [hfill, wrap_in, cellAt_app z2]
  refine ⟨hq, ?_⟩
  have hr5' : (M4 ++ [Slot.live ⟨[.slice (some ⟨id5, 0, none⟩) n c5], true, true, 30, 1⟩])[id5]? = some (.live ⟨cellsL clipR l, true, t5, 34, 5⟩) := (keeps_app _).get hr5
  have hput := put_atC (b := M.length) (v := iv (a - (el l q).at_)) (p := q * 5 + 2) hr5' (by omega) (by rw [cellsL_len]; omega) rfl
  rw [cells_set_len (by omega)] at hput
  change _ = some ((M4 ++ [Slot.live ⟨[.slice (some ⟨id5, 0, none⟩) n c5], true, true, 30, 1⟩]).set id5 (.live ⟨cellsL clipR (setLen l q a), true, t5, 34, 5⟩)) at hput
  obtain ⟨M6, hM6⟩ : ∃ M6 : Mem, M6 = (M4 ++ [Slot.live ⟨[.slice (some ⟨id5, 0, none⟩) n c5], true, true, 30, 1⟩]).set id5 (.live ⟨cellsL clipR (setLen l q a), true, t5, 34, 5⟩) := ⟨_, rfl⟩
  have l6 : M6.length = M4.length + 1 := by rw [hM6]; simp
  have r6 : M6[id5]? = some (.live ⟨cellsL clipR (setLen l q a), true, t5, 34, 5⟩) := by rw [hM6, List.getElem?_set_self (by simp; omega)]
  have p1 : M6[M.length + 1]? = some (Slot.live ⟨[.slice none 0 0], true, true, 30, 1⟩) := by rw [hM6, List.getElem?_set_ne (by omega)]; exact (keeps_app _).get y1
  have p2 : M6[M.length + 2]? = some (Slot.live ⟨[iv (el l q).src, iv (el l q).fr, iv (el l q).len, iv (el l q).at_, iv (el l q).gain], true, true, 34, 5⟩) := by rw [hM6, List.getElem?_set_ne (by omega)]; exact (keeps_app _).get y2
  have p3 : M6[M4.length]? = some (Slot.live ⟨[.slice (some ⟨id5, 0, none⟩) n c5], true, true, 30, 1⟩) := by rw [hM6, List.getElem?_set_ne (by omega)]; exact getElem?_snoc_eq
  have k6 : Keeps M M6 := by rw [hM6]; exact keeps_set ((kb.trans k4).app _) (by omega)
  rw [← hM6] at hput
  clear hM6
  rw [show (Value.int IntKind.i64 (a - (el l q).at_)) = iv (a - (el l q).at_) from rfl, hput]
  have q5 : cellsAt M6 (M.length + 2) 0 5 = some [iv (el l q).src, iv (el l q).fr, iv (el l q).len, iv (el l q).at_, iv (el l q).gain] := by simp [cellsAt, p2]
  have q1 : cellAt M6 (M.length + 2) 1 = some (iv (el l q).fr) := by simp [cellAt, p2]
  have q2 : cellAt M6 (M.length + 2) 2 = some (iv (el l q).len) := by simp [cellAt, p2]
  have q3 : cellAt M6 (M.length + 2) 3 = some (iv (el l q).at_) := by simp [cellAt, p2]
  simp (disch := omega) [q5]
  refine awDraw_W (fun X => M6 ++ [Slot.live ⟨[iv (el l q).src, if X 16 = true then iv ((el l q).fr + a - (el l q).at_) else iv (el l q).fr, if X 18 = true then iv ((el l q).at_ + (el l q).len - a) else iv (el l q).len, if X 20 = true then iv a else iv (el l q).at_, iv (el l q).gain], true, true, 34, 5⟩]) (fun k => match k with
    | 0 => Value.pointer (some ⟨M.length + 2, 1, none⟩)
    | 1 => iv (el l q).fr
    | 2 => iv a
    | 3 => iv ((el l q).fr + a)
    | 4 => Value.pointer (some ⟨M.length + 2, 3, none⟩)
    | 5 => iv (el l q).at_
    | 6 => iv ((el l q).fr + a - (el l q).at_)
    | 7 => Value.pointer (some ⟨M.length + 2, 3, none⟩)
    | 8 => iv (el l q).at_
    | 9 => Value.pointer (some ⟨M.length + 2, 2, none⟩)
    | 10 => iv (el l q).len
    | 11 => iv ((el l q).at_ + (el l q).len)
    | 12 => iv a
    | 13 => iv ((el l q).at_ + (el l q).len - a)
    | 14 => iv a
    | 15 => Value.pointer (some ⟨M6.length, 1, none⟩)
    | 16 => undef
    | 17 => Value.pointer (some ⟨M6.length, 2, none⟩)
    | 18 => undef
    | 19 => Value.pointer (some ⟨M6.length, 3, none⟩)
    | 20 => undef
    | _ => undef) (by kernel_rfl) (by decide +kernel) (by decide +kernel) (by simp) ?_ ?_
  · intro X k o T K hX hp hf ho hK
    have f9 := hf 9 (by decide +kernel)
    have f2 := hf 2 (by decide +kernel)
    have f11 := hf 11 (by decide +kernel)
    simp at f9 f2 f11
    rcases k with _ | _ | _ | _ | _ | _ | _ | _ | _ | _ | _ | _ | _ | _ | _ | _ | _ | _ | _ | _ | _ | k
    · simp at ho; subst ho
      simp (disch := omega) [f9, f2, f11, cellAt_app q1, cellAt_app q2, cellAt_app q3, wrap_in]
      have := hK _ (.inl rfl)
      simpa [upX] using this
    · simp at ho; subst ho
      have p0 := hp 0 59 (by decide +kernel) rfl
      simp (disch := omega) [f9, f2, f11, cellAt_app q1, cellAt_app q2, cellAt_app q3, wrap_in, p0]
      have := hK _ (.inl rfl)
      simpa [upX] using this
    · simp at ho; subst ho
      simp (disch := omega) [f9, f2, f11, cellAt_app q1, cellAt_app q2, cellAt_app q3, wrap_in]
      have := hK _ (.inl rfl)
      simpa [upX] using this
    · simp at ho; subst ho
      have p1 := hp 1 60 (by decide +kernel) rfl
      have p2 := hp 2 61 (by decide +kernel) rfl
      simp (disch := omega) [f9, f2, f11, cellAt_app q1, cellAt_app q2, cellAt_app q3, wrap_in, p1, p2]
      have := hK _ (.inl rfl)
      simpa [upX] using this
    · simp at ho; subst ho
      simp (disch := omega) [f9, f2, f11, cellAt_app q1, cellAt_app q2, cellAt_app q3, wrap_in]
      have := hK _ (.inl rfl)
      simpa [upX] using this
    · simp at ho; subst ho
      have p4 := hp 4 63 (by decide +kernel) rfl
      simp (disch := omega) [f9, f2, f11, cellAt_app q1, cellAt_app q2, cellAt_app q3, wrap_in, p4]
      have := hK _ (.inl rfl)
      simpa [upX] using this
    · simp at ho; subst ho
      have p3 := hp 3 62 (by decide +kernel) rfl
      have p5 := hp 5 64 (by decide +kernel) rfl
      simp (disch := omega) [f9, f2, f11, cellAt_app q1, cellAt_app q2, cellAt_app q3, wrap_in, p3, p5]
      have := hK _ (.inl rfl)
      simpa [upX] using this
    · simp at ho; subst ho
      simp (disch := omega) [f9, f2, f11, cellAt_app q1, cellAt_app q2, cellAt_app q3, wrap_in]
      have := hK _ (.inl rfl)
      simpa [upX] using this
    · simp at ho; subst ho
      have p7 := hp 7 66 (by decide +kernel) rfl
      simp (disch := omega) [f9, f2, f11, cellAt_app q1, cellAt_app q2, cellAt_app q3, wrap_in, p7]
      have := hK _ (.inl rfl)
      simpa [upX] using this
    · simp at ho; subst ho
      simp (disch := omega) [f9, f2, f11, cellAt_app q1, cellAt_app q2, cellAt_app q3, wrap_in]
      have := hK _ (.inl rfl)
      simpa [upX] using this
    · simp at ho; subst ho
      have p9 := hp 9 68 (by decide +kernel) rfl
      simp (disch := omega) [f9, f2, f11, cellAt_app q1, cellAt_app q2, cellAt_app q3, wrap_in, p9]
      have := hK _ (.inl rfl)
      simpa [upX] using this
    · simp at ho; subst ho
      have p8 := hp 8 67 (by decide +kernel) rfl
      have p10 := hp 10 69 (by decide +kernel) rfl
      simp (disch := omega) [f9, f2, f11, cellAt_app q1, cellAt_app q2, cellAt_app q3, wrap_in, p8, p10]
      have := hK _ (.inl rfl)
      simpa [upX] using this
    · simp at ho; subst ho
      simp (disch := omega) [f9, f2, f11, cellAt_app q1, cellAt_app q2, cellAt_app q3, wrap_in]
      have := hK _ (.inl rfl)
      simpa [upX] using this
    · simp at ho; subst ho
      have p11 := hp 11 70 (by decide +kernel) rfl
      have p12 := hp 12 71 (by decide +kernel) rfl
      simp (disch := omega) [f9, f2, f11, cellAt_app q1, cellAt_app q2, cellAt_app q3, wrap_in, p11, p12]
      have := hK _ (.inl rfl)
      simpa [upX] using this
    · simp at ho; subst ho
      simp (disch := omega) [f9, f2, f11, cellAt_app q1, cellAt_app q2, cellAt_app q3, wrap_in]
      have := hK _ (.inl rfl)
      simpa [upX] using this
    · simp at ho; subst ho
      simp (disch := omega) [f9, f2, f11, cellAt_app q1, cellAt_app q2, cellAt_app q3, wrap_in]
      have := hK _ (.inl rfl)
      simpa [upX] using this
    · simp at ho; subst ho
      have p15 := hp 15 74 (by decide +kernel) rfl
      have p6 := hp 6 65 (by decide +kernel) rfl
      simp (disch := omega) [f9, f2, f11, cellAt_app q1, cellAt_app q2, cellAt_app q3, wrap_in, p15, p6]
      have := hK undef (.inr rfl)
      simpa [upX] using this
    · simp at ho; subst ho
      simp (disch := omega) [f9, f2, f11, cellAt_app q1, cellAt_app q2, cellAt_app q3, wrap_in]
      have := hK _ (.inl rfl)
      simpa [upX] using this
    · simp at ho; subst ho
      have p17 := hp 17 75 (by decide +kernel) rfl
      have p13 := hp 13 72 (by decide +kernel) rfl
      simp (disch := omega) [f9, f2, f11, cellAt_app q1, cellAt_app q2, cellAt_app q3, wrap_in, p17, p13]
      have := hK undef (.inr rfl)
      simpa [upX] using this
    · simp at ho; subst ho
      simp (disch := omega) [f9, f2, f11, cellAt_app q1, cellAt_app q2, cellAt_app q3, wrap_in]
      have := hK _ (.inl rfl)
      simpa [upX] using this
    · simp at ho; subst ho
      have p19 := hp 19 76 (by decide +kernel) rfl
      have p14 := hp 14 73 (by decide +kernel) rfl
      simp (disch := omega) [f9, f2, f11, cellAt_app q1, cellAt_app q2, cellAt_app q3, wrap_in, p19, p14]
      have := hK undef (.inr rfl)
      simpa [upX] using this
    · simp at ho
  intro X T hX hf
  have f6 := hf 6 (by decide +kernel)
  have f10 := hf 10 (by decide +kernel)
  have f11 := hf 11 (by decide +kernel)
  simp at f6 f10 f11
  have X16 := hX 16 (by decide +kernel)
  have X18 := hX 18 (by decide +kernel)
  have X20 := hX 20 (by decide +kernel)
  simp (disch := omega) [X16, X18, X20, f6, f10, f11]
  rw [show (el l q).fr + a - (el l q).at_ = (el l q).fr + (a - (el l q).at_) by omega, show (el l q).at_ + (el l q).len - a = (el l q).len - (a - (el l q).at_) by omega]
  obtain ⟨M7, hM7⟩ : ∃ M7 : Mem, M7 = M6 ++ [Slot.live ⟨[iv (el l q).src, iv ((el l q).fr + (a - (el l q).at_)), iv ((el l q).len - (a - (el l q).at_)), iv a, iv (el l q).gain], true, true, 34, 5⟩] := ⟨_, rfl⟩
  have k67 : Keeps M6 M7 := by rw [hM7]; exact keeps_app _
  have l7 : M7.length = M6.length + 1 := by rw [hM7]; simp
  have q7 : cellsAt M7 M6.length 0 5 = some [iv (el l q).src, iv ((el l q).fr + (a - (el l q).at_)), iv ((el l q).len - (a - (el l q).at_)), iv a, iv (el l q).gain] := by rw [hM7]; simp
  rw [← hM7]
  clear hM7
  have q6 : cellsAt M7 M4.length 0 1 = some [.slice (some ⟨id5, 0, none⟩) n c5] := cellsAt_keeps k67 (by simp [cellsAt, p3])
  rw [q6, q7]
  simp
  have r7 := k67.get r6
  have h7 : Sl clipR M7 (some ⟨id5, 0, none⟩) n (setLen l q a) := ⟨by rw [setLen_len]; omega, fun _ => ⟨id5, 0, rfl, by simp [rowEsz, r7], fun j x hx => by simp [cellAt, r7, hx]⟩⟩
  refine awCall_ctr ((put_i (c := c5) (cutC (el l q) a) h7 (by omega)).weaken (by omega)) ?_
  rintro _ M8 ⟨v0, rfl, hI, k8⟩
  have l8 := k8.len
  obtain ⟨A3, n3, c3, rfl, hn3, hI2⟩ := hI
  have p8 : (M8 ++ [Slot.live ⟨[.slice A3 n3 c3], true, true, 30, 1⟩])[M.length + 1]? = some (Slot.live ⟨[.slice none 0 0], true, true, 30, 1⟩) := (keeps_app _).get (k8.get (k67.get p1))
  have hput2 : putCells M.length (M8 ++ [Slot.live ⟨[.slice A3 n3 c3], true, true, 30, 1⟩]) (M.length + 1) 0 [.slice A3 n3 c3] = some ((M8 ++ [Slot.live ⟨[.slice A3 n3 c3], true, true, 30, 1⟩]).set (M.length + 1) (Slot.live ⟨[.slice A3 n3 c3], true, true, 30, 1⟩)) := put_whole p8 (by omega) rfl rfl
  simp (disch := omega) [f6, hput2]
  have hl9 : M.length + 1 < M8.length := by omega
  have hcs : cellsAt (M8.set (M.length + 1) (Slot.live ⟨[.slice A3 n3 c3], true, true, 30, 1⟩) ++ [Slot.live ⟨[.slice A3 n3 c3], true, true, 30, 1⟩]) (M.length + 1) 0 1 = some [.slice A3 n3 c3] := cellsAt_app (by simp [cellsAt, hl9]) _
  rw [hcs]
  simp
  have hI3 : Acc clipR 34 M7.length M8 (.slice A3 n3 c3) (insL (setLen l q a) (cutC (el l q) a)) := ⟨_, _, _, rfl, hn3, hI2⟩
  exact ⟨((hI3.set_ne (by omega)).keeps (keeps_app _)).low (by omega), (keeps_set (k6.trans (k67.trans k8)) (by omega)).trans (keeps_app _)⟩
end Go.Proofs.Ytimijeeihicohaa

namespace Go.Proofs.Ytimijeeihicohaa
open Go.RowKit
set_option linter.unusedVariables false
set_option linter.unusedSimpArgs false
set_option maxRecDepth 100000
attribute [local simp] List.getElem?_cons_zero
attribute [local irreducible] awCond awCall awLoop awDraw ow retQ retC resQ Keeps
theorem l23Ask_s {M : Mem} {id0 off0 : Nat} {A : Option Addr} {n c : Nat} {l : List Clip} (k : Int) (hp : cellAt M id0 off0 = some (.slice A n c)) (h : Sl clipR M A n l) (hn : n ≤ 1048576) : Det Try.prog M.length 41 [.pointer (some ⟨id0, off0, none⟩), iv k] M (iv (clipCo l k)) M := by
  have hl := h.1
  first | (refine det_fn Try.func41 rfl Try.ntmps41 Try.results41 rfl rfl rfl (by simp) ?_) | (refine det_fnC Try.func41 rfl Try.ntmps41 Try.results41 rfl rfl (by simp) ?_)
  simp
  refine awCall_det' (l23Ok_a (c := c) hp h (by omega)) (by omega) ?_
  cases e1 : okC l
  · simp [clipCo, e1, Keeps.refl]
  simp (disch := omega) [hp, wrap_in]
  refine awCall_det' (l00In_a k 0 (n - 1)) (by omega) ?_
  cases e2 : inB k 0 (n - 1)
  · simp [clipCo, e1, hl, e2, Keeps.refl]
  · simp [clipCo, e1, hl, e2, Keeps.refl]
set_option maxHeartbeats 4000000 in
theorem SplitClip_s {M : Mem} {B : Nat} {v : Value} {l : List Clip} (k a : Int) (hA : Acc clipR 34 B M v l) (hn : l.length ≤ 1048576) (ha : (Lit.int .i64 a).wf = true) : Ctr Try.prog M.length 15 [.agg #[v], iv k, iv a] M fun r M' => ∃ v0, r = .tuple #[.agg #[v0], iv (splV l k a).2] ∧ Acc clipR 34 M.length M' v0 (splV l k a).1 ∧ Keeps M M' := by
  have hA0 := hA
  obtain ⟨A, n, c, rfl, hl, h, -⟩ := hA.sl
  first | (refine ctr_fn Try.func15 rfl Try.ntmps15 Try.results15 rfl rfl (by simp) ?_) | (refine ctr_fnC Try.func15 rfl Try.ntmps15 Try.results15 rfl (by simp) ?_)
  simp
  refine awCall_det' (l23Ask_s (A := A) (n := n) (c := c) k (by simp) (h.app _) (by omega)) (by simp) ?_
  by_cases e0 : clipCo l k = 0
  case neg =>
    have hv : splV l k a = ([], clipCo l k) := by unfold splV; rw [if_pos e0]
    simp [e0]
    rw [hv]
    exact ⟨_, ⟨rfl, rfl⟩, .nil, keeps_app _⟩
  have hok : okC l = true := by
    unfold clipCo at e0
    split at e0
    · cases e0
    · rename_i hh; simpa using hh
  have hn12 := okC_len hok
  have hk : inB k 0 (l.length - 1) = true := by
    unfold clipCo at e0
    rw [if_neg (by simp [hok])] at e0
    split at e0
    · cases e0
    · rename_i hh; simpa using hh
  have hk' := inB_iff.1 hk
  obtain ⟨q, rfl⟩ := Int.eq_ofNat_of_zero_le hk'.1
  have hq : q < n := by omega
  obtain ⟨id, off, rfl, he, hc⟩ := h.at_ hq
  obtain ⟨c0, c1, c2, c3, c4⟩ := clip_cells hc
  have hcl := clip_load hc
  have hcb := okC_el hok (i := q) (by omega)
  unfold clipB at hcb
  simp only [Bool.and_eq_true, inB_iff] at hcb
  obtain ⟨⟨⟨⟨w1, w2⟩, w3⟩, w4⟩, w5⟩ := hcb
  simp [Lit.wf, IntKind.min, IntKind.max, IntKind.bits, IntKind.signed] at ha
  have hco : ¬ clipCo l (q : Int) ≠ 0 := fun h => h e0
  simp (disch := omega) [e0, wrap_in, hq, cellsAt_app hcl]
  by_cases e1 : a ≤ (el l q).at_ ∨ (el l q).at_ + (el l q).len ≤ a
  · have hv : splV l q a = ([], 2) := by unfold splV; rw [if_neg hco, Int.toNat_natCast, if_pos e1]
    rw [hv]
    by_cases e2 : a ≤ (el l q).at_
    · simp (disch := omega) [e2]
      exact ⟨.nil, keeps_app _⟩
    · have e3 : (el l q).at_ + (el l q).len ≤ a := by omega
      simp (disch := omega) [e2, e3, wrap_in]
      exact ⟨.nil, keeps_app _⟩
  have e2 : ¬ a ≤ (el l q).at_ := fun h => e1 (.inl h)
  have e3 : ¬ (el l q).at_ + (el l q).len ≤ a := fun h => e1 (.inr h)
  simp (disch := omega) [e2, e3, wrap_in]
  by_cases e12 : n = 12
  · have e12' : l.length = 12 := by omega
    have hv : splV l q a = ([], 5) := by unfold splV; rw [if_neg hco, Int.toNat_natCast, if_neg e1, if_pos e12']
    rw [hv]
    simp (disch := omega) [e12]
    exact ⟨.nil, keeps_app _⟩
  have e12' : ¬ l.length = 12 := by omega
  have e12i : ¬ (12 : Int) ≤ n := by omega
  have hv : splV l q a = (insL (setLen l q a) (cutC (el l q) a), 0) := by unfold splV; rw [if_neg hco, Int.toNat_natCast, if_neg e1, if_neg e12']
  rw [hv]
  simp (disch := omega) [e12i, wrap_in]
  obtain ⟨M3, hM3⟩ : ∃ M3 : Mem, M3 = M ++ [Slot.live ⟨[.slice (some ⟨id, off, none⟩) n c], true, true, 30, 1⟩, Slot.live ⟨[.slice none 0 0], true, true, 30, 1⟩, Slot.live ⟨[iv (el l q).src, iv (el l q).fr, iv (el l q).len, iv (el l q).at_, iv (el l q).gain], true, true, 34, 5⟩, Slot.live ⟨[], true, true, 34, 5⟩] := ⟨_, rfl⟩
  have kb : Keeps M M3 := by rw [hM3]; exact keeps_app _
  have qb : M3.length = M.length + 4 := by rw [hM3]; simp
  have x1 : M3[M.length + 1]? = some (Slot.live ⟨[.slice none 0 0], true, true, 30, 1⟩) := by rw [hM3]; simp
  have x2 : M3[M.length + 2]? = some (Slot.live ⟨[iv (el l q).src, iv (el l q).fr, iv (el l q).len, iv (el l q).at_, iv (el l q).gain], true, true, 34, 5⟩) := by rw [hM3]; simp
  have x3 : M3[M.length + 3]? = some (Slot.live ⟨[], true, true, 34, 5⟩) := by rw [hM3]; simp
  rw [← hM3]
  clear hM3
  refine Acc.extend (R := clipR) (e := 34) (B := M.length + 3) (by_ := 40) (l := []) (ls := l) ⟨_, 0, 0, rfl, rfl, .inr ⟨M.length + 3, true, rfl, Nat.le_refl _, x3⟩⟩ (by omega) (by show M.length + 3 ≤ M3.length; omega) (by simp) (by kernel_rfl) ((hA0.keeps kb).src ⟨_, Try.underlying28⟩) (clip_one _) (by simp <;> omega) (by unfold maxLen; simp <;> omega) ?_
  intro v4 M4 hA4 hS4
  have l4 := hS4.1
  replace l4 : M3.length ≤ M4.length := l4
  have kM4 : Keeps M M4 := hS4.keeps kb (by omega)
  obtain ⟨A5, n5, c5, rfl, hl5, hA5⟩ := hA4
  rw [List.nil_append] at hl5 hA5
  obtain rfl : n = n5 := by omega
  rcases hA5 with ⟨-, h5, -⟩ | ⟨id5, t5, rfl, hid5, hr5⟩
  · omega
  have y1 := hS4.2 _ _ (by omega) x1
  have y2 := hS4.2 _ _ (by omega) x2
  have hid5l := (List.getElem?_eq_some_iff.1 hr5).1
  have hre5 : rowEsz M4 id5 = some 5 := by simp [rowEsz, hr5]
  have hput := put_atC (b := M.length) (v := iv (a - (el l q).at_)) (p := q * 5 + 2) hr5 (by omega) (by rw [cellsL_len]; omega) rfl
  rw [cells_set_len (by omega)] at hput
  change _ = some (M4.set id5 (.live ⟨cellsL clipR (setLen l q a), true, t5, 34, 5⟩)) at hput
  obtain ⟨M6, hM6⟩ : ∃ M6 : Mem, M6 = M4.set id5 (.live ⟨cellsL clipR (setLen l q a), true, t5, 34, 5⟩) := ⟨_, rfl⟩
  have l6 : M6.length = M4.length := by rw [hM6]; simp
  have r6 : M6[id5]? = some (.live ⟨cellsL clipR (setLen l q a), true, t5, 34, 5⟩) := by rw [hM6, List.getElem?_set_self (by omega)]
  have p1 : M6[M.length + 1]? = some (Slot.live ⟨[.slice none 0 0], true, true, 30, 1⟩) := by rw [hM6, List.getElem?_set_ne (by omega)]; exact y1
  have p2 : M6[M.length + 2]? = some (Slot.live ⟨[iv (el l q).src, iv (el l q).fr, iv (el l q).len, iv (el l q).at_, iv (el l q).gain], true, true, 34, 5⟩) := by rw [hM6, List.getElem?_set_ne (by omega)]; exact y2
  have k6 : Keeps M M6 := by rw [hM6]; exact keeps_set kM4 (by omega)
  rw [← hM6] at hput
  clear hM6
  have h2l : M.length + 2 < M6.length := by omega
  have q1 : cellAt M6 (M.length + 2) 1 = some (iv (el l q).fr) := by simp [cellAt, p2]
  have g1 : putCells M.length M6 (M.length + 2) 1 [iv ((el l q).fr + (a - (el l q).at_))] = some (M6.set (M.length + 2) (Slot.live ⟨[iv (el l q).src, iv ((el l q).fr + (a - (el l q).at_)), iv (el l q).len, iv (el l q).at_, iv (el l q).gain], true, true, 34, 5⟩)) := put_atC p2 (by omega) (by simp) rfl
  have g2 : putCells M.length (M6.set (M.length + 2) (Slot.live ⟨[iv (el l q).src, iv ((el l q).fr + (a - (el l q).at_)), iv (el l q).len, iv (el l q).at_, iv (el l q).gain], true, true, 34, 5⟩)) (M.length + 2) 3 [iv a] = some ((M6.set (M.length + 2) (Slot.live ⟨[iv (el l q).src, iv ((el l q).fr + (a - (el l q).at_)), iv (el l q).len, iv (el l q).at_, iv (el l q).gain], true, true, 34, 5⟩)).set (M.length + 2) (Slot.live ⟨[iv (el l q).src, iv ((el l q).fr + (a - (el l q).at_)), iv (el l q).len, iv a, iv (el l q).gain], true, true, 34, 5⟩)) := put_atC (List.getElem?_set_self h2l) (by omega) (by simp) rfl
  have g3 : putCells M.length (M6.set (M.length + 2) (Slot.live ⟨[iv (el l q).src, iv ((el l q).fr + (a - (el l q).at_)), iv (el l q).len, iv a, iv (el l q).gain], true, true, 34, 5⟩)) (M.length + 2) 2 [iv ((el l q).len - (a - (el l q).at_))] = some ((M6.set (M.length + 2) (Slot.live ⟨[iv (el l q).src, iv ((el l q).fr + (a - (el l q).at_)), iv (el l q).len, iv a, iv (el l q).gain], true, true, 34, 5⟩)).set (M.length + 2) (Slot.live ⟨[iv (el l q).src, iv ((el l q).fr + (a - (el l q).at_)), iv ((el l q).len - (a - (el l q).at_)), iv a, iv (el l q).gain], true, true, 34, 5⟩)) := put_atC (List.getElem?_set_self h2l) (by omega) (by simp) rfl
  have q2 : cellAt (M6.set (M.length + 2) (Slot.live ⟨[iv (el l q).src, iv ((el l q).fr + (a - (el l q).at_)), iv (el l q).len, iv a, iv (el l q).gain], true, true, 34, 5⟩)) (M.length + 2) 2 = some (iv (el l q).len) := by simp [cellAt, h2l]
  have q5 : cellsAt (M6.set (M.length + 2) (Slot.live ⟨[iv (el l q).src, iv ((el l q).fr + (a - (el l q).at_)), iv ((el l q).len - (a - (el l q).at_)), iv a, iv (el l q).gain], true, true, 34, 5⟩)) (M.length + 2) 0 5 = some [iv (el l q).src, iv ((el l q).fr + (a - (el l q).at_)), iv ((el l q).len - (a - (el l q).at_)), iv a, iv (el l q).gain] := by simp [cellsAt, h2l]
  rw [List.set_set] at g2 g3
  simp (disch := omega) [hre5, hq]
  rw [show (Value.int IntKind.i64 (a - (el l q).at_)) = iv (a - (el l q).at_) from rfl, hput]
  simp (disch := omega) [q1, wrap_in]
  rw [show (Value.int IntKind.i64 ((el l q).fr + (a - (el l q).at_))) = iv ((el l q).fr + (a - (el l q).at_)) from rfl, g1]
  simp (disch := omega) [g2, q2, wrap_in]
  rw [show (Value.int IntKind.i64 ((el l q).len - (a - (el l q).at_))) = iv ((el l q).len - (a - (el l q).at_)) from rfl, g3]
  simp (disch := omega) [q5]
  have hn12' := setLen_len l q a
  obtain ⟨M7, hM7⟩ : ∃ M7 : Mem, M7 = M6.set (M.length + 2) (Slot.live ⟨[iv (el l q).src, iv ((el l q).fr + (a - (el l q).at_)), iv ((el l q).len - (a - (el l q).at_)), iv a, iv (el l q).gain], true, true, 34, 5⟩) := ⟨_, rfl⟩
  have l7 : M7.length = M6.length := by rw [hM7]; simp
  have r7 : M7[id5]? = some (.live ⟨cellsL clipR (setLen l q a), true, t5, 34, 5⟩) := by rw [hM7, List.getElem?_set_ne (by omega)]; exact r6
  have p17 : M7[M.length + 1]? = some (Slot.live ⟨[.slice none 0 0], true, true, 30, 1⟩) := by rw [hM7, List.getElem?_set_ne (by omega)]; exact p1
  have k7 : Keeps M M7 := by rw [hM7]; exact keeps_set k6 (by omega)
  rw [← hM7]
  have hA7 : Acc clipR 34 (M.length + 3) M7 (.slice (some ⟨id5, 0, none⟩) n c5) (setLen l q a) := ⟨_, _, _, rfl, by omega, .inr ⟨id5, t5, rfl, by omega, r7⟩⟩
  refine awCall_ctr ((l23Put_s (cutC (el l q) a) hA7 (by omega) (setLen_up hok q a)).weaken (by omega)) ?_
  rintro _ M8 ⟨v0, rfl, hI, k8⟩
  have l8 := k8.len
  obtain ⟨A3, n3, c3, rfl, hn3, hI2⟩ := hI
  have p8 : M8[M.length + 1]? = some (Slot.live ⟨[.slice none 0 0], true, true, 30, 1⟩) := k8.get p17
  have hput2 : putCells M.length M8 (M.length + 1) 0 [.slice A3 n3 c3] = some (M8.set (M.length + 1) (Slot.live ⟨[.slice A3 n3 c3], true, true, 30, 1⟩)) := put_whole p8 (by omega) rfl rfl
  have hfill : Instr.fill (fun x => [(0, 1)][x]?) #[Value.slice none 0 0] [(0, .slice A3 n3 c3)] = some #[.slice A3 n3 c3] := by rfl
  simp (disch := omega) [hfill, hput2]
  have hl9 : M.length + 1 < M8.length := by omega
  have hcs : cellsAt (M8.set (M.length + 1) (Slot.live ⟨[.slice A3 n3 c3], true, true, 30, 1⟩)) (M.length + 1) 0 1 = some [.slice A3 n3 c3] := by simp [cellsAt, hl9]
  rw [hcs]
  simp
  have hI3 : Acc clipR 34 M7.length M8 (.slice A3 n3 c3) (insL (setLen l q a) (cutC (el l q) a)) := ⟨_, _, _, rfl, hn3, hI2⟩
  exact ⟨(hI3.set_ne (by omega)).low (by omega), keeps_set (k7.trans k8) (by omega)⟩
end Go.Proofs.Ytimijeeihicohaa

namespace Go.Proofs.Ytimijeeihicohaa
open Go.RowKit
set_option linter.unusedVariables false
set_option linter.unusedSimpArgs false
set_option maxRecDepth 100000
attribute [local simp] List.getElem?_cons_zero
attribute [local irreducible] awCond awCall awLoop awDraw ow retQ retC resQ Keeps
theorem to_Track_e {M : Mem} {v : Value} {lo hi : Nat} {l : List Clip} (h : RdL clipR lo hi M v l) (hl : l.length ≤ 1048576) : ∃ u N, Det Try.prog M.length 9 [.agg #[v]] M (.agg #[u]) (M ++ N) ∧ OwL clipR M.length (M ++ N).length (M ++ N) u l ∧ Acc clipR 34 M.length (M ++ N) u l := by
  obtain ⟨A, n, c, rfl, hn, hS, _⟩ := h
  have hl' := hS.1
  refine ⟨.slice (some ⟨M.length + 3, 0, none⟩) n n, [.live ⟨[.slice A n c], true, true, 24, 1⟩, .live ⟨[.slice (some ⟨M.length + 3, 0, none⟩) n n], true, true, 30, 1⟩, .live ⟨[.slice (some ⟨M.length + 3, 0, none⟩) n n], true, true, 30, 1⟩, .live ⟨cellsL clipR l, true, true, 34, 5⟩], ?_, ?_, ?_⟩
  · refine Ctr.det ?_
    first | (refine ctr_fn Try.func9 rfl Try.ntmps9 Try.results9 rfl rfl (by simp) ?_) | (refine ctr_fnC Try.func9 rfl Try.ntmps9 Try.results9 rfl (by simp) ?_)
    simp
    refine awCall_det' ((toClipS_d (hS.keeps (keeps_app _)) (by omega))) (by simp) ?_
    simp
  · refine ⟨_, n, n, rfl, by omega, ⟨hl', fun _ => ⟨M.length + 3, 0, rfl, by simp [rowEsz], fun j x hx => by simp [cellAt, hx]⟩⟩, fun a e _ => by injection e with e; subst e; simp, fun _ => ⟨_, _, ⟨cellsL clipR l, true, true, 34, 5⟩, rfl, by simp, rfl⟩⟩
  · exact ⟨_, n, n, rfl, hl', .inr ⟨M.length + 3, true, rfl, by omega, by simp⟩⟩
theorem splV_len {l : List Clip} {k a : Int} (hl : l.length ≤ 1048576) : (splV l k a).1.length ≤ 1048577 := by
  unfold splV
  split
  · exact Nat.zero_le _
  split
  · exact Nat.zero_le _
  split
  · exact Nat.zero_le _
  · rw [insL_len, setLen_len]; omega
theorem SplitClip_sl {M : Mem} {B : Nat} {v : Value} {l : List Clip} (hA : Acc clipR 34 B M v l) (k a : Int) (hl : l.length ≤ 1048576) (ha : (Lit.int .i64 a).wf = true) : Ctr Try.prog M.length 15 [.agg #[v], iv k, iv a] M fun r M' => ∃ v0, r = .tuple #[.agg #[v0], iv (splV l k a).2] ∧ OwL clipR M.length M'.length M' v0 (splV l k a).1 ∧ Keeps M M' :=
  (SplitClip_s k a hA hl ha).mono fun r M' ⟨v0, e, h, hk⟩ => ⟨v0, e, (h.fresh (by have := splV_len (k := k) (a := a) hl; omega) hk).ow.1, hk⟩
theorem SplitClip_il {M : Mem} {B : Nat} {v : Value} {l : List Clip} (hA : Acc clipR 34 B M v l) (k a : Int) (hl : l.length ≤ 1048576) (ha : (Lit.int .i64 a).wf = true) : Ctr Try.prog M.length 16 [.agg #[v], iv k, iv a] M fun r M' => ∃ v0, r = .tuple #[.agg #[v0], iv (splV l k a).2] ∧ OwL clipR M.length M'.length M' v0 (splV l k a).1 ∧ Keeps M M' :=
  (SplitClip_i k a hA hl ha).mono fun r M' ⟨v0, e, h, hk⟩ => ⟨v0, e, (h.fresh (by have := splV_len (k := k) (a := a) hl; omega) hk).ow.1, hk⟩
end Go.Proofs.Ytimijeeihicohaa

namespace Go.Proofs.Ytimijeeihicohaa
open Go.RowKit
set_option linter.unusedVariables false
set_option linter.unusedSimpArgs false
section
variable {P : Program} {b : Nat}
theorem compact_sim {M M' : Mem} {μ μ' : Map} {w w' : World} {q : Nat} {row : Row} {t : Bool} (hS : Sim M μ w) (hS' : Sim M' μ' w') (hst : Step b M μ w M' μ' w') (hk : Keeps M M') (hq : M.length ≤ q) (hr : M'[q]? = some (.live ⟨row.cells, row.own, t, row.elem, row.esz⟩)) (ht : row.tight = true → t = true) (hp : row.cells.all plainV = true) :
    Sim (M ++ [.live row]) (μ.set M.length (μ'.at_ q) (μ'.room q)) w' ∧ Step b M μ w (M ++ [.live row]) (μ.set M.length (μ'.at_ q) (μ'.room q)) w' := by
  have hS0 := hS.forget hS' hst hk
  have st0 := hst.forget hk
  have hvv : ∀ x y, VRel M μ x y → VRel (M ++ [Slot.live row]) (μ.set M.length (μ'.at_ q) (μ'.room q)) x y := fun x y hx => hx.same fun i s hs _ => by
    have hi := (List.getElem?_eq_some_iff.1 hs).1
    exact ⟨by rw [getElem?_snoc_lt hi]; exact hs, Map.set_at_ne (by omega), Map.set_room_ne (by omega)⟩
  have back : ∀ (i : Nat) r, (M ++ [Slot.live row])[i]? = some (.live r) → (i < M.length ∧ M[i]? = some (.live r)) ∨ (i = M.length ∧ r = row) := fun i r h => by
    rcases getElem?_snoc_inv h with ⟨hi, h⟩ | ⟨hi, he⟩
    · exact .inl ⟨hi, h⟩
    · injection he with he
      exact .inr ⟨hi, he⟩
  have hR := hS'.row q _ hr
  constructor
  · constructor
    · intro id r h
      rcases back id r h with ⟨hi, h⟩ | ⟨rfl, rfl⟩
      · obtain ⟨a1, a2, a3⟩ := hS0.row id r h
        refine ⟨by rw [Map.set_at_ne (by omega)]; exact a1, fun j c hj => ?_, ?_⟩
        · rw [Map.set_at_ne (by omega)]
          obtain ⟨d, hd, hv⟩ := a2 j c hj
          exact ⟨d, hd, hvv _ _ hv⟩
        · rw [Map.set_at_ne (by omega), Map.set_room_ne (by omega)]
          exact a3
      · obtain ⟨a1, a2, a3⟩ := hR
        refine ⟨by rw [Map.set_at]; exact a1, fun j c hj => ?_, fun ho => ?_⟩
        · rw [Map.set_at]
          obtain ⟨d, hd, hv⟩ := a2 j c hj
          have hpc := List.all_eq_true.1 hp c (List.mem_of_getElem? hj)
          have := hv.of_plain hpc
          subst this
          exact ⟨d, hd, .plain hpc⟩
        · rw [Map.set_at, Map.set_room]
          obtain ⟨bb, cur, fr, c1, c2, c3, c4, c5, c6⟩ := a3 ho
          exact ⟨bb, cur, fr, c1, c2, c3, c4, c5, fun h => c6 (ht h)⟩
    · intro i j r s h1 h2 hij ho
      rcases back i r h1 with ⟨hi, g1⟩ | ⟨ei, er⟩
      · rcases back j s h2 with ⟨hj, g2⟩ | ⟨ej, es⟩
        · rw [Map.set_at_ne (by omega), Map.set_at_ne (by omega)]
          exact hS0.inj i j r s g1 g2 hij ho
        · rw [ej, Map.set_at_ne (by omega), Map.set_at, ← (hst.map i hi).1]
          exact hS'.inj i q r _ (hk.get g1) hr (by omega) ho
      · rcases back j s h2 with ⟨hj, g2⟩ | ⟨ej, es⟩
        · rw [ei, Map.set_at_ne (i := j) (by omega), Map.set_at, ← (hst.map j hj).1]
          rw [er] at ho
          exact hS'.inj q j _ s hr (hk.get g2) (by omega) ho
        · omega
  · refine ⟨fun i s hs => ⟨s, by rw [getElem?_snoc_lt (List.getElem?_eq_some_iff.1 hs).1]; exact hs, Slot.evolves_refl _ _⟩, fun i hi => ⟨Map.set_at_ne (by omega), Map.set_room_ne (by omega)⟩, st0.os, st0.tape, st0.output, st0.size, st0.block, fun i r' hi h => ?_⟩
    rcases back i r' h with ⟨hi', h⟩ | ⟨rfl, rfl⟩
    · omega
    · rw [Map.set_at]
      exact hst.fresh q _ hq hr
theorem compact_val {M M' : Mem} {μ μ' : Map} {q n m : Nat} {row : Row} {t : Bool} {d : Value} (hr : M'[q]? = some (.live ⟨row.cells, row.own, t, row.elem, row.esz⟩)) (hv : VRel M' μ' (.slice (some ⟨q, 0, none⟩) n m) d) :
    VRel (M ++ [.live row]) (μ.set M.length (μ'.at_ q) (μ'.room q)) (.slice (some ⟨M.length, 0, none⟩) n n) d := by
  obtain ⟨-, a, cp, s, rfl, h1, h2, h3, h4, h5⟩ := hv.sl_inv
  rw [hr] at h1
  injection h1 with h1
  obtain ⟨h6, h7⟩ := h5 _ h1.symm
  refine .sl getElem?_snoc_eq rfl h3 h4 fun r hr' => ?_
  injection hr' with hr'
  subst hr'
  rw [Map.set_at, Map.set_room]
  exact ⟨h6, h7⟩
/-- The row that a slice is. -/
def NewRow (M : Mem) (v : Value) (M' : Mem) (n : Nat) (row : Row) : Prop := ∃ q m t, v = .slice (some ⟨q, 0, none⟩) n m ∧ M.length ≤ q ∧ M'[q]? = some (.live ⟨row.cells, row.own, t, row.elem, row.esz⟩) ∧ (row.tight = true → t = true)
theorem Ctr.compact {f : FuncId} {args : List Value} {M : Mem} {n : Nat} {row : Row} (hp : row.cells.all plainV = true) (h : Ctr P b f args M fun v' M' => NewRow M v' M' n row ∧ Keeps M M') : Det P b f args M (.slice (some ⟨M.length, 0, none⟩) n n) (M ++ [.live row]) :=
  ⟨h.fn, fun μ w cs hl hS => (h.run μ w cs hl hS).mono fun e w' ⟨v', M', c, μ', ⟨⟨q, m, t, h1, h2, h3, h4⟩, hk⟩, he, hv, hS', hst⟩ => by
    subst h1
    obtain ⟨g1, g2⟩ := compact_sim hS hS' hst hk h2 h3 h4 hp
    exact ⟨c, _, he, compact_val h3 hv, g1, g2⟩⟩
/-- The same, where the row comes with a number. -/
theorem Ctr.compact2 {f : FuncId} {args : List Value} {M : Mem} {n : Nat} {row : Row} {u : Value} (hu : plainV u = true) (hp : row.cells.all plainV = true) (h : Ctr P b f args M fun v' M' => ∃ v, v' = .tuple #[u, v] ∧ NewRow M v M' n row ∧ Keeps M M') : Det P b f args M (.tuple #[u, .slice (some ⟨M.length, 0, none⟩) n n]) (M ++ [.live row]) :=
  ⟨h.fn, fun μ w cs hl hS => (h.run μ w cs hl hS).mono fun e w' ⟨v', M', c, μ', ⟨v, e1, ⟨q, m, t, h1, h2, h3, h4⟩, hk⟩, he, hv, hS', hst⟩ => by
    subst h1
    subst e1
    obtain ⟨ys, rfl, hl2⟩ := hv.tup_inv
    obtain ⟨g1, g2⟩ := compact_sim hS hS' hst hk h2 h3 h4 hp
    refine ⟨_, _, he, ?_, g1, g2⟩
    have e0 := hl2.1
    obtain ⟨y0, hy0, r0⟩ := hl2.at_ (i := 0) (x := u) rfl
    obtain ⟨y1, hy1, r1⟩ := hl2.at_ (i := 1) (x := .slice (some ⟨q, 0, none⟩) n m) rfl
    refine .tup (by simpa using e0) fun i x y hx hy => ?_
    have hx' : ([u, .slice (some ⟨M.length, 0, none⟩) n n] : List Value)[i]? = some x := by simpa using hx
    have hy' : ys.toList[i]? = some y := by simpa using hy
    match i, hx' with
    | 0, hx' =>
      simp at hx'
      subst hx'
      rw [hy0] at hy'
      injection hy' with hy'
      subst hy'
      have := r0.of_plain hu
      subst this
      exact .plain hu
    | 1, hx' =>
      simp at hx'
      subst hx'
      rw [hy1] at hy'
      injection hy' with hy'
      subst hy'
      exact compact_val h3 r1
    | i + 2, hx' => simp at hx'⟩
end
end Go.Proofs.Ytimijeeihicohaa
