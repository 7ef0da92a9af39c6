/- The law of the streams is walked. No conditions. -/
import Derived.Test.YthopcmglcnlcfaaE6
namespace Go.Proofs.Ythopcmglcnlcfaa
open Go.RowKit
set_option linter.unusedVariables false
set_option linter.unusedSimpArgs false
set_option maxRecDepth 100000
attribute [local simp] List.getElem?_cons_zero
attribute [local irreducible] awCond awCall awLoop awDraw ow retQ retC resQ Keeps
theorem strAt_app (a b : ByteArray) (i : Nat) : strAt (a ++ b) i = if i < a.size then strAt a i else strAt b (i - a.size) := by
  unfold strAt
  have e : (a ++ b).data = a.data ++ b.data := by simp
  rw [e]
  simp only [List.getD_eq_getElem?_getD, Array.toList_append]
  have hs : a.size = a.data.toList.length := rfl
  by_cases h : i < a.size
  · rw [if_pos h, List.getElem?_append_left (by rw [← hs]; exact h)]
  · rw [if_neg h, List.getElem?_append_right (by rw [← hs]; omega), ← hs]
theorem AtS.before {a b : ByteArray} {p : Nat} {l : List Int} (h : AtS b p l) : AtS (a ++ b) (a.size + p) l := by
  refine ⟨by rw [app_size]; have := h.1; omega, fun i hi => ?_⟩
  rw [strAt_app, if_neg (by omega), ← h.2 i hi]
  congr 1
  omega
theorem AtS.behind {a b : ByteArray} {p : Nat} {l : List Int} (h : AtS a p l) : AtS (a ++ b) p l := by
  refine ⟨by rw [app_size]; have := h.1; omega, fun i hi => ?_⟩
  rw [strAt_app, if_pos (by have := h.1; omega), h.2 i hi]
theorem decV_ok {s : ByteArray} (h : (decV s).2 = 0) : okE (decV s).1 = true := decF_okE 200 0 0 [] (by simp) rfl h
theorem evT_in {s : ByteArray} {d : Int} {q : Nat} {st : Int} (h : (evT s d q st).code = 0) : (evT s d q st).at_ ≤ s.size := by
  by_cases hin : inB st 128 159 = true
  · by_cases k1 : (dataD s q 0).1 = 0
    · have p1 := dataD_ok k1
      by_cases hz : st < 144
      · have e : evT s d q st = ⟨0, ⟨d, 2, st % 16, (dataD s q 0).2, 0⟩, q + 1, st⟩ := by simp [evT, hin, k1, hz]
        rw [e]
        exact p1
      · by_cases k2 : (dataD s (q + 1) 1).1 = 0
        · have p2 := dataD_ok k2
          have e : evT s d q st = ⟨0, ⟨d, 1, st % 16, (dataD s q 0).2, (dataD s (q + 1) 1).2⟩, q + 1 + 1, st⟩ := by simp [evT, hin, k1, hz, k2]
          rw [e]
          exact p2
        · have e : evT s d q st = .bad (dataD s (q + 1) 1).1 := by simp [evT, hin, k1, hz, k2]
          rw [e] at h
          exact absurd h k2
    · have e : evT s d q st = .bad (dataD s q 0).1 := by simp [evT, hin, k1]
      rw [e] at h
      exact absurd h k1
  · simp at hin
    have e : evT s d q st = .bad 9 := by simp [evT, hin]
    rw [e] at h
    cases h
theorem evD_in {s : ByteArray} {p : Nat} {st : Int} (h : (evD s p st).code = 0) : (evD s p st).at_ ≤ s.size := by
  unfold evD at h ⊢
  split at h
  · rename_i hc
    exact absurd h hc
  · rename_i hc
    rw [if_neg hc]
    split at h
    · cases h
    · rename_i h2
      rw [if_neg h2]
      split at h
      · rename_i h3
        rw [if_pos h3]
        exact evT_in h
      · rename_i h3
        rw [if_neg h3]
        exact evT_in h
/-- The canonical form of what has been read is no longer. -/
theorem enc_short {s : ByteArray} (h : (decV s).2 = 0) : (encS (decV s).1).size ≤ s.size := by
  unfold encS
  rw [bstr_size]
  exact decF_room 200 0 0 [] (Nat.zero_le _) (by simp [stAt]) (by simp [encP]) (fun q st _ hc => evD_in hc) h
set_option maxHeartbeats 8000000 in
theorem lawStream_a {M : Mem} {A B : Option Addr} {n c m d : Nat} {cs ds : List Int} (h : Sl codeR M A n cs) (hcs : ∀ x, x ∈ cs → 0 ≤ x ∧ x ≤ 255) (h2 : Sl codeR M B m ds) (hds : ∀ x, x ∈ ds → 0 ≤ x ∧ x ≤ 255) :
    Det Try.prog M.length 5 [.slice A n c, .slice B m d] M (.bool true) M := by
  have K0 := Keeps.refl M
  by_cases hlong : (decide (1048576 < n) || decide (1048576 < m)) = true
  · first | (refine det_fn Try.func5 rfl Try.ntmps5 Try.results5 rfl rfl rfl (by simp) ?_) | (refine det_fnC Try.func5 rfl Try.ntmps5 Try.results5 rfl rfl (by simp) ?_)
    simp
    refine awCall_det' v8Long_a (by omega) ?_
    simp [hlong, K0]
  have hn : n ≤ 1048576 := by simp at hlong; omega
  have hm : m ≤ 1048576 := by simp at hlong; omega
  simp only [Bool.not_eq_true] at hlong
  first | (refine det_fn Try.func5 rfl Try.ntmps5 Try.results5 rfl rfl rfl (by simp) ?_) | (refine det_fnC Try.func5 rfl Try.ntmps5 Try.results5 rfl rfl (by simp) ?_)
  simp
  refine awCall_det' v8Long_a (by omega) ?_
  simp [hlong]
  refine awCall_ctr (E8Stream_a h hn hcs) ?_
  rintro r M1 ⟨A1, c1, l, rfl, hL, hok, k1⟩
  have n1 := k1.len
  have ll := okE_len hok
  have henc : encV l = (encS l, 0) := by unfold encV; rw [hok]; rfl
  have hz : (encS l).size ≤ 2000 := by
    have := encP_len l l.length
    unfold encS
    rw [bstr_size]
    omega
  have hd := dec_enc hok
  have hc := can_enc hok
  try simp
  refine awCall_det' (EncodeStream_i hL (by omega)) (by omega) ?_
  simp [henc]
  refine awCall_ctr ((DecodeStream_i (encS l) (by omega)).weaken (by omega)) ?_
  rintro r M2 ⟨v2, rfl, o2, k2⟩
  have n2 := k2.len
  rw [hd] at o2 ⊢
  simp [henc]
  refine awCall_det' (CanonicalStream_i (encS l) (by omega)) (by omega) ?_
  rw [hc]
  simp
  obtain ⟨A2, q2, c2, rfl, hq2, hS2, -, -⟩ := id o2
  refine awCall_det' (SameStream_s hS2 (hL.keeps k2) (by omega)) (by omega) ?_
  have e1 : strV .neq (encS l) (encS l) = some (.bool false) := str_same _
  simp [e1]
  have K2 := k1.trans k2
  refine awCall_ctr ((DrawDecode_a (h2.keeps K2) hm hds).weaken (by omega)) ?_
  rintro r M3 ⟨x, rfl, hx, k3⟩
  have n3 := k3.len
  have K3 := K2.trans k3
  try simp
  refine awCall_ctr ((DecodeStream_i x (by omega)).weaken (by omega)) ?_
  rintro r M4 ⟨v4, rfl, o4, k4⟩
  have n4 := k4.len
  have K4 := K3.trans k4
  have hcx : (canV x).2 = (decV x).2 := by unfold canV; split <;> simp [*]
  simp
  refine awCall_det' (CanonicalStream_i x (by omega)) (by omega) ?_
  simp [hcx]
  clear o2 hS2 hL k1 k2 k3 k4 hd hc henc e1 hz
  by_cases hcode : (decV x).2 = 0
  case' pos =>
    have hcan : (canV x).1 = encS (decV x).1 := by unfold canV; rw [if_pos hcode]
    have hok4 := decV_ok hcode
    have hsh := enc_short hcode
    have hd4 := dec_enc hok4
    rw [hcode]
    simp [hcan]
    refine awCall_ctr ((DecodeStream_i (encS (decV x).1) (by omega)).weaken (by omega)) ?_
    rintro r M5 ⟨v5, rfl, o5, k5⟩
    have n5 := k5.len
    have K5 := K4.trans k5
    rw [hd4] at o5 ⊢
    have hsh' : ¬ (x.size : Int) < (encS (decV x).1).size := by omega
    have hsh2 : ¬ x.size < (encS (decV x).1).size := by omega
    simp [hsh', hsh2]
    obtain ⟨A5, q5, c5, rfl, hq5, hS5, -, -⟩ := id o5
    obtain ⟨A4, q4, c4, rfl, hq4, hS4, -, -⟩ := id o4
    refine awCall_det' (SameStream_s hS5 (hS4.keeps k5) (by omega)) (by omega) ?_
    simp
    obtain ⟨M9, hM9, K9⟩ : ∃ M9 : Mem, M9 = M5 ∧ Keeps M M9 := ⟨_, rfl, K5⟩
    rw [← hM9]
    clear K5 hM9 hS4 hS5 o5 o4 k5 n5
  case' neg =>
    simp [hcode]
    obtain ⟨M9, hM9, K9⟩ : ∃ M9 : Mem, M9 = M4 ∧ Keeps M M9 := ⟨_, rfl, K4⟩
    rw [← hM9]
    clear hM9 o4
  all_goals
    have n9 := K9.len
    refine awCall_ctr ((v8At_a 0 65536 (h.keeps K9) hcs (by omega) (by omega) hn).weaken (by omega)) ?_
    rintro r M10 ⟨rfl, X, rfl, x0, x1⟩
    try simp
    refine awCall_ctr ((v8At_a 0 4096 (h2.keeps K9) hds (by omega) (by omega) hm).weaken (by omega)) ?_
    rintro r M11 ⟨rfl, Y, rfl, y0, y1⟩
    obtain ⟨X', rfl⟩ := Int.eq_ofNat_of_zero_le x0
    obtain ⟨Y', rfl⟩ := Int.eq_ofNat_of_zero_le y0
    have hmul : X' * (1 + Y') ≤ 65535 * 4096 := Nat.mul_le_mul (by omega) (by omega)
    obtain ⟨Z, hZ⟩ : ∃ Z : Nat, Z = X' * (1 + Y') := ⟨_, rfl⟩
    have eZ : (X' : Int) * (1 + Y') = Z := by rw [hZ]; simp
    have hZb : Z ≤ 268435455 := by omega
    simp (disch := omega) [wrap_in, eZ]
    refine awCall_det' (PutVar_i Z) (by omega) ?_
    have hput : putV (Z : Int) = bstr (varB Z) := by unfold putV; rw [inB_iff.2 ⟨by omega, by omega⟩]; rfl
    have hbz : (bstr (varB Z)).size = (varB Z).length := bstr_size _
    have hvl := tl_len Z
    have s1 : (⟨#[120]⟩ : ByteArray).size = 1 := rfl
    have s2 : (⟨#[121]⟩ : ByteArray).size = 1 := rfl
    rw [hput]
    have a1 : strV .add ⟨#[120]⟩ (bstr (varB Z)) = some (.string (⟨#[120]⟩ ++ bstr (varB Z))) := str_in (by omega)
    have a2 : strV .add (⟨#[120]⟩ ++ bstr (varB Z)) ⟨#[121]⟩ = some (.string (⟨#[120]⟩ ++ bstr (varB Z) ++ ⟨#[121]⟩)) := str_in (by rw [app_size]; omega)
    have hat : AtS (⟨#[120]⟩ ++ bstr (varB Z) ++ ⟨#[121]⟩) 1 (varB Z) := (AtS.before (p := 0) (AtS.bstr (varB_rng Z))).behind
    have hsz : (⟨#[120]⟩ ++ bstr (varB Z) ++ ⟨#[121]⟩ : ByteArray).size = (varB Z).length + 2 := by rw [app_size, app_size]; omega
    simp [a1, a2]
    refine awCall_det' (GetVar_i _ 1 (by omega)) (by omega) ?_
    have hget : getV (⟨#[120]⟩ ++ bstr (varB Z) ++ ⟨#[121]⟩) 1 = ((Z : Int), ((1 + (varB Z).length : Nat) : Int), 0) := by
      unfold getV
      rw [inB_iff.2 ⟨by omega, by omega⟩]
      exact get_varB hZb hat
    rw [hget]
    simp (disch := omega) [hbz, wrap_in, K9]
    try omega
end Go.Proofs.Ythopcmglcnlcfaa
