/- The law of the voices' parts is walked. No conditions. -/
import Derived.Test.YtdcfofaojalilaaG12
import Derived.Test.YtdcfofaojalilaaG14
namespace Go.Proofs.Ytdcfofaojalilaa
open Go.RowKit
set_option linter.unusedVariables false
set_option linter.unusedSimpArgs false
set_option maxRecDepth 100000
attribute [local simp] List.getElem?_cons_zero
attribute [local irreducible] awCond awCall awLoop awDraw ow retQ retC resQ Keeps
theorem DrG.ok {l : List Gate} {x : Int} (h : DrG l x) (hl : l.length ≤ 14) : okG l = true := by
  rw [okG_of fun i hi => ⟨(h.1 i hi).1, fun h0 => h.2 i h0 hi⟩]
  exact decide_eq_true (by omega)
theorem DrG.alloc {l : List Gate} {x : Int} {V : Nat} (h : DrG l x) (hV : 1 ≤ V ∧ V ≤ 4) : ∃ y, GoodG (allocP V l).1 y :=
  GoodG.alloc hV l [] 0 0 (.nil 0) (fun i hi => ⟨(h.1 i hi).1, (gateB_iff.1 (h.1 i hi).1).2.1⟩) h.2
theorem fstI_spec {α : Type} [Inhabited α] (p : α → Bool) (l : List α) : (fstI p l = -1 ∧ ∀ i, i < l.length → p (el l i) = false) ∨ ∃ k : Nat, fstI p l = k ∧ k < l.length ∧ p (el l k) = true := by
  by_cases h : ∀ i, i < l.length → p (el l i) = false
  · exact .inl ⟨fstI_none h, h⟩
  · unfold fstI
    cases hf : l.findIdx? p with
    | none =>
      rw [List.findIdx?_eq_none_iff] at hf
      exact absurd (fun i hi => hf _ (el_mem hi)) h
    | some k =>
      obtain ⟨h1, h2, -⟩ := List.findIdx?_eq_some_iff_getElem.1 hf
      exact .inr ⟨k, rfl, h1, by rw [← el_eq h1]; exact h2⟩
/-- The gates of the first voices together. -/
def vsum (out : List Gate) : Nat → Nat
  | 0 => 0
  | i + 1 => vsum out i + (voiceL out (i : Int)).length
theorem vsum_le (out : List Gate) : ∀ i, vsum out i ≤ i * out.length
  | 0 => by simp [vsum]
  | i + 1 => by
    have := vsum_le out i
    have : (voiceL out (i : Int)).length ≤ out.length := List.length_filter_le _ _
    simp only [vsum, Nat.add_mul, Nat.one_mul]
    omega
set_option maxHeartbeats 4000000 in
theorem lawVoiceParts_a {M : Mem} {A B : Option Addr} {n c m d : Nat} {cs ds : List Int} (h : Sl codeR M A n cs) (hcs : ∀ x, x ∈ cs → 0 ≤ x ∧ x ≤ 255) (h2 : Sl codeR M B m ds) (hds : ∀ x, x ∈ ds → 0 ≤ x ∧ x ≤ 255) :
    Det Try.prog M.length 9 [.slice A n c, .slice B m d] M (.bool true) M := by
  have K0 := Keeps.refl M
  by_cases hlong : (decide (1048576 < n) || decide (1048576 < m)) = true
  · first | (refine det_fn Try.func9 rfl Try.ntmps9 Try.results9 rfl rfl rfl (by simp) ?_) | (refine det_fnC Try.func9 rfl Try.ntmps9 Try.results9 rfl rfl (by simp) ?_)
    simp
    refine awCall_det' v8Long_a (by omega) ?_
    simp [hlong, K0]
  have hn : n ≤ 1048576 := by simp at hlong; omega
  have hm : m ≤ 1048576 := by simp at hlong; omega
  simp only [Bool.not_eq_true] at hlong
  first | (refine det_fn Try.func9 rfl Try.ntmps9 Try.results9 rfl rfl rfl (by simp) ?_) | (refine det_fnC Try.func9 rfl Try.ntmps9 Try.results9 rfl rfl (by simp) ?_)
  simp
  refine awCall_det' v8Long_a (by omega) ?_
  simp [hlong]
  refine awCall_ctr (E8Gates_a h hn hcs) ?_
  rintro r M1 ⟨l, r1, k1, hl, hD⟩
  have n1 := k1.len
  refine awCall_ctr ((v8At_a 0 4 (h2.keeps k1) hds (by omega) (by omega) hm).weaken (by omega)) ?_
  rintro r M2 ⟨rfl, V, rfl, v0, v1⟩
  simp (disch := omega) [wrap_in]
  refine awCall_ctr ((AllocateVoices_sl r1.rd (1 + V) (by omega)).weaken (by omega)) ?_
  rintro r M3 ⟨w0, rfl, r2, k2⟩
  have n2 := k2.len
  obtain ⟨V', rfl⟩ := Int.eq_ofNat_of_zero_le v0
  obtain ⟨y, hG⟩ := hD.alloc (V := 1 + V') (by omega)
  have hal : alV l (1 + (V' : Int)) = ((allocP (1 + V') l).1, (allocP (1 + V') l).2, 0) := by
    have hV : inB (1 + (V' : Int)) 1 4 = true := inB_iff.2 (by omega)
    unfold alV
    rw [hD.ok hl, hV, show (1 + (V' : Int)).toNat = 1 + V' by omega]
    rfl
  have hlen := (allocP_len (1 + V') l ([], 0)).1
  rw [hal] at r2
  replace r2 : OwL gateR M2.length M3.length M3 w0 (allocP (1 + V') l).1 := r2
  replace hlen : (allocP (1 + V') l).1.length ≤ l.length := by simpa [allocP] using hlen
  simp [hal]
  generalize (allocP (1 + V') l).1 = out at r2 hG hlen
  have K3 := k1.trans k2
  replace h2 := h2.keeps K3
  clear hal k1 k2 r1
  refine awCall_ctr ((v8At_a 1 120 h2 hds (by omega) (by omega) hm).weaken (by omega)) ?_
  rintro r M4 ⟨rfl, t, rfl, t0, t1⟩
  try simp (disch := omega) [wrap_in]
  have hok : okG out = true := hG.ok (by omega)
  obtain ⟨lo, hi, r2⟩ : ∃ lo hi, OwL gateR lo hi M4 w0 out := ⟨_, _, r2⟩
  refine awLoop_T (fun q T M' => ∃ i : Nat, i + q = 4 ∧ Keeps M M' ∧ OwL gateR lo hi M' w0 out ∧ look T 10 = some (iv i) ∧ look T 9 = some (iv t) ∧ look T 8 = some (iv (vsum out i)) ∧ look T 5 = some w0) 4 ⟨0, by omega, K3, r2, by simp, by simp, by simp [vsum], by simp⟩ ?_
  clear K3 h2 h
  rintro q T M5 ⟨i, hiq, K5, r5, e10, e9, e8, e5⟩
  have n5 := K5.len
  by_cases hlt : i < 4
  · have e : (i : Int) < 4 := by omega
    have hvV : voiceV out (i : Int) = (voiceL out i, 0) := by
      have hV : inB (i : Int) 0 3 = true := inB_iff.2 (by omega)
      unfold voiceV
      rw [hok, hV]
      rfl
    simp [e10, e9, e8, e5, e]
    refine awCall_ctr ((VoiceGates_il r5.rd i (by omega)).weaken (by omega)) ?_
    rintro r M6 ⟨v6, rfl, r6, k6⟩
    have n6 := k6.len
    have K6 := K5.trans k6
    replace r5 := r5.keeps k6
    clear K5 k6
    rw [hvV] at r6
    replace r6 : OwL gateR M5.length M6.length M6 v6 (voiceL out i) := r6
    have hvl : (voiceL out (i : Int)).length ≤ out.length := List.length_filter_le _ _
    have hGv : GoodG (voiceL out (i : Int)) y := hG.voice
    have hvs := vsum_le out i
    have hvs4 : i * out.length ≤ 4 * out.length := Nat.mul_le_mul_right _ (by omega)
    simp [hvV, e10, e9, e8, e5]
    refine awCall_det' (ArePlayable_il r6.rd (by omega)) (by omega) ?_
    obtain ⟨A6, n6', c6, rfl, hn6, hS6, hA6, -⟩ := r6
    have hl6 := hS6.1
    simp (disch := omega) [hGv.playB, hGv.ok (by omega), e10, e9, e8, e5, wrap_in]
    refine awCall_det' (GateAt_il r5.rd (by omega)) (by omega) ?_
    simp (disch := omega) [e10, e9, e8, e5, wrap_in]
    have hga : gateAtV out (i : Int) t = if fstI (atB i t) out < 0 then (0, 3) else (fstI (atB i t) out, 0) := by
      have hV : inB (i : Int) 0 3 = true := inB_iff.2 (by omega)
      have hT : inB t 0 4000 = true := inB_iff.2 (by omega)
      unfold gateAtV
      rw [hok, hV, hT]
      rfl
    have hcnt := cntT_voice (v := i) (t := t) hG
    refine awLoop_T (fun m' T M' => ∃ j : Nat, j + m' = n6' ∧ M' = M6 ∧ look T 16 = some (iv j) ∧ look T 15 = some (iv (cntT ((voiceL out i).take j) t)) ∧ look T 14 = some (iv (gateAtV out i t).2) ∧ look T 13 = some (iv (gateAtV out i t).1) ∧ look T 11 = some (.slice A6 n6' c6) ∧ look T 10 = some (iv i) ∧ look T 9 = some (iv t) ∧ look T 8 = some (iv (vsum out i + n6' : Nat)) ∧ look T 5 = some w0) n6' ⟨0, by omega, rfl, by simp, by simp [cntT], by simp, by simp, by simp, by simp [e10], by simp [e9], by simp, by simp [e5]⟩ ?_
    clear e10 e9 e8 e5 T
    rintro m' T M7 ⟨j, hj, rfl, e16, e15, e14, e13, e11, e10, e9, e8, e5⟩
    by_cases hjl : j < n6'
    · obtain ⟨id, off, rfl, he, hc⟩ := hS6.at_ hjl
      obtain ⟨c0, c1, c2, c3, c4⟩ := gate_cells hc
      have hle : cntT ((voiceL out (i : Int)).take j) t ≤ ((voiceL out (i : Int)).take j).length := List.length_filter_le _ _
      rw [List.length_take] at hle
      have hstep : cntT ((voiceL out (i : Int)).take (j + 1)) t = cntT ((voiceL out (i : Int)).take j) t + (if (el (voiceL out (i : Int)) j).s ≤ t ∧ t < (el (voiceL out (i : Int)) j).e then 1 else 0) := by
        rw [take_el (by omega), cntT_snoc]
      simp (disch := omega) [e16, e15, e14, e13, e11, e10, e9, e8, e5, hjl, he, c1, c2, wrap_in]
      by_cases q1 : (el (voiceL out (i : Int)) j).s ≤ t
      · by_cases q2 : t < (el (voiceL out (i : Int)) j).e
        · rw [if_pos ⟨q1, q2⟩] at hstep
          simp (disch := omega) [e16, e15, e14, e13, e11, e10, e9, e8, e5, hjl, he, c1, c2, wrap_in, q1, q2]
          refine lpI (m' - 1) (by omega) ?_
          exact ⟨j + 1, by omega, rfl, by simp, by rw [hstep]; simp, by simp [e14], by simp [e13], by simp [e11], by simp [e10], by simp [e9], by simp [e8], by simp [e5]⟩
        · rw [if_neg (by omega)] at hstep
          simp (disch := omega) [e16, e15, e14, e13, e11, e10, e9, e8, e5, hjl, he, c1, c2, wrap_in, q1, q2]
          refine lpI (m' - 1) (by omega) ?_
          exact ⟨j + 1, by omega, rfl, by simp, by rw [hstep]; simp [e15], by simp [e14], by simp [e13], by simp [e11], by simp [e10], by simp [e9], by simp [e8], by simp [e5]⟩
      · rw [if_neg (by omega)] at hstep
        simp (disch := omega) [e16, e15, e14, e13, e11, e10, e9, e8, e5, hjl, he, c1, c2, wrap_in, q1]
        refine lpI (m' - 1) (by omega) ?_
        exact ⟨j + 1, by omega, rfl, by simp, by rw [hstep]; simp [e15], by simp [e14], by simp [e13], by simp [e11], by simp [e10], by simp [e9], by simp [e8], by simp [e5]⟩
    · obtain rfl : j = n6' := by omega
      rw [List.take_of_length_le (by omega), hcnt] at e15
      have hfin : look T 8 = some (iv (vsum out (i + 1))) := by rw [e8, vsum, hl6]
      by_cases hf : fstI (atB i t) out < 0
      · have hno : ¬ ∃ k, k < out.length ∧ atB i t (el out k) = true := by
          rintro ⟨k, hk, hka⟩
          rcases fstI_spec (atB (i : Int) t) out with ⟨-, b⟩ | ⟨k', b, -⟩
          · rw [b k hk] at hka; cases hka
          · omega
        rw [if_neg hno] at e15
        rw [hga, if_pos hf] at e14 e13
        have e' : (j : Int) < j ↔ False := by simp
        simp (disch := omega) [e16, e15, e14, e13, e11, e10, e9, e8, e5, wrap_in]
        refine lpI (q - 1) (by omega) ?_
        exact ⟨i + 1, by omega, K6, r5, by simp, by simp [e9], by simp [hfin], by simp [e5]⟩
      · obtain ⟨k, hk, hkl, hka⟩ : ∃ k : Nat, fstI (atB i t) out = k ∧ k < out.length ∧ atB i t (el out k) = true := by
          rcases fstI_spec (atB (i : Int) t) out with ⟨b, -⟩ | b
          · omega
          · exact b
        rw [if_pos ⟨k, hkl, hka⟩] at e15
        rw [hga, if_neg hf, hk] at e14 e13
        have e' : (j : Int) < j ↔ False := by simp
        have r5' := r5
        obtain ⟨A5, n5', c5, rfl, hn5, hS5, hA5, -⟩ := r5'
        have hl5 := hS5.1
        obtain ⟨id, off, rfl, he, hc⟩ := hS5.at_ (i := k) (by omega)
        obtain ⟨c0, c1, c2, c3, c4⟩ := gate_cells hc
        have hka' : ((el out k).o = i ∧ (el out k).s ≤ t) ∧ t < (el out k).e := by simpa [atB] using hka
        have a1 : ¬ (k : Int) < 0 := by omega
        have a2 : ¬ (n5' : Int) ≤ k := by omega
        have a3 : ¬ t < (el out k).s := by omega
        have a4 : ¬ (el out k).e ≤ t := by omega
        have a5 : k < n5' := by omega
        simp (disch := omega) [e16, e15, e14, e13, e11, e10, e9, e8, e5, wrap_in, a1, a2, a3, a4, a5, he, c0, c1, c2, hka'.1.1]
        refine lpI (q - 1) (by omega) ?_
        exact ⟨i + 1, by omega, K6, r5, by simp, by simp [e9], by simp [hfin], by simp [e5]⟩
  · obtain rfl : i = 4 := by omega
    obtain ⟨A5, n5', c5, rfl, hn5, hS5, hA5, -⟩ := r5
    have hl5 := hS5.1
    have hsum := voice_sum (fun j hj => hG.gate j hj)
    have e4 : (vsum out 4 : Int) = n5' := by
      simp only [vsum]
      rw [← hl5, ← hsum]
      simp
    simp [e10, e9, e8, e5, e4]
    exact K5
end Go.Proofs.Ytdcfofaojalilaa
