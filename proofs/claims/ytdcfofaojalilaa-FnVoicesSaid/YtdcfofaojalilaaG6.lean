/- Gates: the gates of a voice. No conditions. -/
import Derived.Test.YtdcfofaojalilaaG5
import Derived.Test.YtdcfofaojalilaaL1
namespace Go.Proofs.Ytdcfofaojalilaa
open Go.RowKit
set_option linter.unusedVariables false
set_option linter.unusedSimpArgs false
set_option maxRecDepth 100000
attribute [local simp] List.getElem?_cons_zero
attribute [local irreducible] awCond awCall awLoop awDraw ow retQ retC resQ Keeps
def voiceL (l : List Gate) (v : Int) : List Gate := l.filter fun g => decide (g.o = v)
theorem l21Voice_a {M : Mem} {A : Option Addr} {n c : Nat} {l : List Gate} (v : Int) (h : Sl gateR M A n l) (hn : n ≤ 1048576) : Ctr Try.prog M.length 51 [.slice A n c, iv v] M fun r M' => Fresh gateR M r M' (voiceL l v) := by
  have hl := h.1
  first | (refine ctr_fn Try.func51 rfl Try.ntmps51 Try.results51 rfl rfl (by simp) ?_) | (refine ctr_fnC Try.func51 rfl Try.ntmps51 Try.results51 rfl (by simp) ?_)
  simp
  refine awLoop_T (fun m T M' => ∃ (k : Nat) (u : Value), k + m = n ∧ Keeps M M' ∧ Acc gateR 45 M.length M' u (voiceL (l.take k) v) ∧ look T 6 = some (iv k) ∧ look T 5 = some u ∧ look T 0 = some (.slice A n c) ∧ look T 1 = some (iv v)) n ⟨0, .slice (some ⟨M.length, 0, none⟩) 0 0, by omega, keeps_app _, ⟨some ⟨M.length, 0, none⟩, 0, 0, rfl, by simp [voiceL], .inr ⟨M.length, true, rfl, Nat.le_refl _, by simp [voiceL, cellsL]⟩⟩, by simp, by simp, by simp, by simp⟩ ?_
  rintro m T M' ⟨k, u, hm, hK, hA, h6, h5, h0, h1⟩
  have hKl := hK.len
  by_cases hlt : k < n
  · have h' := h.keeps hK
    obtain ⟨id, off, rfl, he, hc⟩ := h'.at_ hlt
    obtain ⟨c0, c1, c2, c3, c4⟩ := gate_cells hc
    simp (disch := omega) [h6, h5, h0, h1, hlt, wrap_in, c0]
    by_cases hv : (el l k).o = v
    · simp (disch := omega) [h6, h5, h0, h1, hlt, wrap_in, gate_load hc, hv]
      refine Acc.append (R := gateR) (e := 45) (by_ := 40) (a := el l k) (hA.keeps (keeps_app _)) (Nat.le_refl _) (by simp; omega) (by omega) (by simp) (by kernel_rfl) (by simp [srcOf, gateR, Gate.row, hv]) (by rfl) ?_ ?_ ?_
      · have : (voiceL (l.take k) v).length ≤ (l.take k).length := List.length_filter_le _ _
        rw [List.length_take] at this
        omega
      · have : (voiceL (l.take k) v).length ≤ (l.take k).length := List.length_filter_le _ _
        rw [List.length_take] at this
        unfold maxLen
        omega
      · intro v' M2 hA2 hS
        refine lpI (m - 1) (by omega) ?_
        exact ⟨k + 1, v', by omega, hS.keeps (hK.app _) (Nat.le_refl _), by rw [take_el (by omega)]; simpa [voiceL, hv] using hA2, by simp, by simp, by simp [h0], by simp [h1]⟩
    · simp (disch := omega) [h6, h5, h0, h1, wrap_in, hv]
      refine lpI (m - 1) (by omega) ?_
      exact ⟨k + 1, u, by omega, hK, by rw [take_el (by omega)]; simpa [voiceL, hv] using hA, by simp, by simp [h5], by simp [h0], by simp [h1]⟩
  · obtain rfl : k = n := by omega
    rw [List.take_of_length_le (by omega)] at hA
    have hf := hA.fresh (by have : (voiceL l v).length ≤ l.length := List.length_filter_le _ _; omega) hK
    simp [h6, h5, h0, h1]
    exact hf
theorem voiceGates_a {M : Mem} {A : Option Addr} {n c : Nat} {l : List Gate} (v : Int) (h : Sl gateR M A n l) (hn : n ≤ 1048576) : Ctr Try.prog M.length 52 [.slice A n c, iv v] M fun r M' => Fresh gateR M r M' (voiceL l v) := by
  have hl := h.1
  first | (refine ctr_fn Try.func52 rfl Try.ntmps52 Try.results52 rfl rfl (by simp) ?_) | (refine ctr_fnC Try.func52 rfl Try.ntmps52 Try.results52 rfl (by simp) ?_)
  simp
  refine awLoop_T (fun m T M' => ∃ (k : Nat) (u : Value), k + m = n ∧ Keeps M M' ∧ Acc gateR 45 M.length M' u (voiceL (l.take k) v) ∧ look T 11 = some (iv k) ∧ look T 10 = some (iv n) ∧ look T 9 = some (.slice A n c) ∧ look T 5 = some u ∧ look T 1 = some (iv v)) n ⟨0, .slice (some ⟨M.length, 0, none⟩) 0 0, by omega, keeps_app _, ⟨some ⟨M.length, 0, none⟩, 0, 0, rfl, by simp [voiceL], .inr ⟨M.length, true, rfl, Nat.le_refl _, by simp [voiceL, cellsL]⟩⟩, by simp, by simp, by simp, by simp, by simp⟩ ?_
  rintro m T M' ⟨k, u, hm, hK, hA, h11, h10, h9, h5, h1⟩
  have hKl := hK.len
  by_cases hlt : k < n
  · have h' := h.keeps hK
    obtain ⟨id, off, rfl, he, hc⟩ := h'.at_ hlt
    simp (disch := omega) [h11, h10, h9, h5, h1, hlt, wrap_in, gate_load hc]
    by_cases hv : (el l k).o = v
    · simp (disch := omega) [h11, h10, h9, h5, h1, wrap_in, hv]
      refine Acc.append (R := gateR) (e := 45) (by_ := 40) (a := el l k) (hA.keeps (keeps_app _)) (Nat.le_refl _) (by simp; omega) (by omega) (by simp) (by kernel_rfl) (by simp [srcOf, gateR, Gate.row, hv]) (by rfl) ?_ ?_ ?_
      · have : (voiceL (l.take k) v).length ≤ (l.take k).length := List.length_filter_le _ _
        rw [List.length_take] at this
        omega
      · have : (voiceL (l.take k) v).length ≤ (l.take k).length := List.length_filter_le _ _
        rw [List.length_take] at this
        unfold maxLen
        omega
      · intro v' M2 hA2 hS
        try simp (disch := omega) [h11, wrap_in]
        refine lpI (m - 1) (by omega) ?_
        exact ⟨k + 1, v', by omega, hS.keeps (hK.app _) (Nat.le_refl _), by rw [take_el (by omega)]; simpa [voiceL, hv] using hA2, by simp, by simp [h10], by simp [h9], by simp, by simp [h1]⟩
    · simp (disch := omega) [h11, h10, h9, h5, h1, wrap_in, hv]
      refine lpI (m - 1) (by omega) ?_
      exact ⟨k + 1, u, by omega, hK.app _, by rw [take_el (by omega)]; simpa [voiceL, hv] using hA.keeps (keeps_app _), by simp, by simp [h10], by simp [h9], by simp [h5], by simp [h1]⟩
  · obtain rfl : k = n := by omega
    rw [List.take_of_length_le (by omega)] at hA
    have hf := hA.fresh (by have : (voiceL l v).length ≤ l.length := List.length_filter_le _ _; omega) hK
    simp [h11, h10, h9, h5]
    exact hf
def voiceV (l : List Gate) (v : Int) : List Gate × Int := if okG l = false then ([], 1) else if inB v 0 3 = false then ([], 2) else (voiceL l v, 0)
theorem VoiceGates_i {M : Mem} {A : Option Addr} {n c : Nat} {l : List Gate} (v : Int) (h : Sl gateR M A n l) (hn : n ≤ 1048576) : Ctr Try.prog M.length 27 [.slice A n c, iv v] M fun r M' => ∃ v0, r = .tuple #[v0, iv (voiceV l v).2] ∧ OwL gateR M.length M'.length M' v0 (voiceV l v).1 ∧ Keeps M M' := by
  first | (refine ctr_fn Try.func27 rfl Try.ntmps27 Try.results27 rfl rfl (by simp) ?_) | (refine ctr_fnC Try.func27 rfl Try.ntmps27 Try.results27 rfl (by simp) ?_)
  simp
  refine awCall_det' (areGates_a h (by omega)) (by simp) ?_
  by_cases hok : okG l = true
  · simp [hok]
    refine awCall_det' (isVoice_a _) (by simp) ?_
    by_cases hv : inB v 0 3 = true
    · simp [hv]
      refine awCall_ctr (voiceGates_a v h hn) ?_
      intro r M' hf
      try simp
      exact ⟨r, by simp [voiceV, hok, hv], by simpa [voiceV, hok, hv] using hf.ow.1, hf.ow.2⟩
    · simp at hv
      simp [hv]
      exact ⟨_, by simp [voiceV, hok, hv]; rfl, by simpa [voiceV, hok, hv] using OwL.nil, Keeps.refl _⟩
  · simp at hok
    simp [hok]
    exact ⟨_, by simp [voiceV, hok]; rfl, by simpa [voiceV, hok] using OwL.nil, Keeps.refl _⟩
theorem VoiceGates_s {M : Mem} {A : Option Addr} {n c : Nat} {l : List Gate} (v : Int) (h : Sl gateR M A n l) (hn : n ≤ 1048576) : Ctr Try.prog M.length 26 [.slice A n c, iv v] M fun r M' => ∃ v0, r = .tuple #[v0, iv (voiceV l v).2] ∧ OwL gateR M.length M'.length M' v0 (voiceV l v).1 ∧ Keeps M M' := by
  first | (refine ctr_fn Try.func26 rfl Try.ntmps26 Try.results26 rfl rfl (by simp) ?_) | (refine ctr_fnC Try.func26 rfl Try.ntmps26 Try.results26 rfl (by simp) ?_)
  simp
  refine awCall_det' (l21Ok_a h (by omega)) (by simp) ?_
  by_cases hok : okG l = true
  · simp [hok]
    refine awCall_det' (l00In_a _ _ _) (by simp) ?_
    by_cases hv : inB v 0 3 = true
    · simp [hv]
      refine awCall_ctr (l21Voice_a v h hn) ?_
      intro r M' hf
      try simp
      exact ⟨r, by simp [voiceV, hok, hv], by simpa [voiceV, hok, hv] using hf.ow.1, hf.ow.2⟩
    · simp at hv
      simp [hv]
      exact ⟨_, by simp [voiceV, hok, hv]; rfl, by simpa [voiceV, hok, hv] using OwL.nil, Keeps.refl _⟩
  · simp at hok
    simp [hok]
    exact ⟨_, by simp [voiceV, hok]; rfl, by simpa [voiceV, hok] using OwL.nil, Keeps.refl _⟩
theorem VoiceGates_sl {M : Mem} {v : Value} {lo hi : Nat} {x : List Gate} (hx : RdL gateR lo hi M v x) (o : Int) (ex : x.length ≤ 1048576) : Ctr Try.prog M.length 26 [v, iv o] M fun r M' => ∃ v0, r = .tuple #[v0, iv (voiceV x o).2] ∧ OwL gateR M.length M'.length M' v0 (voiceV x o).1 ∧ Keeps M M' := by
  obtain ⟨A, n, c, rfl, hn, hS, _⟩ := hx
  exact VoiceGates_s o hS (by have := hS.1; omega)
theorem VoiceGates_il {M : Mem} {v : Value} {lo hi : Nat} {x : List Gate} (hx : RdL gateR lo hi M v x) (o : Int) (ex : x.length ≤ 1048576) : Ctr Try.prog M.length 27 [v, iv o] M fun r M' => ∃ v0, r = .tuple #[v0, iv (voiceV x o).2] ∧ OwL gateR M.length M'.length M' v0 (voiceV x o).1 ∧ Keeps M M' := by
  obtain ⟨A, n, c, rfl, hn, hS, _⟩ := hx
  exact VoiceGates_i o hS (by have := hS.1; omega)
end Go.Proofs.Ytdcfofaojalilaa
