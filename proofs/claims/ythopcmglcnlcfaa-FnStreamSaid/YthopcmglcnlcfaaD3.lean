/- Streams: decoded. No conditions. -/
import Derived.Test.YthopcmglcnlcfaaD2
namespace Go.Proofs.Ythopcmglcnlcfaa
open Go.RowKit
set_option linter.unusedVariables false
set_option linter.unusedSimpArgs false
set_option maxRecDepth 100000
attribute [local simp] List.getElem?_cons_zero
attribute [local irreducible] awCond awCall awLoop awDraw ow retQ retC resQ Keeps
/-- Events, f of them at most, behind p. -/
def decF (s : ByteArray) : Nat → Nat → Int → List StreamEvent → List StreamEvent × Int
  | f, p, st, out => if s.size ≤ p then (out, 0) else
    match f with
    | 0 => ([], 5)
    | f + 1 => if (evD s p st).code ≠ 0 then ([], (evD s p st).code) else decF s f (evD s p st).at_ (evD s p st).st (out ++ [(evD s p st).ev])
def decV (s : ByteArray) : List StreamEvent × Int := decF s 200 0 0 []
theorem decF_end {s : ByteArray} {f p : Nat} {st : Int} {out : List StreamEvent} (h : s.size ≤ p) : decF s f p st out = (out, 0) := by
  unfold decF; rw [if_pos h]
theorem decF_full {s : ByteArray} {p : Nat} {st : Int} {out : List StreamEvent} (h : ¬ s.size ≤ p) : decF s 0 p st out = ([], 5) := by
  unfold decF; rw [if_neg h]
theorem decF_bad {s : ByteArray} {f p : Nat} {st : Int} {out : List StreamEvent} (h : ¬ s.size ≤ p) (h1 : (evD s p st).code ≠ 0) : decF s (f + 1) p st out = ([], (evD s p st).code) := by
  conv => lhs; unfold decF
  rw [if_neg h]
  simp only
  rw [if_pos h1]
theorem decF_ok {s : ByteArray} {f p : Nat} {st : Int} {out : List StreamEvent} (h : ¬ s.size ≤ p) (h1 : (evD s p st).code = 0) : decF s (f + 1) p st out = decF s f (evD s p st).at_ (evD s p st).st (out ++ [(evD s p st).ev]) := by
  conv => lhs; unfold decF
  rw [if_neg h]
  simp only
  rw [if_neg (by rw [h1]; simp)]
theorem UpdG.keeps {g : Nat} {M0 M M' : Mem} (h : UpdG g M M') (hk : Keeps M0 M) (hg : M0.length ≤ g) : Keeps M0 M' := by
  unfold Keeps
  exact fun i s hs => h.2 i s (by have := (List.getElem?_eq_some_iff.1 hs).1; omega) (hk.get hs)
theorem Acc.upd {α : Type} {k : Nat} {R : RecV α k} {e : TypeId} {B g : Nat} {M M' : Mem} {v : Value} {l : List α} (h : Acc R e B M v l) (hu : UpdG g M M') (hg : g < B) : Acc R e B M' v l := by
  obtain ⟨A, n, c, h1, h2, h3⟩ := h
  refine ⟨A, n, c, h1, h2, ?_⟩
  rcases h3 with h3 | ⟨id, t, h4, h5, h6⟩
  · exact .inl h3
  · exact .inr ⟨id, t, h4, h5, hu.2 id _ (by omega) h6⟩
theorem rd_build (s : ByteArray) : Instr.fill (fun x => [(0, 1), (1, 1), (2, 1)][x]?) #[.string ByteArray.empty, iv 0, iv 0] [(0, .string s)] = some #[.string s, iv 0, iv 0] := by rfl
theorem rd_build4 (s : ByteArray) : Instr.fill (fun x => [(0, 1), (1, 1), (2, 1), (3, 1)][x]?) #[.string ByteArray.empty, iv 0, iv 0, iv 0] [(0, .string s)] = some #[.string s, iv 0, iv 0, iv 0] := by rfl













































theorem decode_a {M : Mem} (s : ByteArray) (hs : s.size ≤ 1099511627776) : Ctr Try.prog M.length 72 [.string s] M fun r M' => ∃ v0, r = .tuple #[v0, iv (decV s).2] ∧ Fresh streamEventR M v0 M' (decV s).1 := by
  first | (refine ctr_fn Try.func72 rfl Try.ntmps72 Try.results72 rfl rfl (by simp) ?_) | (refine ctr_fnC Try.func72 rfl Try.ntmps72 Try.results72 rfl (by simp) ?_)
  simp [rd_build4]
  refine awLoop_T (fun m T M' => ∃ (p : Nat) (st : Int) (out : List StreamEvent) (u : Value), out.length + m = 200 ∧ p ≤ s.size ∧ (st = 0 ∨ (128 ≤ st ∧ st ≤ 159)) ∧ Keeps M M' ∧ M'[M.length]? = some (.live ⟨[.string s, iv p, iv st, iv 0], true, true, 128, 4⟩) ∧ Acc streamEventR 89 (M.length + 1) M' u out ∧ decV s = decF s m p st out ∧ look T 0 = some (.string s) ∧ look T 4 = some (.pointer (some ⟨M.length, 0, none⟩)) ∧ look T 5 = some u) 200 ⟨0, 0, [], .slice (some ⟨M.length + 1, 0, none⟩) 0 0, by simp, by omega, .inl rfl, keeps_app _, by simp, ⟨some ⟨M.length + 1, 0, none⟩, 0, 0, rfl, rfl, .inr ⟨M.length + 1, true, rfl, Nat.le_refl _, by simp [cellsL]⟩⟩, rfl, by simp, by simp, by simp⟩ ?_
  rintro m T M' ⟨p, st, out, u, hm, hp, hst, hK, hr, hA, hD, h0, h4, h5⟩
  have hKl := hK.len
  have hrl := (List.getElem?_eq_some_iff.1 hr).1
  have c1 : cellAt M' M.length 1 = some (iv p) := by simp [cellAt, hr]
  obtain ⟨A, n, c, rfl, hln, hsl, hone⟩ := hA.sl
  by_cases hlt : p < s.size
  · have hlt' : ¬ s.size ≤ p := by omega
    simp (disch := omega) [h0, h4, c1, hlt]
    rcases m with _ | m
    · rw [decF_full hlt'] at hD
      have hn : n = 200 := by omega
      simp (disch := omega) [h5, hn]
      refine ⟨_, ⟨rfl, by rw [hD]⟩, ?_⟩
      rw [hD]
      exact ⟨none, 0, 0, rfl, by omega, ⟨rfl, fun h => by omega⟩, by simp, fun h => by omega, hK⟩
    · have hn : ¬ n = 200 := by omega
      have hn' : ¬ (n : Int) = 200 := by omega
      simp (disch := omega) [h5, h4, hn, hn']
      refine awCall_ctr (event_i hr (Nat.le_refl _) hs hp hst) ?_
      rintro r M1 ⟨ev, a, z, rfl, hrow, hupd, hok⟩
      have hK1 := hupd.keeps hK (Nat.le_refl _)
      have hKl1 := hK1.len
      have hA1 := hA.upd hupd (by omega)
      try simp (disch := omega)
      refine Acc.append (R := streamEventR) (e := 89) (by_ := 40) (a := ev) (hA1.keeps (keeps_app _)) (by omega) (by simp; have := (List.getElem?_eq_some_iff.1 hrow).1; omega) (by omega) (by simp) (by kernel_rfl) (by simp [srcOf, streamEventR, StreamEvent.row]) (by rfl) (by omega) (by unfold maxLen; omega) ?_
      intro v' M2 hA2 hS2
      have hrow2 := hS2.2 M.length _ (by omega) (by rw [List.getElem?_append_left (List.getElem?_eq_some_iff.1 hrow).1]; exact hrow)
      have hK2 := hS2.keeps (hK1.app _) (by omega)
      have c3 : cellAt M2 M.length 3 = some (iv (evD s p st).code) := by simp [cellAt, hrow2]
      by_cases hcode : (evD s p st).code = 0
      · obtain ⟨rfl, ha, rfl, k1, k2, k3⟩ := hok hcode
        rw [hcode] at c3 hrow2
        rw [ha] at hrow2
        simp (disch := omega) [h4, c3]
        refine lpI m (by omega) ?_
        exact ⟨(evD s p st).at_, (evD s p st).st, out ++ [(evD s p st).ev], v', by simp; omega, k1, k3, hK2, hrow2, hA2, by rw [hD, decF_ok hlt' hcode], by simp [h0], by simp [h4], by simp⟩
      · rw [decF_bad hlt' hcode] at hD
        simp (disch := omega) [h4, c3, hcode]
        refine awDraw_E 5 [[],[0],[1,0],[2,1,0],[],[3,2,1,0,4]] (by kernel_rfl) (by kernel_rfl) ?_
        simp (disch := omega) [h4, c3]
        refine ⟨_, ⟨rfl, by rw [hD]⟩, ?_⟩
        rw [hD]
        exact ⟨none, 0, 0, rfl, by omega, ⟨rfl, fun h => by omega⟩, by simp, fun h => by omega, hK2⟩
  · rw [decF_end (by omega)] at hD
    simp (disch := omega) [h0, h4, h5, c1, hlt]
    refine ⟨_, ⟨rfl, by rw [hD]⟩, ?_⟩
    rw [hD]
    exact (hA.low (B' := M.length) (by omega)).fresh (by omega) hK







theorem DecodeStream_i {M : Mem} (s : ByteArray) (hs : s.size ≤ 1048576) : Ctr Try.prog M.length 27 [.string s] M fun r M' => ∃ v0, r = .tuple #[v0, iv (decV s).2] ∧ OwL streamEventR M.length M'.length M' v0 (decV s).1 ∧ Keeps M M' := by
  first | (refine ctr_fn Try.func27 rfl Try.ntmps27 Try.results27 rfl rfl (by simp) ?_) | (refine ctr_fnC Try.func27 rfl Try.ntmps27 Try.results27 rfl (by simp) ?_)
  simp
  refine awCall_ctr (decode_a s (by omega)) ?_
  rintro r M' ⟨v0, rfl, hf⟩
  simp
  exact ⟨hf.ow.1, hf.ow.2⟩
end Go.Proofs.Ythopcmglcnlcfaa
