/- Streams, in plain words: a stream is read back from its canonical form, which is no longer than any form of it; numbers are read back. No program in sight. -/
import Derived.Test.YthopcmglcnlcfaaD4
namespace Go.Proofs.Ythopcmglcnlcfaa
open Go.RowKit
set_option linter.unusedVariables false
set_option linter.unusedSimpArgs false
/-- From place p on, the bytes l. -/
def AtS (s : ByteArray) (p : Nat) (l : List Int) : Prop := p + l.length ≤ s.size ∧ ∀ i, i < l.length → strAt s (p + i) = el l i
theorem AtS.left {s : ByteArray} {p : Nat} {l m : List Int} (h : AtS s p (l ++ m)) : AtS s p l := by
  have h1 := h.1
  rw [List.length_append] at h1
  exact ⟨by omega, fun i hi => by rw [h.2 i (by rw [List.length_append]; omega), el_append_left hi]⟩
theorem AtS.right {s : ByteArray} {p : Nat} {l m : List Int} (h : AtS s p (l ++ m)) : AtS s (p + l.length) m := by
  have h1 := h.1
  rw [List.length_append] at h1
  refine ⟨by omega, fun i hi => ?_⟩
  rw [Nat.add_assoc, h.2 (l.length + i) (by rw [List.length_append]; omega), el_append_right (by omega)]
  congr 1
  omega
theorem AtS.one {s : ByteArray} {p : Nat} {x : Int} (h : AtS s p [x]) : p < s.size ∧ strAt s p = x := ⟨by have := h.1; simp at this; omega, h.2 0 (by simp)⟩
theorem AtS.bstr {l : List Int} (h : ∀ x ∈ l, 0 ≤ x ∧ x ≤ 255) : AtS (bstr l) 0 l := by
  refine ⟨by rw [bstr_size]; omega, fun i hi => ?_⟩
  have hm := h _ (el_mem hi)
  unfold strAt Go.Proofs.Ythopcmglcnlcfaa.bstr
  rw [List.getD_eq_getElem?_getD]
  simp only [Nat.zero_add, List.getElem?_map, el_some hi, Option.map_some, Option.getD_some]
  rw [UInt8.toNat_ofNat']
  omega
theorem get_var (s : ByteArray) : ∀ (f m F p : Nat) (a : Int), m < 128 ^ f → AtS s p (varT f m).reverse → getVF s (F + (varT f m).length) p a = getVF s F (p + (varT f m).length) (a * 128 ^ (varT f m).length + m)
  | 0, m, F, p, a, h, hs => by
    have : m = 0 := by simp at h; omega
    subst this
    simp [varT]
  | f + 1, m, F, p, a, h, hs => by
    rw [varT] at hs ⊢
    split
    · rename_i h0
      subst h0
      simp
    · rename_i h0
      rw [if_neg h0, List.reverse_cons] at hs
      have hm : m / 128 < 128 ^ f := by rw [Nat.pow_succ] at h; omega
      have ih := get_var s f (m / 128) (F + 1) p a hm hs.left
      have h1 := hs.right.one
      rw [List.length_reverse] at h1
      rw [List.length_cons, show F + ((varT f (m / 128)).length + 1) = F + 1 + (varT f (m / 128)).length by omega, ih, getVF_hi _ _ _ _ h1.1 (by rw [h1.2]; omega), h1.2, Int.pow_succ, ← Nat.add_assoc]
      congr 1
      have : ((128 + m % 128 : Nat) : Int) % 128 = (m : Int) % 128 := by omega
      rw [this, ← Int.mul_assoc]
      generalize a * 128 ^ (varT f (m / 128)).length = Z
      omega
theorem varT_short : ∀ (g f m : Nat), m < 128 ^ g → (varT f m).length ≤ g
  | g, 0, m, h => by simp [varT]
  | 0, f + 1, m, h => by
    have : m = 0 := by simp at h; omega
    subst this
    simp [varT]
  | g + 1, f + 1, m, h => by
    rw [varT]
    split
    · simp
    · have := varT_short g f (m / 128) (by rw [Nat.pow_succ] at h; omega)
      simp
      omega
theorem varB_len (n : Nat) : (varB n).length = (varT 4 (n / 128)).length + 1 := by simp [varB]
theorem get_varB {s : ByteArray} {p n : Nat} (hn : n ≤ 268435455) (h : AtS s p (varB n)) : getVF s 4 p 0 = ((n : Int), ((p + (varB n).length : Nat) : Int), 0) := by
  have hm : n / 128 < 128 ^ 3 := by have : (128 : Nat) ^ 3 = 2097152 := by decide
                                    omega
  have h4 : n / 128 < 128 ^ 4 := by have : (128 : Nat) ^ 4 = 268435456 := by decide
                                    omega
  have hl := varT_short 3 4 (n / 128) hm
  have e : varB n = (varT 4 (n / 128)).reverse ++ [((n % 128 : Nat) : Int)] := by simp [varB]
  rw [e] at h
  obtain ⟨F, hF⟩ : ∃ F, 4 = F + 1 + (varT 4 (n / 128)).length := ⟨3 - (varT 4 (n / 128)).length, by omega⟩
  have h1 := h.right.one
  rw [List.length_reverse] at h1
  have := get_var s 4 (n / 128) (F + 1) p 0 h4 h.left
  rw [← hF] at this
  rw [this, getVF_lo _ _ _ _ h1.1 (by rw [h1.2]; omega), h1.2, varB_len]
  congr 1
  omega
/-- What is read takes as many bytes as it needs, or more. -/
theorem getVF_room (s : ByteArray) : ∀ (f p : Nat) (a : Int) (k : Nat), 0 ≤ a → a < 128 ^ k → (getVF s f p a).2.2 = 0 → ∃ q : Nat, (getVF s f p a).2.1 = ((p + q + 1 : Nat) : Int) ∧ 0 ≤ (getVF s f p a).1 ∧ (getVF s f p a).1 < 128 ^ (k + q + 1)
  | 0, p, a, k, h0, h1, h => by simp [getVF] at h
  | f + 1, p, a, k, h0, h1, h => by
    have hb := strAt_bd s p
    by_cases h2 : p < s.size
    · by_cases h3 : strAt s p < 128
      · rw [getVF_lo _ _ _ _ h2 h3] at h ⊢
        refine ⟨0, rfl, by simp only; omega, ?_⟩
        simp only [Nat.add_zero, Int.pow_succ]
        omega
      · rw [getVF_hi _ _ _ _ h2 h3] at h ⊢
        obtain ⟨q, q1, q2, q3⟩ := getVF_room s f (p + 1) _ (k + 1) (by omega) (by rw [Int.pow_succ]; omega) h
        refine ⟨q + 1, by rw [q1]; omega, q2, by rw [show k + (q + 1) + 1 = k + 1 + q + 1 by omega]; exact q3⟩
    · rw [getVF_ge _ _ _ _ (by omega)] at h
      cases h
theorem varB_le {v : Int} {q : Nat} (h0 : 0 ≤ v) (h : v < 128 ^ (q + 1)) : (varB v.toNat).length ≤ q + 1 := by
  rw [varB_len]
  have : (varT 4 (v.toNat / 128)).length ≤ q := by
    refine varT_short q 4 _ ?_
    have e : ((128 ^ (q + 1) : Nat) : Int) = 128 ^ (q + 1) := by simp
    rw [← e] at h
    rw [Nat.pow_succ] at h
    omega
  omega
theorem get_room {s : ByteArray} {p : Nat} (h : (getVF s 4 p 0).2.2 = 0) : ∃ q : Nat, (getVF s 4 p 0).2.1 = ((p + q : Nat) : Int) ∧ (varB (getVF s 4 p 0).1.toNat).length ≤ q := by
  obtain ⟨q, q1, q2, q3⟩ := getVF_room s 4 p 0 0 (Int.le_refl _) (by decide) h
  rw [Nat.zero_add] at q3
  exact ⟨q + 1, by rw [q1, Nat.add_assoc], varB_le q2 q3⟩
theorem dataD_at {s : ByteArray} {p : Nat} {x low : Int} (h : AtS s p [x]) (h1 : low ≤ x) (h2 : x ≤ 127) : dataD s p low = (0, x) := by
  have h3 := h.one
  unfold dataD
  rw [if_pos h3.1, h3.2, if_pos (inB_iff.2 ⟨h1, h2⟩)]
/-- An event is read back. -/
theorem evT_back {s : ByteArray} {e : StreamEvent} {q : Nat} (h : eventB e = true) (hs : AtS s q ([e.k] ++ (if e.j = 1 then [e.u] else []))) :
    evT s e.d q (stat e) = ⟨0, e, q + ([e.k] ++ (if e.j = 1 then [e.u] else [])).length, stat e⟩ := by
  have hb := eventB_iff.1 h
  have hsb := stat_bd hb
  have hin : inB (stat e) 128 159 = true := inB_iff.2 hsb
  have hk := dataD_at hs.left hb.2.2.1.1 hb.2.2.1.2
  have hr := hs.right
  obtain ⟨d, j, o, k, u⟩ := e
  simp only at *
  unfold evT
  rw [hin, hk]
  simp only
  rw [if_neg (by simp), if_neg (by simp)]
  rcases hb.2.2.2 with ⟨hj, h1, h2⟩ | ⟨hj, hu⟩
  · subst hj
    have est : stat ⟨d, 1, o, k, u⟩ = 144 + o := rfl
    rw [if_pos rfl] at hr
    have hu := dataD_at hr h1 h2
    simp only [List.length_singleton] at hu
    rw [est, if_neg (by omega), hu]
    simp only
    rw [if_neg (by simp), show (144 + o) % 16 = o by omega]
    rfl
  · subst hj
    subst hu
    have est : stat ⟨d, 2, o, k, 0⟩ = 128 + o := rfl
    rw [est, if_pos (by omega), show (128 + o) % 16 = o by omega]
    rfl
theorem evD_back {s : ByteArray} {e : StreamEvent} {p : Nat} {st : Int} (h : eventB e = true) (hs : AtS s p (encE st e)) : evD s p st = ⟨0, e, p + (encE st e).length, stat e⟩ := by
  have hb := eventB_iff.1 h
  have hsb := stat_bd hb
  unfold encE at hs ⊢
  have hv := get_varB (n := e.d.toNat) (by omega) hs.left
  rw [show ((e.d.toNat : Nat) : Int) = e.d by omega] at hv
  have hr := hs.right
  unfold evD
  rw [hv]
  simp only [Int.toNat_natCast]
  rw [if_neg (by simp)]
  by_cases hst : stat e = st
  · rw [if_pos hst] at hr ⊢
    rw [List.nil_append] at hr ⊢
    have hk := hr.left.one
    rw [if_neg (by omega), if_pos (by rw [hk.2]; omega), ← hst, evT_back h hr]
    congr 1
    simp only [List.length_append]
    omega
  · rw [if_neg hst] at hr ⊢
    have h1 := hr.left.one
    rw [if_neg (by omega), if_neg (by rw [h1.2]; omega), h1.2]
    have hr2 := hr.right
    rw [List.length_singleton] at hr2
    rw [evT_back h hr2]
    congr 1
    simp only [List.length_append, List.length_singleton]
    omega
/-- The bytes of events from i on. -/
def encQ (l : List StreamEvent) (i : Nat) : Nat → List Int
  | 0 => []
  | n + 1 => encE (stAt l i) (el l i) ++ encQ l (i + 1) n
theorem encQ_snoc (l : List StreamEvent) : ∀ (n i : Nat), encQ l i (n + 1) = encQ l i n ++ encE (stAt l (i + n)) (el l (i + n))
  | 0, i => by simp [encQ]
  | n + 1, i => by
    rw [encQ, encQ_snoc l n (i + 1), encQ, show i + 1 + n = i + (n + 1) by omega, List.append_assoc]
theorem encP_Q (l : List StreamEvent) : ∀ n, encP l n = encQ l 0 n
  | 0 => rfl
  | n + 1 => by rw [encP, encQ_snoc, encP_Q l n, Nat.zero_add]
theorem encE_pos (st : Int) (e : StreamEvent) : 0 < (encE st e).length := by
  unfold encE
  simp only [List.length_append, varB_len]
  omega
theorem dec_back {s : ByteArray} {l : List StreamEvent} (hl : ∀ i, i < l.length → eventB (el l i) = true) : ∀ (n i f p : Nat), i + n = l.length → n ≤ f → AtS s p (encQ l i n) → s.size = p + (encQ l i n).length →
    decF s f p (stAt l i) (l.take i) = (l, 0)
  | 0, i, f, p, hi, hf, hs, hz => by
    rw [decF_end (by rw [hz]; simp [encQ]), List.take_of_length_le (by omega)]
  | n + 1, i, 0, p, hi, hf, hs, hz => by omega
  | n + 1, i, f + 1, p, hi, hf, hs, hz => by
    rw [encQ] at hs hz
    have hv := evD_back (hl i (by omega)) hs.left
    have hp := encE_pos (stAt l i) (el l i)
    rw [List.length_append] at hz
    have est : stat (el l i) = stAt l (i + 1) := by
      unfold stAt
      rw [if_neg (by omega), Nat.add_sub_cancel]
    rw [decF_ok (by omega) (by rw [hv]), hv]
    simp only
    rw [est, ← take_el (by omega)]
    exact dec_back hl n (i + 1) f _ (by omega) (by omega) hs.right (by omega)
theorem encE_rng {st : Int} {e : StreamEvent} (h : eventB e = true) : ∀ x ∈ encE st e, 0 ≤ x ∧ x ≤ 255 := by
  have hb := eventB_iff.1 h
  have hsb := stat_bd hb
  intro x hx
  unfold encE at hx
  simp only [List.mem_append] at hx
  rcases hx with hx | hx | hx | hx
  · exact varB_rng _ x hx
  · split at hx
    · simp at hx
    · simp at hx; omega
  · simp at hx; omega
  · split at hx
    · simp at hx; omega
    · simp at hx
theorem encP_rng {l : List StreamEvent} (h : ∀ i, i < l.length → eventB (el l i) = true) : ∀ i, i ≤ l.length → ∀ x ∈ encP l i, 0 ≤ x ∧ x ≤ 255
  | 0, _, x, hx => by simp [encP] at hx
  | i + 1, hi, x, hx => by
    rw [encP, List.mem_append] at hx
    rcases hx with hx | hx
    · exact encP_rng h i (by omega) x hx
    · exact encE_rng (h i (by omega)) x hx
/-- A stream is read back from its canonical form. -/
theorem dec_enc {l : List StreamEvent} (h : okE l = true) : decV (encS l) = (l, 0) := by
  have hl : ∀ i, i < l.length → eventB (el l i) = true := fun i hi => okE_el h hi
  have hn := okE_len h
  have := dec_back (s := encS l) hl l.length 0 200 0 (by omega) hn (by unfold encS; rw [← encP_Q]; exact .bstr (encP_rng hl _ (Nat.le_refl _))) (by unfold encS; rw [bstr_size, encP_Q]; omega)
  simpa [decV, stAt] using this
theorem can_enc {l : List StreamEvent} (h : okE l = true) : canV (encS l) = (encS l, 0) := by
  unfold canV
  rw [dec_enc h]
  rfl
/-- An event that has been read takes no more bytes in the canonical form. -/
theorem evT_room {s : ByteArray} {d : Int} {q : Nat} {st : Int} (h : (evT s d q st).code = 0) :
    (evT s d q st).ev.d = d ∧ stat (evT s d q st).ev = st ∧ (evT s d q st).st = st ∧ (evT s d q st).at_ = q + ([(evT s d q st).ev.k] ++ (if (evT s d q st).ev.j = 1 then [(evT s d q st).ev.u] else [])).length := by
  by_cases hin : inB st 128 159 = true
  · have hb := inB_iff.1 hin
    by_cases k1 : (dataD s q 0).1 = 0
    · by_cases hz : st < 144
      · have e : evT s d q st = ⟨0, ⟨d, 2, st % 16, (dataD s q 0).2, 0⟩, q + 1, st⟩ := by simp [evT, hin, k1, hz]
        rw [e]
        refine ⟨rfl, ?_, rfl, rfl⟩
        show (if (2 : Int) = 1 then 144 + st % 16 else 128 + st % 16) = st
        rw [if_neg (by omega)]
        omega
      · by_cases k2 : (dataD s (q + 1) 1).1 = 0
        · have e : evT s d q st = ⟨0, ⟨d, 1, st % 16, (dataD s q 0).2, (dataD s (q + 1) 1).2⟩, q + 1 + 1, st⟩ := by simp [evT, hin, k1, hz, k2]
          rw [e]
          refine ⟨rfl, ?_, rfl, rfl⟩
          show (if (1 : Int) = 1 then 144 + st % 16 else 128 + st % 16) = st
          rw [if_pos rfl]
          omega
        · have e : evT s d q st = .bad (dataD s (q + 1) 1).1 := by simp [evT, hin, k1, hz, k2]
          rw [e] at h
          exact absurd h k2
    · have e : evT s d q st = .bad (dataD s q 0).1 := by simp [evT, hin, k1]
      rw [e] at h
      exact absurd h k1
  · simp at hin
    have e : evT s d q st = .bad 9 := by simp [evT, hin]
    rw [e] at h
    cases h
theorem evD_room {s : ByteArray} {p : Nat} {st : Int} (h : (evD s p st).code = 0) : stat (evD s p st).ev = (evD s p st).st ∧ p + (encE st (evD s p st).ev).length ≤ (evD s p st).at_ := by
  unfold evD at h ⊢
  split at h
  · rename_i hc
    exact absurd h hc
  · rename_i hc
    rw [if_neg hc]
    obtain ⟨q, q1, q2⟩ := get_room (Decidable.byContradiction hc)
    split at h
    · cases h
    · rename_i h2
      rw [if_neg h2]
      rw [q1] at h h2 ⊢
      simp only [Int.toNat_natCast] at h h2 ⊢
      generalize (getVF s 4 p 0).1 = d at *
      split at h
      · rename_i h3
        rw [if_pos h3]
        obtain ⟨e1, e2, e3, e4⟩ := evT_room h
        refine ⟨by rw [e2, e3], ?_⟩
        rw [e4]
        unfold encE
        rw [e1, if_pos e2]
        simp only [List.length_append, List.length_nil]
        omega
      · rename_i h3
        rw [if_neg h3]
        obtain ⟨e1, e2, e3, e4⟩ := evT_room h
        refine ⟨by rw [e2, e3], ?_⟩
        rw [e4]
        unfold encE
        rw [e1]
        simp only [List.length_append]
        split <;> simp only [List.length_nil, List.length_singleton] <;> omega
theorem stAt_app {l m : List StreamEvent} {i : Nat} (h : i ≤ l.length) : stAt (l ++ m) i = stAt l i := by
  unfold stAt
  split
  · rfl
  · rw [el_append_left (by omega)]
theorem encP_app {l m : List StreamEvent} : ∀ i, i ≤ l.length → encP (l ++ m) i = encP l i
  | 0, _ => rfl
  | i + 1, h => by rw [encP, encP, encP_app i (by omega), stAt_app (by omega), el_append_left (by omega)]
theorem decF_room {s : ByteArray} : ∀ (f p : Nat) (st : Int) (out : List StreamEvent), p ≤ s.size → st = stAt out out.length → (encP out out.length).length ≤ p → (∀ q st, q ≤ s.size → (evD s q st).code = 0 → (evD s q st).at_ ≤ s.size) →
    (decF s f p st out).2 = 0 → (encP (decF s f p st out).1 (decF s f p st out).1.length).length ≤ s.size
  | 0, p, st, out, hp, hst, hl, hin, h => by
    by_cases hs : s.size ≤ p
    · rw [decF_end hs]; simp only; omega
    · rw [decF_full hs] at h; cases h
  | f + 1, p, st, out, hp, hst, hl, hin, h => by
    by_cases hs : s.size ≤ p
    · rw [decF_end hs]; simp only; omega
    · by_cases hc : (evD s p st).code = 0
      · rw [decF_ok hs hc] at h ⊢
        obtain ⟨r1, r2⟩ := evD_room hc
        refine decF_room f _ _ _ (hin p st (by omega) hc) ?_ ?_ hin h
        · rw [← r1]
          unfold stAt
          rw [List.length_append, List.length_singleton, if_neg (by omega), Nat.add_sub_cancel, el_append_right (Nat.le_refl _), Nat.sub_self]
          rfl
        · rw [List.length_append, List.length_singleton, encP, encP_app _ (Nat.le_refl _), stAt_app (Nat.le_refl _), ← hst, el_append_right (Nat.le_refl _), Nat.sub_self, List.length_append]
          have e : el [(evD s p st).ev] 0 = (evD s p st).ev := rfl
          rw [e]
          omega
      · rw [decF_bad hs hc] at h
        exact absurd h hc
end Go.Proofs.Ythopcmglcnlcfaa
