/- Parts of the proof, together: The texts of items: the reference. Lists of items: the laws' helpers. No conditions. -/
import Derived.Test.YtodbjnngkonklaaGreatDoorZzA13
import Derived.Test.YtodbjnngkonklaaGreatDoorZzA10
namespace Go.Proofs.YtodbjnngkonklaaGreatDoor
open Go.RowKit
set_option linter.unusedVariables false
set_option linter.unusedSimpArgs false
set_option maxRecDepth 100000
attribute [local simp] List.getElem?_cons_zero
attribute [local irreducible] awCond awCall awLoop awDraw ow retQ retC resQ Keeps
/-- A slice of bytes that reads as a text. -/
def AccB (B : Nat) (M : Mem) (v : Value) (t : ByteArray) : Prop := ∃ bs, Acc byteR 5 B M v bs ∧ bstr bs = t
def bytesI (s : ByteArray) : List Int := s.data.toList.map fun c => (c.toNat : Int)
theorem bytesI_len (s : ByteArray) : (bytesI s).length = s.size := by unfold bytesI; rw [List.length_map]; rfl
theorem bstr_bytes (s : ByteArray) : bstr (bytesI s) = s := by
  unfold bytesI
  rw [bstr_back]
theorem bytesI_cells (s : ByteArray) : byteCells s = cellsL byteR (bytesI s) := by
  rw [cellsL_byte]
  unfold byteCells bytesI
  rw [List.map_map]
  rfl
theorem bstr_size (l : List Int) : (bstr l).size = l.length := by simp [bstr, ByteArray.size]
theorem AccB.keeps {B : Nat} {M M' : Mem} {v : Value} {t : ByteArray} (h : AccB B M v t) (hk : Keeps M M') : AccB B M' v t := by
  obtain ⟨bs, h1, h2⟩ := h
  exact ⟨bs, h1.keeps hk, h2⟩
theorem AccB.sl {B : Nat} {M : Mem} {v : Value} {t : ByteArray} (h : AccB B M v t) : ∃ A n c, v = .slice A n c := by
  obtain ⟨bs, h1, h2⟩ := h
  obtain ⟨A, n, c, rfl, -⟩ := h1.sl
  exact ⟨A, n, c, rfl⟩
theorem AccB.str {b B : Nat} {S : St} {v : Value} {t s : ByteArray} {K : Value → Mem → Prop} (h : AccB B S.M v t) (hb : b ≤ B) (hB : B ≤ S.M.length) (hn : t.size + s.size ≤ 1000000) (hK : ∀ v' M', AccB B M' v' (t ++ s) → Same B S.M M' → K v' M') : appendK Tryz.prog b S K 47 9 v (.string s) := by
  obtain ⟨bs, hA, rfl⟩ := h
  rw [bstr_size] at hn
  refine hA.extend (by_ := 1) (ls := bytesI s) hb hB (by simp) (by kernel_rfl) ?_ (byte_one _) (by rw [bytesI_len]; omega) (by rw [bytesI_len]; unfold maxLen; omega) ?_
  · simp [srcOf, Tryz.underlying9, bytesI_len, bytesI_cells]
  · intro v' M' h1 h2
    exact hK v' M' ⟨_, h1, by rw [bstr_app, bstr_bytes]⟩ h2
theorem AccB.byte {b B id c : Nat} {S : St} {v : Value} {t s : ByteArray} {n : Int} {K : Value → Mem → Prop} (h : AccB B S.M v t) (hr : cellsAt S.M id 0 1 = some [.int .u8 n]) (hs : bstr [n] = s) (hb : b ≤ B) (hB : B ≤ S.M.length) (hn : t.size ≤ 1000000) (hK : ∀ v' M', AccB B M' v' (t ++ s) → Same B S.M M' → K v' M') : appendK Tryz.prog b S K 47 47 v (.slice (some ⟨id, 0, none⟩) 1 c) := by
  obtain ⟨bs, hA, rfl⟩ := h
  rw [bstr_size] at hn
  refine hA.extend (by_ := 1) (ls := [n]) hb hB (by simp) (by kernel_rfl) ?_ (byte_one _) (by simp; omega) (by simp; unfold maxLen; omega) ?_
  · simp [srcOf, Tryz.underlying47, hr, cellsL_byte]
  · intro v' M' h1 h2
    exact hK v' M' ⟨_, h1, by rw [bstr_app, hs]⟩ h2
/-- The words so far, and a blank after them. -/
def preB (ws : List ByteArray) (sep : ByteArray) : ByteArray := if ws = [] then ⟨#[]⟩ else joinB ws sep ++ sep
theorem pre_word (ws : List ByteArray) (w sep : ByteArray) : preB ws sep ++ w = joinB (ws ++ [w]) sep := by
  unfold preB
  by_cases h : ws = []
  · rw [if_pos h, h, List.nil_append, joinB_one]
    exact ByteArray.empty_append
  · rw [if_neg h, joinB_snoc h]
theorem preB_size (ws : List ByteArray) {sep : ByteArray} (h : sep.size = 1) : (preB ws sep).size ≤ totB ws + 1 := by
  have hjs := joinB_size sep h ws
  unfold preB
  split
  · exact Nat.zero_le _
  · rw [ByteArray.size_append, h]; omega
def TextToS (N : Nat) : Prop := ∀ (M : Mem) (A : Option Addr) (n c : Nat) (l : List Item) (lo hi d : Nat), SlP itemP lo hi M A n l → n ≤ 80 → scanI d l = true → n < N →
  Det Tryz.prog M.length 11 [.slice A n c] M (.string (textI l)) M
set_option maxHeartbeats 2000000 in
theorem texts_step {N : Nat} (hN : TextToS N) : TextToS (N + 1) := by
  intro M A n c l lo hi d h hn hs0 hlt
  have hl := h.1
  first | (refine det_fn Tryz.func11 rfl Tryz.ntmps11 Tryz.results11 rfl rfl rfl (by simp) ?_) | (refine det_fnC Tryz.func11 rfl Tryz.ntmps11 Tryz.results11 rfl rfl (by simp) ?_)
  simp
  refine awLoop_T (fun m T M' => ∃ (i : Nat) (ws : List ByteArray) (v : Value), i + m = n ∧ Keeps M M' ∧ AccB M.length M' v (joinB ws spcB) ∧ wordsI l = ws ++ wordsI (subI l i n) ∧ scanI d (subI l i n) = true ∧ (ws = [] ↔ i = 0) ∧ look T 4 = some (iv i) ∧ look T 3 = some v ∧ look T 0 = some (.slice A n c)) n ⟨0, [], _, by omega, keeps_app _, ⟨[], ⟨_, 0, 0, rfl, rfl, .inr ⟨M.length, true, rfl, Nat.le_refl _, by simp [cellsL]⟩⟩, rfl⟩, by rw [show subI l 0 n = l by rw [← hl]; exact subI_all]; rfl, by rw [show subI l 0 n = l by rw [← hl]; exact subI_all]; exact hs0, by simp, by simp, by simp, by simp⟩ ?_
  rintro m T M1 ⟨i, ws, v, hm, hK, hA, hw, hs, hwl, t4, t3, t0⟩
  have hKl := hK.len
  have hwt := words_tot n d l (by omega) hs0
  by_cases hib : i < n
  case neg =>
    obtain rfl : i = n := by omega
    rw [subI_nil, wordsI_nil, List.append_nil] at hw
    obtain ⟨bs, hA, hbs⟩ := hA
    obtain ⟨A4, n4, c4, rfl, -, -, -⟩ := hA.sl
    simp (disch := omega) [t4, t3, t0]
    refine acc_str (by_ := 1) (by exact hA) Tryz.underlying9 (by simp) Tryz.underlying5 ?_
    rw [hbs, textI, hw]
    exact ⟨rfl, hK⟩
  have hib' : (i : Int) < n := by omega
  obtain ⟨id, off, us, rfl, he0, hrd0, hc0⟩ := h.at_ hib
  have hrd2 := hrd0
  obtain ⟨A1, n1, c1', hu, hus, c0, c1, c2, c4, c5, c7, c8⟩ := item_cells hrd2 hc0
  subst hus
  obtain ⟨_, _, _, e', he, -, -⟩ := (h.keeps hK).at_ hib
  cases e'
  have hcons := subI_cons (l := l) hib (by omega)
  have hrl : (subI l (i + 1) n).length = n - (i + 1) := subI_len (by omega) (by omega)
  rw [hcons, wordsI_cons] at hw
  rw [hcons, scanI_cons, Bool.and_eq_true] at hs
  obtain ⟨hB, hs⟩ := hs
  simp (disch := omega) [t4, t3, t0, hib, hib', he]
  refine awCond_join (fun T' M' => ∃ v', Keeps M M' ∧ AccB M.length M' v' (preB ws spcB) ∧ look T' 5 = some (.pointer (some ⟨id, off + i * 8, none⟩)) ∧ look T' 4 = some (iv i) ∧ look T' 3 = some v' ∧ look T' 0 = some (.slice (some ⟨id, off, none⟩) n c)) ?_ ?_ ?_
  · intro Q' hQ hl
    have hi0 : 0 < i := by simpa using hl
    have hne : ws ≠ [] := fun e => by have := hwl.1 e; omega
    have hjs := joinB_size spcB spcB_sz ws
    have htl : totB ws ≤ 24000 := by rw [hw, totB_app] at hwt; omega
    obtain ⟨A4, n4, c4, rfl⟩ := hA.sl
    simp (disch := omega) [t4, t3, t0, fill_byte]
    refine (hA.keeps (keeps_app _)).byte (s := spcB) (by simp [cellsAt]; rfl) (by rfl) (by omega) (by simp; omega) (by omega) ?_
    intro v' M' h1 h2
    try simp (disch := omega) [t4, t3, t0]
    refine hQ _ _ ⟨v', h2.keeps (hK.trans (keeps_app _)) (Nat.le_refl _), ?_, by simp, by simp [t4], by simp, by simp [t0]⟩
    unfold preB
    rw [if_neg hne]
    exact h1
  · intro Q' hQ hl
    have hi0 : i = 0 := by simpa using hl
    try simp
    refine hQ _ _ ⟨v, hK, ?_, by simp, by simp [t4], by simp [t3], by simp [t0]⟩
    unfold preB
    rw [if_pos (hwl.2 hi0)]
    rw [hwl.2 hi0] at hA
    exact hA
  clear t4 t3 t0 hA hK hKl
  rintro T2 M2 ⟨v2, hK2, hA, t5, t4, t3, t0⟩
  have hKl := hK2.len
  clear he
  obtain ⟨_, _, _, e', he, -, -⟩ := (h.keeps hK2).at_ hib
  cases e'
  have d0 := cellAt_keeps hK2 c0
  have d2 := cellsAt_keeps hK2 c2
  have d4 := cellAt_keeps hK2 c4
  have d7 := cellAt_keeps hK2 c7
  have wz : ∀ hg2 : ¬ grpB (el l i) = true, (wordS (el l i)).size ≤ 250 := fun h2 => word_size hB h2
  have hpz : (preB ws spcB).size ≤ 24001 := by
    have hjs := preB_size ws spcB_sz
    have htl : totB ws ≤ 24000 := by rw [hw, totB_app] at hwt; omega
    omega
  obtain ⟨A4, n4, c4', rfl⟩ := hA.sl
  simp (disch := omega) [t5, t4, t3, t0, d0]
  by_cases j2 : (el l i).j = 2
  · have hg2 : ¬ grpB (el l i) = true := by simp [grpB, j2]
    rw [if_neg hg2] at hs hw
    have hf := lenB_f (itemB_2 j2 hB)
    have z := fracS_size hf
    have e : wordS (el l i) = rclB ++ fracS (el l i).len := by unfold wordS; rw [if_pos j2]
    simp (disch := omega) [j2, d2, t5, t3]
    refine awCall_det' (l02Text_s (el l i).len hf) (by omega) ?_
    simp (disch := first | omega | (simp only [ByteArray.size_append, rclB_sz]; omega)) [rclB_lit, str_addX, ← e, t3]
    have wz2 := wz hg2
    refine hA.str (by omega) (by omega) (by omega) ?_
    intro v' M' h1 h2
    simp (disch := omega) [t4, t3, t0, wrap_in]
    exact lpI (m - 1) (by omega) ⟨i + 1, ws ++ [wordS (el l i)], v', by omega, h2.keeps hK2 (Nat.le_refl _), by rw [← pre_word]; exact h1, by rw [hw]; simp, hs, by simp, by simp, by simp, by simp [t0]⟩
  by_cases j3 : (el l i).j = 3
  · have hg2 : ¬ grpB (el l i) = true := by simp [grpB, j3]
    rw [if_neg hg2] at hs hw
    have hb := itemB_3 j3 hB
    have z := decS_size (el l i).x (by omega) (by omega)
    have e : wordS (el l i) = exB ++ decS (el l i).x := by unfold wordS; rw [if_neg j2, if_pos j3]
    simp (disch := omega) [j3, d4, t5, t3]
    refine awCall_det' (l01Dec_a (el l i).x (by omega) (by omega)) (by omega) ?_
    simp (disch := first | omega | (simp only [ByteArray.size_append, exB_sz]; omega)) [exB_lit, str_addX, ← e, t3]
    have wz2 := wz hg2
    refine hA.str (by omega) (by omega) (by omega) ?_
    intro v' M' h1 h2
    simp (disch := omega) [t4, t3, t0, wrap_in]
    exact lpI (m - 1) (by omega) ⟨i + 1, ws ++ [wordS (el l i)], v', by omega, h2.keeps hK2 (Nat.le_refl _), by rw [← pre_word]; exact h1, by rw [hw]; simp, hs, by simp, by simp, by simp, by simp [t0]⟩
  by_cases j1 : (el l i).j = 1
  · have hg2 : ¬ grpB (el l i) = true := by simp [grpB, j1]
    rw [if_neg hg2] at hs hw
    obtain ⟨hc1, hf⟩ := itemB_1 j1 hB
    have hf := lenB_f hf
    obtain ⟨c6, call⟩ := chord_all hc1
    have z := fracS_size hf
    have e : wordS (el l i) = joinB (pitL (el l i).ps) pluB ++ colB ++ fracS (el l i).len := by unfold wordS; rw [if_neg j2, if_neg j3]
    simp (disch := omega) [j1, t5, t3, t4, t0]
    obtain ⟨_, _, _, e', hn1, hcn1, hS⟩ := hu
    cases e'
    have hl1 := hS.1
    refine awLoop_T (fun m T M' => ∃ (k : Nat) (v : Value), k + m = n1 ∧ Keeps M M' ∧ AccB M.length M' v (preB ws spcB ++ joinB (pitL ((el l i).ps.take k)) pluB) ∧ look T 6 = some (iv k) ∧ look T 5 = some (.pointer (some ⟨id, off + i * 8, none⟩)) ∧ look T 4 = some (iv i) ∧ look T 3 = some v ∧ look T 0 = some (.slice (some ⟨id, off, none⟩) n c)) n1 ⟨0, _, by omega, hK2, by rw [List.take_zero, show pitL [] = [] from rfl, joinB_nil, show preB ws spcB ++ (⟨#[]⟩ : ByteArray) = preB ws spcB from ByteArray.append_empty]; exact hA, by simp, by simp [t5], by simp [t4], by simp [t3], by simp [t0]⟩ ?_
    clear t5 t4 t3 t0 hA he d0 d2 d4 d7 hKl
    clear hK2
    rintro m3 T3 M3 ⟨k, v3, hm3, hK3, hA, t6, t5, t4, t3, t0⟩
    have hKl := hK3.len
    have d1 := cellAt_keeps hK3 c1
    have d2 := cellsAt_keeps hK3 c2
    have hpl : (pitL ((el l i).ps.take k)).length = k := by unfold pitL; rw [List.length_map, List.length_take]; omega
    by_cases hlt : k < n1
    · have hlt' : (k : Int) < n1 := by omega
      obtain ⟨id1, off1, rfl, he1, hcl1⟩ := (hS.sl.keeps hK3).at_ hlt
      have ld := pitch_load hcl1
      have hp := call k (by omega)
      have htt : totB (pitL (el l i).ps) = totB (pitL ((el l i).ps.take k)) + totB (pitL ((el l i).ps.drop k)) := by
        rw [← totB_app]
        unfold pitL
        rw [← List.map_append, List.take_append_drop]
      have ht0 := pit_tot call
      have hjk := joinB_size pluB pluB_sz (pitL ((el l i).ps.take k))
      have zp := pitchS_size hp
      simp (disch := omega) [t6, t5, t4, t3, t0, hlt, hlt', d1, he1, ld]
      refine awCond_join (fun T' M' => ∃ v', Keeps M M' ∧ AccB M.length M' v' (preB ws spcB ++ preB (pitL ((el l i).ps.take k)) pluB) ∧ look T' 6 = some (iv k) ∧ look T' 5 = some (.pointer (some ⟨id, off + i * 8, none⟩)) ∧ look T' 4 = some (iv i) ∧ look T' 3 = some v' ∧ look T' 0 = some (.slice (some ⟨id, off, none⟩) n c)) ?_ ?_ ?_
      · intro Q' hQ hl
        have hk0 : 0 < k := by simpa using hl
        have hne : pitL ((el l i).ps.take k) ≠ [] := fun e => by rw [e] at hpl; simp at hpl; omega
        obtain ⟨A5, n5, c5', rfl⟩ := hA.sl
        simp (disch := omega) [t6, t5, t4, t3, t0, fill_byte]
        refine (hA.keeps (keeps_app _)).byte (s := pluB) (by simp [cellsAt]; rfl) (by rfl) (by omega) (by simp; omega) (by simp only [ByteArray.size_append]; omega) ?_
        intro v' M' h1 h2
        try simp (disch := omega) [t6, t5, t4, t3, t0]
        refine hQ _ _ ⟨v', h2.keeps (hK3.trans (keeps_app _)) (Nat.le_refl _), ?_, by simp [t6], by simp [t5], by simp [t4], by simp, by simp [t0]⟩
        unfold preB
        rw [if_neg hne]
        rw [ByteArray.append_assoc] at h1
        exact h1
      · intro Q' hQ hl
        have hk0 : k = 0 := by simpa using hl
        try simp
        refine hQ _ _ ⟨v3, hK3, ?_, by simp [t6], by simp [t5], by simp [t4], by simp [t3], by simp [t0]⟩
        subst hk0
        exact hA
      clear t6 t5 t4 t3 t0 hA he1 d1 d2 hKl hcl1 ld
      clear hK3
      rintro T4 M4 ⟨v4, hK4, hA, t6, t5, t4, t3, t0⟩
      have hKl := hK4.len
      have d1 := cellAt_keeps hK4 c1
      obtain ⟨_, _, e', he1, hcl1⟩ := (hS.sl.keeps hK4).at_ hlt
      cases e'
      have ld := pitch_load hcl1
      obtain ⟨A5, n5, c5', rfl⟩ := hA.sl
      simp (disch := omega) [t6, t5, t4, t3, t0, hlt, hlt', d1, he1, ld]
      refine awCall_det' (l16Text_s (el (el l i).ps k) hp) (by omega) ?_
      refine hA.str (by omega) (by omega) (by have := preB_size (pitL ((el l i).ps.take k)) pluB_sz; simp only [ByteArray.size_append]; omega) ?_
      intro v' M' h1 h2
      try simp (disch := omega) [t6, t5, t4, t3, t0, wrap_in]
      refine lpI (m3 - 1) (by omega) ⟨k + 1, v', by omega, h2.keeps hK4 (Nat.le_refl _), ?_, by simp, by simp [t5], by simp [t4], by simp, by simp [t0]⟩
      rw [pitL_snoc (by omega), ← pre_word, ← ByteArray.append_assoc]
      exact h1
    · obtain rfl : k = n1 := by omega
      rw [List.take_of_length_le (by omega)] at hA hpl
      obtain ⟨A5, n5, c5', rfl⟩ := hA.sl
      simp (disch := omega) [t6, t5, t4, t3, t0, d1, d2]
      refine awCall_det' (l02Text_s (el l i).len hf) (by omega) ?_
      simp (disch := first | omega | (simp only [ByteArray.size_append, colB_sz]; omega)) [colB_lit, str_addX, t3]
      have ht0 := pit_tot call
      have hjk := joinB_size pluB pluB_sz (pitL (el l i).ps)
      refine hA.str (by omega) (by omega) (by simp only [ByteArray.size_append, colB_sz]; omega) ?_
      intro v' M' h1 h2
      simp (disch := omega) [t6, t5, t4, t3, t0, wrap_in]
      refine lpI (m - 1) (by omega) ⟨i + 1, ws ++ [wordS (el l i)], v', by omega, h2.keeps hK3 (Nat.le_refl _), ?_, by rw [hw]; simp, hs, by simp, by simp, by simp, by simp [t0]⟩
      rw [← pre_word, e]
      simp only [ByteArray.append_assoc] at h1 ⊢
      exact h1
  have hg2 : grpB (el l i) = true := by
    have := itemB_j hB
    simp [grpB]
    omega
  rw [if_pos hg2, hrl] at hs
  rw [if_pos hg2] at hw
  simp only [Bool.and_eq_true, decide_eq_true_eq] at hs
  obtain ⟨hd0, hz, hs1, hs2⟩ := hs
  have hz := inB_iff.1 hz
  obtain ⟨z, hz2⟩ : ∃ z : Nat, (el l i).z = z := ⟨(el l i).z.toNat, by omega⟩
  rw [hz2] at hz d7
  rw [hz2, Int.toNat_natCast, subI_take (by omega)] at hs1
  rw [hz2, Int.toNat_natCast, subI_drop] at hs2
  rw [hz2, Int.toNat_natCast, subI_take (by omega), subI_drop] at hw
  simp (disch := omega) [j1, j2, j3, t5, t4, t3, t0, d7, wrap_in, he]
  refine ⟨by omega, ?_⟩
  have ez : ((i : Int) + 1 + z).toNat - (i + 1) = z := by omega
  rw [ez]
  have hpart := (h.keeps hK2).part (a := i + 1) (b := i + 1 + z) (by omega) (by omega)
  rw [show i + 1 + z - (i + 1) = z by omega] at hpart
  have esub : (l.drop (i + 1)).take z = subI l (i + 1) (i + 1 + z) := by unfold subI; rw [show i + 1 + z - (i + 1) = z by omega]
  rw [esub] at hpart
  refine awCall_det' (hN M2 (some ⟨id, off + (i + 1) * 8, none⟩) z z (subI l (i + 1) (i + 1 + z)) lo hi (d - 1) hpart (by omega) hs1 (by omega)) (by omega) ?_
  have hwp := words_tot n (d - 1) (subI l (i + 1) (i + 1 + z)) (by rw [hpart.1]; omega) hs1
  rw [hpart.1] at hwp
  have hjp := joinB_size spcB spcB_sz (wordsI (subI l (i + 1) (i + 1 + z)))
  change (textI (subI l (i + 1) (i + 1 + z))).size ≤ _ at hjp
  simp (disch := first | omega | (simp only [ByteArray.size_append, opaB_sz, cpaB_sz]; omega)) [t5, t4, t3, t0, opaB_lit, cpaB_lit, str_addX]
  refine hA.str (by omega) (by omega) (by simp only [ByteArray.size_append, opaB_sz, cpaB_sz]; omega) ?_
  clear hA d0 d2 d4 d7 he
  intro v3 M3 hA h3
  have hK3 := h3.keeps hK2 (Nat.le_refl _)
  have hKl := hK3.len
  have d0 := cellAt_keeps hK3 c0
  have d4 := cellAt_keeps hK3 c4
  have d5 := cellsAt_keeps hK3 c5
  obtain ⟨A5, n5, c5', rfl⟩ := hA.sl
  simp (disch := omega) [t5, t4, t3, t0, d0]
  by_cases j4 : (el l i).j = 4
  case pos =>
    have hx := itemB_4 j4 hB
    have z4 := decS_size (el l i).x (by omega) (by omega)
    have et : tailS (el l i) = staB ++ decS (el l i).x := by unfold tailS; rw [if_pos j4]
    simp (disch := omega) [j4, d0, d4, t5, t4, t3, t0]
    refine awCall_det' (l01Dec_a (el l i).x (by omega) (by omega)) (by omega) ?_
    simp (disch := first | omega | (simp only [ByteArray.size_append, opaB_sz, cpaB_sz, staB_sz]; omega)) [t4, t3, t0, staB_lit, str_addX]
    rw [← et]
    have zt := tail_size hB hg2
    refine hA.str (by omega) (by omega) (by simp only [ByteArray.size_append, opaB_sz, cpaB_sz]; omega) ?_
    intro v' M' h1 h2
    have d7 := cellAt_keeps (h2.keeps hK3 (Nat.le_refl _)) c7
    rw [hz2] at d7
    simp (disch := omega) [t5, t4, t3, t0, d7, wrap_in]
    refine lpI (m - 1 - z) (by omega) ⟨i + 1 + z, ws ++ [opaB ++ textI (subI l (i + 1) (i + 1 + z)) ++ cpaB ++ tailS (el l i)], v', by omega, h2.keeps hK3 (Nat.le_refl _), ?_, by rw [hw]; simp [textI], hs2, by simp, by simp (disch := omega) [wrap_in]; omega, by simp, by simp [t0]⟩
    rw [← pre_word]
    simp only [ByteArray.append_assoc] at h1 ⊢
    exact h1
  case neg =>
    have j5 : (el l i).j = 5 := by
      have := itemB_j hB
      omega
    have hx := itemB_5 j5 hB
    have z4 := nameS_size hx
    have et : tailS (el l i) = hatB ++ nameS (el l i).mv := by unfold tailS; rw [if_neg j4]
    simp (disch := omega) [j4, d0, d5, t5, t4, t3, t0]
    refine awCall_det' (l16Name_s (el l i).mv hx) (by omega) ?_
    simp (disch := first | omega | (simp only [ByteArray.size_append, opaB_sz, cpaB_sz, hatB_sz]; omega)) [t4, t3, t0, hatB_lit, str_addX]
    rw [← et]
    have zt := tail_size hB hg2
    refine hA.str (by omega) (by omega) (by simp only [ByteArray.size_append, opaB_sz, cpaB_sz]; omega) ?_
    intro v' M' h1 h2
    have d7 := cellAt_keeps (h2.keeps hK3 (Nat.le_refl _)) c7
    rw [hz2] at d7
    simp (disch := omega) [t5, t4, t3, t0, d7, wrap_in]
    refine lpI (m - 1 - z) (by omega) ⟨i + 1 + z, ws ++ [opaB ++ textI (subI l (i + 1) (i + 1 + z)) ++ cpaB ++ tailS (el l i)], v', by omega, h2.keeps hK3 (Nat.le_refl _), ?_, by rw [hw]; simp [textI], hs2, by simp, by simp (disch := omega) [wrap_in]; omega, by simp, by simp [t0]⟩
    rw [← pre_word]
    simp only [ByteArray.append_assoc] at h1 ⊢
    exact h1
theorem texts_to : ∀ N, TextToS N
  | 0 => fun M A n c l lo hi d _ _ _ h => by omega
  | N + 1 => texts_step (texts_to N)
theorem ItemsText_s {M : Mem} {A : Option Addr} {n c lo hi : Nat} {l : List Item} (h : SlP itemP lo hi M A n l) (hn : n ≤ 1048576) : Det Tryz.prog M.length 5 [.slice A n c] M (.string (itemsT l)) M := by
  have hl := h.1
  first | (refine det_fn Tryz.func5 rfl Tryz.ntmps5 Tryz.results5 rfl rfl rfl (by simp) ?_) | (refine det_fnC Tryz.func5 rfl Tryz.ntmps5 Tryz.results5 rfl rfl (by simp) ?_)
  simp
  refine awCall_det' (l19Ok_s h hn) (by omega) ?_
  by_cases h1 : okI l = true
  · have h2 := h1
    unfold okI at h2
    simp only [Bool.and_eq_true, decide_eq_true_eq] at h2
    simp [h1]
    refine awCall_det' (texts_to (n + 1) M A n c l lo hi 3 h (by omega) h2.2 (by omega)) (by omega) ?_
    simp [itemsT, h1, Keeps.refl]
  · simp [h1, itemsT, Keeps.refl]
end Go.Proofs.YtodbjnngkonklaaGreatDoor

namespace Go.Proofs.YtodbjnngkonklaaGreatDoor
open Go.RowKit
set_option linter.unusedVariables false
set_option linter.unusedSimpArgs false
set_option maxRecDepth 100000
attribute [local simp] List.getElem?_cons_zero
attribute [local irreducible] awCond awCall awLoop awDraw ow retQ retC resQ Keeps
def wtItemS (l : List Item) : Nat := l.length + sumW wtItem l l.length
theorem szItemS_x {M : Mem} {lo hi : Nat} {u : Value} {l : List Item} {z : Int} (h : SlV itemP lo hi M u l) (hz : 0 ≤ z) (hz1 : z ≤ 1048576) : Det Tryz.prog M.length 4 [u, iv z] M (iv (if z - wtItemS l < 0 then -1 else z - wtItemS l)) M := by
  obtain ⟨A, n, c, rfl, h1, h2, h3⟩ := h
  have hl := h3.1
  have hw : wtItemS l = n + sumW wtItem l l.length := by unfold wtItemS; rw [hl]
  rw [hw]
  first | (refine det_fn Tryz.func4 rfl Tryz.ntmps4 Tryz.results4 rfl rfl rfl (by simp) ?_) | (refine det_fnC Tryz.func4 rfl Tryz.ntmps4 Tryz.results4 rfl rfl (by simp) ?_)
  simp (disch := omega) [wrap_in]
  refine awCond_split ?_ ?_ <;> intro h
  · simp at h
    simp [Keeps.refl]
    omega
  · simp at h
    simp
    refine awLoop_T (fun m T M' => ∃ k : Nat, k + m = n ∧ Keeps M M' ∧ 0 ≤ z - n - sumW wtItem l k ∧ look T 5 = some (iv k) ∧ look T 1 = some (iv (z - n - sumW wtItem l k)) ∧ look T 0 = some (.slice A n c)) n ⟨0, by omega, Keeps.refl _, by rw [sumW_zero]; omega, by simp, by simp [sumW_zero], by simp⟩ ?_
    rintro m T M' ⟨k, hm, hk, hp, h5, h1', h0⟩
    by_cases hlt : k < n
    · obtain ⟨id, off, us, rfl, he, hrd, hc⟩ := (h3.keeps hk).at_ hlt
      have c1 := cellsAt_of (n := 8) hc (itemP.len hrd) (by omega)
      simp (disch := omega) [h5, h1', h0, hlt, c1, he]
      have hd := szItem_x (M := M') hrd hp (by omega)
      refine awCall_det' hd (by have := hk.len; omega) ?_
      have ht := sumW_succ wtItem (l := l) (k := k) (by omega)
      have hle := sumW_le wtItem l (k + 1)
      by_cases hneg : z - n - sumW wtItem l k - wtItem (el l k) < 0
      · simp [hneg]
        exact ⟨fun h => by omega, hk⟩
      · simp (disch := omega) [hneg, h5, wrap_in]
        exact lpI (m - 1) (by omega) ⟨k + 1, by omega, hk, by omega, by simp, by rw [ht]; simp; omega, by simp [h0]⟩
    · obtain rfl : k = n := by omega
      rw [show sumW wtItem l k = sumW wtItem l l.length by rw [hl]] at hp h1'
      simp [h5, h1', h0]
      rw [if_neg (by omega)]
      exact ⟨by omega, hk⟩
theorem toItemS_x {M : Mem} {lo hi : Nat} {u : Value} {l : List Item} (h : SlV itemP lo hi M u l) (hn : l.length ≤ 1048576) (hb : ∀ x, x ∈ l → x.ps.length ≤ 1048576) : ∃ v N, Det Tryz.prog M.length 6 [u] M v (M ++ N) ∧ SlV itemP M.length (M ++ N).length (M ++ N) v l := by
  obtain ⟨A, n, c, rfl, h1, h2, h3⟩ := h
  have hl := h3.1
  obtain ⟨f, f0, fI, fS, N, fN, hS⟩ := to_chain (P := itemP) (Mk := fun us => .agg us.toArray) (fn := 12) (e := 42) (z := [iv 0, .slice none 0 0, iv 0, iv 0, iv 0, iv 0, iv 0, iv 0]) h3 rfl (by omega) (fun M1 i us hk hi hrd => toItem_c hrd (hb _ (el_mem (by omega))))
  have hN := fI n (Nat.le_refl _)
  rw [fN] at hS
  refine ⟨.slice (some ⟨M.length, 0, none⟩) n n, N, Ctr.det ?_, _, n, n, rfl, h1, (fun h => by cases h), hS⟩
  first | (refine ctr_fn Tryz.func6 rfl Tryz.ntmps6 Tryz.results6 rfl rfl (by simp) ?_) | (refine ctr_fnC Tryz.func6 rfl Tryz.ntmps6 Tryz.results6 rfl (by simp) ?_)
  simp
  refine ⟨by omega, ?_⟩
  refine awLoop_T (fun m T M' => ∃ k : Nat, k + m = n ∧ M' = f k ∧ look T 4 = some (iv k) ∧ look T 0 = some (.slice A n c) ∧ look T 3 = some (.slice (some ⟨M.length, 0, none⟩) n n)) n ⟨0, by omega, by rw [f0], by simp, by simp, by simp⟩ ?_
  rintro m T M' ⟨k, hm, rfl, h4, h0, h3'⟩
  by_cases hlt : k < n
  · obtain ⟨id, off, us, rfl, he, hrd, hc⟩ := h3.at_ hlt
    obtain ⟨g1, g2, g3⟩ := fI k (by omega)
    obtain ⟨vs, N', d1, d2, d2', d3⟩ := fS k hlt id off us rfl (cellsAt_of hc (itemP.len hrd) (by omega))
    have c1 := cellsAt_of (n := 8) hc (itemP.len hrd) (by omega)
    have c2 := cellsAt_keeps g1 c1
    simp (disch := omega) [h3', h4, h0, hlt, wrap_in, c2, g3, rowEsz_keeps g1 he]
    refine awCall_det' d1 (by omega) ?_
    have g4 : rowEsz (f k ++ N') M.length = some 8 := rowEsz_keeps (keeps_app _) g3
    have hsz : (Value.agg vs.toArray).cells.size = 8 := by rw [← Array.length_toList, d2', d2]
    try simp (disch := omega) [h3', h4, h0, g4, wrap_in, hlt]
    refine ⟨hsz.symm, ?_⟩
    try rw [d2']
    rw [d3, ow_some]
    try simp (disch := omega) [h3', h4, h0, wrap_in]
    exact lpI (m - 1) (by omega) ⟨k + 1, by omega, rfl, by simp, by simp [h0], by simp [h3']⟩
  · obtain rfl : k = n := by omega
    simp [h3', h4, h0]
    exact fN
theorem eqItemS_x {M : Mem} {lo hi lo' hi' : Nat} {u v : Value} {x y : List Item} (h : SlV itemP lo hi M u x) (h' : SlV itemP lo' hi' M v y) : Det Tryz.prog M.length 8 [u, v] M (.bool (decide (x = y))) M := by
  obtain ⟨A, n, c, rfl, h1, h2, h3⟩ := h
  obtain ⟨B, m, d, rfl, g1, g2, g3⟩ := h'
  have hlx := h3.1
  have hly := g3.1
  first | (refine det_fn Tryz.func8 rfl Tryz.ntmps8 Tryz.results8 rfl rfl rfl (by simp) ?_) | (refine det_fnC Tryz.func8 rfl Tryz.ntmps8 Tryz.results8 rfl rfl (by simp) ?_)
  simp
  refine awCond_split ?_ ?_ <;> intro hnm
  · simp at hnm
    simp
    exact ⟨fun e => by subst e; omega, Keeps.refl _⟩
  · simp at hnm
    obtain rfl : n = m := by omega
    simp
    refine awLoop_T (fun m T M' => ∃ k : Nat, k + m = n ∧ Keeps M M' ∧ look T 5 = some (iv k) ∧ look T 0 = some (.slice A n c) ∧ look T 1 = some (.slice B n d) ∧ x.take k = y.take k) n ⟨0, by omega, Keeps.refl _, by simp, by simp, by simp, by simp⟩ ?_
    rintro m T M' ⟨k, hm, hk, h4, h0, h1', hxy⟩
    by_cases hlt : k < n
    · obtain ⟨id, off, us, rfl, he, hrd, hc⟩ := (h3.keeps hk).at_ hlt
      obtain ⟨id', off', us', rfl, he', hrd', hc'⟩ := (g3.keeps hk).at_ hlt
      have hkl := hk.len
      have c1 := cellsAt_of (n := 8) hc (itemP.len hrd) (by omega)
      have c1' := cellsAt_of (n := 8) hc' (itemP.len hrd') (by omega)
      simp (disch := omega) [h4, h0, h1', hlt, wrap_in]
      refine awDraw_E 8 [[],[],[0,1],[2,0,1],[],[],[4,5],[6,4,5],[3,2,0,1,7,6,4,5],[8,3,2,0,1,7,6,4,5]] (by kernel_rfl) (by kernel_rfl) ?_
      simp (disch := omega) [h4, h0, h1', hlt, wrap_in, c1, c1', he, he']
      refine awCall_det' (eqItem_x (M := M') hrd hrd') (by omega) ?_
      by_cases hxy' : el x k = el y k
      · simp (disch := omega) [hxy', h4, h0, h1', wrap_in]
        refine lpI (m - 1) (by omega) ?_
        exact ⟨k + 1, by omega, hk, by simp, by simp [h0], by simp [h1'], by rw [take_el (by omega), take_el (by omega), hxy, hxy']⟩
      · simp [hxy']
        exact ⟨fun e => hxy' (by rw [e]), hk⟩
    · obtain rfl : k = n := by omega
      rw [List.take_of_length_le (by omega), List.take_of_length_le (by omega)] at hxy
      simp [h4, h0, h1', hxy, hk]
end Go.Proofs.YtodbjnngkonklaaGreatDoor
