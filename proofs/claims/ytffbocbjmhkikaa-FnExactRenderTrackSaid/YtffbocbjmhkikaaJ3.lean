/- Tracks are rendered: the whole. No conditions. -/
import Derived.Test.YtffbocbjmhkikaaJ2
namespace Go.Proofs.Ytffbocbjmhkikaa
open Go.RowKit
set_option linter.unusedVariables false
set_option linter.unusedSimpArgs false
set_option maxRecDepth 100000
attribute [local simp] List.getElem?_cons_zero
attribute [local irreducible] awCond awCall awLoop awDraw ow retQ retC resQ Keeps
def rtC (ss : List (List Int)) (cl : List Clip) (n : Int) : List Int × Int :=
  if srcsB ss && okC cl then (if inB n 0 4000 then (if hasC cl ss.length then (rendT ss cl n.toNat cl.length, 0) else ([], 3)) else ([], 2)) else ([], 1)
def RtR (ss : List (List Int)) (cl : List Clip) (n : Int) (M : Mem) (r : Value) (M' : Mem) : Prop :=
  ∃ v, r = .tuple #[v, iv (rtC ss cl n).2] ∧ Acc intR 2 M.length M' v (rtC ss cl n).1 ∧ Same M.length M M'
theorem RtR.none {ss : List (List Int)} {cl : List Clip} {n : Int} {M M' : Mem} {k : Int} (h : rtC ss cl n = ([], k)) (hk : Keeps M M') : RtR ss cl n M (.tuple #[.slice none 0 0, iv k]) M' :=
  ⟨_, by rw [h], by rw [h]; exact .nil, hk.len, fun i s _ hs => hk.get hs⟩
theorem RtR.some {ss : List (List Int)} {cl : List Clip} {n : Int} {M M1 M' : Mem} {v : Value} (h : srcsB ss = true) (h1 : okC cl = true) (h2 : inB n 0 4000 = true) (h3 : hasC cl ss.length = true) (ha : Acc intR 2 M1.length M' v (rendT ss cl n.toNat cl.length)) (hs : Same M1.length M1 M') (hk : Keeps M M1) : RtR ss cl n M (.tuple #[v, iv 0]) M' := by
  have e : rtC ss cl n = (rendT ss cl n.toNat cl.length, 0) := by unfold rtC; simp [h, h1, h2, h3]
  exact ⟨_, by rw [e], by rw [e]; exact ha.low hk.len, Nat.le_trans hk.len hs.1, fun i s h1 h2 => hs.2 i s (by have := hk.len; omega) (hk.get h2)⟩
theorem src1_i {M : Mem} {B : Nat} (g : Clip) {k : Int} (hB : cellAt M B 0 = some (iv k)) : Det Try.prog M.length 119 [g.v, .pointer (some ⟨B, 0, none⟩)] M (.bool (!decide (g.src < k))) M := by
  first | (refine det_fn Try.func119 rfl Try.ntmps119 Try.results119 rfl rfl rfl (by simp) ?_) | (refine det_fnC Try.func119 rfl Try.ntmps119 Try.results119 rfl rfl (by simp) ?_)
  simp [cellAt_app hB]
  refine ⟨?_, keeps_app _⟩
  by_cases h : g.src < k
  · have : ¬ k ≤ g.src := by omega
    simp [h, this]
  · have : k ≤ g.src := by omega
    simp [h, this]
theorem IndexFuncC_a {M : Mem} {A : Option Addr} {n c : Nat} {l : List Clip} {g : FuncId} {us vs : Array Value} (p : Clip → Bool) (h : Sl clipR M A n l) (hn : n ≤ 1099511627776)
    (hp : ∀ (M' : Mem) a, Keeps M M' → a ∈ l → Det Try.prog M'.length g (us.toList ++ [a.v] ++ vs.toList) M' (.bool (p a)) M') : Det Try.prog M.length 152 [.slice A n c, .func (.func g) us vs] M (iv (fstI p l)) M := by
  have hl := h.1
  first | (refine det_fn Try.func152 rfl Try.ntmps152 Try.results152 rfl rfl rfl (by simp) ?_) | (refine det_fnC Try.func152 rfl Try.ntmps152 Try.results152 rfl rfl (by simp) ?_)
  simp
  refine awLoop_T (fun m T M' => ∃ k : Nat, k + m = n ∧ M = M' ∧ look T 8 = some (iv k) ∧ look T 7 = some (iv n) ∧ look T 0 = some (.slice A n c) ∧ look T 1 = some (.func (.func g) us vs) ∧ ∀ i, i < k → p (el l i) = false) n ⟨0, by omega, rfl, by simp, by simp, by simp, by simp, by omega⟩ ?_
  rintro m T M' ⟨k, hm, rfl, h8, h7, h0, h1, hk⟩
  by_cases hlt : k < n
  · obtain ⟨id, off, rfl, he, hc⟩ := h.at_ hlt
    simp (disch := omega) [h8, h7, h0, h1, hlt, wrap_in, clip_load hc]
    refine awCall_det' (hp M (el l k) (Keeps.refl M) (el_mem (by omega))) (Nat.le_refl _) ?_
    try simp
    refine awCond_split ?_ ?_ <;> intro hq <;> try simp at hq
    · simp
      exact ⟨(fstI_some (by omega) hq hk).symm, Keeps.refl _⟩
    · simp (disch := omega) [h8, h7, h0, h1, wrap_in]
      refine lpI (m - 1) (by omega) ?_
      refine ⟨k + 1, by omega, rfl, by simp, by simp [h7], by simp [h0], by simp [h1], fun i hi => ?_⟩
      by_cases hik : i < k
      · exact hk i hik
      · obtain rfl : i = k := by omega
        exact hq
  · obtain rfl : k = n := by omega
    simp [h8, h7, h0, h1]
    exact ⟨(fstI_none (by rw [hl]; exact hk)).symm, Keeps.refl _⟩
theorem ContainsFuncC_a {M : Mem} {A : Option Addr} {n c : Nat} {l : List Clip} {g : FuncId} {us vs : Array Value} (p : Clip → Bool) (h : Sl clipR M A n l) (hn : n ≤ 1099511627776)
    (hp : ∀ (M' : Mem) a, Keeps M M' → a ∈ l → Det Try.prog M'.length g (us.toList ++ [a.v] ++ vs.toList) M' (.bool (p a)) M') : Det Try.prog M.length 118 [.slice A n c, .func (.func g) us vs] M (.bool (decide (0 ≤ fstI p l))) M := by
  first | (refine det_fn Try.func118 rfl Try.ntmps118 Try.results118 rfl rfl rfl (by simp) ?_) | (refine det_fnC Try.func118 rfl Try.ntmps118 Try.results118 rfl rfl (by simp) ?_)
  simp
  refine awCall_det' (IndexFuncC_a p h hn hp) (by simp) ?_
  simp [Keeps.refl]
theorem hasC_fst (l : List Clip) (k : Nat) : hasC l k = !decide (0 ≤ fstI (fun g => !decide (g.src < (k : Int))) l) := by
  by_cases h : hasC l k = true
  · have := fstI_none (p := fun g : Clip => !decide (g.src < (k : Int))) (l := l) fun i hi => by
      have := List.all_eq_true.1 h _ (el_mem hi)
      simp only [this]
      rfl
    rw [h, this]
    rfl
  · rw [Bool.not_eq_true] at h
    rw [h]
    have hx : ∃ g, g ∈ l ∧ decide (g.src < (k : Int)) = false := by
      have : ¬ l.all (fun g => decide (g.src < (k : Int))) = true := by
        intro hh; unfold hasC at h; rw [hh] at h; cases h
      rw [List.all_eq_true] at this
      apply Classical.byContradiction
      intro hne
      exact this fun g hg => by
        cases hd : decide (g.src < (k : Int))
        · exact absurd ⟨g, hg, hd⟩ hne
        · rfl
    obtain ⟨g, hg, hd⟩ := hx
    have : 0 ≤ fstI (fun g => !decide (g.src < (k : Int))) l := by
      unfold fstI
      cases hf : l.findIdx? (fun g => !decide (g.src < (k : Int))) with
      | none =>
        rw [List.findIdx?_eq_none_iff] at hf
        have := hf g hg
        rw [hd] at this
        cases this
      | some i => simp
    simp [this]
theorem hasSources_i {M : Mem} {A : Option Addr} {n c : Nat} {l : List Clip} {k : Nat} (h : Sl clipR M A n l) (hn : n ≤ 1099511627776) : Det Try.prog M.length 73 [.agg #[.slice A n c], iv k] M (.bool (hasC l k)) M := by
  first | (refine det_fn Try.func73 rfl Try.ntmps73 Try.results73 rfl rfl rfl (by simp) ?_) | (refine det_fnC Try.func73 rfl Try.ntmps73 Try.results73 rfl rfl (by simp) ?_)
  simp
  refine awCall_det' (ContainsFuncC_a (fun g => !decide (g.src < (k : Int))) (h.keeps (keeps_app _)) hn fun M' a hK ha => src1_i a (cellAt_keeps hK (by simp))) (by simp) ?_
  simp [hasC_fst, keeps_app]
theorem areSources_i {M : Mem} {lo hi : Nat} {u : Value} {l : List (List Int)} (h : SlV tabP lo hi M u l) : Det Try.prog M.length 70 [u] M (.bool (srcsB l)) M := by
  have h' := h
  obtain ⟨A, n, c, rfl, h1, h2, h3⟩ := h
  have hl := h3.1
  unfold srcsB
  rw [hl]
  first | (refine det_fn Try.func70 rfl Try.ntmps70 Try.results70 rfl rfl rfl (by simp) ?_) | (refine det_fnC Try.func70 rfl Try.ntmps70 Try.results70 rfl rfl (by simp) ?_)
  simp
  by_cases hb : n ≤ 6
  · have hb' : (n : Int) ≤ 6 := by omega
    simp [hb, hb']
    refine awCall_det' (areSignals_i h') (by simp) ?_
    simp [hb, Keeps.refl]
  · have hb' : ¬ (n : Int) ≤ 6 := by omega
    simp [hb, hb', Keeps.refl]
theorem size_is {M : Mem} {A : Option Addr} {n c : Nat} (hn : n ≤ 9223372036854775807) : Det Try.prog M.length 74 [.slice A n c] M (iv n) M := by
  first | (refine det_fn Try.func74 rfl Try.ntmps74 Try.results74 rfl rfl rfl (by simp) ?_) | (refine det_fnC Try.func74 rfl Try.ntmps74 Try.results74 rfl rfl (by simp) ?_)
  simp (disch := omega) [wrap_in, Keeps.refl]
theorem RenderTrack_i {M : Mem} {b lo hi : Nat} {u : Value} {ss : List (List Int)} {A : Option Addr} {n c : Nat} {cl : List Clip} (k : Int) (hs : SlV tabP lo hi M u ss) (ht : Sl clipR M A n cl) (hn : n ≤ 1099511627776) (hb : b ≤ M.length) :
    Ctr Try.prog b 24 [u, .agg #[.slice A n c], iv k] M fun r M' => RtR ss cl k M r M' := by
  have hl := ht.1
  first | (refine ctr_fn Try.func24 rfl Try.ntmps24 Try.results24 rfl rfl (by simp) ?_) | (refine ctr_fnC Try.func24 rfl Try.ntmps24 Try.results24 rfl (by simp) ?_)
  simp
  refine awCall_det' (areSources_i (hs.keeps (keeps_app _))) (by simp <;> omega) ?_
  cases e1 : srcsB ss
  · simp
    exact RtR.none (by unfold rtC; simp [e1]) (keeps_app _)
  simp
  refine awCall_det' (isTrack_a (ht.keeps (keeps_app _)) (by omega)) (by simp <;> omega) ?_
  cases e2 : okC cl
  · simp
    exact RtR.none (by unfold rtC; simp [e1, e2]) (keeps_app _)
  simp
  refine awCall_det' (isCount_a k) (by simp <;> omega) ?_
  cases e3 : inB k 0 4000
  · simp
    exact RtR.none (by unfold rtC; simp [e1, e2, e3]) (keeps_app _)
  simp
  refine awDraw_E 3 [[],[],[1],[0,2,1],[3,0,2,1]] (by kernel_rfl) (by kernel_rfl) ?_
  simp
  have k3 := inB_iff.1 e3
  obtain ⟨K, rfl⟩ := Int.eq_ofNat_of_zero_le k3.1
  have hs' := hs
  obtain ⟨As, ns, cs, rfl, q1, q2, q3⟩ := hs'
  have hsn := q3.1
  refine awCall_det' (size_is q1) (by simp) ⟨rfl, ?_⟩
  refine awCall_det' (hasSources_i (k := ns) (ht.keeps (keeps_app _)) hn) (by simp <;> omega) ?_
  cases e4 : hasC cl ss.length
  · rw [hsn] at e4
    simp [e4]
    exact RtR.none (by unfold rtC; simp [e1, e2, e3, hsn, e4]) (keeps_app _)
  have e4' := e4
  rw [hsn] at e4'
  simp [e4']
  refine awCall_ctr (renderTrack_i (hs.app _) (ht.keeps (keeps_app _)) e2 e1 e4 (by omega) (by simp <;> omega)) ?_
  rintro v M' ⟨ha, hS⟩
  try simp
  exact RtR.some e1 e2 e3 e4 ha hS (keeps_app _)
theorem RenderTrack_s {M : Mem} {b lo hi : Nat} {u : Value} {ss : List (List Int)} {A : Option Addr} {n c : Nat} {cl : List Clip} (k : Int) (hs : SlV tabP lo hi M u ss) (ht : Sl clipR M A n cl) (hn : n ≤ 1099511627776) (hb : b ≤ M.length) :
    Ctr Try.prog b 21 [u, .agg #[.slice A n c], iv k] M fun r M' => RtR ss cl k M r M' := by
  have hl := ht.1
  first | (refine ctr_fn Try.func21 rfl Try.ntmps21 Try.results21 rfl rfl (by simp) ?_) | (refine ctr_fnC Try.func21 rfl Try.ntmps21 Try.results21 rfl (by simp) ?_)
  simp
  refine awCall_det' (l23Sources_s (hs.keeps (keeps_app _))) (by simp <;> omega) ?_
  cases e1 : srcsB ss
  · simp
    exact RtR.none (by unfold rtC; simp [e1]) (keeps_app _)
  simp
  refine awCall_det' (l23Ok_a (c := c) (by simp) (ht.keeps (keeps_app _)) (by omega)) (by simp <;> omega) ?_
  cases e2 : okC cl
  · simp
    exact RtR.none (by unfold rtC; simp [e1, e2]) (keeps_app _)
  simp
  refine awCall_det' (l00In_a k 0 4000) (by simp <;> omega) ?_
  cases e3 : inB k 0 4000
  · simp
    exact RtR.none (by unfold rtC; simp [e1, e2, e3]) (keeps_app _)
  simp
  have k3 := inB_iff.1 e3
  obtain ⟨K, rfl⟩ := Int.eq_ofNat_of_zero_le k3.1
  have hs' := hs
  obtain ⟨As, ns, cs, rfl, q1, q2, q3⟩ := hs'
  have hsn := q3.1
  have hk12 := okC_len e2
  obtain ⟨M1, hM1⟩ : ∃ M1 : Mem, M1 = M ++ [Slot.live ⟨[.slice A n c], true, true, 59, 1⟩] := ⟨_, rfl⟩
  have hp : cellAt M1 M.length 0 = some (.slice A n c) := by rw [hM1]; simp
  have kb : Keeps M M1 := by rw [hM1]; exact keeps_app _
  rw [← hM1]
  clear hM1
  have hkl := kb.len
  refine awLoop_T (fun m T M' => ∃ k : Nat, k + m = n ∧ M' = M1 ∧ look T 8 = some (iv k) ∧ look T 0 = some (.slice As ns cs) ∧ look T 4 = some (.pointer (some ⟨M.length, 0, none⟩)) ∧ look T 2 = some (iv K) ∧ ∀ i, i < k → decide ((el cl i).src < ss.length) = true) n ⟨0, by omega, rfl, by simp, by simp, by simp, by simp, fun i hi => by omega⟩ ?_
  rintro m T M' ⟨k, hm, rfl, t8, t0, t4, t2, hk⟩
  by_cases hlt : k < n
  · obtain ⟨id, off, rfl, he, hc⟩ := (ht.keeps kb).at_ hlt
    obtain ⟨b0, b1, b2, b3, b4⟩ := clip_cells hc
    simp (disch := omega) [t8, t0, t4, t2, hp, hlt, he, b0, wrap_in]
    by_cases hs0 : (el cl k).src < ns
    · have hs1 : ¬ ((ns : Int) ≤ (el cl k).src) := by omega
      simp (disch := omega) [hs1, t8, wrap_in]
      refine lpI (m - 1) (by omega) ⟨k + 1, by omega, rfl, by simp, by simp [t0], by simp [t4], by simp [t2], fun i hi => ?_⟩
      by_cases hik : i < k
      · exact hk i hik
      · obtain rfl : i = k := by omega
        rw [hsn]
        exact decide_eq_true hs0
    · have hs1 : (ns : Int) ≤ (el cl k).src := by omega
      have e4 : hasC cl ss.length = false := all_no (k := k) (by omega) (by rw [hsn]; exact decide_eq_false hs0)
      simp (disch := omega) [hs1]
      exact RtR.none (by unfold rtC; simp [e1, e2, e3, e4]) kb
  · obtain rfl : k = n := by omega
    have e4 : hasC cl ss.length = true := all_yes (fun i hi => hk i (by omega))
    simp (disch := omega) [t8, t0, t4, t2, hp]
    refine awCall_ctr (l23Render_s (hs.keeps kb) hp (ht.keeps kb) e2 e1 e4 (by omega) (by omega)) ?_
    rintro v M' ⟨ha, hS⟩
    try simp
    exact RtR.some e1 e2 e3 e4 ha hS kb
end Go.Proofs.Ytffbocbjmhkikaa
