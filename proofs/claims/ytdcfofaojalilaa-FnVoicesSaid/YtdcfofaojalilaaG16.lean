/- Gates: when gates are stolen, and where they come from; plain words. No conditions. -/
import Derived.Test.YtdcfofaojalilaaG14
namespace Go.Proofs.Ytdcfofaojalilaa
open Go.RowKit
set_option linter.unusedVariables false
set_option linter.unusedSimpArgs false
theorem cnt_same (l : List Gate) (x : Int) : cntG l x = cntT l x := rfl
/-- Good gates in order that begin at x or before. -/
def OrdG (l : List Gate) (x : Int) : Prop := (∀ g ∈ l, gateB g = true ∧ g.s ≤ x) ∧ l.Pairwise fun a b => a.s ≤ b.s
theorem OrdG.init {l : List Gate} {g : Gate} {x : Int} (h : OrdG (l ++ [g]) x) : OrdG l g.s ∧ gateB g = true ∧ g.s ≤ x := by
  obtain ⟨h1, h2⟩ := h
  rw [List.pairwise_append] at h2
  exact ⟨⟨fun a ha => ⟨(h1 a (by simp [ha])).1, h2.2.2 a ha g (by simp)⟩, h2.1⟩, h1 g (by simp)⟩
theorem snoc_ind {α : Type} {P : List α → Prop} (h0 : P []) (h1 : ∀ l a, P l → P (l ++ [a])) (l : List α) : P l := by
  have : ∀ m : List α, P m.reverse := fun m => by
    induction m with
    | nil => exact h0
    | cons a m ih => rw [List.reverse_cons]; exact h1 _ _ ih
  have := this l.reverse
  rwa [List.reverse_reverse] at this
theorem allocP_nil (V : Nat) : allocP V [] = ([], 0) := rfl
theorem alloc_good {V : Nat} (hV : 1 ≤ V ∧ V ≤ 4) (l : List Gate) : ∀ x, OrdG l x → GoodG (allocP V l).1 x := by
  refine snoc_ind (P := fun l => ∀ x, OrdG l x → GoodG (allocP V l).1 x) (fun x _ => .nil x) (fun l g ih x h => ?_) l
  obtain ⟨h1, h2, h3⟩ := h.init
  rw [allocP_snoc]
  obtain ⟨o, s, e⟩ : ∃ o s, allocP V l = (o, s) := ⟨_, _, rfl⟩
  have := ih g.s h1
  rw [e] at this ⊢
  exact (this.step (Int.le_refl _) h2 hV).later h3
theorem alloc_voices {V : Nat} (hV : 1 ≤ V) (l : List Gate) : ∀ i, i < (allocP V l).1.length → (el (allocP V l).1 i).o < V := by
  refine snoc_ind (P := fun l => ∀ i, i < (allocP V l).1.length → (el (allocP V l).1 i).o < V) (fun i hi => by simp [allocP_nil] at hi) (fun l g ih => ?_) l
  rw [allocP_snoc]
  obtain ⟨s1, s2, s3, s4⟩ := scanS_bd (allocP V l).1 g.s V
  have sn : ∀ (m : List Gate) (a : Gate), (∀ i, i < m.length → (el m i).o < V) → a.o < V → ∀ i, i < (m ++ [a]).length → (el (m ++ [a]) i).o < V := fun m a h1 h2 i hi => by
    rcases Nat.lt_or_ge i m.length with h | h
    · rw [el_append_left h]; exact h1 i h
    · rw [List.length_append, List.length_singleton] at hi
      obtain rfl : i = m.length := by omega
      rw [el_append_right (Nat.le_refl _), Nat.sub_self]
      exact h2
  unfold stepS
  generalize (allocP V l).1 = out at *
  split
  · refine sn _ _ (fun i hi => ?_) (by simp only; omega)
    split at hi
    · rename_i hs
      rw [if_pos hs]
      by_cases hk : (lastI (scanS out g.s V).2 out).toNat < out.length
      · rw [el_erase hk]
        rw [List.length_eraseIdx, if_pos hk] at hi
        split <;> exact ih _ (by omega)
      · rw [List.eraseIdx_of_length_le (by omega)] at hi ⊢
        exact ih i hi
    · rename_i hs
      rw [if_neg hs]
      rw [List.length_set] at hi
      by_cases e : (lastI (scanS out g.s V).2 out).toNat = i
      · rw [e, el_set_eq hi]; exact ih i hi
      · rw [el_set_ne e]; exact ih i hi
  · exact sn _ _ ih (by simp only; omega)
theorem stepS_more (V : Nat) (st : List Gate × Int) (g : Gate) : (st.1.length : Int) + st.2 + 1 ≤ (stepS V st g).1.length + (stepS V st g).2 := by
  unfold stepS
  split
  · split
    · simp only [List.length_append, List.length_singleton, List.length_eraseIdx]
      split <;> omega
    · simp; omega
  · simp; omega
theorem alloc_more (V : Nat) (l : List Gate) : (l.length : Int) ≤ (allocP V l).1.length + (allocP V l).2 := by
  refine snoc_ind (P := fun l => (l.length : Int) ≤ (allocP V l).1.length + (allocP V l).2) (by simp [allocP_nil]) (fun l g ih => ?_) l
  rw [allocP_snoc]
  have := stepS_more V (allocP V l) g
  simp
  omega
/-- A gate but for its voice. -/
def core (g : Gate) : Gate := { g with o := 0 }
theorem cntT_core (l : List Gate) (t : Int) : cntT (l.map core) t = cntT l t := by
  induction l with
  | nil => rfl
  | cons g l ih => rw [List.map_cons, cntT_cons, cntT_cons, ih]; rfl
theorem alloc_nn (V : Nat) (l : List Gate) : 0 ≤ (allocP V l).2 := by
  have := (allocP_len V l ([], 0)).2.1
  exact this
theorem alloc_free (V : Nat) (l : List Gate) : (allocP V l).2 = 0 → (allocP V l).1.map core = l.map core := by
  refine snoc_ind (P := fun l => (allocP V l).2 = 0 → (allocP V l).1.map core = l.map core) (fun _ => rfl) (fun l g ih h => ?_) l
  rw [allocP_snoc] at h ⊢
  have hn := alloc_nn V l
  unfold stepS at h ⊢
  by_cases hs : (scanS (allocP V l).1 g.s V).1 < 0
  · rw [if_pos hs] at h
    simp only at h
    omega
  · rw [if_neg hs] at h ⊢
    rw [List.map_append, List.map_append, ih h]
    rfl
/-- The gates of the first V voices that contain a sample. -/
def csum (out : List Gate) (t : Int) : Nat → Nat
  | 0 => 0
  | v + 1 => csum out t v + cntT (voiceL out (v : Int)) t
theorem csum_cons (g : Gate) (out : List Gate) (t : Int) : ∀ v, csum (g :: out) t v = (if (0 ≤ g.o ∧ g.o < v) ∧ g.s ≤ t ∧ t < g.e then 1 else 0) + csum out t v
  | 0 => by rw [if_neg (by omega)]; rfl
  | v + 1 => by
    rw [csum, csum_cons g out t v, csum]
    by_cases hv : g.o = (v : Int)
    · have e : voiceL (g :: out) v = g :: voiceL out v := by simp [voiceL, hv]
      rw [e, cntT_cons, if_neg (by omega)]
      by_cases hc : g.s ≤ t ∧ t < g.e
      · rw [if_pos hc, if_pos ⟨by omega, hc⟩]; omega
      · rw [if_neg hc, if_neg (fun h => hc h.2)]; omega
    · have e : voiceL (g :: out) v = voiceL out v := by simp [voiceL, hv]
      rw [e]
      by_cases hc : (0 ≤ g.o ∧ g.o < v) ∧ g.s ≤ t ∧ t < g.e
      · rw [if_pos hc, if_pos ⟨by omega, hc.2⟩]; omega
      · rw [if_neg hc, if_neg (fun h => hc ⟨by omega, h.2⟩)]; omega
theorem csum_all (V : Nat) (t : Int) : ∀ out : List Gate, (∀ i, i < out.length → 0 ≤ (el out i).o ∧ (el out i).o < V) → csum out t V = cntT out t
  | [], _ => by
    have : ∀ v, csum [] t v = 0 := fun v => by
      induction v with
      | zero => rfl
      | succ v ih => rw [csum, ih]; rfl
    rw [this]; rfl
  | g :: out, h => by
    rw [csum_cons, cntT_cons, csum_all V t out fun i hi => h (i + 1) (by simpa using hi)]
    have h0 := h 0 (by simp)
    rw [el_zero] at h0
    by_cases hc : g.s ≤ t ∧ t < g.e
    · rw [if_pos hc, if_pos ⟨h0, hc⟩]
    · rw [if_neg hc, if_neg (fun h => hc h.2)]
theorem csum_le {out : List Gate} {t x : Int} (h : GoodG out x) : ∀ v, csum out t v ≤ v
  | 0 => Nat.le_refl _
  | v + 1 => by
    have := csum_le (t := t) h v
    have h2 := cntT_voice (v := (v : Int)) (t := t) h
    rw [csum]
    split at h2 <;> omega
theorem csum_full {out : List Gate} {t x : Int} (h : GoodG out x) : ∀ v, (∀ u : Nat, u < v → ∃ i, i < out.length ∧ atB (u : Int) t (el out i) = true) → csum out t v = v
  | 0, _ => rfl
  | v + 1, hu => by
    have := csum_full h v fun u hu' => hu u (by omega)
    have h2 := cntT_voice (v := (v : Int)) (t := t) h
    rw [if_pos (hu v (by omega))] at h2
    rw [csum, this, h2]
/-- With as many voices as gates at a time no gate is stolen, and only then. -/
theorem alloc_enough {V : Nat} (hV : 1 ≤ V ∧ V ≤ 4) {l : List Gate} {x : Int} (h : OrdG l x) (h0 : (allocP V l).2 = 0) (t : Int) : cntG l t ≤ V := by
  have hg := alloc_good hV l x h
  rw [cnt_same, ← cntT_core l, ← alloc_free V l h0, cntT_core, ← csum_all V t _ fun i hi => ⟨(gateB_iff.1 (hg.gate i hi)).1.1, alloc_voices hV.1 l i hi⟩]
  exact csum_le hg V
theorem alloc_stolen {V : Nat} (hV : 1 ≤ V ∧ V ≤ 4) (l : List Gate) : ∀ x, OrdG l x → (allocP V l).2 ≠ 0 → ∃ g ∈ l, V + 1 ≤ cntG l g.s := by
  refine snoc_ind (P := fun l => ∀ x, OrdG l x → (allocP V l).2 ≠ 0 → ∃ g ∈ l, V + 1 ≤ cntG l g.s) (fun x _ h => absurd rfl h) (fun l g ih x h h0 => ?_) l
  obtain ⟨h1, h2, h3⟩ := h.init
  by_cases hz : (allocP V l).2 = 0
  · have hfree := alloc_free V l hz
    have hg := alloc_good hV l g.s h1
    rw [allocP_snoc] at h0
    by_cases hs : (scanS (allocP V l).1 g.s V).1 < 0
    · refine ⟨g, by simp, ?_⟩
      have hgb := gateB_iff.1 h2
      rw [cntG_snoc, if_pos (by simp [inG]; omega), cnt_same, ← cntT_core l, ← hfree, cntT_core, ← csum_all V g.s _ fun i hi => ⟨(gateB_iff.1 (hg.gate i hi)).1.1, alloc_voices hV.1 l i hi⟩, csum_full hg]
      · omega
      · intro u hu
        have w := (scanS_why (allocP V l).1 g.s V).1 hs u hu
        have w2 := (scanS_bd (allocP V l).1 g.s V).2.2.2 hs u hu
        rcases lastI_spec (u : Int) (allocP V l).1 with ⟨a1, a2⟩ | ⟨j, a1, a2, a3, a4⟩
        · omega
        · rw [a1, show ((j : Nat) : Int).toNat = j by omega] at w
          exact ⟨j, a2, by simp [atB, a3, w, hg.le j a2]⟩
    · unfold stepS at h0
      rw [if_neg hs] at h0
      exact absurd hz h0
  · obtain ⟨a, ha, hc⟩ := ih g.s h1 hz
    exact ⟨a, by simp [ha], by rw [cntG_snoc]; omega⟩
theorem polyN_le {l : List Gate} {V : Int} : ∀ (m : List Gate) (a : Int), m.foldl (fun a g => max a (cntG l g.s : Int)) a ≤ V ↔ a ≤ V ∧ ∀ g ∈ m, (cntG l g.s : Int) ≤ V
  | [], a => by simp
  | g :: m, a => by
    rw [List.foldl_cons, polyN_le m]
    constructor
    · rintro ⟨h1, h2⟩
      refine ⟨by omega, fun x hx => ?_⟩
      rcases List.mem_cons.1 hx with rfl | hx
      · omega
      · exact h2 x hx
    · rintro ⟨h1, h2⟩
      have := h2 g (by simp)
      exact ⟨by omega, fun x hx => h2 x (by simp [hx])⟩
theorem alloc_iff {V : Nat} (hV : 1 ≤ V ∧ V ≤ 4) {l : List Gate} {x : Int} (h : OrdG l x) : polyN l l ≤ V ↔ (allocP V l).2 = 0 := by
  unfold polyN
  rw [polyN_le]
  constructor
  · intro h1
    by_cases h0 : (allocP V l).2 = 0
    · exact h0
    · obtain ⟨g, hg, hc⟩ := alloc_stolen hV l x h h0
      have := h1.2 g hg
      omega
  · exact fun h0 => ⟨by omega, fun g hg => by have := alloc_enough hV h h0 g.s; omega⟩
theorem alloc_whole {V : Nat} {l : List Gate} (h0 : (allocP V l).2 = 0) : (allocP V l).1.length = l.length := by
  have := congrArg List.length (alloc_free V l h0)
  simpa using this
/-- A gate that comes from another one. -/
def From (a g : Gate) : Prop := a.s = g.s ∧ a.k = g.k ∧ a.u = g.u ∧ a.e ≤ g.e
inductive Emb : List Gate → List Gate → Prop
  | nil (l : List Gate) : Emb [] l
  | skip {o l : List Gate} (g : Gate) : Emb o l → Emb o (g :: l)
  | take {o l : List Gate} {a g : Gate} : From a g → Emb o l → Emb (a :: o) (g :: l)
theorem Emb.snoc {a g : Gate} (hf : From a g) {o l : List Gate} (h : Emb o l) : Emb (o ++ [a]) (l ++ [g]) := by
  induction h with
  | nil l =>
    induction l with
    | nil => exact .take hf (.nil _)
    | cons b l ih => exact .skip b ih
  | skip g' _ ih => exact .skip g' ih
  | take hf' _ ih => exact .take hf' ih
theorem Emb.drop1 {o l : List Gate} (h : Emb o l) : ∀ {a : Gate} {r : List Gate}, o = a :: r → Emb r l := by
  induction h with
  | nil l => intro a r e; cases e
  | skip g _ ih => intro a r e; exact .skip g (ih e)
  | take hf h' ih => intro a r e; cases e; exact .skip _ h'
theorem Emb.erase {o l : List Gate} (h : Emb o l) : ∀ k, Emb (o.eraseIdx k) l := by
  induction h with
  | nil l => intro k; exact .nil l
  | skip g _ ih => intro k; exact .skip g (ih k)
  | take hf h' ih =>
    intro k
    rcases k with _ | k
    · exact .skip _ h'
    · exact .take hf (ih k)
theorem Emb.cut {o l : List Gate} {x : Int} (h : Emb o l) : ∀ k, (k < o.length → x ≤ (el o k).e) → Emb (o.set k { el o k with e := x }) l := by
  induction h with
  | nil l => intro k _; exact .nil l
  | skip g _ ih => intro k hx; exact .skip g (ih k hx)
  | take hf h' ih =>
    rename_i o' l' a g
    intro k hx
    rcases k with _ | k
    · have := hx (by simp)
      rw [el_zero] at this ⊢
      exact .take ⟨hf.1, hf.2.1, hf.2.2.1, Int.le_trans this hf.2.2.2⟩ h'
    · rw [el_succ] at hx ⊢
      exact .take hf (ih k fun hk => hx (by simp; omega))
theorem alloc_emb {V : Nat} (hV : 1 ≤ V ∧ V ≤ 4) (l : List Gate) : ∀ x, OrdG l x → Emb (allocP V l).1 l := by
  refine snoc_ind (P := fun l => ∀ x, OrdG l x → Emb (allocP V l).1 l) (fun x _ => .nil _) (fun l g ih x h => ?_) l
  obtain ⟨h1, h2, h3⟩ := h.init
  have hg := alloc_good hV l g.s h1
  have he := ih g.s h1
  rw [allocP_snoc]
  have fr : ∀ o : Int, From { g with o := o } g := fun o => ⟨rfl, rfl, rfl, Int.le_refl _⟩
  unfold stepS
  generalize (allocP V l).1 = out at *
  split
  · rename_i hs
    refine Emb.snoc (fr _) ?_
    split
    · exact he.erase _
    · refine he.cut _ fun hk => ?_
      obtain ⟨s1, s2, s3, s4⟩ := scanS_bd out g.s V
      have w := (scanS_why out g.s V).1 hs (scanS out g.s V).2.toNat (by omega)
      rw [show (((scanS out g.s V).2.toNat : Nat) : Int) = (scanS out g.s V).2 by omega] at w
      omega
  · exact Emb.snoc (fr _) he
/-- The least number of voices. -/
theorem need_f {l : List Gate} {x : Int} (h : OrdG l x) : ∀ f v : Nat, 1 ≤ v → v + f = 5 → ((v : Int) ≤ polyN l l ∨ v = 1) → needF l f v = if polyN l l > 4 then (0, 3) else (if polyN l l = 0 then 1 else polyN l l, 0)
  | 0, v, h1, h2, h3 => by
    rw [if_pos (by omega)]; rfl
  | f + 1, v, h1, h2, h3 => by
    have hi := alloc_iff (V := v) ⟨h1, by omega⟩ h
    have hb := (polyN_bd l l 0 (Int.le_refl _) (by omega)).1
    have hb' : 0 ≤ polyN l l := hb
    rw [needF]
    by_cases h0 : (allocP v l).2 = 0
    · have := hi.2 h0
      rw [if_pos h0, if_neg (by omega)]
      by_cases hz : polyN l l = 0
      · rw [if_pos hz]
        obtain rfl : v = 1 := by omega
        rfl
      · rw [if_neg hz]
        have : (v : Int) = polyN l l := by omega
        rw [this]
    · have : ¬ polyN l l ≤ v := fun h' => h0 (hi.1 h')
      rw [if_neg h0]
      exact need_f h f (v + 1) (by omega) (by omega) (by omega)
end Go.Proofs.Ytdcfofaojalilaa
