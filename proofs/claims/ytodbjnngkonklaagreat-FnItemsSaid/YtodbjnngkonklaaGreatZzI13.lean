/- Parts of the proof, together: Items of a score: the program's. Pitch: a list is cloned. How many items are played; the items that are played: the program's. How many items are played: the reference's count. Bytes and strings; the text of a number, as the library and as the reference write it. A number's text: the reference's, and the program's. Names of pitches and intervals, texts of fractions, in both packages. No conditions. -/
import Derived.Test.YtodbjnngkonklaaGreatZzI11
import Derived.Test.YtodbjnngkonklaaGreatZzI12
import Derived.Test.YtodbjnngkonklaaGreatZzI8
import Derived.Lib.ItoaLen
import Derived.Shelf.Strconv.Itoa4
import Derived.Lib.Repeat
import Derived.Test.YtodbjnngkonklaaGreatZzI9
namespace Go.Proofs.YtodbjnngkonklaaGreat
open Go.RowKit
set_option linter.unusedVariables false
set_option linter.unusedSimpArgs false
set_option maxRecDepth 100000
attribute [local simp] List.getElem?_cons_zero
attribute [local irreducible] awCond awCall awLoop awDraw ow retQ retC resQ Keeps
def itN : Nst Pitch Item 8 3 := ⟨⟨fun p => [iv p.1.j, p.2, iv p.1.ln, iv p.1.ld, iv p.1.x, iv p.1.mt, iv p.1.mh, iv p.1.z], fun _ => rfl⟩, pitchR, Item.ps, 60, 62⟩
def restI (f : Frac) : Item := ⟨2, [], f.n, f.d, 0, 0, 0, 0⟩
def loudI (u : Int) : Item := ⟨3, [], 0, 0, u, 0, 0, 0⟩
def chdI (c : List Note) : Item := ⟨1, c.map fun n => spellV n.k, (el c 0).ln, (el c 0).ld, 0, 0, 0, 0⟩
def itP (c : List Note) (e : Frac) (u : Int) : List Item := (if (el c 0).at_ = e then [] else [restI (subF (el c 0).at_ e).1]) ++ ((if (el c 0).u = u then [] else [loudI (el c 0).u]) ++ [chdI c])
theorem awCond_joinR {P : Program} {b n : Nat} {c : Bool} {A B Y : Code} {Q : Ex → St → Prop} {T : List (Nat × Value)} {M : Mem} (J : List (Nat × Value) → Mem → Prop)
    (h1 : ∀ Q' : Ex → St → Prop, (∀ T' M', J T' M' → Q' .normal ⟨n, T', M'⟩) → (∀ S, Q .ret S → Q' .ret S) → c = true → sAw P b A Q' ⟨n, T, M⟩)
    (h2 : ∀ Q' : Ex → St → Prop, (∀ T' M', J T' M' → Q' .normal ⟨n, T', M'⟩) → (∀ S, Q .ret S → Q' .ret S) → c = false → sAw P b B Q' ⟨n, T, M⟩)
    (h3 : ∀ T' M', J T' M' → sAw P b Y Q ⟨n, T', M'⟩) : awCond (.bool c) (sAw P b A (sThen P b Y Q tk) ⟨n, T, M⟩) (sAw P b B (sThen P b Y Q tk) ⟨n, T, M⟩) :=
  awCond_split (fun h => h1 _ (fun T' M' hJ => by rw [sThen_normal]; exact h3 T' M' hJ) (fun S hS => by rw [sThen_ret]; exact hS) h) (fun h => h2 _ (fun T' M' hJ => by rw [sThen_normal]; exact h3 T' M' hJ) (fun S hS => by rw [sThen_ret]; exact hS) h)
/-- The items of chords: how many of them are told, where they end, how loud. -/
inductive ItG : List (List Note) → List Item → Frac → Int → Prop
  | nil : ItG [] [] ⟨0, 1⟩ 80
  | snoc {cs out e u c} : ItG cs out e u → ((el c 0).at_ = e ∨ (subF (el c 0).at_ e).2 = 0) → ItG (cs ++ [c]) (out ++ itP c e u) (el c 0).fin (el c 0).u
theorem chF_mem {l : List Note} {ch : Int} : ∀ c, c ∈ chF l ch → ∀ n, n ∈ c → n ∈ l ∧ n.o = ch := by
  have key : ∀ (l2 : List Note) (a : List (List Note)), (∀ n, n ∈ l2 → n ∈ l ∧ n.o = ch) → (∀ c, c ∈ a → ∀ n, n ∈ c → n ∈ l ∧ n.o = ch) → ∀ c, c ∈ l2.foldl chS a → ∀ n, n ∈ c → n ∈ l ∧ n.o = ch := by
    intro l2
    induction l2 with
    | nil => intro a _ h; exact h
    | cons x r ih =>
      intro a h2 h
      rw [List.foldl_cons]
      refine ih _ (fun n hn => h2 n (List.mem_cons_of_mem _ hn)) ?_
      intro c hc n hn
      have hx := h2 x (List.mem_cons_self ..)
      rcases List.eq_nil_or_concat a with rfl | ⟨b, d, rfl⟩
      · rw [chS_nil] at hc
        rw [List.mem_singleton.1 hc] at hn
        rw [List.mem_singleton.1 hn]
        exact hx
      · try simp only [List.concat_eq_append] at *
        rw [chS_snoc] at hc
        split at hc
        · rcases List.mem_append.1 hc with hc | hc
          · exact h c (by simp [hc]) n hn
          · rw [List.mem_singleton.1 hc] at hn
            rcases List.mem_append.1 hn with hn | hn
            · exact h d (by simp) n hn
            · rw [List.mem_singleton.1 hn]; exact hx
        · rcases List.mem_append.1 hc with hc | hc
          · exact h c hc n hn
          · rw [List.mem_singleton.1 hc] at hn
            rw [List.mem_singleton.1 hn]
            exact hx
  intro c hc
  unfold chF at hc
  refine key _ [] ?_ (fun c h => by cases h) c hc
  intro n hn
  have := List.mem_filter.1 hn
  exact ⟨this.1, by simpa using this.2⟩
/-- The items so far, and where they end, in a box. -/
structure IoI (q : Nat) (M' : Mem) (v : Value) (ps : List (Item × Value)) (e : Frac) : Prop where
  tab : TabP itN q M' v ps
  box : M'[q + 1]? = some (.live ⟨[iv e.n, iv e.d], true, true, 34, 2⟩)
  av : Apart v (q + 1)
  ap : ∀ p, p ∈ ps → Apart p.2 (q + 1)
theorem IoI.keeps {q : Nat} {M M' : Mem} {v : Value} {ps : List (Item × Value)} {e : Frac} (h : IoI q M v ps e) (hk : Keeps M M') : IoI q M' v ps e := ⟨h.tab.keeps hk, hk.get h.box, h.av, h.ap⟩
theorem IoI.push {q b : Nat} {S : St} {v x : Value} {ps : List (Item × Value)} {e : Frac} {p : Item × Value} {K : Value → Mem → Prop} (h : IoI q S.M v ps e) (hb : b ≤ q) (hB : q ≤ S.M.length) (hs : srcOf Tryz.prog S.M 8 29 x = some (1, itN.RO.row p)) (h1 : (itN.RO.row p).all (fun u => u.oneCell') = true)
    (hu : Acc pitchR 62 q S.M p.2 p.1.ps) (hsep : Sep v p.2) (hap : Apart p.2 (q + 1)) (hn : ps.length ≤ 10000)
    (hK : ∀ v' M', IoI q M' v' (ps ++ [p]) e → Same q S.M M' → (∀ (i : Nat) s, Apart v i → S.M[i]? = some s → M'[i]? = some s ∧ Apart v' i) → K v' M') : appendK Tryz.prog b S K 29 29 v x := by
  refine h.tab.snoc (p := p) (by_ := 80) hb hB (by simp [itN]) (by kernel_rfl) hs h1 hu hsep (by omega) (by unfold maxLen; omega) ?_
  intro v' M' a1 a2 a3
  obtain ⟨b1, b2⟩ := a3 _ _ h.av h.box
  refine hK v' M' ⟨a1, b1, b2, fun r hr => ?_⟩ a2 a3
  rcases List.mem_append.1 hr with hr | hr
  · exact h.ap r hr
  · rw [List.mem_singleton.1 hr]; exact hap
theorem Acc.apartM {α : Type} {k i : Nat} {R : RecV α k} {e : TypeId} {B : Nat} {M : Mem} {v : Value} {l : List α} (h : Acc R e B M v l) (hi : M.length ≤ i) : Apart v i := by
  obtain ⟨A, n, c, rfl, hl, hA⟩ := h
  rcases hA with ⟨rfl, -, -⟩ | ⟨id, t, rfl, hid, hr⟩
  · intro ad n c sp h h2
    cases h
    cases h2
  · have := (List.getElem?_eq_some_iff.1 hr).1
    intro ad n c sp h h2
    cases h
    cases h2
    show i ≠ id
    omega
theorem apart_nil {i n c : Nat} : Apart (.slice none n c) i := by
  intro ad n c sp h h2
  cases h
  cases h2
theorem Acc.apartL {α : Type} {k i : Nat} {R : RecV α k} {e : TypeId} {B : Nat} {M : Mem} {v : Value} {l : List α} (h : Acc R e B M v l) (hi : i < B) : Apart v i := by
  obtain ⟨A, n, c, rfl, hl, hA⟩ := h
  rcases hA with ⟨rfl, -, -⟩ | ⟨id, t, rfl, hid, hr⟩
  · exact apart_nil
  · intro ad n c sp h h2
    cases h
    cases h2
    show i ≠ id
    omega
theorem Acc.setX {α : Type} {k i : Nat} {R : RecV α k} {e : TypeId} {B : Nat} {M : Mem} {s : Slot} {v : Value} {l : List α} (h : Acc R e B M v l) (ha : Apart v i) : Acc R e B (M.set i s) v l := by
  obtain ⟨A, n, c, rfl, hl, hA⟩ := h
  refine ⟨A, n, c, rfl, hl, ?_⟩
  rcases hA with hA | ⟨id, t, rfl, hid, hr⟩
  · exact .inl hA
  · exact .inr ⟨id, t, rfl, hid, by rw [List.getElem?_set_ne (ha _ _ _ _ rfl rfl)]; exact hr⟩
theorem IoI.setEnd {q : Nat} {M : Mem} {v : Value} {ps : List (Item × Value)} {e f : Frac} (h : IoI q M v ps e) : IoI q (M.set (q + 1) (.live ⟨[iv f.n, iv f.d], true, true, 34, 2⟩)) v ps f :=
  ⟨⟨h.tab.1.setX h.av, fun p hp => ⟨(h.tab.2 p hp).1.setX (h.ap p hp), (h.tab.2 p hp).2⟩⟩, List.getElem?_set_self (List.getElem?_eq_some_iff.1 h.box).1, h.av, h.ap⟩
theorem bld_rest (a b : Int) : Instr.fill (fun x => [(0, 1), (1, 1), (2, 2), (4, 1), (5, 2), (7, 1)][x]?) #[iv 0, .slice none 0 0, iv 0, iv 0, iv 0, iv 0, iv 0, iv 0] [(0, iv 2), (2, .agg #[iv a, iv b])] = some #[iv 2, .slice none 0 0, iv a, iv b, iv 0, iv 0, iv 0, iv 0] := by rfl
theorem bld_loud (a : Int) : Instr.fill (fun x => [(0, 1), (1, 1), (2, 2), (4, 1), (5, 2), (7, 1)][x]?) #[iv 0, .slice none 0 0, iv 0, iv 0, iv 0, iv 0, iv 0, iv 0] [(0, iv 3), (3, iv a)] = some #[iv 3, .slice none 0 0, iv 0, iv 0, iv a, iv 0, iv 0, iv 0] := by rfl
theorem bld_note (a b : Int) : Instr.fill (fun x => [(0, 1), (1, 1), (2, 2), (4, 1), (5, 2), (7, 1)][x]?) #[iv 0, .slice none 0 0, iv 0, iv 0, iv 0, iv 0, iv 0, iv 0] [(0, iv 1), (2, .agg #[iv a, iv b])] = some #[iv 1, .slice none 0 0, iv a, iv b, iv 0, iv 0, iv 0, iv 0] := by rfl
set_option maxHeartbeats 4000000 in
theorem fill_oneIt (a : Int) (A : Option Addr) (n c : Nat) (d e f g h i : Int) : Instr.fill (fun i => some (i * 8, 8)) (zrow [iv 0, .slice none 0 0, iv 0, iv 0, iv 0, iv 0, iv 0, iv 0] 1).toArray [(0, .agg #[iv a, .slice A n c, iv d, iv e, iv f, iv g, iv h, iv i])] = some #[iv a, .slice A n c, iv d, iv e, iv f, iv g, iv h, iv i] := by kernel_rfl
set_option maxHeartbeats 4000000 in
theorem ItemsOfScore_i {M : Mem} {A : Option Addr} {n c : Nat} {l : List Note} (ch : Int) (h : Sl noteR M A n l) (hn : n ≤ 1000) : Ctr Tryz.prog M.length 6 [.agg #[.slice A n c], iv ch] M fun r M' =>
    ∃ v e, r = .tuple #[v, iv e] ∧ Keeps M M' ∧ (e = 0 → scoreB l = true ∧ inB ch 0 15 = true ∧ areC (chF l ch) = true ∧ ∃ out e u, ItG (chF l ch) out e u ∧ out.length ≤ 80 ∧ Tab itN M.length M' v out) := by
  first | (refine ctr_fn Tryz.func6 rfl Tryz.ntmps6 Tryz.results6 rfl rfl (by simp) ?_) | (refine ctr_fnC Tryz.func6 rfl Tryz.ntmps6 Tryz.results6 rfl (by simp) ?_)
  simp
  have kb := keeps_app (M := M) [Slot.live ⟨[.slice A n c], true, true, 26, 1⟩]
  refine awCall_det' (isScore_i (h.keeps kb) (by omega)) (by simp) ?_
  by_cases hs : scoreB l = true
  case neg =>
    simp [hs]
    exact ⟨_, _, ⟨rfl, rfl⟩, kb, by decide⟩
  simp [hs]
  refine awCall_det' (within_a _ _ _) (by simp) ?_
  by_cases hc : inB ch 0 15 = true
  case neg =>
    simp [hc]
    exact ⟨_, _, ⟨rfl, rfl⟩, kb, by decide⟩
  simp [hc]
  have hv0 := hs
  unfold scoreB at hv0
  simp only [Bool.and_eq_true, decide_eq_true_eq, List.all_eq_true] at hv0
  have hl := h.1
  refine awCall_ctr ((chordsOf_i ch (h.keeps kb) (by omega)).weaken (by simp)) ?_
  rintro cv M1 ⟨hC, k1⟩
  have kk1 := kb.trans k1
  have n1 := k1.len
  simp only [List.length_append, List.length_singleton] at n1 hC
  have hvc : ∀ c, c ∈ chF l ch → ∀ n, n ∈ c → noteB n = true := fun c hc n hn => hv0.1.2 n (chF_mem c hc n hn).1
  generalize hcs : chF l ch = cs at *
  try simp
  refine awCall_det' (areChords_i hC (by omega) hvc) (by omega) ?_
  by_cases ha : areC cs = true
  case neg =>
    simp [ha]
    exact ⟨_, _, ⟨rfl, rfl⟩, kk1, by decide⟩
  simp [ha]
  refine awCall_det' (whole_i 0) (by simp; omega) ?_
  obtain ⟨A3, c3, -, hcv⟩ : ∃ A c, True ∧ cv = .slice A cs.length c := by
    obtain ⟨⟨ps, e1, e2, e3⟩, -, -, -⟩ := hC
    obtain ⟨A, c, rfl⟩ := e2.one
    exact ⟨A, c, trivial, by rw [← e1, List.length_map]⟩
  subst hcv
  obtain ⟨M2, hM2⟩ : ∃ M2 : Mem, M2 = M1 ++ [Slot.live ⟨[], true, true, 60, 8⟩, Slot.live ⟨[iv 0, iv 1], true, true, 34, 2⟩] := ⟨_, rfl⟩
  have hput : putCells M.length (M1 ++ [Slot.live ⟨[], true, true, 60, 8⟩, Slot.live ⟨[iv 0, iv 0], true, true, 34, 2⟩]) (M1.length + 1) 0 [iv 0, iv 1] = some M2 := by
    have hr : (M1 ++ [Slot.live ⟨[], true, true, 60, 8⟩, Slot.live ⟨[iv 0, iv 0], true, true, 34, 2⟩])[M1.length + 1]? = some (Slot.live ⟨[iv 0, iv 0], true, true, 34, 2⟩) := by simp
    rw [put_whole (vs := [iv 0, iv 1]) hr (by omega) rfl (by simp), hM2]
    simp
  simp [hput]
  have n2 : M2.length = M1.length + 2 := by rw [hM2]; simp
  have b0 : M2[M1.length]? = some (Slot.live ⟨[], true, true, 60, 8⟩) := by rw [hM2]; simp
  have b1 : M2[M1.length + 1]? = some (Slot.live ⟨[iv 0, iv 1], true, true, 34, 2⟩) := by rw [hM2]; simp
  have k12 : Keeps M1 M2 := by rw [hM2]; exact keeps_app _
  clear hM2 hput
  refine awLoop_T (fun m T M' => ∃ (k : Nat) (ps : List (Item × Value)) (e : Frac) (u : Int) (v : Value), k + m = cs.length ∧ Keeps M1 M' ∧ M1.length + 2 ≤ M'.length ∧ IoI M1.length M' v ps e ∧ ItG (cs.take k) (ps.map (·.1)) e u ∧ ps.length ≤ 3 * k ∧ look T 34 = some (iv k) ∧ look T 33 = some (iv cs.length) ∧ look T 32 = some (.slice A3 cs.length c3) ∧ look T 9 = some (iv u) ∧ look T 7 = some v ∧ look T 8 = some (.pointer (some ⟨M1.length + 1, 0, none⟩)) ∧ look T 4 = some (.slice none 0 0) ∧ look T 5 = some (iv 0)) cs.length
    ⟨0, [], ⟨0, 1⟩, 80, _, by omega, k12, by omega, ⟨TabP.box (N := itN) (t := true) (Nat.le_refl _) (by simpa [itN] using b0), b1, (fun A n c a h1 h2 => by injection h1 with h1; subst h1; injection h2 with h2; subst h2; show M1.length + 1 ≠ M1.length; omega), fun p hp => by cases hp⟩, .nil, by simp, by simp, by simp, by simp, by simp, by simp, by simp, by simp, by simp⟩ ?_
  clear b0 b1 k12 n2
  rintro m T M3 ⟨k, ps, e, u, v, hm, hK, hl3, hI, hG, hpl, t34, t33, t32, t9, t7, t8, t4, t5⟩
  by_cases hlt : k < cs.length
  case neg =>
    obtain rfl : k = cs.length := by omega
    rw [List.take_of_length_le (by omega)] at hG
    obtain ⟨A4, c4, rfl⟩ := hI.tab.one
    simp (disch := omega) [t34, t33, t32, t7]
    by_cases h80 : (80 : Int) < ps.length
    · simp [h80]
      exact ⟨_, _, ⟨rfl, rfl⟩, kk1.trans hK, fun h => absurd h (by decide)⟩
    simp [h80, t7]
    exact ⟨_, _, ⟨rfl, rfl⟩, kk1.trans hK, fun _ => ⟨hs, hc, ha, _, ⟨e, u, hG⟩, by rw [List.length_map]; omega, ps, rfl, hI.tab.low (by omega)⟩⟩
  have hlt' : (k : Int) < cs.length := by omega
  have hcl := hC.len
  obtain ⟨id, off, c', A2, m2, c2, ev, he1, hcell1, hs1, hm2⟩ := hC.at_ hlt
  have he := rowEsz_keeps hK he1
  have hcell := cellAt_keeps hK hcell1
  have hs2 := hs1.keeps hK
  injection ev with ev1 ev2 ev3
  subst ev1 ev3
  have hl2 := hs2.1
  obtain ⟨id2, off2, e2, he2, hc0⟩ := hs2.at_ hm2
  cases e2
  have ld0 := note_load hc0
  simp only [Nat.zero_mul, Nat.add_zero] at ld0
  simp (disch := omega) [t34, t33, t32, hlt, hlt', he, hcell, hm2, he2, ld0]
  obtain ⟨f, hf⟩ : ∃ f, f = el (el cs k) 0 := ⟨_, rfl⟩
  rw [← hf] at ld0 ⊢
  obtain ⟨M4, hM4⟩ : ∃ M4 : Mem, M4 = M3 ++ [Slot.live ⟨[iv f.an, iv f.ad, iv f.ln, iv f.ld, iv f.k, iv f.u, iv f.o], true, true, 36, 7⟩] := ⟨_, rfl⟩
  have k34 : Keeps M3 M4 := by rw [hM4]; exact keeps_app _
  have l4 : M4.length = M3.length + 1 := by rw [hM4]; simp
  have r4 : M4[M3.length]? = some (.live ⟨[iv f.an, iv f.ad, iv f.ln, iv f.ld, iv f.k, iv f.u, iv f.o], true, true, 36, 7⟩) := by rw [hM4]; simp
  rw [← hM4]
  clear hM4
  have hbox4 := k34.get hI.box
  have cb4 : cellsAt M4 (M1.length + 1) 0 2 = some [iv e.n, iv e.d] := cells_hrq hbox4 rfl
  have ca4 : cellsAt M4 M3.length 0 2 = some [iv f.an, iv f.ad] := by simp [cellsAt, r4]
  simp (disch := omega) [t8, cb4]
  rw [show binV Tryz.prog .neq 34 (.agg #[iv f.an, iv f.ad]) (.agg #[iv e.n, iv e.d]) = some (.bool (decide (f.at_ ≠ e))) from frac_is f.at_ e, ow_some]
  simp
  refine awCond_joinR (fun T' M' => ∃ v' ps', Keeps M1 M' ∧ M3.length + 1 ≤ M'.length ∧ M'[M3.length]? = some (.live ⟨[iv f.an, iv f.ad, iv f.ln, iv f.ld, iv f.k, iv f.u, iv f.o], true, true, 36, 7⟩) ∧ Apart v' M3.length ∧ IoI M1.length M' v' ps' e ∧ ps'.map (·.1) = ps.map (·.1) ++ (if f.at_ = e then [] else [restI (subF f.at_ e).1]) ∧ (f.at_ = e ∨ (subF f.at_ e).2 = 0) ∧ ps'.length ≤ ps.length + 1 ∧
    look T' 34 = some (iv k) ∧ look T' 33 = some (iv cs.length) ∧ look T' 32 = some (.slice (some ⟨id, off, none⟩) cs.length c3) ∧ look T' 9 = some (iv u) ∧ look T' 7 = some v' ∧ look T' 8 = some (.pointer (some ⟨M1.length + 1, 0, none⟩)) ∧ look T' 4 = some (.slice none 0 0) ∧ look T' 5 = some (iv 0) ∧ look T' 11 = some (.slice (some ⟨id2, off2, none⟩) m2 c2) ∧ look T' 12 = some (.pointer (some ⟨M3.length, 0, none⟩))) ?_ ?_ ?_
  · intro Q' hQ hR hb
    have hne : ¬ f.at_ = e := by simpa using hb
    simp (disch := omega) [ca4, t8, cb4]
    refine awCall_det' (SubFrac_i f.at_ e) (by omega) ?_
    simp
    rw [put_box (b := M.length) (cs := [iv 0, iv 0]) (vs := [iv (subF f.at_ e).1.n, iv (subF f.at_ e).1.d]) (by omega) rfl (by simp), ow_some]
    by_cases hz : (subF f.at_ e).2 = 0
    case neg =>
      simp [hz]
      refine hR _ ?_
      simp
      refine ⟨_, _, ⟨rfl, rfl⟩, ((kk1.trans hK).trans k34).trans (keeps_app _), fun h => absurd h hz⟩
    generalize (subF f.at_ e).1 = r at *
    simp (disch := omega) [hz, t7]
    rw [bld_rest, ow_some]
    simp (disch := omega) [hz, t7]
    rw [fill_oneIt, ow_some]
    simp (disch := omega) [hz, t7]
    have kx : Keeps M4 (M4 ++ [Slot.live ⟨[iv r.n, iv r.d], true, true, 34, 2⟩, Slot.live ⟨[iv 2, .slice none 0 0, iv r.n, iv r.d, iv 0, iv 0, iv 0, iv 0], true, true, 60, 8⟩]) := keeps_app _
    refine IoI.push (q := M1.length) (p := (restI r, .slice none 0 0)) ((hI.keeps k34).keeps kx) (by omega) (by simp; omega) (by simp [srcOf, Tryz.underlying29, itN, restI, cellsAt]) (by rfl) .nil sep_nil apart_nil (by omega) ?_
    intro v' M' g1 g2 g3
    have ax : Apart v M3.length := hI.tab.1.apartM (Nat.le_refl _)
    obtain ⟨y1, y2⟩ := g3 _ _ ax (kx.get r4)
    have gl := g2.1
    simp only [List.length_append, List.length_cons, List.length_nil] at gl
    refine hQ _ _ ⟨v', _, g2.keeps ((hK.trans k34).trans kx) (Nat.le_refl _), by omega, y1, y2, g1, by rw [if_neg hne]; simp, .inr hz, by simp, by simp [t34], by simp [t33], by simp [t32], by simp [t9], by simp, by simp [t8], by simp [t4], by simp [t5], by simp, by simp⟩
  · intro Q' hQ hR hb
    have heq : f.at_ = e := by simpa using hb
    try simp
    refine hQ _ _ ⟨v, ps, hK.trans k34, by omega, r4, hI.tab.1.apartM (Nat.le_refl _), hI.keeps k34, by rw [if_pos heq, List.append_nil], .inl heq, by omega, by simp [t34], by simp [t33], by simp [t32], by simp [t9], by simp [t7], by simp [t8], by simp [t4], by simp [t5], by simp, by simp⟩
  clear t34 t33 t32 t9 t7 t8 t4 t5
  rintro T5 M5 ⟨v5, ps5, k15, l5, r5, a5, hI5, hm5, hor5, hl5, t34, t33, t32, t9, t7, t8, t4, t5, t11, t12⟩
  have cu5 : cellAt M5 M3.length 5 = some (iv f.u) := by simp [cellAt, r5]
  simp (disch := omega) [t12, cu5, t9]
  refine awCond_join (fun T' M' => ∃ v' ps', Keeps M1 M' ∧ M3.length + 1 ≤ M'.length ∧ M'[M3.length]? = some (.live ⟨[iv f.an, iv f.ad, iv f.ln, iv f.ld, iv f.k, iv f.u, iv f.o], true, true, 36, 7⟩) ∧ Apart v' M3.length ∧ IoI M1.length M' v' ps' e ∧ ps'.map (·.1) = ps5.map (·.1) ++ (if f.u = u then [] else [loudI f.u]) ∧ ps'.length ≤ ps.length + 2 ∧
    look T' 34 = some (iv k) ∧ look T' 33 = some (iv cs.length) ∧ look T' 32 = some (.slice (some ⟨id, off, none⟩) cs.length c3) ∧ look T' 9 = some (iv f.u) ∧ look T' 7 = some v' ∧ look T' 8 = some (.pointer (some ⟨M1.length + 1, 0, none⟩)) ∧ look T' 4 = some (.slice none 0 0) ∧ look T' 5 = some (iv 0) ∧ look T' 11 = some (.slice (some ⟨id2, off2, none⟩) m2 c2) ∧ look T' 12 = some (.pointer (some ⟨M3.length, 0, none⟩))) ?_ ?_ ?_
  · intro Q' hQ hb
    have hne : ¬ f.u = u := by simpa using hb
    simp (disch := omega) [t12, cu5, t7]
    rw [bld_loud, ow_some]
    simp (disch := omega) [t12, cu5, t7]
    rw [fill_oneIt, ow_some]
    simp (disch := omega) [t12, cu5, t7]
    have kx : Keeps M5 (M5 ++ [Slot.live ⟨[iv 3, .slice none 0 0, iv 0, iv 0, iv f.u, iv 0, iv 0, iv 0], true, true, 60, 8⟩]) := keeps_app _
    refine IoI.push (q := M1.length) (p := (loudI f.u, .slice none 0 0)) (hI5.keeps kx) (by omega) (by simp; omega) (by simp [srcOf, Tryz.underlying29, itN, loudI, cellsAt]) (by rfl) .nil sep_nil apart_nil (by omega) ?_
    intro v' M' g1 g2 g3
    obtain ⟨y1, y2⟩ := g3 _ _ a5 (kx.get r5)
    have gl := g2.1
    simp only [List.length_append, List.length_cons, List.length_nil] at gl
    refine hQ _ _ ⟨v', _, g2.keeps (k15.trans kx) (Nat.le_refl _), by omega, y1, y2, g1, by rw [if_neg hne]; simp, by simp; omega, by simp [t34], by simp [t33], by simp [t32], by simp, by simp, by simp [t8], by simp [t4], by simp [t5], by simp [t11], by simp [t12]⟩
  · intro Q' hQ hb
    have heq : f.u = u := by simpa using hb
    try simp
    refine hQ _ _ ⟨v5, ps5, k15, l5, r5, a5, hI5, by rw [if_pos heq, List.append_nil], by omega, by simp [t34], by simp [t33], by simp [t32], by simp [t9, heq], by simp [t7], by simp [t8], by simp [t4], by simp [t5], by simp [t11], by simp [t12]⟩
  clear t34 t33 t32 t9 t7 t8 t4 t5 t11 t12 l5 r5 a5 cu5 k15
  rintro T6 M6 ⟨v6, ps6, k16, l6, r6, a6, hI6, hm6, hl6, t34, t33, t32, t9, t7, t8, t4, t5, t11, t12⟩
  clear hI5
  have cl6 : cellsAt M6 M3.length 2 2 = some [iv f.ln, iv f.ld] := by simp [cellsAt, r6]
  simp (disch := omega) [t12, cl6]
  rw [bld_note, ow_some]
  simp (disch := omega) [t12, cl6, t11]
  obtain ⟨M7, hM7⟩ : ∃ M7 : Mem, M7 = M6 ++ [Slot.live ⟨[iv 1, .slice none 0 0, iv f.ln, iv f.ld, iv 0, iv 0, iv 0, iv 0], true, true, 60, 8⟩] := ⟨_, rfl⟩
  have k67 : Keeps M6 M7 := by rw [hM7]; exact keeps_app _
  have l7 : M7.length = M6.length + 1 := by rw [hM7]; simp
  have r7 : M7[M6.length]? = some (.live ⟨[iv 1, .slice none 0 0, iv f.ln, iv f.ld, iv 0, iv 0, iv 0, iv 0], true, true, 60, 8⟩) := by rw [hM7]; simp
  rw [← hM7]
  clear hM7
  have htm := totN_mem cs _ (el_mem hlt)
  have htot := hC.tot
  refine awLoop_T (fun m T M' => ∃ (j : Nat) (w : Value), j + m = m2 ∧ Keeps M6 M' ∧ M6.length + 1 ≤ M'.length ∧ M'[M6.length]? = some (.live ⟨[iv 1, w, iv f.ln, iv f.ld, iv 0, iv 0, iv 0, iv 0], true, true, 60, 8⟩) ∧ Acc pitchR 62 (M6.length + 1) M' w (((el cs k).take j).map fun n => spellV n.k) ∧ look T 76 = some (iv j) ∧ look T 75 = some (iv m2) ∧ look T 74 = some (.slice (some ⟨id2, off2, none⟩) m2 c2) ∧ look T 15 = some (.pointer (some ⟨M6.length, 0, none⟩)) ∧
    look T 34 = some (iv k) ∧ look T 33 = some (iv cs.length) ∧ look T 32 = some (.slice (some ⟨id, off, none⟩) cs.length c3) ∧ look T 9 = some (iv f.u) ∧ look T 7 = some v6 ∧ look T 8 = some (.pointer (some ⟨M1.length + 1, 0, none⟩)) ∧ look T 4 = some (.slice none 0 0) ∧ look T 5 = some (iv 0) ∧ look T 12 = some (.pointer (some ⟨M3.length, 0, none⟩))) m2
    ⟨0, _, by omega, k67, by omega, r7, by simpa using Acc.nil, by simp, by simp, by simp, by simp, by simp [t34], by simp [t33], by simp [t32], by simp [t9], by simp [t7], by simp [t8], by simp [t4], by simp [t5], by simp [t12]⟩ ?_
  clear t34 t33 t32 t9 t7 t8 t4 t5 t11 t12 r7 k67 l7
  rintro mm T8 M8 ⟨j, w, hmm, k68, l8, r8, hw, t76, t75, t74, t15, t34, t33, t32, t9, t7, t8, t4, t5, t12⟩
  by_cases hj : j < m2
  · have hj' : (j : Int) < m2 := by omega
    obtain ⟨_, _, e3, he3, hc3⟩ := (hs1.keeps (k16.trans k68)).at_ hj
    cases e3
    have ld := note_load hc3
    have hxv := hvc _ (el_mem hlt) _ (el_mem (l := el cs k) (i := j) (by omega))
    have hkey := (noteB_iff.1 hxv).2.2.2.2.1
    simp (disch := omega) [t76, t75, t74, hj, hj', he3, ld]
    obtain ⟨x, hx⟩ : ∃ x, x = el (el cs k) j := ⟨_, rfl⟩
    rw [← hx] at hkey hxv ⊢
    obtain ⟨M9, hM9⟩ : ∃ M9 : Mem, M9 = M8 ++ [Slot.live ⟨[iv x.an, iv x.ad, iv x.ln, iv x.ld, iv x.k, iv x.u, iv x.o], true, true, 36, 7⟩] := ⟨_, rfl⟩
    have k89 : Keeps M8 M9 := by rw [hM9]; exact keeps_app _
    have l9 : M9.length = M8.length + 1 := by rw [hM9]; simp
    have b9 : cellAt M9 M8.length 4 = some (iv x.k) := by rw [hM9]; simp [cellAt]
    rw [← hM9]
    clear hM9
    have r9 := k89.get r8
    have c91 : cellAt M9 M6.length 1 = some w := by simp [cellAt, r9]
    refine awDraw_M 6 [[],[0],[],[2],[3,2],[4,3,2],[1,0,5,4,3,2],[0,1,2,3,4,5,6],[7,0,1,2,3,4,5,6]] [] (by kernel_rfl) (by decide +kernel) (by decide +kernel) ?_
    simp (disch := omega) [t15, c91, b9]
    refine awCall_det' (spellKey_i x.k hkey) (by omega) ?_
    simp (disch := omega) [t15, c91, b9]
    have kx : Keeps M9 (M9 ++ [Slot.live ⟨[iv (spellV x.k).s, iv (spellV x.k).a, iv (spellV x.k).o], true, true, 62, 3⟩]) := keeps_app _
    have hlm : (((el cs k).take j).map fun n => spellV n.k).length = j := by rw [List.length_map, List.length_take]; omega
    refine (hw.keeps (k89.trans kx)).append (R := pitchR) (e := 62) (by_ := 24) (a := spellV x.k) (by omega) (by simp; omega) (by omega) (by simp) (by kernel_rfl) (by simp [srcOf, Tryz.underlying56, pitchR, Pitch.row]) (by rfl) (by omega) (by unfold maxLen; omega) ?_
    intro w' M10 g1 g2
    have r10 := g2.2 M6.length _ (by omega) (kx.get r9)
    have gl := g2.1
    simp only [List.length_append, List.length_singleton] at gl
    obtain ⟨A5, n5, c5, rfl, hn5, -, -⟩ := g1.sl
    have hp := put_splice (b := M.length) (p := 1) (vs := [.slice A5 n5 c5]) r10 (by omega) (by simp) (by simp)
    simp only [splice_cons, splice_nil, List.set_cons_succ, List.set_cons_zero] at hp
    simp (disch := omega) [hp, t76, wrap_in]
    have hS : Same M6.length (M9 ++ [Slot.live ⟨[iv (spellV x.k).s, iv (spellV x.k).a, iv (spellV x.k).o], true, true, 62, 3⟩]) (M10.set M6.length (.live ⟨[iv 1, .slice A5 n5 c5, iv f.ln, iv f.ld, iv 0, iv 0, iv 0, iv 0], true, true, 60, 8⟩)) := (g2.low (by omega)).trans (Same.set (Nat.le_refl _))
    refine lpI (mm - 1) (by omega) ⟨j + 1, _, by omega, hS.keeps ((k68.trans k89).trans kx) (Nat.le_refl _), by simp; omega, List.getElem?_set_self (by omega), ?_, by simp, by simp [t75], by simp [t74], by simp [t15], by simp [t34], by simp [t33], by simp [t32], by simp [t9], by simp [t7], by simp [t8], by simp [t4], by simp [t5], by simp [t12]⟩
    rw [take_el (by omega), List.map_append, List.map_singleton, ← hx]
    exact g1.set_ne (by omega)
  · obtain rfl : j = m2 := by omega
    rw [List.take_of_length_le (by omega)] at hw
    have cb8 : cellsAt M8 M6.length 0 8 = some [iv 1, w, iv f.ln, iv f.ld, iv 0, iv 0, iv 0, iv 0] := cells_hrq r8 rfl
    obtain ⟨A5, n5, c5, rfl, hn5, -, -⟩ := hw.sl
    simp (disch := omega) [t76, t75, t74, t15, t7, cb8]
    rw [fill_oneIt, ow_some]
    simp (disch := omega) [t12, t7]
    have kx : Keeps M8 (M8 ++ [Slot.live ⟨[iv 1, .slice A5 n5 c5, iv f.ln, iv f.ld, iv 0, iv 0, iv 0, iv 0], true, true, 60, 8⟩]) := keeps_app _
    refine IoI.push (q := M1.length) (p := (chdI (el cs k), .slice A5 n5 c5)) ((hI6.keeps k68).keeps kx) (by omega) (by simp; omega) (by simp [srcOf, Tryz.underlying29, itN, chdI, cellsAt, ← hf]) (by rfl) ((hw.keeps kx).low (by omega)) (hw.sep_new hI6.tab.1 (by omega)).symm (hw.apartL (by omega)) (by omega) ?_
    intro v' M10 g1 g2 g3
    obtain ⟨y1, y2⟩ := g3 _ _ a6 ((k68.trans kx).get r6)
    have gl := g2.1
    simp only [List.length_append, List.length_singleton] at gl
    have lf : cellsAt M10 M3.length 0 7 = some [iv f.an, iv f.ad, iv f.ln, iv f.ld, iv f.k, iv f.u, iv f.o] := cells_hrq y1 rfl
    simp (disch := omega) [t12, lf]
    refine awCall_det' (end_i f) (by omega) ?_
    have hp := put_whole (b := M.length) (vs := [iv f.fin.n, iv f.fin.d]) g1.box (by omega) rfl (by simp)
    simp (disch := omega) [t8, t34, hp, wrap_in]
    refine lpI (m - 1) (by omega) ⟨k + 1, _, f.fin, f.u, v', by omega, (g2.trans (Same.set (B := M1.length) (by omega))).keeps ((k16.trans k68).trans kx) (Nat.le_refl _), by simp; omega, g1.setEnd, ?_, by simp; omega, by simp, by simp [t33], by simp [t32], by simp [t9], by simp, by simp [t8], by simp [t4], by simp [t5]⟩
    have hsn := ItG.snoc (c := el cs k) hG (by rw [← hf]; exact hor5)
    rw [← hf] at hsn
    rw [take_el hlt, List.map_append, List.map_singleton, hm6, hm5, List.append_assoc, List.append_assoc]
    unfold itP at hsn
    rw [← hf] at hsn
    exact hsn
end Go.Proofs.YtodbjnngkonklaaGreat

namespace Go.Proofs.YtodbjnngkonklaaGreat
open Go.RowKit
set_option linter.unusedVariables false
set_option linter.unusedSimpArgs false
set_option maxRecDepth 100000
attribute [local simp] List.getElem?_cons_zero
attribute [local irreducible] awCond awCall awLoop awDraw ow retQ retC resQ Keeps
theorem pitch_one (l : List Pitch) : (cellsL pitchR l).all (fun u => u.oneCell') = true := by
  induction l with
  | nil => rfl
  | cons a l ih => rw [cellsL_cons, List.all_append, ih]; rfl
theorem ClonePitch_a {M : Mem} {A : Option Addr} {n c : Nat} {l : List Pitch} (h : Sl pitchR M A n l) (hn : n ≤ 1048576) : Ctr Tryz.prog M.length 35 [.slice A n c] M fun r M' => Acc pitchR 62 M.length M' r l ∧ Keeps M M' := by
  have hl := h.1
  first | (refine ctr_fn Tryz.func35 rfl Tryz.ntmps35 Tryz.results35 rfl rfl (by simp) ?_) | (refine ctr_fnC Tryz.func35 rfl Tryz.ntmps35 Tryz.results35 rfl (by simp) ?_)
  rcases A with _ | ad
  · have h0 : l = [] := by
      apply List.eq_nil_of_length_eq_zero
      rcases Nat.eq_zero_or_pos n with e | e
      · omega
      · obtain ⟨_, _, e', _⟩ := h.2 e
        cases e'
    simp [nil_eq Tryz.underlying56]
    exact ⟨h0 ▸ .nil, Keeps.refl _⟩
  · simp [nil_eq Tryz.underlying56]
    refine cloneX (R := pitchR) (e := 62) (by_ := 24) (l := l) (by exact h.keeps (keeps_app _)) (by omega) ⟨_, 0, 0, rfl, rfl, .inr ⟨M.length, true, rfl, Nat.le_refl _, by simp [cellsL]⟩⟩ (Nat.le_refl _) (by simp) (by simp) ⟨_, Tryz.underlying56⟩ (by kernel_rfl) (pitch_one _) (by omega) (by unfold maxLen; omega) ?_
    intro v' M2 hA hS
    try simp
    exact ⟨hA, hS.keeps (keeps_app _) (Nat.le_refl _)⟩
end Go.Proofs.YtodbjnngkonklaaGreat

namespace Go.Proofs.YtodbjnngkonklaaGreat
open Go.RowKit
set_option linter.unusedVariables false
set_option linter.unusedSimpArgs false
set_option maxRecDepth 100000
attribute [local simp] List.getElem?_cons_zero
attribute [local irreducible] awCond awCall awLoop awDraw ow retQ retC resQ Keeps
def cntI : List Item → Nat
  | [] => 0
  | x :: r => if grpB x = true then (if x.j = 4 then x.x.toNat else 1) * cntI (r.take x.z.toNat) + cntI (r.drop x.z.toNat) else 1 + cntI r
termination_by l => l.length
decreasing_by
  · simp only [List.length_take, List.length_cons]; omega
  · simp only [List.length_drop, List.length_cons]; omega
  · simp
theorem cntI_nil : cntI [] = 0 := by rw [cntI]
theorem cntI_cons (x : Item) (r : List Item) : cntI (x :: r) = if grpB x = true then (if x.j = 4 then x.x.toNat else 1) * cntI (r.take x.z.toNat) + cntI (r.drop x.z.toNat) else 1 + cntI r := by rw [cntI]
theorem itemB_z {x : Item} (h : itemB x = true) (hg : ¬ grpB x = true) : x.z = 0 := by
  unfold itemB at h
  split at h
  · simp only [Bool.and_eq_true, decide_eq_true_eq] at h; exact h.2.2.2.2
  split at h
  · simp only [Bool.and_eq_true, decide_eq_true_eq] at h; exact h.2.2.2.2
  split at h
  · simp only [Bool.and_eq_true, decide_eq_true_eq] at h; exact h.2.2.2.2
  split at h
  · rename_i j; exact absurd (by simp [grpB, j]) hg
  split at h
  · rename_i j; exact absurd (by simp [grpB, j]) hg
  · cases h
theorem itemB_x {x : Item} (h : itemB x = true) (j : x.j = 4) : 2 ≤ x.x ∧ x.x ≤ 8 := by
  unfold itemB at h
  rw [if_neg (by omega), if_neg (by omega), if_neg (by omega), if_pos j] at h
  simp only [Bool.and_eq_true] at h
  exact inB_iff.1 h.2.2.1
theorem cnt_le : ∀ (N d : Nat) (l : List Item), l.length ≤ N → scanI d l = true → cntI l ≤ 8 ^ d * l.length
  | 0, d, l, hl, _ => by
    obtain rfl : l = [] := List.eq_nil_of_length_eq_zero (by omega)
    rw [cntI_nil]; exact Nat.zero_le _
  | N + 1, d, [], _, _ => by rw [cntI_nil]; exact Nat.zero_le _
  | N + 1, d, x :: r, hl, h => by
    simp only [List.length_cons] at hl ⊢
    rw [scanI_cons, Bool.and_eq_true] at h
    obtain ⟨h1, h2⟩ := h
    rw [cntI_cons]
    by_cases hg : grpB x = true
    · rw [if_pos hg] at h2 ⊢
      simp only [Bool.and_eq_true, decide_eq_true_eq] at h2
      obtain ⟨h3, h4, h5, h6⟩ := h2
      have h4 := inB_iff.1 h4
      have a := cnt_le N _ _ (by rw [List.length_take]; omega) h5
      have b := cnt_le N _ _ (by rw [List.length_drop]; omega) h6
      rw [List.length_take] at a
      rw [List.length_drop] at b
      obtain ⟨e, rfl⟩ : ∃ e, d = e + 1 := ⟨d - 1, by omega⟩
      rw [Nat.add_sub_cancel] at a
      have hm : min x.z.toNat r.length = x.z.toNat := by omega
      rw [hm] at a
      have hx : (if x.j = 4 then x.x.toNat else 1) ≤ 8 := by
        split
        · rename_i j; have := itemB_x h1 j; omega
        · omega
      have c := Nat.mul_le_mul hx a
      rw [Nat.pow_succ]
      have e8 : 8 * (8 ^ e * x.z.toNat) = 8 ^ e * 8 * x.z.toNat := by rw [← Nat.mul_assoc, Nat.mul_comm 8]
      rw [e8] at c
      rw [Nat.pow_succ] at b
      have f : 8 ^ e * 8 * x.z.toNat + 8 ^ e * 8 * (r.length - x.z.toNat) = 8 ^ e * 8 * r.length := by rw [← Nat.mul_add]; congr 1; omega
      have g : 8 ^ e * 8 * (r.length + 1) = 8 ^ e * 8 * r.length + 8 ^ e * 8 := by rw [Nat.mul_add, Nat.mul_one]
      omega
    · rw [if_neg hg] at h2 ⊢
      have b := cnt_le N _ _ (by omega) h2
      have := Nat.pow_pos (a := 8) (n := d) (by omega)
      rw [Nat.mul_add, Nat.mul_one]
      omega
theorem cnt_small {d : Nat} {l : List Item} (hd : d ≤ 3) (hn : l.length ≤ 80) (h : scanI d l = true) : cntI l ≤ 40960 := by
  have a := cnt_le l.length d l (Nat.le_refl _) h
  have b : 8 ^ d ≤ 8 ^ 3 := Nat.pow_le_pow_right (by omega) hd
  have c := Nat.mul_le_mul b hn
  omega
theorem inner_b {M : Mem} {id off n i z : Nat} {us : List Value} {c lo hi : Nat} {x : Item} (hi' : i < n) (hrd : itemP.rd lo hi M x us) (hc : Cl M id (off + i * 8) us) (hz : x.z = z) (h1 : i + 1 + z ≤ n) (hn : n ≤ 1048576) (he : rowEsz M id = some 8) : Det Tryz.prog M.length 98 [.slice (some ⟨id, off, none⟩) n c, iv i] M (.slice (some ⟨id, off + (i + 1) * 8, none⟩) z z) M := by
  obtain ⟨A1, n1, c1', hu, hus, c0, c1, c2, c4, c5, c7, c8⟩ := item_cells hrd hc
  rw [hz] at c7
  have hib' : (i : Int) < n := by omega
  refine Ctr.det ?_
  first | (refine ctr_fn Tryz.func98 rfl Tryz.ntmps98 Tryz.results98 rfl rfl (by simp) ?_) | (refine ctr_fnC Tryz.func98 rfl Tryz.ntmps98 Tryz.results98 rfl (by simp) ?_)
  simp (disch := omega) [hi', hib', c7, wrap_in, he]
  omega
def CountTo (N : Nat) : Prop := ∀ (M : Mem) (A : Option Addr) (n c : Nat) (l : List Item) (lo hi d : Nat), SlP itemP lo hi M A n l → n ≤ 80 → d ≤ 3 → scanI d l = true → n < N →
  Det Tryz.prog M.length 67 [.slice A n c] M (iv (cntI l)) M
set_option maxHeartbeats 2000000 in
theorem count_step {N : Nat} (hN : CountTo N) : CountTo (N + 1) := by
  intro M A n c l lo hi d h hn hd hs0 hlt
  have hl := h.1
  first | (refine det_fn Tryz.func67 rfl Tryz.ntmps67 Tryz.results67 rfl rfl rfl (by simp) ?_) | (refine det_fnC Tryz.func67 rfl Tryz.ntmps67 Tryz.results67 rfl rfl (by simp) ?_)
  simp
  have hsm := cnt_small hd (by omega) hs0
  refine awLoop_T (fun m T M' => ∃ i s : Nat, i + m = n ∧ Keeps M M' ∧ cntI l = s + cntI (subI l i n) ∧ scanI d (subI l i n) = true ∧ look T 4 = some (iv i) ∧ look T 3 = some (iv s) ∧ look T 0 = some (.slice A n c)) n ⟨0, 0, by omega, Keeps.refl _, by rw [show subI l 0 n = l by rw [← hl]; exact subI_all]; omega, by rw [show subI l 0 n = l by rw [← hl]; exact subI_all]; exact hs0, by simp, by simp, by simp⟩ ?_
  rintro m T M1 ⟨i, s, hm, hK, hw, hs, t4, t3, t0⟩
  have hKl := hK.len
  simp (disch := omega) [t4, t3, t0]
  refine awCall_det' sizeItem_a (by omega) ?_
  by_cases hib : i < n
  case neg =>
    obtain rfl : i = n := by omega
    rw [subI_nil, cntI_nil] at hw
    simp (disch := omega) [t4, t3, t0, hw, hK]
  have hib' : (i : Int) < n := by omega
  obtain ⟨id, off, us, rfl, he, hrd, hc⟩ := (h.keeps hK).at_ hib
  have hrd2 := hrd
  obtain ⟨A1, n1, c1', hu, hus, c0, c1, c2, c4, c5, c7, c8⟩ := item_cells hrd2 hc
  subst hus
  have hcons := subI_cons (l := l) hib (by omega)
  have hrl : (subI l (i + 1) n).length = n - (i + 1) := subI_len (by omega) (by omega)
  rw [hcons, cntI_cons] at hw
  rw [hcons, scanI_cons, Bool.and_eq_true] at hs
  obtain ⟨hB, hs⟩ := hs
  simp (disch := omega) [t4, t3, t0, hib, hib', he, c8]
  obtain ⟨M2, hM2⟩ : ∃ M2 : Mem, M2 = M1 ++ [Slot.live ⟨[iv (el l i).j, .slice A1 n1 c1', iv (el l i).ln, iv (el l i).ld, iv (el l i).x, iv (el l i).mt, iv (el l i).mh, iv (el l i).z], true, true, 60, 8⟩] := ⟨_, rfl⟩
  have k12 : Keeps M1 M2 := by rw [hM2]; exact keeps_app _
  have l2 : M2.length = M1.length + 1 := by rw [hM2]; simp
  have b4 : cellAt M2 M1.length 4 = some (iv (el l i).x) := by rw [hM2]; simp [cellAt]
  have b7 : cellAt M2 M1.length 7 = some (iv (el l i).z) := by rw [hM2]; simp [cellAt]
  rw [← hM2]
  clear hM2
  have he2 := rowEsz_keeps k12 he
  by_cases hg2 : grpB (el l i) = true
  case neg =>
    have j4 : ¬ (el l i).j = 4 := fun e => hg2 (by simp [grpB, e])
    have j5 : ¬ (el l i).j = 5 := fun e => hg2 (by simp [grpB, e])
    have hz := itemB_z hB hg2
    rw [hz] at b7
    rw [if_neg hg2] at hs hw
    simp (disch := omega) [j4, j5, t4, t3, t0, b7, wrap_in]
    exact lpI (m - 1) (by omega) ⟨i + 1, s + 1, by omega, hK.trans k12, by omega, hs, by simp, by simp, by simp [t0]⟩
  rw [if_pos hg2, hrl] at hs
  rw [if_pos hg2] at hw
  simp only [Bool.and_eq_true, decide_eq_true_eq] at hs
  obtain ⟨hd0, hz, hs1, hs2⟩ := hs
  have hz := inB_iff.1 hz
  obtain ⟨z, hz2⟩ : ∃ z : Nat, (el l i).z = z := ⟨(el l i).z.toNat, by omega⟩
  rw [hz2] at hz b7
  rw [hz2, Int.toNat_natCast, subI_take (by omega)] at hs1
  rw [hz2, Int.toNat_natCast, subI_drop] at hs2
  rw [hz2, Int.toNat_natCast, subI_take (by omega), subI_drop] at hw
  have hpart := ((h.keeps hK).keeps k12).part (a := i + 1) (b := i + 1 + z) (by omega) (by omega)
  rw [show i + 1 + z - (i + 1) = z by omega] at hpart
  have esub : (l.drop (i + 1)).take z = subI l (i + 1) (i + 1 + z) := by unfold subI; rw [show i + 1 + z - (i + 1) = z by omega]
  rw [esub] at hpart
  have hcall := hN M2 (some ⟨id, off + (i + 1) * 8, none⟩) z z (subI l (i + 1) (i + 1 + z)) lo hi (d - 1) hpart (by omega) (by omega) hs1 (by omega)
  have hin := inner_b (M := M2) (c := c) hib (itemP.keeps hrd k12) (hc.keeps k12) hz2 (by omega) (by omega) he2
  by_cases j4 : (el l i).j = 4
  · rw [if_pos j4] at hw
    have hx := itemB_x hB j4
    obtain ⟨xn, hxn⟩ : ∃ xn : Nat, (el l i).x = xn := ⟨(el l i).x.toNat, by omega⟩
    rw [hxn] at b4 hx
    rw [hxn, Int.toNat_natCast] at hw
    obtain ⟨y, hy⟩ : ∃ y : Nat, xn * cntI (subI l (i + 1) (i + 1 + z)) = y := ⟨_, rfl⟩
    have hpm : (xn : Int) * (cntI (subI l (i + 1) (i + 1 + z)) : Int) = (y : Int) := by rw [← hy, Int.natCast_mul]
    rw [hy] at hw
    simp (disch := omega) [j4]
    refine awDraw_E 8 [[],[],[1],[],[],[3,4],[5,3,4],[2,1,6,5,3,4],[0,7,2,1,6,5,3,4],[8,0,7,2,1,6,5,3,4]] (by kernel_rfl) (by kernel_rfl) ?_
    simp (disch := omega) [t4, t3, t0, b4]
    refine awCall_det' (d := true) hin (by omega) ?_
    simp (disch := omega) [t4, t3, t0, b4]
    refine awCall_det' (d := true) hcall (by omega) ?_
    simp (disch := omega) [t4, t3, t0, b4, b7, hpm, wrap_in]
    exact lpI (m - 1 - z) (by omega) ⟨i + 1 + z, s + y, by omega, hK.trans k12, by omega, hs2, by simp; omega, by simp, by simp [t0]⟩
  · rw [if_neg j4, Nat.one_mul] at hw
    have j5 : (el l i).j = 5 := by simpa [grpB, j4] using hg2
    simp (disch := omega) [j4, j5, t4, t3, t0]
    refine awCall_det' hin (by omega) ?_
    refine awCall_det' hcall (by omega) ?_
    simp (disch := omega) [t4, t3, t0, b7, wrap_in]
    exact lpI (m - 1 - z) (by omega) ⟨i + 1 + z, s + cntI (subI l (i + 1) (i + 1 + z)), by omega, hK.trans k12, by omega, hs2, by simp; omega, by simp, by simp [t0]⟩
theorem count_to : ∀ N, CountTo N
  | 0 => fun M A n c l lo hi d _ _ _ _ h => by omega
  | N + 1 => count_step (count_to N)
end Go.Proofs.YtodbjnngkonklaaGreat

namespace Go.Proofs.YtodbjnngkonklaaGreat
open Go.RowKit
set_option linter.unusedVariables false
set_option linter.unusedSimpArgs false
set_option maxRecDepth 100000
attribute [local simp] List.getElem?_cons_zero
attribute [local irreducible] awCond awCall awLoop awDraw ow retQ retC resQ Keeps
def CountToS (N : Nat) : Prop := ∀ (M : Mem) (A : Option Addr) (n c : Nat) (l : List Item) (lo hi d : Nat), SlP itemP lo hi M A n l → n ≤ 80 → d ≤ 3 → scanI d l = true → n < N →
  Det Tryz.prog M.length 75 [.slice A n c] M (iv (cntI l)) M
set_option maxHeartbeats 2000000 in
theorem counts_step {N : Nat} (hN : CountToS N) : CountToS (N + 1) := by
  intro M A n c l lo hi d h hn hd hs0 hlt
  have hl := h.1
  first | (refine det_fn Tryz.func75 rfl Tryz.ntmps75 Tryz.results75 rfl rfl rfl (by simp) ?_) | (refine det_fnC Tryz.func75 rfl Tryz.ntmps75 Tryz.results75 rfl rfl (by simp) ?_)
  simp
  have hsm := cnt_small hd (by omega) hs0
  refine awLoop_T (fun m T M' => ∃ i s : Nat, i + m = n ∧ M' = M ∧ cntI l = s + cntI (subI l i n) ∧ scanI d (subI l i n) = true ∧ look T 4 = some (iv i) ∧ look T 3 = some (iv s) ∧ look T 0 = some (.slice A n c)) n ⟨0, 0, by omega, rfl, by rw [show subI l 0 n = l by rw [← hl]; exact subI_all]; omega, by rw [show subI l 0 n = l by rw [← hl]; exact subI_all]; exact hs0, by simp, by simp, by simp⟩ ?_
  rintro m T M1 ⟨i, s, hm, rfl, hw, hs, t4, t3, t0⟩
  by_cases hib : i < n
  case neg =>
    obtain rfl : i = n := by omega
    rw [subI_nil, cntI_nil] at hw
    simp (disch := omega) [t4, t3, t0, hw, Keeps.refl]
  have hib' : (i : Int) < n := by omega
  obtain ⟨id, off, us, rfl, he, hrd, hc⟩ := h.at_ hib
  have hrd2 := hrd
  obtain ⟨A1, n1, c1', hu, hus, c0, c1, c2, c4, c5, c7, c8⟩ := item_cells hrd2 hc
  have hcons := subI_cons (l := l) hib (by omega)
  have hrl : (subI l (i + 1) n).length = n - (i + 1) := subI_len (by omega) (by omega)
  rw [hcons, cntI_cons] at hw
  rw [hcons, scanI_cons, Bool.and_eq_true] at hs
  obtain ⟨hB, hs⟩ := hs
  simp (disch := omega) [t4, t3, t0, hib, hib', he]
  refine awCall_det' (l19Group_s c0) (by omega) ?_
  by_cases hg2 : grpB (el l i) = true
  case neg =>
    rw [if_neg hg2] at hs hw
    simp (disch := omega) [hg2, t4, t3, t0, wrap_in]
    exact lpI (m - 1) (by omega) ⟨i + 1, s + 1, by omega, rfl, by omega, hs, by simp, by simp, by simp [t0]⟩
  rw [if_pos hg2, hrl] at hs
  rw [if_pos hg2] at hw
  simp only [Bool.and_eq_true, decide_eq_true_eq] at hs
  obtain ⟨hd0, hz, hs1, hs2⟩ := hs
  have hz := inB_iff.1 hz
  obtain ⟨z, hz2⟩ : ∃ z : Nat, (el l i).z = z := ⟨(el l i).z.toNat, by omega⟩
  rw [hz2] at hz c7
  rw [hz2, Int.toNat_natCast, subI_take (by omega)] at hs1
  rw [hz2, Int.toNat_natCast, subI_drop] at hs2
  rw [hz2, Int.toNat_natCast, subI_take (by omega), subI_drop] at hw
  have hpart := h.part (a := i + 1) (b := i + 1 + z) (by omega) (by omega)
  rw [show i + 1 + z - (i + 1) = z by omega] at hpart
  have esub : (l.drop (i + 1)).take z = subI l (i + 1) (i + 1 + z) := by unfold subI; rw [show i + 1 + z - (i + 1) = z by omega]
  rw [esub] at hpart
  have hcall := hN M1 (some ⟨id, off + (i + 1) * 8, none⟩) z z (subI l (i + 1) (i + 1 + z)) lo hi (d - 1) hpart (by omega) (by omega) hs1 (by omega)
  simp (disch := omega) [hg2, t4, t3, t0, c7, wrap_in, he]
  refine ⟨by omega, ?_⟩
  have ez : ((i : Int) + 1 + z).toNat - (i + 1) = z := by omega
  rw [ez]
  refine awCall_det' hcall (by omega) ?_
  by_cases j4 : (el l i).j = 4
  · rw [if_pos j4] at hw
    have hx := itemB_x hB j4
    obtain ⟨xn, hxn⟩ : ∃ xn : Nat, (el l i).x = xn := ⟨(el l i).x.toNat, by omega⟩
    rw [hxn] at c4 hx
    rw [hxn, Int.toNat_natCast] at hw
    obtain ⟨y, hy⟩ : ∃ y : Nat, xn * cntI (subI l (i + 1) (i + 1 + z)) = y := ⟨_, rfl⟩
    have hpm : (cntI (subI l (i + 1) (i + 1 + z)) : Int) * (xn : Int) = (y : Int) := by rw [← hy, Int.natCast_mul, Int.mul_comm]
    rw [hy] at hw
    rw [j4] at c0
    simp (disch := omega) [c0, c4, t4, t3, t0, hpm, c7, wrap_in]
    exact lpI (m - 1 - z) (by omega) ⟨i + 1 + z, s + y, by omega, rfl, by omega, hs2, by simp; omega, by simp, by simp [t0]⟩
  · rw [if_neg j4, Nat.one_mul] at hw
    simp (disch := omega) [c0, j4, t4, t3, t0, c7, wrap_in]
    exact lpI (m - 1 - z) (by omega) ⟨i + 1 + z, s + cntI (subI l (i + 1) (i + 1 + z)), by omega, rfl, by omega, hs2, by simp; omega, by simp, by simp [t0]⟩
theorem counts_to : ∀ N, CountToS N
  | 0 => fun M A n c l lo hi d _ _ _ _ h => by omega
  | N + 1 => counts_step (counts_to N)
end Go.Proofs.YtodbjnngkonklaaGreat

namespace Go.Proofs.YtodbjnngkonklaaGreat
open Go.RowKit
set_option linter.unusedVariables false
set_option linter.unusedSimpArgs false
set_option maxRecDepth 100000
attribute [local simp] List.getElem?_cons_zero
attribute [local irreducible] awCond awCall awLoop awDraw ow retQ retC resQ Keeps
def byteR : RecV Int 1 := ⟨fun n => [.int .u8 n], fun _ => rfl⟩
theorem cellsL_byte (l : List Int) : cellsL byteR l = l.map (.int .u8) := by
  induction l with
  | nil => rfl
  | cons a l ih => rw [cellsL_cons, ih]; rfl
def bstr (l : List Int) : ByteArray := ⟨(l.map fun n => UInt8.ofNat n.toNat).toArray⟩
theorem mapM_byte : ∀ (l : List Int), (cellsL byteR l).mapM byteV = some (l.map fun n => UInt8.ofNat n.toNat)
  | [] => rfl
  | a :: l => by
    rw [cellsL_cons, show byteR.row a ++ cellsL byteR l = .int .u8 a :: cellsL byteR l from rfl, List.mapM_cons, mapM_byte l]
    rfl
theorem byte_one (l : List Int) : (cellsL byteR l).all (fun u => u.oneCell') = true := by
  rw [cellsL_byte, List.all_map, List.all_eq_true]
  exact fun x _ => rfl
theorem acc_str {P : Program} {S : St} {src dst e : TypeId} {B by_ : Nat} {u : Value} {l : List Int} {K : Value → Mem → Prop} (hA : Acc byteR e B S.M u l) (h1 : P.underlying dst = some .string) (h2 : qSlice P src = some (e, 1, by_)) (h3 : P.underlying e = some (.int .u8)) (hK : K (.string (bstr l)) S.M) : b2sK P S K src dst u := by
  obtain ⟨A, n, c, rfl, hl, hA⟩ := hA
  subst hl
  refine ⟨h1, ow_iff.2 ⟨_, h2, h3, rfl, ?_⟩⟩
  rcases hA with ⟨rfl, h0, rfl⟩ | ⟨id, t, rfl, hid, hr⟩
  · obtain rfl := List.eq_nil_of_length_eq_zero h0
    exact ⟨⟨rfl, rfl⟩, hK⟩
  · have e : cellsAt S.M id 0 l.length = some (cellsL byteR l) := by
      unfold cellsAt
      rw [hr]
      simp only
      rw [if_pos (by rw [cellsL_len]; omega), List.drop_zero, List.take_of_length_le (by rw [cellsL_len]; omega)]
    exact ow_iff.2 ⟨_, e, ow_iff.2 ⟨_, mapM_byte l, hK⟩⟩

/-- A number's text. -/
def decI (n : Int) : List Int := (Lib.itoa n).map fun c => (c.toNat : Int)
def decS (n : Int) : ByteArray := ⟨(Lib.itoa n).toArray⟩
theorem ofNat_back (c : UInt8) : UInt8.ofNat ((c.toNat : Int)).toNat = c := by simp
theorem bstr_back (l : List UInt8) : bstr (l.map fun c => (c.toNat : Int)) = ⟨l.toArray⟩ := by
  unfold bstr
  rw [List.map_map]
  congr 2
  have e : ((fun n : Int => UInt8.ofNat n.toNat) ∘ fun c : UInt8 => (c.toNat : Int)) = id := funext fun c => ofNat_back c
  rw [e, List.map_id]
theorem bstr_dec (n : Int) : bstr (decI n) = decS n := bstr_back _
theorem decS_size (n : Int) (h0 : -9223372036854775808 ≤ n) (h1 : n ≤ 9223372036854775807) : (decS n).size ≤ 21 := by
  have := Lib.itoa_length_le n h0 h1
  simpa [decS, ByteArray.size] using this
/-- The digits of a number; none of 0. -/
def digI (u : Nat) : List Int := if u = 0 then [] else (Lib.decDigits u).map fun c => (c.toNat : Int)
theorem digit_back (d : Nat) (h : d < 10) : ((UInt8.ofNat (48 + d)).toNat : Int) = 48 + d := by
  have : (48 + d) % 256 = 48 + d := Nat.mod_eq_of_lt (by omega)
  simp [this]
theorem digI_step {u : Nat} (h : 0 < u) : digI u = digI (u / 10) ++ [((48 + u % 10 : Nat) : Int)] := by
  unfold digI
  rw [if_neg (by omega), Lib.decDigits]
  by_cases h10 : u < 10
  · rw [dif_pos h10, if_pos (by omega)]
    have e : u % 10 = u := Nat.mod_eq_of_lt h10
    simp only [List.map_cons, List.map_nil, List.nil_append, e, digit_back u h10]
    simp
  · rw [dif_neg h10, if_neg (by omega), List.map_append]
    simp only [List.map_cons, List.map_nil, digit_back (u % 10) (Nat.mod_lt _ (by omega))]
    simp
theorem decI_pos {u : Nat} (h : 0 < u) : decI (u : Int) = digI u := by
  unfold decI digI
  rw [Lib.itoa_nonneg, if_neg (by omega)]
theorem decI_neg {u : Nat} (h : 0 < u) : decI (-(u : Int)) = 45 :: digI u := by
  unfold decI digI
  rw [Lib.itoa_neg u h, if_neg (by omega)]
  rfl
theorem decI_zero : decI 0 = [48] := by
  have e : Lib.itoa 0 = [48] := by
    have := Lib.itoa_nonneg 0
    simp only [Int.natCast_zero] at this
    rw [this, Lib.decDigits_one (by omega)]
    rfl
  simp [decI, e]
theorem bstr_app (k l : List Int) : bstr (k ++ l) = bstr k ++ bstr l := by
  simp [bstr, ByteArray.ext_iff]
end Go.Proofs.YtodbjnngkonklaaGreat

namespace Go.Proofs.YtodbjnngkonklaaGreat
open Go.RowKit
set_option linter.unusedVariables false
set_option linter.unusedSimpArgs false
set_option maxRecDepth 100000
attribute [local simp] List.getElem?_cons_zero
attribute [local irreducible] awCond awCall awLoop awDraw ow retQ retC resQ Keeps
theorem wrap_u8 {x : Int} (h1 : 0 ≤ x) (h2 : x ≤ 255) : IntKind.u8.wrap x = x := by
  have e : (2 : Int) ^ IntKind.u8.bits = 256 := by decide
  have e2 : IntKind.u8.signed = false := rfl
  simp only [IntKind.wrap, e, e2]
  simp
  omega
/-- At most f bytes, from p on. -/
theorem fill_byte {z : Value} {kd : IntKind} {n : Int} : Instr.fill (fun i => some (i, 1)) (zrow [z] 1).toArray [(0, .int kd n)] = some #[.int kd n] := by
  have := fill_int (z := z) (kd := kd) (n := n)
  simpa using this





theorem tmod_ten (q : Int) : q.tmod 10 = if 0 ≤ q then ((q.natAbs % 10 : Nat) : Int) else -((q.natAbs % 10 : Nat) : Int) := by
  split
  · rename_i h
    obtain ⟨c, rfl⟩ := Int.eq_ofNat_of_zero_le h
    rw [Int.tmod_eq_emod_of_nonneg (by omega)]
    simp
  · rename_i h
    obtain ⟨c, rfl⟩ : ∃ c : Nat, q = -(c : Int) := ⟨q.natAbs, by omega⟩
    rw [Int.neg_tmod, Int.tmod_eq_emod_of_nonneg (by omega)]
    simp
theorem tdiv_ten (q : Int) : (q.tdiv 10).natAbs = q.natAbs / 10 := by
  by_cases h : 0 ≤ q
  · obtain ⟨c, rfl⟩ := Int.eq_ofNat_of_zero_le h
    rw [Int.tdiv_eq_ediv_of_nonneg (by omega)]
    omega
  · obtain ⟨c, rfl⟩ : ∃ c : Nat, q = -(c : Int) := ⟨q.natAbs, by omega⟩
    rw [Int.neg_tdiv, Int.tdiv_eq_ediv_of_nonneg (by omega)]
    omega
set_option maxHeartbeats 1600000 in
theorem l01Dec_c {M : Mem} (n : Int) (h0 : -9223372036854775808 ≤ n) (h1 : n ≤ 9223372036854775807) : Ctr Tryz.prog M.length 118 [iv n] M fun v M' => v = .string (decS n) ∧ Keeps M M' := by
  first | (refine ctr_fn Tryz.func118 rfl Tryz.ntmps118 Tryz.results118 rfl rfl (by simp) ?_) | (refine ctr_fnC Tryz.func118 rfl Tryz.ntmps118 Tryz.results118 rfl (by simp) ?_)
  simp
  refine awLoop_T (fun m T M' => ∃ (q : Int) (l : List Int) (u : Value), Keeps M M' ∧ q.natAbs < 10 ^ m ∧ (-9223372036854775808 ≤ q ∧ q ≤ 9223372036854775807) ∧ l.length + m ≤ 19 ∧ digI n.natAbs = digI q.natAbs ++ l ∧ Acc byteR 5 M.length M' u l ∧ look T 4 = some (iv q) ∧ look T 3 = some u ∧ look T 0 = some (iv n)) 19 ⟨n, [], .slice (some ⟨M.length, 0, none⟩) 0 0, keeps_app _, by omega, ⟨h0, h1⟩, by simp, by simp, ⟨some ⟨M.length, 0, none⟩, 0, 0, rfl, by simp, .inr ⟨M.length, true, rfl, Nat.le_refl _, by simp [cellsL_byte]⟩⟩, by simp, by simp, by simp⟩ ?_
  rintro m T M' ⟨q, l, u, hK, hq, hqn, hl, hv, hA, h4, h3, h0'⟩
  have hKl := hK.len
  by_cases hz : q = 0
  · subst hz
    have hv' : digI n.natAbs = l := by rw [hv]; simp [digI]
    clear hv
    obtain ⟨A, nn, c, rfl, hln, -⟩ := id hA
    subst hln
    by_cases hn0 : n = 0
    · subst hn0
      have hl0 : l = [] := by rw [← hv']; rfl
      subst hl0
      simp (disch := omega) [h4, h3]
      refine ⟨?_, hK⟩
      rw [← bstr_dec, decI_zero]
      rfl
    · have hln : l.length ≠ 0 := by
        intro e
        have hl0 := List.eq_nil_of_length_eq_zero e
        subst hl0
        have hs := digI_step (u := n.natAbs) (by omega)
        rw [hv'] at hs
        have := congrArg List.length hs
        simp at this
      have hln' : ¬ (l.length : Int) = 0 := by omega
      by_cases hneg : n < 0
      · simp (disch := omega) [h4, h3, h0', hln, hln', hneg]
        refine acc_str (by_ := 1) (by exact hA) Tryz.underlying9 (by simp) Tryz.underlying5 ?_
        have hsz : (bstr l).size = l.length := by simp [bstr, ByteArray.size]
        have hsz1 : (⟨#[45]⟩ : ByteArray).size = 1 := rfl
        have hcc : ((⟨#[45]⟩ : ByteArray).size + (bstr l).size : Nat) ≤ 9223372036854775807 := by omega
        have hcc' : ¬ (((⟨#[45]⟩ : ByteArray).size + (bstr l).size : Nat) : Int) > IntKind.i64.max := by show ¬ _ > (9223372036854775807 : Int); omega
        simp only [strV, binV_str, hcc', if_false]
        simp
        refine ⟨?_, hK⟩
        obtain ⟨c0, rfl⟩ : ∃ c0 : Nat, n = -(c0 : Int) := ⟨n.natAbs, by omega⟩
        have e : (-(c0 : Int)).natAbs = c0 := by omega
        rw [e] at hv'
        rw [← bstr_dec, decI_neg (by omega), hv', show (45 :: l) = [45] ++ l from rfl, bstr_app]
        rfl
      · simp (disch := omega) [h4, h3, h0', hln, hln', hneg]
        refine acc_str (by_ := 1) (by exact hA) Tryz.underlying9 (by simp) Tryz.underlying5 ?_
        simp
        refine ⟨?_, hK⟩
        obtain ⟨c0, rfl⟩ : ∃ c0 : Nat, n = (c0 : Int) := ⟨n.natAbs, by omega⟩
        have e : (c0 : Int).natAbs = c0 := by omega
        rw [e] at hv'
        rw [← bstr_dec, decI_pos (by omega), hv']
  · obtain ⟨m, rfl⟩ : ∃ m', m = m' + 1 := ⟨m - 1, by rcases m with _ | m <;> simp at hq ⊢; omega⟩
    have hq0 : 0 < q.natAbs := by omega
    have hqb := hqn
    have hs := digI_step hq0
    have ht := tmod_ten q
    have hr : q.natAbs % 10 < 10 := Nat.mod_lt _ (by omega)
    obtain ⟨r, hr'⟩ : ∃ r : Nat, r = q.natAbs % 10 := ⟨_, rfl⟩
    rw [← hr'] at ht hs hr
    have hqd := tdiv_ten q
    have hdb : -9223372036854775808 ≤ q.tdiv 10 ∧ q.tdiv 10 ≤ 9223372036854775807 := by omega
    have hdg : digI n.natAbs = digI (q.tdiv 10).natAbs ++ ([((48 + r : Nat) : Int)] ++ l) := by rw [hv, hs, hqd, List.append_assoc]
    have hlt : (q.tdiv 10).natAbs < 10 ^ m := by rw [hqd]; rw [Nat.pow_succ] at hq; omega
    by_cases hp : 0 ≤ q
    · rw [if_pos hp] at ht
      have hnl : ¬ (r : Int) < 0 := by omega
      simp (disch := omega) [h4, h3, h0', hz, ht, hnl, wrap_in, wrap_u8, fill_byte]
      refine Acc.extend (R := byteR) (e := 5) (by_ := 1) (B := M.length) (l := [((48 + r : Nat) : Int)]) (ls := l) ⟨some ⟨M'.length, 0, none⟩, 1, 1, rfl, rfl, .inr ⟨M'.length, true, rfl, hKl, by simp [cellsL_byte]⟩⟩ (Nat.le_refl _) (by simp; omega) (by simp) (by kernel_rfl) ((hA.keeps (keeps_app _)).src ⟨_, Tryz.underlying22⟩) (byte_one _) (by simp; omega) (by unfold maxLen; simp; omega) ?_
      intro v2 M2 hA2 hS2
      have hK2 := hS2.keeps (hK.app _) (Nat.le_refl _)
      refine lpI m (by omega) ?_
      exact ⟨q.tdiv 10, _, v2, hK2, hlt, hdb, by simp; omega, hdg, hA2, by simp, by simp, by simp [h0']⟩
    · rw [if_neg hp] at ht
      by_cases hr0 : r = 0
      · subst hr0
        simp only [Int.natCast_zero, Int.neg_zero] at ht
        simp (disch := omega) [h4, h3, h0', hz, ht, wrap_in, wrap_u8, fill_byte]
        refine Acc.extend (R := byteR) (e := 5) (by_ := 1) (B := M.length) (l := [((48 + 0 : Nat) : Int)]) (ls := l) ⟨some ⟨M'.length, 0, none⟩, 1, 1, rfl, rfl, .inr ⟨M'.length, true, rfl, hKl, by simp [cellsL_byte]⟩⟩ (Nat.le_refl _) (by simp; omega) (by simp) (by kernel_rfl) ((hA.keeps (keeps_app _)).src ⟨_, Tryz.underlying22⟩) (byte_one _) (by simp; omega) (by unfold maxLen; simp; omega) ?_
        intro v2 M2 hA2 hS2
        have hK2 := hS2.keeps (hK.app _) (Nat.le_refl _)
        refine lpI m (by omega) ?_
        exact ⟨q.tdiv 10, _, v2, hK2, hlt, hdb, by simp; omega, hdg, hA2, by simp, by simp, by simp [h0']⟩
      · have hnl : 0 < r := by omega
        simp (disch := omega) [h4, h3, h0', hz, ht, hnl, wrap_in, wrap_u8, fill_byte]
        refine Acc.extend (R := byteR) (e := 5) (by_ := 1) (B := M.length) (l := [((48 + r : Nat) : Int)]) (ls := l) ⟨some ⟨M'.length, 0, none⟩, 1, 1, rfl, rfl, .inr ⟨M'.length, true, rfl, hKl, by simp [cellsL_byte]⟩⟩ (Nat.le_refl _) (by simp; omega) (by simp) (by kernel_rfl) ((hA.keeps (keeps_app _)).src ⟨_, Tryz.underlying22⟩) (byte_one _) (by simp; omega) (by unfold maxLen; simp; omega) ?_
        intro v2 M2 hA2 hS2
        have hK2 := hS2.keeps (hK.app _) (Nat.le_refl _)
        refine lpI m (by omega) ?_
        exact ⟨q.tdiv 10, _, v2, hK2, hlt, hdb, by simp; omega, hdg, hA2, by simp, by simp, by simp [h0']⟩
theorem l01Dec_a {M : Mem} (n : Int) (h0 : -9223372036854775808 ≤ n) (h1 : n ≤ 9223372036854775807) : Det Tryz.prog M.length 118 [iv n] M (.string (decS n)) M := (l01Dec_c n h0 h1).pure rfl
end Go.Proofs.YtodbjnngkonklaaGreat

namespace Go.Proofs.YtodbjnngkonklaaGreat
open Go.RowKit
set_option linter.unusedVariables false
set_option linter.unusedSimpArgs false
set_option maxRecDepth 100000
attribute [local simp] List.getElem?_cons_zero
attribute [local irreducible] awCond awCall awLoop awDraw ow retQ retC resQ Keeps
def repB (s : ByteArray) (c : Nat) : ByteArray := ⟨(Lib.repeatL s.data.toList c).toArray⟩
theorem str_addX {x y : ByteArray} (h : x.size + y.size ≤ 9223372036854775807) : strV .add x y = some (.string (x ++ y)) := by
  have e : IntKind.i64.max = 9223372036854775807 := rfl
  simp only [strV, e]
  rw [if_neg (by omega)]
theorem repB_zero (s : ByteArray) : repB s 0 = ⟨#[]⟩ := rfl
theorem repL_succ (l : List UInt8) : ∀ k, Lib.repeatL l (k + 1) = Lib.repeatL l k ++ l
  | 0 => by simp [Lib.repeatL]
  | k + 1 => by
    have h1 := repL_succ l k
    show l ++ Lib.repeatL l (k + 1) = (l ++ Lib.repeatL l k) ++ l
    rw [h1, List.append_assoc]
theorem repB_succ (s : ByteArray) (k : Nat) : repB s (k + 1) = repB s k ++ s := by
  unfold repB
  rw [repL_succ]
  apply ByteArray.ext
  apply Array.ext'
  simp [ByteArray.data_append]
theorem repB_size (s : ByteArray) : ∀ k, (repB s k).size = k * s.size
  | 0 => by rw [repB_zero, Nat.zero_mul]; rfl
  | k + 1 => by rw [repB_succ, ByteArray.size_append, repB_size s k, Nat.add_mul, Nat.one_mul]









set_option maxHeartbeats 1000000 in
theorem l16Times_s {M : Mem} (s : ByteArray) (n : Int) (h1 : -100 ≤ n ∧ n ≤ 100) (hs : s.size ≤ 1000) : Det Tryz.prog M.length 120 [.string s, iv n] M (.string (repB s n.toNat)) M := by
  first | (refine det_fn Tryz.func120 rfl Tryz.ntmps120 Tryz.results120 rfl rfl rfl (by simp) ?_) | (refine det_fnC Tryz.func120 rfl Tryz.ntmps120 Tryz.results120 rfl rfl (by simp) ?_)
  simp
  refine awLoop_T (fun m T M' => ∃ k : Nat, k + m = n.toNat ∧ M' = M ∧ look T 5 = some (.string (repB s k)) ∧ look T 0 = some (.string s) ∧ look T 1 = some (iv (if k = 0 then n else (m : Int)))) n.toNat ⟨0, by omega, rfl, by simp [repB_zero], by simp, by simp⟩ ?_
  rintro m T M' ⟨k, hm, rfl, t5, t0, t1⟩
  have hsz := repB_size s k
  have hks : k * s.size ≤ 100 * 1000 := Nat.mul_le_mul (by omega) hs
  rcases m with _ | m
  · obtain ⟨y, hy⟩ : ∃ y, y = (if k = 0 then n else ((0 : Nat) : Int)) := ⟨_, rfl⟩
    have hn0 : ¬ 0 < y := by rw [hy]; split <;> omega
    have hk : k = n.toNat := by omega
    rw [← hy] at t1
    simp (disch := omega) [t5, t0, t1, hn0, hk, Keeps.refl]
  · have hv : (if k = 0 then n else ((m + 1 : Nat) : Int)) = (m : Int) + 1 := by split <;> omega
    rw [hv] at t1
    have hp : (0 : Int) < (m : Int) + 1 := by omega
    simp (disch := omega) [t5, t0, t1, hp, wrap_in, str_addX]
    refine lpI m (by omega) ⟨k + 1, by omega, rfl, by simp [repB_succ], by simp [t0], by simp⟩
end Go.Proofs.YtodbjnngkonklaaGreat
