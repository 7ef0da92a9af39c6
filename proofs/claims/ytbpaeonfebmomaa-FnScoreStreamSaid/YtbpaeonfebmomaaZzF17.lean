/- Parts of the proof, together: The reference's score out of events. ScoreOfStream at the level of laws. A score is restored from its events, in plain words. A score out of its events; divisions. Whether two scores are the same. No conditions. -/
import Derived.Test.YtbpaeonfebmomaaZzF16
import Derived.Test.YtbpaeonfebmomaaZzF14
import Derived.Test.YtbpaeonfebmomaaZzF12
import Derived.Test.YtbpaeonfebmomaaZzF10
import Derived.Test.YtbpaeonfebmomaaZzF9
namespace Go.Proofs.Ytbpaeonfebmomaa
open Go.RowKit
set_option linter.unusedVariables false
set_option linter.unusedSimpArgs false
set_option maxRecDepth 100000
attribute [local simp] List.getElem?_cons_zero
attribute [local irreducible] awCond awCall awLoop awDraw ow retQ retC resQ Keeps
/-- Two values that lie in rows apart. -/
def Sep (u v : Value) : Prop := ∀ (A B : Option Addr) (n c m d : Nat) (a b : Addr), u = .slice A n c → v = .slice B m d → A = some a → B = some b → a.block ≠ b.block
theorem Sep.symm {u v : Value} (h : Sep u v) : Sep v u := fun A B n c m d a b e1 e2 e3 e4 => Ne.symm (h _ _ _ _ _ _ _ _ e2 e1 e4 e3)
section
variable {α β : Type} {k k' : Nat} {R : RecV α k} {R' : RecV β k'} {e e' : TypeId} {B B' : Nat} {M M' : Mem} {u v v' : Value} {l : List α} {l2 : List β}
/-- A list that another one's growth leaves. -/
theorem Acc.aside (h2 : Acc R' e' B' M u l2) (hs : Sep v u) (hap : ∀ (i : Nat) s, Apart v i → M[i]? = some s → M'[i]? = some s ∧ Apart v' i) : Acc R' e' B' M' u l2 ∧ Sep v' u := by
  obtain ⟨A, n, c, rfl, hl, hA⟩ := h2
  rcases hA with ⟨rfl, hn, hc⟩ | ⟨id, t, rfl, hid, hr⟩
  · exact ⟨⟨none, n, c, rfl, hl, .inl ⟨rfl, hn, hc⟩⟩, fun A B n c m d a b e1 e2 e3 e4 => by injection e2 with e2; subst e2; cases e4⟩
  · obtain ⟨g1, g2⟩ := hap id _ (fun A n c a e1 e2 => Ne.symm (hs _ _ _ _ _ _ _ _ e1 rfl e2 rfl)) hr
    refine ⟨⟨_, n, c, rfl, hl, .inr ⟨id, t, rfl, hid, g1⟩⟩, fun A B n c m d a b e1 e2 e3 e4 => ?_⟩
    injection e2 with e2
    subst e2
    injection e4 with e4
    subst e4
    exact Ne.symm (g2 _ _ _ _ e1 e3)
theorem Acc.sep_new (h1 : Acc R e B M' v l) (h2 : Acc R' e' B' M u l2) (hb : M.length ≤ B) : Sep v u := by
  obtain ⟨A, n, c, rfl, hl, hA⟩ := h1
  obtain ⟨A2, n2, c2, rfl, hl2, hA2⟩ := h2
  intro A B n c m d a b e1 e2 e3 e4
  injection e1 with e1
  injection e2 with e2
  subst e1; subst e2
  rcases hA with ⟨rfl, -⟩ | ⟨id, t, rfl, hid, hr⟩
  · cases e3
  rcases hA2 with ⟨rfl, -⟩ | ⟨id2, t2, rfl, hid2, hr2⟩
  · cases e4
  injection e3 with e3
  injection e4 with e4
  subst e3; subst e4
  have := (List.getElem?_eq_some_iff.1 hr2).1
  show id ≠ id2
  omega
/-- A list below what has turned. -/
theorem Acc.low_same (h2 : Acc R' e' B' M u l2) (hs : Same M.length M M') : Acc R' e' B' M' u l2 := by
  obtain ⟨A, n, c, rfl, hl, hA⟩ := h2
  refine ⟨A, n, c, rfl, hl, ?_⟩
  rcases hA with hA | ⟨id, t, rfl, hid, hr⟩
  · exact .inl hA
  · exact .inr ⟨id, t, rfl, hid, hs.2 id _ (List.getElem?_eq_some_iff.1 hr).1 hr⟩
end
theorem sep_new0 {i j n c m d : Nat} (h : i ≠ j) : Sep (.slice (some ⟨i, 0, none⟩) n c) (.slice (some ⟨j, 0, none⟩) m d) := by
  intro A B n c m d a b e1 e2 e3 e4
  injection e1 with e1
  injection e2 with e2
  subst e1; subst e2
  injection e3 with e3
  injection e4 with e4
  subst e3; subst e4
  exact h
def opN (x : Opn) : Note := ⟨0, 0, 0, 0, x.k, x.u, x.o⟩
set_option maxHeartbeats 4000000 in
theorem n_build3 (a b c : Int) : Instr.fill (fun x => [(0, 2), (2, 2), (4, 1), (5, 1), (6, 1)][x]?) #[iv 0, iv 0, iv 0, iv 0, iv 0, iv 0, iv 0] [(4, iv a), (2, iv b), (3, iv c)] = some #[iv 0, iv 0, iv 0, iv 0, iv b, iv c, iv a] := by kernel_rfl
theorem fill_oneI (x : Int) : Instr.fill (fun i => some (i, 1)) (zrow [iv 0] 1).toArray [(0, iv x)] = some #[iv x] := by rfl
theorem int_one (x : Int) : (intR.row x).all (fun u => u.oneCell') = true := by rfl
theorem Sl.takeX {α : Type} {k : Nat} {R : RecV α k} {M : Mem} {id off n m : Nat} {l : List α} (h : Sl R M (some ⟨id, off, none⟩) n l) (hm : m ≤ n) : Sl R M (some ⟨id, off, none⟩) m (l.take m) := by
  refine ⟨by rw [List.length_take, h.1]; omega, fun hp => ?_⟩
  obtain ⟨_, _, e, he, hc⟩ := h.2 (by omega)
  cases e
  refine ⟨id, off, rfl, he, fun j x hx => hc j x ?_⟩
  rw [cellsL_take] at hx
  rw [List.getElem?_take] at hx
  split at hx
  · exact hx
  · cases hx
theorem Sl.dropX {α : Type} {k : Nat} {R : RecV α k} {M : Mem} {id off n m : Nat} {l : List α} (h : Sl R M (some ⟨id, off, none⟩) n l) (hm : m ≤ n) : Sl R M (some ⟨id, off + m * k, none⟩) (n - m) (l.drop m) := by
  refine ⟨by rw [List.length_drop, h.1], fun hp => ?_⟩
  obtain ⟨_, _, e, he, hc⟩ := h.2 (by omega)
  cases e
  refine ⟨id, off + m * k, rfl, he, fun j x hx => ?_⟩
  rw [cellsL_drop, List.getElem?_drop] at hx
  rw [Nat.add_assoc]
  exact hc _ x hx
/-- What is appended to an empty row, told exactly. -/
theorem append_empty {α : Type} {k : Nat} {P : Program} {R : RecV α k} {e t tx : TypeId} {b by_ id : Nat} {S : St} {x : Value} {ls : List α} {K : Value → Mem → Prop} (hr : S.M[id]? = some (.live ⟨[], true, true, e, k⟩)) (hq : qSlice P t = some (e, k, by_))
    (hz : (P.info? e).any (fun i => i.zero.any fun z => z.cells.size == k) = true) (hs : srcOf P S.M k tx x = some (ls.length, cellsL R ls)) (h1 : (cellsL R ls).all (fun u => u.oneCell') = true) (hn : ls.length * by_ ≤ 140737488355328) (hm : ls.length ≤ maxLen)
    (hK : ∀ v N, (ls = [] → v = .slice (some ⟨id, 0, none⟩) 0 0 ∧ N = []) → (ls ≠ [] → v = .slice (some ⟨S.M.length, 0, none⟩) ls.length ls.length ∧ N = [.live ⟨cellsL R ls, true, false, e, k⟩]) → K v (S.M ++ N)) : appendK P b S K t tx (.slice (some ⟨id, 0, none⟩) 0 0) x := by
  unfold appendK
  rw [hq]
  simp only [ow_some]
  rw [hs]
  simp only [ow_some, hr]
  refine ⟨hz, h1, ⟨trivial, by simp, trivial, trivial⟩, by simpa using hn, by simpa using hm, fun h => ?_, fun h => ?_⟩
  · have := hK (.slice (some ⟨id, 0, none⟩) 0 0) [] (fun _ => ⟨rfl, rfl⟩) (fun hh => absurd (List.eq_nil_of_length_eq_zero h) hh)
    simpa using this
  · have := hK (.slice (some ⟨S.M.length, 0, none⟩) ls.length ls.length) [.live ⟨cellsL R ls, true, false, e, k⟩] (fun hh => by rw [hh] at h; exact absurd rfl h) (fun _ => ⟨rfl, rfl⟩)
    simpa using this
theorem cells_oneG {α : Type} {k : Nat} {R : RecV α k} (h : ∀ x, (R.row x).all (fun u => u.oneCell') = true) : ∀ l : List α, (cellsL R l).all (fun u => u.oneCell') = true
  | [] => rfl
  | a :: l => by rw [cellsL_cons, List.all_append, h a, cells_oneG h l]; rfl
/-- The reference's copy of numbers, told exactly. -/
theorem l00Own_d {M : Mem} {id off n c : Nat} {l : List Int} (h : Sl intR M (some ⟨id, off, none⟩) n l) (hn : n ≤ 1000) : ∃ v N, Det Try.prog M.length 43 [.slice (some ⟨id, off, none⟩) n c] M v (M ++ N) ∧ Acc intR 2 M.length (M ++ N) v l := by
  have hl := h.1
  have key : ∃ (v : Value) (N : List Slot), (l = [] → v = .slice (some ⟨M.length, 0, none⟩) 0 0 ∧ N = []) ∧ (l ≠ [] → v = .slice (some ⟨M.length + 1, 0, none⟩) l.length l.length ∧ N = [.live ⟨cellsL intR l, true, false, 2, 1⟩]) := by
    by_cases e : l = []
    · exact ⟨_, _, fun _ => ⟨rfl, rfl⟩, fun h => absurd e h⟩
    · exact ⟨_, _, fun h => absurd h e, fun _ => ⟨rfl, rfl⟩⟩
  obtain ⟨v, N, hv1, hv2⟩ := key
  refine ⟨v, .live ⟨[], true, true, 2, 1⟩ :: N, ?_, ?_⟩
  · refine Ctr.det ?_
    first | (refine ctr_fn Try.func43 rfl Try.ntmps43 Try.results43 rfl rfl (by simp) ?_) | (refine ctr_fnC Try.func43 rfl Try.ntmps43 Try.results43 rfl (by simp) ?_)
    simp
    refine append_empty (R := intR) (e := 2) (ls := l) (by_ := 8) (by simp) (by kernel_rfl) (by kernel_rfl) ((h.app _).src (by omega) ⟨_, Try.underlying63⟩) (cells_oneG int_one _) (by omega) (by unfold maxLen; omega) ?_
    intro v2 N2 h1 h2
    by_cases e : l = []
    · obtain ⟨rfl, rfl⟩ := hv1 e
      obtain ⟨rfl, rfl⟩ := h1 e
      simp
    · obtain ⟨rfl, rfl⟩ := hv2 e
      obtain ⟨rfl, rfl⟩ := h2 e
      simp
  · by_cases e : l = []
    · obtain ⟨rfl, rfl⟩ := hv1 e
      exact ⟨_, 0, 0, rfl, by simp [e], .inr ⟨M.length, true, rfl, Nat.le_refl _, by rw [e]; simp [cellsL]⟩⟩
    · obtain ⟨rfl, rfl⟩ := hv2 e
      exact ⟨_, _, _, rfl, rfl, .inr ⟨M.length + 1, false, rfl, by omega, by simp⟩⟩
def fndI (os : List Opn) (e : StreamEvent) : Int := match fndO os e with
  | some i => (i : Int)
  | none => -1
theorem fndI_nil (e : StreamEvent) : fndI [] e = -1 := rfl
theorem fndI_step {os : List Opn} {e : StreamEvent} {j : Nat} (hk : os.Pairwise fun x y => ¬ (x.o = y.o ∧ x.k = y.k)) (hj : j < os.length) : fndI (os.take (j + 1)) e = if (el os j).o = e.o ∧ (el os j).k = e.k then (j : Int) else fndI (os.take j) e := by
  have e1 : os.take (j + 1) = os.take j ++ [el os j] := take_el hj
  unfold fndI
  by_cases h : (el os j).o = e.o ∧ (el os j).k = e.k
  · rw [if_pos h, e1]
    have hn : fndO (os.take j) e = none := by
      unfold fndO
      rw [List.findIdx?_eq_none_iff]
      intro x hx
      obtain ⟨q, hq, rfl⟩ := List.getElem_of_mem hx
      rw [List.length_take] at hq
      rw [List.getElem_take]
      have := List.pairwise_iff_getElem.1 hk q j (by omega) hj (by omega)
      cases hb : (os[q]'(by omega)).is e with
      | false => rfl
      | true =>
        have hb := Opn.is_iff.1 hb
        rw [el_eq hj] at this
        exact absurd ⟨hb.1.trans h.1.symm, hb.2.trans h.2.symm⟩ this
    unfold fndO at hn ⊢
    rw [List.findIdx?_append, hn]
    have hb : (el os j).is e = true := Opn.is_iff.2 h
    simp [List.findIdx?_cons, hb]
    omega
  · rw [if_neg h, e1]
    have hb : (el os j).is e = false := by
      cases hb : (el os j).is e with
      | false => rfl
      | true => exact absurd (Opn.is_iff.1 hb) h
    unfold fndO
    rw [List.findIdx?_append]
    cases hf : (os.take j).findIdx? fun x => x.is e with
    | some i => simp
    | none => simp [List.findIdx?_cons, hb]
theorem opN_el {os : List Opn} {j : Nat} (h : j < os.length) : el (os.map opN) j = opN (el os j) := by
  simp [el, h]
set_option maxHeartbeats 2000000 in
theorem ScoreOfStream_s {M : Mem} {A : Option Addr} {n c : Nat} {l : List StreamEvent} (D : Int) (h : Sl streamEventR M A n l) (hn : n ≤ 1048576) :
    Ctr Try.prog M.length 15 [.slice A n c, iv D] M fun r M' => ScR M (sosV l D) r M' := by
  have hl := h.1
  first | (refine ctr_fn Try.func15 rfl Try.ntmps15 Try.results15 rfl rfl (by simp) ?_) | (refine ctr_fnC Try.func15 rfl Try.ntmps15 Try.results15 rfl (by simp) ?_)
  simp
  refine awCall_det' (l20Ok_a (h.app _) (by omega)) (by simp) ?_
  by_cases hok : okE l = true
  case neg =>
    simp at hok
    simp [hok]
    have e : sosV l D = ([], 1) := by unfold sosV; rw [if_pos hok]
    rw [e]
    exact ScR.no (keeps_app _)
  simp [hok]
  refine awCall_det' (l00In_a _ _ _) (by simp) ?_
  by_cases hd : inB D 1 960 = true
  case neg =>
    simp at hd
    simp [hd]
    have e : sosV l D = ([], 2) := by unfold sosV; rw [if_neg (by simp [hok]), if_pos hd]
    rw [e]
    exact ScR.no (keeps_app _)
  simp [hd]
  have hD := inB_iff.1 hd
  have h200 := okE_lenX hok
  have hall := fun i (hi : i < l.length) => okE_elX hok hi
  have hv0 : sosV l D = if (sosG D l 0 [] []).2 = 0 then (sortN (sosG D l 0 [] []).1, 0) else ([], (sosG D l 0 [] []).2) := by
    unfold sosV
    rw [if_neg (by simp [hok]), if_neg (by simp [hd])]
  refine awLoop_T (fun m T M' => ∃ (k : Nat) (v1 v2 v3 : Value) (now : Int) (os : List Opn) (ns : List Note), k + m = n ∧ Keeps M M' ∧ M'[M.length]? = some (.live ⟨[.slice none 0 0], true, true, 26, 1⟩) ∧
    Acc noteR 53 (M.length + 1) M' v1 (os.map opN) ∧ Acc intR 2 (M.length + 1) M' v2 (os.map (·.t)) ∧ Acc noteR 53 (M.length + 1) M' v3 ns ∧ Sep v1 v2 ∧ Sep v1 v3 ∧ Sep v2 v3 ∧
    InvO D now os ns ∧ (0 ≤ now ∧ now ≤ 268435455 * k) ∧ ns.length ≤ k ∧ os.length ≤ k ∧ sosG D l 0 [] [] = sosG D (l.drop k) now os ns ∧
    look T 10 = some (iv k) ∧ look T 9 = some (iv now) ∧ look T 8 = some v3 ∧ look T 7 = some v2 ∧ look T 6 = some v1 ∧ look T 5 = some (iv 0) ∧ look T 4 = some (.pointer (some ⟨M.length, 0, none⟩)) ∧ look T 0 = some (.slice A n c) ∧ look T 1 = some (iv D)) n
    ⟨0, _, _, _, 0, [], [], by omega, keeps_app _, by simp, ⟨_, 0, 0, rfl, rfl, .inr ⟨M.length + 1, true, rfl, by omega, by simp [cellsL]⟩⟩, ⟨_, 0, 0, rfl, rfl, .inr ⟨M.length + 2, true, rfl, by omega, by simp [cellsL]⟩⟩, ⟨_, 0, 0, rfl, rfl, .inr ⟨M.length + 3, true, rfl, by omega, by simp [cellsL]⟩⟩, sep_new0 (by omega), sep_new0 (by omega), sep_new0 (by omega), .nil D, by omega, by simp, by simp, by simp, by simp, by simp, by simp, by simp, by simp, by simp, by simp, by simp, by simp⟩ ?_
  rintro m T M1 ⟨k, v1, v2, v3, now, os, ns, hm, kM, hbox, hA1, hA2, hA3, s12, s13, s23, hI, hnow, hns, hos, hg, t10, t9, t8, t7, t6, t5, t4, t0, t1⟩
  have n1 := kM.len
  have hblt := (List.getElem?_eq_some_iff.1 hbox).1
  by_cases hlt : k < n
  case neg =>
    obtain rfl : k = n := by omega
    rw [List.drop_of_length_le (by omega)] at hg
    rw [sosG] at hg
    obtain ⟨A1, m1, c1, rfl, hm1, hS1, ho1⟩ := hA1.sl
    rw [List.length_map] at hm1
    subst hm1
    obtain ⟨A3, m3, c3, rfl, hm3, hS3, ho3⟩ := id hA3.sl
    subst hm3
    simp (disch := omega) [t10, t9, t8, t7, t6, t5, t4, t0, t1]
    by_cases h1 : os.length > 0
    · rw [if_pos h1] at hg
      simp (disch := omega) [t10, t9, t8, t7, t6, t5, t4, t0, t1, h1]
      refine end_box hbox rfl ?_
      rw [sos_err hv0 hg (by omega)]
      exact ScR.no (keeps_set kM (by omega))
    rw [if_neg h1] at hg
    simp (disch := omega) [t10, t9, t8, t7, t6, t5, t4, t0, t1, h1]
    by_cases h2 : ns.length > 60
    · rw [if_pos h2] at hg
      have h2' : (60 : Int) < ns.length := by omega
      simp (disch := omega) [t10, t9, t8, t7, t6, t5, t4, t0, t1, h2, h2']
      refine end_box hbox rfl ?_
      rw [sos_err hv0 hg (by omega)]
      exact ScR.no (keeps_set kM (by omega))
    rw [if_neg h2] at hg
    have h2' : ¬ (60 : Int) < ns.length := by omega
    simp (disch := omega) [t10, t9, t8, t7, t6, t5, t4, t0, t1, h2, h2']
    have hc3 : A3 = none → c3 = 0 := by
      intro e
      obtain ⟨_, _, _, e1, _, h3⟩ := hA3
      injection e1 with e1 e2 e3
      subst e1 e2 e3
      rcases h3 with h3 | ⟨id, t, h3, -⟩
      · exact h3.2.2
      · rw [e] at h3; cases h3
    refine awCall_ctr ((SortNotes_s (c := c3) hS3 (by omega) hc3 hI.ok hI.tw).weaken (by omega)) ?_
    rintro v3 M3 ⟨v0, rfl, ho, hk3⟩
    obtain ⟨A4, n4, c4, rfl, hrest⟩ := id ho
    simp (disch := omega) [t5, t4]
    refine end_box (hk3.get hbox) rfl ?_
    have e : sosV l D = (sortN ns, 0) := by
      rw [hv0, hg]
      simp
    rw [e]
    have hT : Turn M.length (M.length + 1) M3 (M3.set M.length (.live ⟨[.slice A4 n4 c4], true, true, 26, 1⟩)) := by
      refine ⟨by simp, fun i s hs hi => ?_⟩
      rw [List.getElem?_set_ne (by omega)]
      exact hs
    exact ⟨_, rfl, (ho.turn hT (.inr (by omega))).wide (by omega) (by simp), keeps_set (kM.trans hk3) (by omega)⟩
  have hlt' : (k : Int) < n := by omega
  obtain ⟨id, off, rfl, hz, hc⟩ := (h.keeps kM).at_ hlt
  obtain ⟨a0, a1, a2, a3, a4⟩ := streamEvent_cells hc
  have hev := hall k (by omega)
  have hdr : l.drop k = el l k :: l.drop (k + 1) := drop_el (by omega)
  rw [hdr] at hg
  have hevX := hev
  unfold eventB at hevX
  simp only [Bool.and_eq_true] at hevX
  obtain ⟨⟨⟨hb1, hb2⟩, hb3⟩, hbj⟩ := hevX
  have hb1 := inB_iff.1 hb1
  have hb2 := inB_iff.1 hb2
  have hb3 := inB_iff.1 hb3
  have hnl := h.1
  simp (disch := omega) [t10, t9, t8, t7, t6, t5, t4, t0, t1, hlt, hlt', hz, a0, wrap_in]
  obtain ⟨A1, m1, c1, rfl, hm1, hS1, ho1⟩ := hA1.sl
  rw [List.length_map] at hm1
  subst hm1
  obtain ⟨A2, m2, c2, rfl, hm2, hS2, ho2⟩ := hA2.sl
  rw [List.length_map] at hm2
  subst hm2
  refine awLoop_T (fun m2 T M' => ∃ j : Nat, j + m2 = os.length ∧ M' = M1 ∧ look T 13 = some (iv j) ∧ look T 12 = some (iv (fndI (os.take j) (el l k))) ∧ look T 11 = some (.pointer (some ⟨id, off + k * 5, none⟩)) ∧ look T 10 = some (iv k) ∧ look T 9 = some (iv (now + (el l k).d)) ∧ look T 8 = some v3 ∧ look T 7 = some (.slice A2 os.length c2) ∧ look T 6 = some (.slice A1 os.length c1) ∧ look T 5 = some (iv 0) ∧ look T 4 = some (.pointer (some ⟨M.length, 0, none⟩)) ∧ look T 0 = some (.slice (some ⟨id, off, none⟩) n c) ∧ look T 1 = some (iv D)) os.length
    ⟨0, by omega, rfl, by simp, by simp [fndI_nil], by simp, by simp [t10], by simp, by simp [t8], by simp [t7], by simp [t6], by simp [t5], by simp [t4], by simp [t0], by simp [t1]⟩ ?_
  rintro m2 T M1 ⟨j, hm2, rfl, u13, u12, u11, u10, u9, u8, u7, u6, u5, u4, u0, u1⟩
  by_cases hj : j < os.length
  · have hj' : (j : Int) < os.length := by omega
    obtain ⟨id2, off2, rfl, hz2, hc2⟩ := hS1.at_ hj
    obtain ⟨g0, g1, g2, g3, g4, g5, g6⟩ := note_cells hc2
    rw [opN_el hj] at g4 g6
    simp (disch := omega) [u13, u12, u11, u10, u9, u8, u7, u6, u5, u4, u0, u1, hj, hj', hz2]
    refine awDraw_E 20 [[],[],[0,1],[2,0,1],[3,2,0,1],[],[5],[6,5],[7,6,5],[4,3,2,0,1,8,7,6,5],[9,4,3,2,0,1,8,7,6,5],[10,9,4,3,2,0,1,8,7,6,5],[10,9,4,3,2,0,1,8,7,6,5],[11,10,9,4,3,2,0,1,8,7,6,5,12],[13,11,10,9,4,3,2,0,1,8,7,6,5,12],[14,13,11,10,9,4,3,2,0,1,8,7,6,5,12],[10,9,4,3,2,0,1,8,7,6,5],[16,10,9,4,3,2,0,1,8,7,6,5],[17,16,10,9,4,3,2,0,1,8,7,6,5],[18,17,16,10,9,4,3,2,0,1,8,7,6,5],[15,14,13,11,10,9,4,3,2,0,1,8,7,6,5,12,19,18,17,16],[10,9,4,3,2,0,1,8,7,6,5,20,15,14,13,11,12,19,18,17,16]] (by kernel_rfl) (by kernel_rfl) ?_
    have st := fndI_step (e := el l k) hI.keys hj
    simp only [opN] at g4 g6
    by_cases eo : (el os j).o = (el l k).o
    · by_cases ek : (el os j).k = (el l k).k
      · rw [if_pos ⟨eo, ek⟩] at st
        simp (disch := omega) [u13, u12, u11, u10, u9, u8, u7, u6, u5, u4, u0, u1, hj, hj', hz2, g4, g6, a2, a3, wrap_in, eo, ek]
        exact lpI (m2 - 1) (by omega) ⟨j + 1, by omega, rfl, by simp, by simp [st], by simp [u11], by simp [u10], by simp [u9], by simp [u8], by simp [u7], by simp [u6], by simp [u5], by simp [u4], by simp [u0], by simp [u1]⟩
      · rw [if_neg (fun h => ek h.2)] at st
        simp (disch := omega) [u13, u12, u11, u10, u9, u8, u7, u6, u5, u4, u0, u1, hj, hj', hz2, g4, g6, a2, a3, wrap_in, eo, ek]
        exact lpI (m2 - 1) (by omega) ⟨j + 1, by omega, rfl, by simp, by simp [st, u12], by simp [u11], by simp [u10], by simp [u9], by simp [u8], by simp [u7], by simp [u6], by simp [u5], by simp [u4], by simp [u0], by simp [u1]⟩
    · rw [if_neg (fun h => eo h.1)] at st
      simp (disch := omega) [u13, u12, u11, u10, u9, u8, u7, u6, u5, u4, u0, u1, hj, hj', hz2, g4, g6, a2, a3, wrap_in, eo]
      exact lpI (m2 - 1) (by omega) ⟨j + 1, by omega, rfl, by simp, by simp [st, u12], by simp [u11], by simp [u10], by simp [u9], by simp [u8], by simp [u7], by simp [u6], by simp [u5], by simp [u4], by simp [u0], by simp [u1]⟩
  obtain rfl : j = os.length := by omega
  rw [List.take_length] at u12
  simp (disch := omega) [u13, u12, u11, u10, u9, u8, u7, u6, u5, u4, u0, u1, a1]
  clear u13 hj
  rw [sosG] at hg
  cases hf : fndO os (el l k) with
  | none =>
    have ef : fndI os (el l k) = -1 := by unfold fndI; rw [hf]
    rw [hf] at hg
    rw [ef] at u12
    simp only at hg
    by_cases hj : (el l k).j = 1
    · rw [if_pos hj] at hg
      simp (disch := omega) [u12, u11, u10, u9, u8, u7, u6, u5, u4, u0, u1, hj]
      refine awDraw_D 15 [[],[],[1],[2,1],[3,2,1],[],[5],[6,5],[7,6,5],[],[9],[10,9],[11,10,9],[4,3,2,1,8,7,6,5,12,11,10,9],[13,4,3,2,1,8,7,6,5,12,11,10,9],[0,14,13,4,3,2,1,8,7,6,5,12,11,10,9],[15,0,14,13,4,3,2,1,8,7,6,5,12,11,10,9]] (by kernel_rfl) (by decide +kernel) ?_
      simp (disch := omega) [u12, u11, u10, u9, u8, u7, u6, u5, u4, u0, u1, hj, a2, a3, a4, n_build3]
      obtain ⟨M2, hM2⟩ : ∃ M2 : Mem, M2 = M1 ++ [Slot.live ⟨[iv 0, iv 0, iv 0, iv 0, iv (el l k).k, iv (el l k).u, iv (el l k).o], true, true, 53, 7⟩] := ⟨_, rfl⟩
      rw [← hM2]
      obtain ⟨x, hx⟩ : ∃ x : Opn, x = ⟨(el l k).o, (el l k).k, now + (el l k).d, (el l k).u⟩ := ⟨_, rfl⟩
      have k12 : Keeps M1 M2 := by rw [hM2]; exact keeps_app _
      have n2 : M2.length = M1.length + 1 := by rw [hM2]; simp
      have hsrc : srcOf Try.prog M2 7 24 (.slice (some ⟨M1.length, 0, none⟩) 1 1) = some (1, (opN x).row) := by
        rw [hM2, hx]
        simp [srcOf, cellsAt, Note.row, opN, Try.underlying24]
      clear hM2
      refine (hA1.keeps k12).append2 (a := opN x) (by_ := 56) (by omega) (by simp only []; omega) (by omega) (by kernel_rfl) (by kernel_rfl) hsrc (note_oneN _) (by simp; omega) (by unfold maxLen; simp; omega) ?_
      intro w1 M3 hB1 s3 hap3
      obtain ⟨hB2, q12⟩ := (hA2.keeps k12).aside s12 hap3
      obtain ⟨hB3, q13⟩ := (hA3.keeps k12).aside s13 hap3
      have hbox3 := s3.2 M.length _ (by omega) (k12.get hbox)
      have k3 := s3.keeps (kM.trans k12) (by omega)
      have n3 : M2.length ≤ M3.length := s3.1
      simp (disch := omega) [u12, u11, u10, u9, u8, u7, u6, u5, u4, u0, u1, fill_oneI]
      obtain ⟨M4, hM4⟩ : ∃ M4 : Mem, M4 = M3 ++ [Slot.live ⟨[iv (now + (el l k).d)], true, true, 2, 1⟩] := ⟨_, rfl⟩
      rw [← hM4]
      have k34 : Keeps M3 M4 := by rw [hM4]; exact keeps_app _
      have n4 : M4.length = M3.length + 1 := by rw [hM4]; simp
      have hsrc4 : srcOf Try.prog M4 1 63 (.slice (some ⟨M3.length, 0, none⟩) 1 1) = some (1, intR.row x.t) := by
        rw [hM4, hx]
        simp [srcOf, cellsAt, intR, Try.underlying63]
      clear hM4
      refine (hB2.keeps k34).append2 (a := x.t) (by_ := 8) (by omega) (by simp only []; omega) (by omega) (by kernel_rfl) (by kernel_rfl) hsrc4 (int_one _) (by simp; omega) (by unfold maxLen; simp; omega) ?_
      intro w2 M5 hC2 s5 hap5
      obtain ⟨hC1, r21⟩ := (hB1.keeps k34).aside q12.symm hap5
      obtain ⟨hC3, r23⟩ := (hB3.keeps k34).aside s23 hap5
      have hbox5 := s5.2 M.length _ (by omega) (k34.get hbox3)
      have k5 := s5.keeps (k3.trans k34) (by omega)
      have hI2 := hI.open_ hev hf hnow.1
      rw [← hx] at hI2 hg
      simp (disch := omega) [u12, u11, u10, u9, u8, u7, u6, u5, u4, u0, u1, wrap_in]
      refine lpI (m - 1) (by omega) ?_
      exact ⟨k + 1, w1, w2, v3, now + (el l k).d, os ++ [x], ns, by omega, k5, hbox5, by rw [List.map_append]; exact hC1, by rw [List.map_append]; exact hC2, hC3, r21.symm, q13, r23, hI2, by omega, by omega, by simp; omega, hg, by simp, by simp [u9], by simp [u8], by simp, by simp, by simp [u5], by simp [u4], by simp [u0], by simp [u1]⟩
    · rw [if_neg hj] at hg
      simp (disch := omega) [u12, u11, u10, u9, u8, u7, u6, u5, u4, u0, u1, hj]
      refine end_box hbox rfl ?_
      rw [sos_err hv0 hg (by omega)]
      exact ScR.no (keeps_set kM (by omega))
  | some i =>
    have ef : fndI os (el l k) = (i : Int) := by unfold fndI; rw [hf]
    rw [hf] at hg
    rw [ef] at u12
    simp only at hg
    by_cases hj : (el l k).j = 1
    · rw [if_pos hj] at hg
      simp (disch := omega) [u12, u11, u10, u9, u8, u7, u6, u5, u4, u0, u1, hj]
      refine end_box hbox rfl ?_
      rw [sos_err hv0 hg (by omega)]
      exact ScR.no (keeps_set kM (by omega))
    · rw [if_neg hj] at hg
      obtain ⟨f1, f2, f3⟩ := fndO_some hf
      have f1' : (i : Int) < os.length := by omega
      have hi0 : ¬ (i : Int) < 0 := by omega
      obtain ⟨id2, off2, rfl, hz2, hc2⟩ := hS1.at_ f1
      have ld2 := note_load hc2
      rw [opN_el f1] at ld2
      obtain ⟨id3, off3, rfl, hz3, hc3⟩ := hS2.at_ f1
      have et : el (os.map (·.t)) i = (el os i).t := by simp [el, f1]
      have c3 : cellAt M1 id3 (off3 + i * 1) = some (iv (el os i).t) := by rw [← et]; exact hc3 0 _ rfl
      rw [Nat.mul_one] at c3
      have hlow := hI.low _ (el_mem f1)
      simp (disch := omega) [u12, u11, u10, u9, u8, u7, u6, u5, u4, u0, u1, hj, f1, f1', hi0, hz2, hz3, ld2, c3, cellAt_app c3]
      refine awCall_det' (MakeFrac_s (el os i).t D (by omega) (by omega) (by omega) (by omega)) (by simp; omega) ?_
      simp (disch := omega) [u12, u11, u10, u9, u8, u7, u6, u5, u4, u0, u1, cellAt_app c3, wrap_in, f1, f1', hz3]
      refine awCall_det' (MakeFrac_s (now + (el l k).d - (el os i).t) D (by omega) (by omega) (by omega) (by omega)) (by simp; omega) ?_
      simp (disch := omega) [u12, u11, u10, u9, u8, u7, u6, u5, u4, u0, u1, wrap_in, f1, f1']
      obtain ⟨N, hN⟩ : ∃ N, N = mkN D (el os i) (now + (el l k).d) := ⟨_, rfl⟩
      obtain ⟨e1, he1⟩ : ∃ e1, e1 = (mkF (el os i).t D).2 := ⟨_, rfl⟩
      obtain ⟨e2, he2⟩ : ∃ e2, e2 = (mkF (now + (el l k).d - (el os i).t) D).2 := ⟨_, rfl⟩
      have hokM : okM D (el os i) (now + (el l k).d) = (decide (e1 = 0) && (decide (e2 = 0) && noteB N)) := by unfold okM; rw [hN, he1, he2]
      have hNr : [iv (mkF (el os i).t D).1.n, iv (mkF (el os i).t D).1.d, iv (mkF (now + (el l k).d - (el os i).t) D).1.n, iv (mkF (now + (el l k).d - (el os i).t) D).1.d, iv (opN (el os i)).k, iv (opN (el os i)).u, iv (opN (el os i)).o] = N.row := by rw [hN]; rfl
      rw [← he1, ← he2, hNr]
      rw [hokM] at hg
      obtain ⟨M2, hM2⟩ : ∃ M2 : Mem, M2 = M1 ++ [Slot.live ⟨N.row, true, true, 53, 7⟩, Slot.live ⟨[iv (mkF (el os i).t D).1.n, iv (mkF (el os i).t D).1.d], true, true, 51, 2⟩, Slot.live ⟨[iv (mkF (now + (el l k).d - (el os i).t) D).1.n, iv (mkF (now + (el l k).d - (el os i).t) D).1.d], true, true, 51, 2⟩] := ⟨_, rfl⟩
      rw [← hM2]
      have k12 : Keeps M1 M2 := by rw [hM2]; exact keeps_app _
      have n2 : M2.length = M1.length + 3 := by rw [hM2]; simp
      have bx : Cl M2 M1.length 0 N.row := fun j x hx => by
        rw [hM2]
        have hj := (List.getElem?_eq_some_iff.1 hx).1
        simp [cellAt]
        simpa using hx
      clear hM2
      have ldN := note_load bx
      have hboxN := k12.get hbox
      have herr : sosG D l 0 [] [] = ([], 2) → ScR M (sosV l D) (.tuple #[.agg #[.slice none 0 0], iv 2]) (M2.set M.length (.live ⟨[.slice none 0 0], true, true, 26, 1⟩)) := fun hh => by
        rw [sos_err hv0 hh (by omega)]
        exact ScR.no (keeps_set (kM.trans k12) (by omega))
      by_cases z1 : e1 = 0
      case neg =>
        rw [if_neg (by simp [z1])] at hg
        simp (disch := omega) [u12, u11, u10, u9, u8, u7, u6, u5, u4, u0, u1, z1]
        exact end_box hboxN rfl (herr hg)
      by_cases z2 : e2 = 0
      case neg =>
        rw [if_neg (by simp [z2])] at hg
        simp (disch := omega) [u12, u11, u10, u9, u8, u7, u6, u5, u4, u0, u1, z1, z2]
        exact end_box hboxN rfl (herr hg)
      simp (disch := omega) [u12, u11, u10, u9, u8, u7, u6, u5, u4, u0, u1, z1, z2]
      refine awCall_det' (l18Note_a bx) (by omega) ?_
      by_cases z3 : noteB N = true
      case neg =>
        rw [if_neg (by simp [z3])] at hg
        simp (disch := omega) [u12, u11, u10, u9, u8, u7, u6, u5, u4, u0, u1, z3]
        exact end_box hboxN rfl (herr hg)
      rw [if_pos (by simp [z1, z2, z3])] at hg
      simp (disch := omega) [u12, u11, u10, u9, u8, u7, u6, u5, u4, u0, u1, z3, ldN]
      obtain ⟨M3, hM3⟩ : ∃ M3 : Mem, M3 = M2 ++ [Slot.live ⟨[iv N.an, iv N.ad, iv N.ln, iv N.ld, iv N.k, iv N.u, iv N.o], true, true, 53, 7⟩] := ⟨_, rfl⟩
      rw [← hM3]
      have k23 : Keeps M2 M3 := by rw [hM3]; exact keeps_app _
      have n3 : M3.length = M2.length + 1 := by rw [hM3]; simp
      have hsrc3 : srcOf Try.prog M3 7 24 (.slice (some ⟨M2.length, 0, none⟩) 1 1) = some (1, N.row) := by
        rw [hM3]
        simp [srcOf, cellsAt, Note.row, Try.underlying24]
      clear hM3
      have k13 := k12.trans k23
      refine (hA3.keeps k13).append2 (a := N) (by_ := 56) (by omega) (by simp only []; omega) (by omega) (by kernel_rfl) (by kernel_rfl) hsrc3 (note_oneN _) (by omega) (by unfold maxLen; omega) ?_
      intro w3 M4 hB3 s4 hap4
      obtain ⟨hB1, q31⟩ := (hA1.keeps k13).aside s13.symm hap4
      obtain ⟨hB2, q32⟩ := (hA2.keeps k13).aside s23.symm hap4
      have hbox4 := s4.2 M.length _ (by omega) (k13.get hbox)
      have k4 := s4.keeps (kM.trans k13) (by omega)
      have n4 : M3.length ≤ M4.length := s4.1
      obtain ⟨_, _, _, x1, -, hT1, -⟩ := hB1.sl
      injection x1 with x1 y1 w1
      subst x1 y1 w1
      obtain ⟨_, _, _, x2, -, hT2, -⟩ := hB2.sl
      injection x2 with x2 y2 w2
      subst x2 y2 w2
      have hz4 : rowEsz M4 id2 = some 7 := by
        obtain ⟨_, _, e, he, -⟩ := hT1.2 (by omega)
        cases e
        exact he
      refine awDraw_D 9 [[],[],[],[1,2],[0,3,1,2],[],[],[6],[5,7,6],[4,0,3,1,2,8,5,7,6],[9,4,0,3,1,2,8,5,7,6]] (by kernel_rfl) (by decide +kernel) ?_
      simp (disch := omega) [u12, u11, u10, u9, u8, u7, u6, u5, u4, u0, u1, wrap_in]
      have hE1 : Sl noteR (M4 ++ [Slot.live ⟨[], true, true, 53, 7⟩]) (some ⟨id2, off2, none⟩) i ((os.map opN).take i) := (hT1.takeX (by omega)).app _
      have lE1 : ((os.map opN).take i).length = i := by simp; omega
      refine ⟨by omega, rowEsz_keeps (keeps_app _) hz4, append_empty (R := noteR) (e := 53) (ls := (os.map opN).take i) (by_ := 56) (by simp) (by kernel_rfl) (by kernel_rfl) (hE1.src (by omega) ⟨_, Try.underlying24⟩) (cells_oneG note_oneN _) (by omega) (by unfold maxLen; omega) ?_⟩
      intro v7 N7 hv1 hv2
      refine ⟨N7, by simp, by omega, ?_, ?_⟩
      · exact rowEsz_keeps (keeps_app _) hz4
      obtain ⟨M5, hM5⟩ : ∃ M5 : Mem, M5 = M4 ++ (Slot.live ⟨[], true, true, 53, 7⟩ :: N7) := ⟨_, rfl⟩
      have k45 : Keeps M4 M5 := by rw [hM5]; exact keeps_app _
      have hA7 : Acc noteR 53 M4.length M5 v7 ((os.map opN).take i) := by
        rw [hM5]
        by_cases e : (os.map opN).take i = []
        · obtain ⟨rfl, rfl⟩ := hv1 e
          exact ⟨_, 0, 0, rfl, by rw [e]; rfl, .inr ⟨M4.length, true, rfl, Nat.le_refl _, by rw [e]; simp [cellsL]⟩⟩
        · obtain ⟨rfl, rfl⟩ := hv2 e
          exact ⟨_, _, _, rfl, rfl, .inr ⟨M4.length + 1, false, by simp, by omega, by simp⟩⟩
      try rw [← hM5]
      clear hM5
      have n45 := k45.len
      have hE2 : Sl noteR M5 (some ⟨id2, off2 + (i + 1) * 7, none⟩) (os.length - (i + 1)) ((os.map opN).drop (i + 1)) := (hT1.dropX (by omega)).keeps k45
      have lE2 : ((os.map opN).drop (i + 1)).length = os.length - (i + 1) := by simp
      refine hA7.extend2 (ls := (os.map opN).drop (i + 1)) (by_ := 56) (by omega) (by simp only []; omega) (by kernel_rfl) (by kernel_rfl) (hE2.src (by omega) ⟨_, Try.underlying24⟩) (cells_oneG note_oneN _) (by omega) (by unfold maxLen; omega) ?_
      intro v8 M6 hA8 s8 hap8
      have k46 : Keeps M4 M6 := s8.keeps k45 (Nat.le_refl _)
      have n46 := k46.len
      have k6 := k4.trans k46
      have hbox6 := k46.get hbox4
      have hC2 := hB2.keeps k46
      have hC3 := hB3.keeps k46
      have hT26 := hT2.keeps k46
      have hz36 : rowEsz M6 id3 = some 1 := by
        obtain ⟨_, _, e, he, -⟩ := hT26.2 (by omega)
        cases e
        exact he
      have q83 : Sep v8 w3 := hA8.sep_new hB3 (Nat.le_refl _)
      have hF1 : Sl intR M6 (some ⟨id3, off3, none⟩) i ((os.map (·.t)).take i) := hT26.takeX (by omega)
      have lF1 : ((os.map (·.t)).take i).length = i := by simp; omega
      have lF2 : ((os.map (·.t)).drop (i + 1)).length = os.length - (i + 1) := by simp
      obtain ⟨v9, N9, hd9, hA9⟩ := l00Own_d (c := i) hF1 (by omega)
      refine awDraw_D 8 [[],[],[0,1],[2,0,1],[],[],[5],[4,6,5],[3,2,0,1,7,4,6,5],[8,3,2,0,1,7,4,6,5]] (by kernel_rfl) (by decide +kernel) ?_
      simp (disch := omega) [u12, u11, u10, u9, u8, u7, u6, u5, u4, u0, u1, wrap_in, hz36]
      refine ⟨by omega, awCall_det' hd9 (Nat.le_refl _) ⟨N9, rfl, by omega, rowEsz_keeps (keeps_app _) hz36, ?_⟩⟩
      have hF2 : Sl intR (M6 ++ N9) (some ⟨id3, off3 + (i + 1), none⟩) (os.length - (i + 1)) ((os.map (·.t)).drop (i + 1)) := by
        have := (hT26.dropX (m := i + 1) (by omega)).app N9
        rwa [Nat.mul_one] at this
      refine hA9.extend2 (ls := (os.map (·.t)).drop (i + 1)) (by_ := 8) (by omega) (by simp only [List.length_append]; omega) (by kernel_rfl) (by kernel_rfl) (hF2.src (by omega) ⟨_, Try.underlying63⟩) (cells_oneG int_one _) (by omega) (by unfold maxLen; omega) ?_
      intro v10 M8 hA10 s10 hap10
      have k68 : Keeps M6 M8 := s10.keeps (keeps_app _) (Nat.le_refl _)
      have q10 : Sep v10 v8 := hA10.sep_new hA8 (Nat.le_refl _)
      have q103 : Sep v10 w3 := hA10.sep_new hC3 (Nat.le_refl _)
      have hm : okM D (el os i) (now + (el l k).d) = true := by rw [hokM]; simp [z1, z2, z3]
      have hI2 := hI.close hD.1 hev hf hnow.1 hm
      rw [← hN] at hI2 hg
      refine lpI (m - 1) (by omega) ?_
      have e1 : (os.eraseIdx i).map opN = (os.map opN).take i ++ (os.map opN).drop (i + 1) := by rw [← map_erase, List.eraseIdx_eq_take_drop_succ]
      have e2 : (os.eraseIdx i).map (·.t) = (os.map (·.t)).take i ++ (os.map (·.t)).drop (i + 1) := by rw [← map_erase, List.eraseIdx_eq_take_drop_succ]
      exact ⟨k + 1, v8, v10, w3, now + (el l k).d, os.eraseIdx i, ns ++ [N], by omega, k6.trans k68, k68.get hbox6, by rw [e1]; exact (hA8.low (by omega)).keeps k68, by rw [e2]; exact hA10.low (by omega), hC3.keeps k68, q10.symm, q83, q103, hI2, by omega, by simp; omega, by rw [List.length_eraseIdx_of_lt f1]; omega, hg, by simp, by simp [u9], by simp, by simp, by simp, by simp [u5], by simp [u4], by simp [u0], by simp [u1]⟩
end Go.Proofs.Ytbpaeonfebmomaa

namespace Go.Proofs.Ytbpaeonfebmomaa
open Go.RowKit
set_option linter.unusedVariables false
set_option linter.unusedSimpArgs false
set_option maxRecDepth 100000
attribute [local simp] List.getElem?_cons_zero
attribute [local irreducible] awCond awCall awLoop awDraw ow retQ retC resQ Keeps
theorem ScoreOfStream_sl {M : Mem} {v : Value} {lo hi : Nat} {l : List StreamEvent} (hx : RdL streamEventR lo hi M v l) (o : Int) (ex : l.length ≤ 1048576) : Ctr Try.prog M.length 15 [v, iv o] M fun r M' => ∃ v0, r = .tuple #[.agg #[v0], iv (sosV l o).2] ∧ OwL noteR M.length M'.length M' v0 (sosV l o).1 ∧ Keeps M M' := by
  obtain ⟨A, n, c, rfl, hn, hS, _⟩ := hx
  exact ScoreOfStream_s o hS (by have := hS.1; omega)
theorem ScoreOfStream_il {M : Mem} {v : Value} {lo hi : Nat} {l : List StreamEvent} (hx : RdL streamEventR lo hi M v l) (o : Int) (ex : l.length ≤ 1048576) : Ctr Try.prog M.length 11 [v, iv o] M fun r M' => ∃ v0, r = .tuple #[.agg #[v0], iv (sosV l o).2] ∧ OwL noteR M.length M'.length M' v0 (sosV l o).1 ∧ Keeps M M' := by
  obtain ⟨A, n, c, rfl, hn, hS, _⟩ := hx
  exact ScoreOfStream_i o hS (by have := hS.1; omega)
end Go.Proofs.Ytbpaeonfebmomaa

namespace Go.Proofs.Ytbpaeonfebmomaa
open Go.RowKit
set_option linter.unusedVariables false
set_option linter.unusedSimpArgs false
set_option maxRecDepth 100000
attribute [local simp] List.getElem?_cons_zero
attribute [local irreducible] awCond awCall awLoop awDraw ow retQ retC resQ Keeps
theorem mkF_back {f : Frac} {x D : Int} (hf : fracB f = true) (h0 : 0 ≤ f.n) (hD : 0 < D) (hx : f.n * D = x * f.d) : mkF x D = (f, 0) := by
  obtain ⟨hd, hn, hg⟩ := fracB_iff.1 hf
  obtain ⟨fn, fd⟩ := f
  simp only at *
  obtain ⟨a, rfl⟩ := Int.eq_ofNat_of_zero_le h0
  obtain ⟨b, rfl⟩ := Int.eq_ofNat_of_zero_le (show 0 ≤ fd by omega)
  obtain ⟨E, rfl⟩ := Int.eq_ofNat_of_zero_le (show 0 ≤ D by omega)
  have hb : 0 < b := by omega
  have hx0 : 0 ≤ x := by
    rcases Int.lt_or_le x 0 with h | h
    · have h1 := Int.mul_neg_of_neg_of_pos h (show (0 : Int) < (b : Int) by omega)
      have h2 : (0 : Int) ≤ (a : Int) * E := Int.mul_nonneg (by omega) (by omega)
      omega
    · exact h
  obtain ⟨X, rfl⟩ := Int.eq_ofNat_of_zero_le hx0
  have hN : a * E = X * b := by
    apply Int.ofNat.inj
    simpa using hx
  have hg1 : a.gcd b = 1 := by simpa using hg
  have hco : Nat.Coprime b a := by unfold Nat.Coprime; rw [Nat.gcd_comm]; exact hg1
  obtain ⟨t, rfl⟩ : b ∣ E := hco.dvd_of_dvd_mul_left ⟨X, by rw [hN, Nat.mul_comm]⟩
  have hXt : X = a * t := by
    have : X * b = a * t * b := by rw [← hN, Nat.mul_comm b t, Nat.mul_assoc]
    exact Nat.eq_of_mul_eq_mul_right hb this
  subst hXt
  have ht : 0 < t := by
    rcases Nat.eq_zero_or_pos t with h | h
    · subst h; simp at hD
    · exact h
  have hgcd : (a * t).gcd (b * t) = t := by rw [Nat.gcd_mul_right, hg1, Nat.one_mul]
  have e1 : ((a * t : Nat) : Int).natAbs = a * t := Int.natAbs_natCast _
  have e2 : ((b * t : Nat) : Int).natAbs = b * t := Int.natAbs_natCast _
  unfold mkF
  rw [if_neg (by omega), e1, e2, hgcd, Nat.mul_div_cancel _ ht, Nat.mul_div_cancel _ ht, if_neg (by omega)]
  have d1 : ¬ (((a * t : Nat) : Int) < 0) := Int.not_lt.2 (Int.natCast_nonneg _)
  have d2 : ¬ (((b * t : Nat) : Int) < 0) := Int.not_lt.2 (Int.natCast_nonneg _)
  have h3 : (decide (((a * t : Nat) : Int) < 0) != decide (((b * t : Nat) : Int) < 0)) = false := by rw [decide_eq_false d1, decide_eq_false d2]; rfl
  rw [h3]
  rfl
def opn (D : Int) (n : Note) : Opn := ⟨n.o, n.k, tkV D n.at_, n.u⟩
theorem len_tk {D : Int} {n : Note} (hn : noteB n = true) (ht : okT D n = true) : n.len.n * D = (tkV D n.fin - tkV D n.at_) * n.len.d := by
  unfold okT at ht
  simp only [Bool.and_eq_true] at ht
  obtain ⟨t1, t2⟩ := ht
  have m1 := tk_mul t1
  have m2 := tk_mul t2
  obtain ⟨h1, h2, h3, h4, -⟩ := noteB_iff.1 hn
  obtain ⟨f1, p1, -⟩ := beatB_iff.1 h1
  obtain ⟨f2, p2, -⟩ := beatB_iff.1 h2
  obtain ⟨-, f3⟩ := note_end hn
  have a1 := (fracB_iff.1 f1).1.1
  have a2 := (fracB_iff.1 f2).1.1
  have a3 := (fracB_iff.1 f3).1.1
  have hq := addF_q f1 f2 h4
  have e3 : n.fin.n * (n.at_.d * n.len.d) = (n.at_.n * n.len.d + n.len.n * n.at_.d) * n.fin.d := by
    have : Rat.divInt n.fin.n n.fin.d = Rat.divInt (n.at_.n * n.len.d + n.len.n * n.at_.d) (n.at_.d * n.len.d) := by
      rw [← Rat.divInt_add_divInt _ _ (by omega) (by omega)]
      exact hq
    rw [Rat.divInt_eq_divInt_iff (by omega) (Int.ne_of_gt (Int.mul_pos (by omega) (by omega)))] at this
    exact this
  have hne : n.at_.d * n.fin.d ≠ 0 := Int.ne_of_gt (Int.mul_pos (by omega) (by omega))
  apply Int.eq_of_mul_eq_mul_right hne
  generalize tkV D n.fin = tf at *
  generalize tkV D n.at_ = ta at *
  generalize n.fin.n = xn at *
  generalize n.fin.d = xd at *
  generalize n.at_.n = yn at *
  generalize n.at_.d = yd at *
  generalize n.len.n = zn at *
  generalize n.len.d = zd at *
  clear hq h1 h2 h3 h4 hn t1 t2 f1 f2 f3 hne
  grind
theorem mkN_back {D : Int} {n : Note} (hn : noteB n = true) (hD : 0 < D) (ht : okT D n = true) : mkN D (opn D n) (tkV D n.fin) = n ∧ okM D (opn D n) (tkV D n.fin) = true := by
  have hlen := len_tk hn ht
  unfold okT at ht
  simp only [Bool.and_eq_true] at ht
  have m1 := tk_mul ht.1
  obtain ⟨h1, h2, -⟩ := noteB_iff.1 hn
  obtain ⟨f1, p1, -⟩ := beatB_iff.1 h1
  obtain ⟨f2, p2, -⟩ := beatB_iff.1 h2
  have g1 : mkF (opn D n).t D = (n.at_, 0) := mkF_back f1 p1 hD m1
  have g2 : mkF (tkV D n.fin - (opn D n).t) D = (n.len, 0) := mkF_back f2 p2 hD hlen
  unfold okM mkN
  simp only [g1, g2]
  refine ⟨rfl, ?_⟩
  simp only [decide_true, Bool.true_and]
  exact hn
theorem erase_perm {α : Type} : ∀ (l : List α) (i : Nat) (h : i < l.length), (l[i] :: l.eraseIdx i).Perm l
  | [], i, h => by simp at h
  | x :: l, 0, h => by simp
  | x :: l, i + 1, h => by
    have := erase_perm l i (by simpa using h)
    simp only [List.getElem_cons_succ, List.eraseIdx_cons_succ]
    exact (List.Perm.swap _ _ _).trans (this.cons x)
theorem erase_mapP {α β : Type} (f : α → β) : ∀ (l : List α) (i : Nat), (l.map f).eraseIdx i = (l.eraseIdx i).map f
  | [], _ => rfl
  | x :: l, 0 => rfl
  | x :: l, i + 1 => by simp [erase_mapP f l i]
section
variable {D : Int} {l : List Note}
theorem on_at {n : Note} (h : n ∈ l) : onE D n ∈ evsL D l := List.mem_flatMap.2 ⟨n, h, by simp⟩
theorem of_at {n : Note} (h : n ∈ l) : ofE D n ∈ evsL D l := List.mem_flatMap.2 ⟨n, h, by simp⟩
theorem ev_inv {e : StreamEvent} (h : e ∈ evsL D l) : ∃ n, n ∈ l ∧ (e = onE D n ∨ e = ofE D n) := by
  obtain ⟨n, hn, hx⟩ := List.mem_flatMap.1 h
  exact ⟨n, hn, by simpa using hx⟩
theorem idx {n : Note} (h : n ∈ l) : ∃ i, i < l.length ∧ el l i = n := by
  obtain ⟨i, hi, rfl⟩ := List.getElem_of_mem h
  exact ⟨i, hi, (el_eq hi).symm⟩
/-- Notes of one key that are not the same: one ends before the other begins. -/
theorem TkS.two (h : TkS D l) {m n : Note} (hm : m ∈ l) (hn : n ∈ l) (eo : m.o = n.o) (ek : m.k = n.k) (hne : m ≠ n) : tkV D m.fin ≤ tkV D n.at_ ∨ tkV D n.fin ≤ tkV D m.at_ := by
  obtain ⟨i, hi, rfl⟩ := idx hm
  obtain ⟨j, hj, rfl⟩ := idx hn
  rcases Nat.lt_or_ge i j with hij | hij
  · exact .inl (h.free i j hij hj eo ek)
  · rcases Nat.lt_or_ge j i with hji | hji
    · exact .inr (h.free j i hji hi eo.symm ek.symm)
    · exact absurd (by rw [show i = j by omega]) hne
theorem TkS.pos (h : TkS D l) {n : Note} (hn : n ∈ l) : tkV D n.at_ < tkV D n.fin := by
  obtain ⟨i, hi, rfl⟩ := idx hn
  exact h.up i hi
theorem TkS.on_inj (h : TkS D l) {m n : Note} (hm : m ∈ l) (hn : n ∈ l) (e : onE D m = onE D n) : m = n := by
  unfold onE at e
  injection e with e1 e2 e3 e4 e5
  rcases Classical.em (m = n) with hh | hh
  · exact hh
  · have := h.two hm hn e3 e4 hh
    have p1 := h.pos hm
    have p2 := h.pos hn
    omega
theorem TkS.of_inj (h : TkS D l) {m n : Note} (hm : m ∈ l) (hn : n ∈ l) (e : ofE D m = ofE D n) : m = n := by
  unfold ofE at e
  injection e with e1 e2 e3 e4 e5
  rcases Classical.em (m = n) with hh | hh
  · exact hh
  · have := h.two hm hn e3 e4 hh
    have p1 := h.pos hm
    have p2 := h.pos hn
    omega
theorem TkS.nodup (h : TkS D l) : l.Nodup := by
  unfold List.Nodup
  rw [List.pairwise_iff_getElem]
  intro i j hi hj hij e
  rw [el_eq hi, el_eq hj] at e
  have := h.lex i j hij hj
  rw [e] at this
  omega
theorem TkS.evs_nodup (h : TkS D l) : (evsL D l).Nodup := by
  unfold List.Nodup evsL
  rw [List.pairwise_flatMap]
  refine ⟨fun n _ => ?_, ?_⟩
  · simp [onE, ofE]
  · have hnd := h.nodup
    unfold List.Nodup at hnd
    refine hnd.imp_of_mem fun {a b} ha hb hab => ?_
    intro x hx y hy e
    simp at hx hy
    rcases hx with rfl | rfl <;> rcases hy with rfl | rfl
    · exact hab (h.on_inj ha hb e)
    · unfold onE ofE at e; injection e with e1 e2; omega
    · unfold onE ofE at e; injection e with e1 e2; omega
    · exact hab (h.of_inj ha hb e)
/-- How far the events have been played. -/
structure Run (D : Int) (l : List Note) (P R : List StreamEvent) (A ns : List Note) : Prop where
  all : P ++ R = sortE (evsL D l)
  inA : ∀ n, n ∈ A ↔ n ∈ l ∧ onE D n ∈ P ∧ ofE D n ∉ P
  inN : ∀ n, n ∈ ns ↔ n ∈ l ∧ ofE D n ∈ P
  ndA : A.Nodup
  ndN : ns.Nodup
theorem Run.here {P R : List StreamEvent} {A ns : List Note} {e : StreamEvent} (h : Run D l P (e :: R) A ns) (hT : TkS D l) : e ∉ P ∧ (∀ x, x ∈ evsL D l → cmpE x e < 0 → x ∈ P) ∧ ∀ x, cmpE e x < 0 → x ∉ P := by
  have hnd : (P ++ e :: R).Nodup := by rw [h.all]; exact (sortE_perm _).nodup_iff.2 hT.evs_nodup
  have hs : (P ++ e :: R).Pairwise LeE := by rw [h.all]; exact sortE_sorted _
  have hmem : ∀ x, x ∈ evsL D l ↔ x ∈ P ++ e :: R := fun x => by rw [h.all]; exact (sortE_perm _).mem_iff.symm
  rw [List.pairwise_append] at hs
  obtain ⟨s1, s2, s3⟩ := hs
  rw [List.pairwise_cons] at s2
  have hnd2 := List.nodup_append.1 hnd
  refine ⟨fun he => hnd2.2.2 e he e (by simp) rfl, fun x hx hlt => ?_, fun x hlt hx => ?_⟩
  · rcases List.mem_append.1 ((hmem x).1 hx) with hx | hx
    · exact hx
    · rcases List.mem_cons.1 hx with rfl | hx
      · have := cmpE_neg x x; omega
      · have := s2.1 x hx
        unfold LeE at this
        have := cmpE_neg e x
        omega
  · have := s3 x hx e (by simp)
    unfold LeE at this
    have := cmpE_neg e x
    omega
theorem cmp_on_of {n : Note} (h : tkV D n.at_ < tkV D n.fin) : cmpE (onE D n) (ofE D n) < 0 := cmpE_lt.2 (.inl h)
theorem fnd_none {A : List Note} {e : StreamEvent} (h : ∀ m, m ∈ A → ¬ (m.o = e.o ∧ m.k = e.k)) : fndO (A.map (opn D)) e = none := by
  unfold fndO
  rw [List.findIdx?_eq_none_iff]
  intro x hx
  obtain ⟨m, hm, rfl⟩ := List.mem_map.1 hx
  cases hb : (opn D m).is e with
  | false => rfl
  | true => exact absurd (Opn.is_iff.1 hb) (h m hm)
theorem fnd_some {A : List Note} {e : StreamEvent} {n : Note} (hn : n ∈ A) (hk : n.o = e.o ∧ n.k = e.k) (h : ∀ m, m ∈ A → m.o = e.o → m.k = e.k → m = n) : ∃ i, ∃ hi : i < A.length, A[i] = n ∧ fndO (A.map (opn D)) e = some i := by
  cases hf : fndO (A.map (opn D)) e with
  | none => exact absurd hk (fndO_none hf (opn D n) (List.mem_map_of_mem hn))
  | some i =>
    obtain ⟨h1, h2, h3⟩ := fndO_some hf
    rw [List.length_map] at h1
    have e1 : el (A.map (opn D)) i = opn D A[i] := by simp [el, h1]
    rw [e1] at h2 h3
    exact ⟨i, h1, h _ (List.getElem_mem h1) h2 h3, rfl⟩
theorem run_all (hT : TkS D l) (hD : 0 < D) (hv : ∀ n, n ∈ l → noteB n = true) (ht : ∀ n, n ∈ l → okT D n = true) (hl : l.length ≤ 60) : ∀ (R P : List StreamEvent) (now : Int) (A ns : List Note), Run D l P R A ns → (sosG D (dltE now R) now (A.map (opn D)) ns).2 = 0 ∧ (sosG D (dltE now R) now (A.map (opn D)) ns).1.Perm l
  | [], P, now, A, ns, h => by
    have hall : ∀ x, x ∈ evsL D l → x ∈ P := fun x hx => by
      have := h.all
      rw [List.append_nil] at this
      rw [this]
      exact (sortE_perm _).mem_iff.2 hx
    have hA : A = [] := by
      cases A with
      | nil => rfl
      | cons a A =>
        obtain ⟨h1, _, h3⟩ := (h.inA a).1 (by simp)
        exact absurd (hall _ (of_at h1)) h3
    subst hA
    have hp : ns.Perm l := by
      refine (List.perm_ext_iff_of_nodup h.ndN hT.nodup).2 fun n => ?_
      rw [h.inN]
      exact ⟨fun hh => hh.1, fun hh => ⟨hh, hall _ (of_at hh)⟩⟩
    have := hp.length_eq
    simp only [dltE, List.map_nil, sosG, List.length_nil]
    rw [if_neg (by omega), if_neg (by omega)]
    exact ⟨rfl, hp⟩
  | e :: R, P, now, A, ns, h => by
    obtain ⟨heP, hlo, hhi⟩ := h.here hT
    have hmem : e ∈ evsL D l := by
      have : e ∈ sortE (evsL D l) := by rw [← h.all]; simp
      exact (sortE_perm _).mem_iff.1 this
    obtain ⟨n, hn, he⟩ := ev_inv hmem
    have hpos := hT.pos hn
    rw [dltE, sosG]
    rcases he with rfl | rfl
    · have hf : fndO (A.map (opn D)) { onE D n with d := (onE D n).d - now } = none := by
        refine fnd_none fun m hm hk => ?_
        obtain ⟨m1, m2, m3⟩ := (h.inA m).1 hm
        have hne : m ≠ n := fun e => heP (by rw [← e]; exact m2)
        rcases hT.two m1 hn hk.1 hk.2 hne with h1 | h1
        · exact m3 (hlo _ (of_at m1) (cmpE_lt.2 (by simp only [ofE, onE]; omega)))
        · exact hhi (onE D m) (cmpE_lt.2 (by simp only [onE]; omega)) m2
      rw [hf]
      simp only
      rw [if_pos (show (onE D n).j = 1 from rfl)]
      have e1 : now + ((onE D n).d - now) = (onE D n).d := by omega
      rw [e1]
      have e2 : A.map (opn D) ++ [⟨(onE D n).o, (onE D n).k, (onE D n).d, (onE D n).u⟩] = (A ++ [n]).map (opn D) := by rw [List.map_append]; rfl
      rw [e2]
      refine run_all hT hD hv ht hl R (P ++ [onE D n]) _ _ _ ⟨by rw [List.append_assoc]; exact h.all, fun m => ?_, fun m => ?_, ?_, h.ndN⟩
      · have hof : ∀ m, ofE D m ∈ P ++ [onE D n] ↔ ofE D m ∈ P := fun m => by
          rw [List.mem_append, List.mem_singleton]
          refine ⟨fun hh => hh.resolve_right fun e => ?_, .inl⟩
          unfold onE ofE at e; injection e with _ e2; omega
        rw [List.mem_append, List.mem_singleton, h.inA, hof, List.mem_append, List.mem_singleton]
        constructor
        · rintro (⟨a1, a2, a3⟩ | rfl)
          · exact ⟨a1, .inl a2, a3⟩
          · exact ⟨hn, .inr rfl, hhi _ (cmp_on_of hpos)⟩
        · rintro ⟨a1, a2 | a2, a3⟩
          · exact .inl ⟨a1, a2, a3⟩
          · exact .inr (hT.on_inj a1 hn a2)
      · rw [h.inN, List.mem_append, List.mem_singleton]
        refine ⟨fun hh => ⟨hh.1, .inl hh.2⟩, fun hh => ⟨hh.1, hh.2.resolve_right fun e => ?_⟩⟩
        unfold onE ofE at e; injection e with _ e2; omega
      · rw [List.nodup_append]
        refine ⟨h.ndA, by simp, fun a ha b hb => ?_⟩
        rw [List.mem_singleton] at hb
        subst hb
        intro e
        subst e
        exact heP ((h.inA a).1 ha).2.1
    · have hnA : n ∈ A := (h.inA n).2 ⟨hn, hlo _ (on_at hn) (cmp_on_of hpos), heP⟩
      obtain ⟨i, hi, hAi, hf⟩ := fnd_some (D := D) (e := { ofE D n with d := (ofE D n).d - now }) hnA ⟨rfl, rfl⟩ (fun m hm eo ek => by
        rcases Classical.em (m = n) with hh | hne
        · exact hh
        · exfalso
          obtain ⟨m1, m2, m3⟩ := (h.inA m).1 hm
          rcases hT.two m1 hn eo ek hne with h1 | h1
          · exact m3 (hlo _ (of_at m1) (cmpE_lt.2 (by simp only [ofE]; omega)))
          · exact hhi (onE D m) (cmpE_lt.2 (by simp only [onE, ofE]; omega)) m2)
      rw [hf]
      simp only
      have e0 : el (A.map (opn D)) i = opn D n := by simp [el, hi, hAi]
      have e1 : now + ((ofE D n).d - now) = tkV D n.fin := by show now + (tkV D n.fin - now) = _; omega
      obtain ⟨b1, b2⟩ := mkN_back (hv n hn) hD (ht n hn)
      have e3 : ¬ (ofE D n).j = 1 := by simp [ofE]
      rw [if_neg e3, e0, e1, if_pos b2, b1]
      have hpm : A.Perm (n :: A.eraseIdx i) := by
        have := erase_perm A i hi
        rw [hAi] at this
        exact this.symm
      have hnd : (n :: A.eraseIdx i).Nodup := hpm.nodup_iff.1 h.ndA
      rw [List.nodup_cons] at hnd
      have e4 : (A.map (opn D)).eraseIdx i = (A.eraseIdx i).map (opn D) := by rw [erase_mapP]
      rw [e4]
      refine run_all hT hD hv ht hl R (P ++ [ofE D n]) _ _ _ ⟨by rw [List.append_assoc]; exact h.all, fun m => ?_, fun m => ?_, hnd.2, ?_⟩
      · have hon : onE D m ∈ P ++ [ofE D n] ↔ onE D m ∈ P := by
          rw [List.mem_append, List.mem_singleton]
          refine ⟨fun hh => hh.resolve_right fun e => ?_, .inl⟩
          unfold onE ofE at e; injection e with _ e2; omega
        have hA' : m ∈ A ↔ m = n ∨ m ∈ A.eraseIdx i := by rw [hpm.mem_iff, List.mem_cons]
        rw [hon, List.mem_append, List.mem_singleton]
        constructor
        · intro hm
          obtain ⟨m1, m2, m3⟩ := (h.inA m).1 (hA'.2 (.inr hm))
          refine ⟨m1, m2, fun hh => ?_⟩
          rcases hh with hh | hh
          · exact m3 hh
          · have := hT.of_inj m1 hn hh
            subst this
            exact hnd.1 hm
        · rintro ⟨m1, m2, m3⟩
          rcases hA'.1 ((h.inA m).2 ⟨m1, m2, fun hh => m3 (.inl hh)⟩) with rfl | hm
          · exact absurd (.inr rfl) m3
          · exact hm
      · rw [List.mem_append, List.mem_singleton, h.inN, List.mem_append, List.mem_singleton]
        constructor
        · rintro (⟨a1, a2⟩ | rfl)
          · exact ⟨a1, .inl a2⟩
          · exact ⟨hn, .inr rfl⟩
        · rintro ⟨a1, a2 | a2⟩
          · exact .inl ⟨a1, a2⟩
          · exact .inr (hT.of_inj a1 hn a2)
      · rw [List.nodup_append]
        refine ⟨h.ndN, by simp, fun a ha b hb => ?_⟩
        rw [List.mem_singleton] at hb
        subst hb
        intro e
        subst e
        exact heP ((h.inN a).1 ha).2
end
end Go.Proofs.Ytbpaeonfebmomaa

namespace Go.Proofs.Ytbpaeonfebmomaa
open Go.RowKit
set_option linter.unusedVariables false
set_option linter.unusedSimpArgs false
set_option maxRecDepth 100000
attribute [local simp] List.getElem?_cons_zero
attribute [local irreducible] awCond awCall awLoop awDraw ow retQ retC resQ Keeps
theorem tk_bd {D : Int} {n : Note} (hn : noteB n = true) (hD : 1 ≤ D ∧ D ≤ 960) (ht : okT D n = true) : (0 ≤ tkV D n.at_ ∧ tkV D n.at_ ≤ 960000) ∧ tkV D n.at_ ≤ tkV D n.fin ∧ tkV D n.fin ≤ 1920000 := by
  have hlen := len_tk hn ht
  unfold okT at ht
  simp only [Bool.and_eq_true] at ht
  have m1 := tk_mul ht.1
  obtain ⟨h1, h2, -⟩ := noteB_iff.1 hn
  obtain ⟨f1, p1, q1⟩ := beatB_iff.1 h1
  obtain ⟨f2, p2, q2⟩ := beatB_iff.1 h2
  have a1 := (fracB_iff.1 f1).1.1
  have a2 := (fracB_iff.1 f2).1.1
  have key : ∀ (x n d : Int), 1 ≤ d → 0 ≤ n → n ≤ 1000 * d → n * D = x * d → 0 ≤ x ∧ x ≤ 960000 := by
    intro x n d hd hn0 hn1 he
    constructor
    · rcases Int.lt_or_le x 0 with h | h
      · have g1 := Int.mul_neg_of_neg_of_pos h (show (0 : Int) < d by omega)
        have g2 : 0 ≤ n * D := Int.mul_nonneg hn0 (by omega)
        omega
      · exact h
    · have g1 : n * D ≤ (1000 * d) * D := Int.mul_le_mul_of_nonneg_right hn1 (by omega)
      have g2 : (1000 * d) * D ≤ (1000 * d) * 960 := Int.mul_le_mul_of_nonneg_left hD.2 (by omega)
      have g3 : x * d ≤ 960000 * d := by omega
      exact Int.le_of_mul_le_mul_right g3 (by omega)
  have k1 := key _ _ _ a1 p1 q1 m1
  have k2 := key _ _ _ a2 p2 q2 hlen
  omega
theorem LeE.d {a b : StreamEvent} (h : LeE a b) : a.d ≤ b.d := by
  unfold LeE at h
  rcases Int.lt_or_le b.d a.d with h1 | h1
  · have := cmpE_lt.2 (.inl h1)
    have := cmpE_neg a b
    omega
  · exact h1
theorem dlt_ok : ∀ (R : List StreamEvent) (b : Int), 0 ≤ b → (∀ e, e ∈ R → b ≤ e.d) → R.Pairwise LeE → (∀ e, e ∈ R → e.d ≤ 268435455 ∧ eventB { e with d := 0 } = true) → (dltE b R).all eventB = true
  | [], _, _, _, _, _ => rfl
  | e :: R, b, hb, hlo, hs, hv => by
    rw [List.pairwise_cons] at hs
    have h1 := hlo e (by simp)
    have h2 := hv e (by simp)
    rw [dltE, List.all_cons, Bool.and_eq_true]
    refine ⟨?_, dlt_ok R e.d (by omega) (fun x hx => (hs.1 x hx).d) hs.2 fun x hx => hv x (by simp [hx])⟩
    have h3 := h2.2
    unfold eventB at h3 ⊢
    simp only [Bool.and_eq_true] at h3 ⊢
    exact ⟨⟨⟨inB_iff.2 (by omega), h3.1.1.2⟩, h3.1.2⟩, h3.2⟩
theorem on_ok {D : Int} {n : Note} (hn : noteB n = true) (hD : 1 ≤ D ∧ D ≤ 960) (ht : okT D n = true) : (0 ≤ (onE D n).d ∧ (onE D n).d ≤ 268435455 ∧ eventB { onE D n with d := 0 } = true) ∧ (0 ≤ (ofE D n).d ∧ (ofE D n).d ≤ 268435455 ∧ eventB { ofE D n with d := 0 } = true) := by
  have hb := tk_bd hn hD ht
  obtain ⟨-, -, -, -, h5, h6, h7⟩ := noteB_iff.1 hn
  have e0 : inB 0 0 268435455 = true := by decide
  have e1 : inB n.o 0 15 = true := inB_iff.2 h7
  have e2 : inB n.k 0 127 = true := inB_iff.2 h5
  have e3 : inB n.u 1 127 = true := inB_iff.2 h6
  refine ⟨⟨hb.1.1, ?_, ?_⟩, ?_, ?_, ?_⟩
  · show tkV D n.at_ ≤ _; omega
  · simp [eventB, onE, e0, e1, e2, e3]
  · show 0 ≤ tkV D n.fin; omega
  · show tkV D n.fin ≤ _; omega
  · simp [eventB, ofE, e0, e1, e2]
theorem strict_of {l : List Note} (hs : scoreB l = true) : l.Pairwise fun a b => ordN a b < 0 := by
  unfold scoreB at hs
  simp only [Bool.and_eq_true, decide_eq_true_eq] at hs
  obtain ⟨⟨_, hv⟩, ho⟩ := hs
  have nv : ∀ i, i < l.length → noteB (el l i) = true := fun i hi => all_el hv hi
  rw [List.pairwise_iff_getElem]
  intro i j hi hj hij
  rw [el_eq hi, el_eq hj]
  clear hi
  induction j with
  | zero => omega
  | succ j ih =>
    have s := ho (j + 1) hj (by omega)
    rw [Nat.add_sub_cancel] at s
    by_cases e : i = j
    · subst e; exact s
    · have s2 := ih (by omega) (by omega)
      have t1 := ordN_trans (nv i (by omega)) (nv j (by omega)) (nv (j + 1) hj) (by omega) (by omega)
      rcases Int.lt_or_le (ordN (el l i) (el l (j + 1))) 0 with h | h
      · exact h
      · have n1 := ordN_neg (el l i) (el l (j + 1))
        have n2 := ordN_neg (el l j) (el l (j + 1))
        have t2 := ordN_trans (nv (j + 1) hj) (nv i (by omega)) (nv j (by omega)) (by omega) (by omega)
        omega
/-- A score without clashes is restored from its events. -/
theorem sos_back {D : Int} {l : List Note} (hs : scoreB l = true) (hD : 1 ≤ D ∧ D ≤ 960) (ht : l.all (okT D) = true) (hc : hitB l = false) : okE (dltE 0 (sortE (evsL D l))) = true ∧ sosV (dltE 0 (sortE (evsL D l))) D = (l, 0) := by
  have hT := tkS_of hs (by omega) ht hc
  have hsX := hs
  unfold scoreB at hsX
  simp only [Bool.and_eq_true, decide_eq_true_eq] at hsX
  obtain ⟨⟨hl, hv⟩, -⟩ := hsX
  have hv' : ∀ n, n ∈ l → noteB n = true := fun n hn => List.all_eq_true.1 hv n hn
  have ht' : ∀ n, n ∈ l → okT D n = true := fun n hn => List.all_eq_true.1 ht n hn
  have hev : ∀ e, e ∈ sortE (evsL D l) → 0 ≤ e.d ∧ e.d ≤ 268435455 ∧ eventB { e with d := 0 } = true := by
    intro e he
    obtain ⟨n, hn, h | h⟩ := ev_inv ((sortE_perm _).mem_iff.1 he)
    · rw [h]; exact (on_ok (hv' n hn) hD (ht' n hn)).1
    · rw [h]; exact (on_ok (hv' n hn) hD (ht' n hn)).2
  have hok : okE (dltE 0 (sortE (evsL D l))) = true := by
    unfold okE
    rw [Bool.and_eq_true]
    refine ⟨decide_eq_true ?_, dlt_ok _ 0 (by omega) (fun e he => (hev e he).1) (sortE_sorted _) fun e he => (hev e he).2⟩
    rw [dltE_len, (sortE_perm _).length_eq, evsL_len]
    omega
  have hst := strict_of hs
  have hR : Run D l [] (sortE (evsL D l)) [] [] := ⟨rfl, by simp, by simp, .nil, .nil⟩
  obtain ⟨r1, r2⟩ := run_all hT (by omega) hv' ht' hl _ [] 0 [] [] hR
  rw [List.map_nil] at r1 r2
  refine ⟨hok, ?_⟩
  unfold sosV
  rw [if_neg (by simp [hok]), if_neg (by rw [inB_iff.2 hD]; simp), if_pos r1]
  rw [← sortN_eq r2.symm (hst.imp fun h => Int.le_of_lt h) (tw_perm r2 (hst.imp fun h => by omega))]
theorem tkB_dvd {D : Int} {f : Frac} (hf : fracB f = true) : tkB D f = true ↔ f.d.natAbs ∣ D.natAbs := by
  obtain ⟨hd, -, hg⟩ := fracB_iff.1 hf
  unfold tkB
  rw [decide_eq_true_eq]
  constructor
  · intro h
    have h1 : f.d ∣ f.n * D := Int.dvd_of_emod_eq_zero h
    have h2 := Int.natAbs_dvd_natAbs.2 h1
    rw [Int.natAbs_mul] at h2
    have hco : Nat.Coprime f.d.natAbs f.n.natAbs := by unfold Nat.Coprime; rw [Nat.gcd_comm]; exact hg
    exact hco.dvd_of_dvd_mul_left h2
  · intro h
    exact Int.emod_eq_zero_of_dvd (Int.dvd_trans (Int.natAbs_dvd_natAbs.1 h) (Int.dvd_mul_left _ _))
theorem divG_dvd : ∀ (l : List Note) (o d : Nat), (∀ n, n ∈ l → noteB n = true) → 0 < o → o ≤ 960 → divG o l = some d → (0 < d ∧ d ≤ 960) ∧ o ∣ d ∧ (∀ n, n ∈ l → n.at_.d.natAbs ∣ d ∧ n.fin.d.natAbs ∣ d) ∧ ∀ D, o ∣ D → (∀ n, n ∈ l → n.at_.d.natAbs ∣ D ∧ n.fin.d.natAbs ∣ D) → d ∣ D
  | [], o, d, _, h0, h1, h => by
    simp only [divG, Option.some.injEq] at h
    subst h
    exact ⟨⟨h0, h1⟩, Nat.dvd_refl _, by simp, fun D hD _ => hD⟩
  | n :: l, o, d, hv, h0, h1, h => by
    rw [divG] at h
    split at h
    · cases h
    · split at h
      · cases h
      · rename_i h2 h3
        obtain ⟨d1, d2⟩ := note_dens (hv n (by simp))
        have p1 : 0 < n.ad.natAbs := by have : n.at_.d = n.ad := rfl; omega
        have p2 : 0 < n.fin.d.natAbs := by omega
        have q1 := Nat.lcm_pos h0 p1
        obtain ⟨a1, a2, a3, a4⟩ := divG_dvd l _ d (fun m hm => hv m (by simp [hm])) (Nat.lcm_pos q1 p2) (by omega) h
        have e : n.at_.d.natAbs = n.ad.natAbs := rfl
        have b1 := Nat.dvd_lcm_left (o.lcm n.ad.natAbs) n.fin.d.natAbs
        have b2 := Nat.dvd_lcm_right (o.lcm n.ad.natAbs) n.fin.d.natAbs
        refine ⟨a1, Nat.dvd_trans (Nat.dvd_trans (Nat.dvd_lcm_left o n.ad.natAbs) b1) a2, fun m hm => ?_, fun D hD hall => a4 D ?_ fun m hm => hall m (by simp [hm])⟩
        · rcases List.mem_cons.1 hm with rfl | hm
          · exact ⟨Nat.dvd_trans (Nat.dvd_trans (Nat.dvd_lcm_right _ _) b1) a2, Nat.dvd_trans b2 a2⟩
          · exact a3 m hm
        · have := hall n (by simp)
          exact Nat.lcm_dvd (Nat.lcm_dvd hD this.1) this.2
theorem div_all {l : List Note} {d : Int} (h : divV l = (d, 0)) : scoreB l = true ∧ (1 ≤ d ∧ d ≤ 960) ∧ (∀ k : Int, 1 ≤ k → l.all (okT (d * k)) = true) ∧ (1 < d → l.all (okT (d - 1)) = false) := by
  unfold divV at h
  split at h
  · rename_i hs
    have hsX := hs
    unfold scoreB at hsX
    simp only [Bool.and_eq_true, decide_eq_true_eq] at hsX
    have hv' : ∀ n, n ∈ l → noteB n = true := fun n hn => List.all_eq_true.1 hsX.1.2 n hn
    cases hg : divG 1 l with
    | none => rw [hg] at h; injection h with _ h; cases h
    | some e =>
      rw [hg] at h
      injection h with h _
      subst h
      obtain ⟨a1, a2, a3, a4⟩ := divG_dvd l 1 e hv' (by omega) (by omega) hg
      have okd : ∀ D : Int, l.all (okT D) = true ↔ ∀ n, n ∈ l → n.at_.d.natAbs ∣ D.natAbs ∧ n.fin.d.natAbs ∣ D.natAbs := fun D => by
        rw [List.all_eq_true]
        constructor
        · intro hh n hn
          have := hh n hn
          unfold okT at this
          rw [Bool.and_eq_true] at this
          obtain ⟨f1, f2⟩ := note_end (hv' n hn)
          exact ⟨(tkB_dvd f1).1 this.1, (tkB_dvd f2).1 this.2⟩
        · intro hh n hn
          unfold okT
          rw [Bool.and_eq_true]
          obtain ⟨f1, f2⟩ := note_end (hv' n hn)
          exact ⟨(tkB_dvd f1).2 (hh n hn).1, (tkB_dvd f2).2 (hh n hn).2⟩
      refine ⟨hs, by omega, fun k hk => (okd _).2 fun n hn => ?_, fun h1 => ?_⟩
      · have e1 : ((e : Int) * k).natAbs = e * k.natAbs := by rw [Int.natAbs_mul]; rfl
        rw [e1]
        exact ⟨Nat.dvd_trans (a3 n hn).1 (Nat.dvd_mul_right _ _), Nat.dvd_trans (a3 n hn).2 (Nat.dvd_mul_right _ _)⟩
      · cases hh : l.all (okT ((e : Int) - 1)) with
        | false => rfl
        | true =>
          have h2 := a4 ((e : Int) - 1).natAbs (Nat.one_dvd _) ((okd _).1 hh)
          have h3 := Nat.le_of_dvd (by omega) h2
          omega
  · injection h with _ h; cases h
end Go.Proofs.Ytbpaeonfebmomaa

namespace Go.Proofs.Ytbpaeonfebmomaa
open Go.RowKit
set_option linter.unusedVariables false
set_option linter.unusedSimpArgs false
set_option maxRecDepth 100000
attribute [local simp] List.getElem?_cons_zero
attribute [local irreducible] awCond awCall awLoop awDraw ow retQ retC resQ Keeps
set_option maxHeartbeats 1000000 in
theorem SameScore_s {M : Mem} {A B : Option Addr} {n c m d : Nat} {x y : List Note} (hx : Sl noteR M A n x) (hy : Sl noteR M B m y) (hn : n ≤ 1048576) : Det Try.prog M.length 13 [.agg #[.slice A n c], .agg #[.slice B m d]] M (.bool (decide (x = y))) M := by
  have hlx := hx.1
  have hly := hy.1
  first | (refine det_fn Try.func13 rfl Try.ntmps13 Try.results13 rfl rfl rfl (by simp) ?_) | (refine det_fnC Try.func13 rfl Try.ntmps13 Try.results13 rfl rfl (by simp) ?_)
  simp
  refine awCond_split ?_ ?_ <;> intro hnm
  · simp at hnm
    simp
    exact ⟨fun e => by subst e; omega, keeps_app _⟩
  simp at hnm
  obtain rfl : n = m := by omega
  simp
  obtain ⟨M0, hM0⟩ : ∃ M0 : Mem, M0 = M ++ [Slot.live ⟨[.slice A n c], true, true, 26, 1⟩, Slot.live ⟨[.slice B n d], true, true, 26, 1⟩] := ⟨_, rfl⟩
  rw [← hM0]
  have k0 : Keeps M M0 := by rw [hM0]; exact keeps_app _
  have b1 : cellAt M0 M.length 0 = some (.slice A n c) := by rw [hM0]; simp [cellAt]
  have b2 : cellAt M0 (M.length + 1) 0 = some (.slice B n d) := by rw [hM0]; simp [cellAt]
  clear hM0
  have hx0 := hx.keeps k0
  have hy0 := hy.keeps k0
  refine awLoop_T (fun m T M' => ∃ k : Nat, k + m = n ∧ M' = M0 ∧ look T 5 = some (iv k) ∧ look T 3 = some (.pointer (some ⟨M.length + 1, 0, none⟩)) ∧ look T 2 = some (.pointer (some ⟨M.length, 0, none⟩)) ∧ x.take k = y.take k) n ⟨0, by omega, rfl, by simp, by simp, by simp, by simp⟩ ?_
  rintro m T M' ⟨k, hm, rfl, t5, t3, t2, hk⟩
  by_cases hlt : k < n
  · have hlt' : (k : Int) < n := by omega
    obtain ⟨id, off, rfl, he, hc⟩ := hx0.at_ hlt
    obtain ⟨id', off', rfl, he', hc'⟩ := hy0.at_ hlt
    simp (disch := omega) [t5, t3, t2, b1, b2, hlt, hlt']
    refine awDraw_E 10 [[],[0],[],[1,0,2],[3,1,0,2],[],[5],[],[6,5,7],[8,6,5,7],[4,3,1,0,2,9,8,6,5,7]] (by kernel_rfl) (by kernel_rfl) ?_
    simp (disch := omega) [t5, t3, t2, b1, b2, hlt, hlt', he, he', note_load hc, note_load hc', note_neq, wrap_in]
    by_cases heq : el x k = el y k
    · simp (disch := omega) [heq, t5, wrap_in]
      exact lpI (m - 1) (by omega) ⟨k + 1, by omega, rfl, by simp, by simp [t3], by simp [t2], by rw [take_el (by omega), take_el (by omega), hk, heq]⟩
    · simp (disch := omega) [heq]
      refine ⟨fun e => heq (by rw [e]), k0⟩
  · obtain rfl : k = n := by omega
    simp (disch := omega) [t5, t3, t2, b1, b2]
    rw [List.take_of_length_le (by omega), List.take_of_length_le (by omega)] at hk
    exact ⟨hk, k0⟩
theorem SameScore_sl {M : Mem} {v w : Value} {lo hi lo' hi' : Nat} {x y : List Note} (hx : RdL noteR lo hi M v x) (hy : RdL noteR lo' hi' M w y) (ex : x.length ≤ 1048576) : Det Try.prog M.length 13 [.agg #[v], .agg #[w]] M (.bool (decide (x = y))) M := by
  obtain ⟨A, n, c, rfl, hn, hS, _⟩ := hx
  obtain ⟨B, m, d, rfl, hm, hT, _⟩ := hy
  exact SameScore_s hS hT (by have := hS.1; omega)
end Go.Proofs.Ytbpaeonfebmomaa
