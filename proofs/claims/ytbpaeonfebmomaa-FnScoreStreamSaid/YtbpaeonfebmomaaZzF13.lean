/- Parts of the proof, together: Streams: are they valid. The reference's events of a score. The program's test of notes that overlap. slices.SortFunc at this program: where the contract of the library lies (seat r14's own numbers). A row of one's own is written anew as a whole, and blocks are laid behind. slices.SortFunc of events: the comparison. slices.SortFunc of events, as a contract. The program's events of a score. A row o No conditions. -/
import Derived.Test.YtbpaeonfebmomaaZzF12
import Derived.Test.YtbpaeonfebmomaaProg
import Derived.Shelf.SlSortCmp.WholeK
import Derived.Ground.SlsfProg
import Derived.Test.YtbpaeonfebmomaaZzF11
import Derived.Test.YtbpaeonfebmomaaZzF8
import Derived.Test.YtbpaeonfebmomaaZzF10
namespace Go.Proofs.Ytbpaeonfebmomaa
open Go.RowKit
set_option linter.unusedVariables false
set_option linter.unusedSimpArgs false
set_option maxRecDepth 100000
attribute [local simp] List.getElem?_cons_zero
attribute [local irreducible] awCond awCall awLoop awDraw ow retQ retC resQ Keeps
def eventB (e : StreamEvent) : Bool := inB e.d 0 268435455 && inB e.o 0 15 && inB e.k 0 127 && ((decide (e.j = 1) && inB e.u 1 127) || (decide (e.j = 2) && decide (e.u = 0)))
theorem l20Event_a {M : Mem} {id off : Nat} {g : StreamEvent} (h : Cl M id off g.row) : Det Try.prog M.length 69 [.pointer (some ⟨id, off, none⟩)] M (.bool (eventB g)) M := by
  obtain ⟨h0, h1, h2, h3, h4⟩ := streamEvent_cells h
  first | (refine det_fn Try.func69 rfl Try.ntmps69 Try.results69 rfl rfl rfl (by simp) ?_) | (refine det_fnC Try.func69 rfl Try.ntmps69 Try.results69 rfl rfl (by simp) ?_)
  simp [h0, h1, h2, h3, h4]
  repeat' (first | (refine guardV_split ?_ ?_ <;> intro _) | (refine awCond_split ?_ ?_ <;> intro _) | (refine awCall_det' (l00In_a _ _ _) (Nat.le_refl _) ?_) | (simp [*]))
  all_goals (simp_all [eventB, Keeps.refl] <;> omega)
theorem isEvent_a {M : Mem} (g : StreamEvent) : Det Try.prog M.length 64 [g.v] M (.bool (eventB g)) M := by
  first | (refine det_fn Try.func64 rfl Try.ntmps64 Try.results64 rfl rfl rfl (by simp) ?_) | (refine det_fnC Try.func64 rfl Try.ntmps64 Try.results64 rfl rfl (by simp) ?_)
  simp
  repeat' (first | (refine guardV_split ?_ ?_ <;> intro _) | (refine awCall_det' (isKey_a _) (by simp) ?_) | (refine awCall_det' (within_a _ _ _) (by simp) ?_) | (simp [*]))
  all_goals (simp_all [eventB, keeps_app] <;> omega)
theorem IndexFunc_a {M : Mem} {A : Option Addr} {n c : Nat} {l : List StreamEvent} {g : FuncId} {us vs : Array Value} (p : StreamEvent → Bool) (h : Sl streamEventR M A n l) (hn : n ≤ 1099511627776)
    (hp : ∀ (M' : Mem) a, Keeps M M' → a ∈ l → Det Try.prog M'.length g (us.toList ++ [a.v] ++ vs.toList) M' (.bool (p a)) M') : Det Try.prog M.length 91 [.slice A n c, .func (.func g) us vs] M (iv (fstI p l)) M := by
  have hl := h.1
  first | (refine det_fn Try.func91 rfl Try.ntmps91 Try.results91 rfl rfl rfl (by simp) ?_) | (refine det_fnC Try.func91 rfl Try.ntmps91 Try.results91 rfl rfl (by simp) ?_)
  simp
  refine awLoop_T (fun m T M' => ∃ k : Nat, k + m = n ∧ M = M' ∧ look T 8 = some (iv k) ∧ look T 7 = some (iv n) ∧ look T 0 = some (.slice A n c) ∧ look T 1 = some (.func (.func g) us vs) ∧ ∀ i, i < k → p (el l i) = false) n ⟨0, by omega, rfl, by simp, by simp, by simp, by simp, by omega⟩ ?_
  rintro m T M' ⟨k, hm, rfl, h8, h7, h0, h1, hk⟩
  by_cases hlt : k < n
  · obtain ⟨id, off, rfl, he, hc⟩ := h.at_ hlt
    simp (disch := omega) [h8, h7, h0, h1, hlt, wrap_in, streamEvent_load hc]
    refine awCall_det' (hp M (el l k) (Keeps.refl M) (el_mem (by omega))) (Nat.le_refl _) ?_
    try simp
    refine awCond_split ?_ ?_ <;> intro hq <;> try simp at hq
    · simp
      exact ⟨(fstI_some (by omega) hq hk).symm, Keeps.refl _⟩
    · simp (disch := omega) [h8, h7, h0, h1, wrap_in]
      refine lpI (m - 1) (by omega) ?_
      refine ⟨k + 1, by omega, rfl, by simp, by simp [h7], by simp [h0], by simp [h1], fun i hi => ?_⟩
      by_cases hik : i < k
      · exact hk i hik
      · obtain rfl : i = k := by omega
        exact hq
  · obtain rfl : k = n := by omega
    simp [h8, h7, h0, h1]
    exact ⟨(fstI_none (by rw [hl]; exact hk)).symm, Keeps.refl _⟩
def okE (l : List StreamEvent) : Bool := decide (l.length ≤ 200) && l.all eventB
theorem l20Ok_a {M : Mem} {A : Option Addr} {n c : Nat} {l : List StreamEvent} (h : Sl streamEventR M A n l) (hn : n ≤ 1099511627776) : Det Try.prog M.length 39 [.slice A n c] M (.bool (okE l)) M := by
  have hl := h.1
  first | (refine det_fn Try.func39 rfl Try.ntmps39 Try.results39 rfl rfl rfl (by simp) ?_) | (refine det_fnC Try.func39 rfl Try.ntmps39 Try.results39 rfl rfl (by simp) ?_)
  simp
  refine awLoop_T (fun m T M' => ∃ k : Nat, k + m = n ∧ M = M' ∧ look T 3 = some (iv k) ∧ look T 0 = some (.slice A n c) ∧ ∀ i, i < k → eventB (el l i) = true) n ⟨0, by omega, rfl, by simp, by simp, by omega⟩ ?_
  rintro m T M' ⟨k, hm, rfl, h3, h0, hk⟩
  by_cases hlt : k < n
  · obtain ⟨id, off, rfl, he, hc⟩ := h.at_ hlt
    simp (disch := omega) [h3, h0, hlt, wrap_in]
    refine awCall_det' (l20Event_a hc) (Nat.le_refl _) ?_
    simp
    refine awCond_split ?_ ?_ <;> intro hq <;> try simp at hq
    · simp [Keeps.refl, okE]
      exact fun _ => ⟨el l k, el_mem (by omega), hq⟩
    · simp (disch := omega) [h3, h0, wrap_in]
      refine lpI (m - 1) (by omega) ?_
      refine ⟨k + 1, by omega, rfl, by simp, by simp [h0], fun i hi => ?_⟩
      by_cases hik : i < k
      · exact hk i hik
      · obtain rfl : i = k := by omega
        exact hq
  · obtain rfl : k = n := by omega
    have : l.all eventB = true := List.all_eq_true.2 fun x hx => by
      obtain ⟨i, hi, rfl⟩ := List.getElem_of_mem hx
      rw [el_eq hi]; exact hk i (by omega)
    simp [h3, h0, Keeps.refl, okE, this, hl]
    try omega
theorem isStream1_a {M : Mem} (a : StreamEvent) : Det Try.prog M.length 63 [a.v] M (.bool (!eventB a)) M := by
  first | (refine det_fn Try.func63 rfl Try.ntmps63 Try.results63 rfl rfl rfl (by simp) ?_) | (refine det_fnC Try.func63 rfl Try.ntmps63 Try.results63 rfl rfl (by simp) ?_)
  simp
  refine awCall_det' (isEvent_a a) (by simp) ?_
  simp [keeps_app]
theorem ContainsFunc_a {M : Mem} {A : Option Addr} {n c : Nat} {l : List StreamEvent} {g : FuncId} {us vs : Array Value} (p : StreamEvent → Bool) (h : Sl streamEventR M A n l) (hn : n ≤ 1099511627776)
    (hp : ∀ (M' : Mem) a, Keeps M M' → a ∈ l → Det Try.prog M'.length g (us.toList ++ [a.v] ++ vs.toList) M' (.bool (p a)) M') : Det Try.prog M.length 62 [.slice A n c, .func (.func g) us vs] M (.bool (decide (0 ≤ fstI p l))) M := by
  first | (refine det_fn Try.func62 rfl Try.ntmps62 Try.results62 rfl rfl rfl (by simp) ?_) | (refine det_fnC Try.func62 rfl Try.ntmps62 Try.results62 rfl rfl (by simp) ?_)
  simp
  refine awCall_det' (IndexFunc_a p h hn hp) (Nat.le_refl _) ?_
  simp [Keeps.refl]
theorem isStream_a {M : Mem} {A : Option Addr} {n c : Nat} {l : List StreamEvent} (h : Sl streamEventR M A n l) (hn : n ≤ 1099511627776) : Det Try.prog M.length 36 [.slice A n c] M (.bool (okE l)) M := by
  have hl := h.1
  first | (refine det_fn Try.func36 rfl Try.ntmps36 Try.results36 rfl rfl rfl (by simp) ?_) | (refine det_fnC Try.func36 rfl Try.ntmps36 Try.results36 rfl rfl (by simp) ?_)
  by_cases hq : (n : Int) ≤ 200
  · simp [hq]
    refine awCall_det' (ContainsFunc_a (fun a => !eventB a) h hn fun M' a _ _ => isStream1_a a) (Nat.le_refl _) ?_
    have : (!decide (0 ≤ fstI (fun a => !eventB a) l)) = l.all eventB := by
      by_cases hA : l.all eventB = true
      · rw [fstI_none (fun i hi => by have := List.all_eq_true.1 hA _ (el_mem hi); simp [this]), hA]; rfl
      · simp only [Bool.not_eq_true] at hA
        rw [hA]
        unfold fstI
        cases hf : l.findIdx? (fun a => !eventB a) with
        | none =>
          rw [List.findIdx?_eq_none_iff] at hf
          have : l.all eventB = true := List.all_eq_true.2 fun x hx => by have := hf x hx; simpa using this
          rw [this] at hA; cases hA
        | some i => simp
    have h2 : n ≤ 200 := by omega
    simp [this, Keeps.refl, okE, hl, h2]
  · have h2 : ¬ n ≤ 200 := by omega
    simp [hq, okE, hl, Keeps.refl, h2]
theorem ValidStream_s {M : Mem} {A : Option Addr} {n c : Nat} {l : List StreamEvent} (h : Sl streamEventR M A n l) (hn : n ≤ 1099511627776) : Det Try.prog M.length 12 [.slice A n c] M (.bool (okE l)) M := by
  first | (refine det_fn Try.func12 rfl Try.ntmps12 Try.results12 rfl rfl rfl (by simp) ?_) | (refine det_fnC Try.func12 rfl Try.ntmps12 Try.results12 rfl rfl (by simp) ?_)
  simp
  refine awCall_det' (l20Ok_a h hn) (Nat.le_refl _) ?_
  simp [Keeps.refl]





theorem ValidStream_sl {M : Mem} {v : Value} {lo hi : Nat} {x : List StreamEvent} (hx : RdL streamEventR lo hi M v x) (ex : x.length ≤ 1048576) : Det Try.prog M.length 12 [v] M (.bool (okE x)) M := by
  obtain ⟨A, n, c, rfl, hn, hS, _⟩ := hx
  exact ValidStream_s hS (by have := hS.1; omega)



end Go.Proofs.Ytbpaeonfebmomaa

namespace Go.Proofs.Ytbpaeonfebmomaa
open Go.RowKit
set_option linter.unusedVariables false
set_option linter.unusedSimpArgs false
set_option maxRecDepth 100000
attribute [local simp] List.getElem?_cons_zero
attribute [local irreducible] awCond awCall awLoop awDraw ow retQ retC resQ Keeps
theorem awLoop_joinR {P : Program} {b n id : Nat} {F : (Ex → St → Prop) → St → Prop} {Y : Code} {Q : Ex → St → Prop} {T : List (Nat × Value)} {M : Mem} (J : List (Nat × Value) → Mem → Prop)
    (h1 : ∀ Q' : Ex → St → Prop, (∀ T' M', J T' M' → Q' .normal ⟨n, T', M'⟩) → (∀ S, Q .ret S → Q' .ret S) → awLoop F (sBlock id Q' tk) ⟨n, T, M⟩)
    (h3 : ∀ T' M', J T' M' → sAw P b Y Q ⟨n, T', M'⟩) : awLoop F (sBlock id (sThen P b Y Q tk) tk) ⟨n, T, M⟩ :=
  h1 _ (fun T' M' hJ => by rw [sThen_normal]; exact h3 T' M' hJ) fun S hS => by rw [sThen_ret]; exact hS
def StR (M : Mem) (w : List StreamEvent × Int) (r : Value) (M' : Mem) : Prop := ∃ v0, r = .tuple #[v0, iv w.2] ∧ OwL streamEventR M.length M'.length M' v0 w.1 ∧ Keeps M M'
theorem StR.no {M M' : Mem} {e : Int} (h : Keeps M M') : StR M ([], e) (.tuple #[.slice none 0 0, iv e]) M' := ⟨_, rfl, OwL.nil, h⟩
theorem put_rowE {b : Nat} {M : Mem} {id p : Nat} {v : Value} {cs : List Value} {t : Bool} {e : TypeId} {z : Nat} (hr : M[id]? = some (.live ⟨cs, true, t, e, z⟩)) (hb : b ≤ id) (hp : p < cs.length) (h1 : oneV v = true) :
    putCells b M id p [v] = some (M.set id (.live ⟨cs.set p v, true, t, e, z⟩)) := by
  unfold putCells
  rw [hr]
  simp only
  rw [if_pos ⟨hb, trivial, by simp; omega, by simp [h1]⟩]
  rfl
theorem rowEsz_keepsE {M M' : Mem} {id k : Nat} (h : Keeps M M') (hz : rowEsz M id = some k) : rowEsz M' id = some k := by
  unfold rowEsz at hz ⊢
  cases hm : M[id]? with
  | none => rw [hm] at hz; cases hz
  | some s => rw [h.get hm]; rw [hm] at hz; exact hz
def lastE : Int → List StreamEvent → Int
  | b, [] => b
  | _, e :: l => lastE e.d l
theorem dltE_snoc : ∀ (l : List StreamEvent) (b : Int) (e : StreamEvent), dltE b (l ++ [e]) = dltE b l ++ [{ e with d := e.d - lastE b l }] ∧ lastE b (l ++ [e]) = e.d
  | [], b, e => ⟨rfl, rfl⟩
  | x :: l, b, e => by
    obtain ⟨h1, h2⟩ := dltE_snoc l x.d e
    exact ⟨by rw [List.cons_append, dltE, h1]; rfl, by rw [List.cons_append, lastE, h2]⟩
theorem lastE_bd {l : List StreamEvent} (h : ∀ x, x ∈ l → 0 ≤ x.d ∧ x.d ≤ 960000000000) : ∀ b : Int, 0 ≤ b ∧ b ≤ 960000000000 → 0 ≤ lastE b l ∧ lastE b l ≤ 960000000000 := by
  induction l with
  | nil => exact fun b hb => hb
  | cons x l ih => exact fun b hb => ih (fun y hy => h y (by simp [hy])) _ (h x (by simp))
theorem evsL_take {D : Int} {l : List Note} {k : Nat} (hk : k < l.length) : evsL D (l.take (k + 1)) = evsL D (l.take k) ++ [onE D (el l k)] ++ [ofE D (el l k)] := by
  rw [take_el hk]
  unfold evsL
  simp
theorem sortE_snoc (l : List StreamEvent) (e : StreamEvent) : sortE (l ++ [e]) = insE (sortE l) e := by unfold sortE; rw [List.foldl_append]; rfl
theorem note_nn {n : Note} (h : noteB n = true) : fracB n.at_ = true ∧ fracB n.fin = true ∧ 0 ≤ n.at_.n ∧ 0 ≤ n.fin.n := by
  obtain ⟨a1, a2⟩ := note_end h
  have hb := beatB_iff.1 (noteB_iff.1 h).1
  have hp := note_pos h
  obtain ⟨d1, d2⟩ := note_dens h
  refine ⟨a1, a2, hb.2.1, ?_⟩
  have h0 : 0 ≤ n.at_.n * n.fin.d := Int.mul_nonneg hb.2.1 (by omega)
  by_cases hn : 0 ≤ n.fin.n
  · exact hn
  · have := Int.mul_nonneg (a := -n.fin.n) (b := n.at_.d) (by omega) (by omega)
    rw [Int.neg_mul] at this
    omega
theorem evs_ok {D : Int} {l : List Note} (hv : l.all noteB = true) (hD : 1 ≤ D ∧ D ≤ 960) : ∀ x, x ∈ evsL D l → kdB x ∧ (0 ≤ x.d ∧ x.d ≤ 960000000000) ∧ (0 ≤ x.o ∧ x.o ≤ 15) ∧ (0 ≤ x.k ∧ x.k ≤ 127) := by
  intro x hx
  unfold evsL at hx
  obtain ⟨n, hn, hx⟩ := List.mem_flatMap.1 hx
  have hnb := List.all_eq_true.1 hv n hn
  obtain ⟨f1, f2, z1, z2⟩ := note_nn hnb
  obtain ⟨-, -, -, -, hk, hu, ho⟩ := noteB_iff.1 hnb
  have t1 := (tk_arith f1 z1 hD).2.2.2.2
  have t2 := (tk_arith f2 z2 hD).2.2.2.2
  simp only [List.mem_cons, List.not_mem_nil, or_false] at hx
  rcases hx with rfl | rfl
  · exact ⟨.inl rfl, t1, ho, hk⟩
  · exact ⟨.inr rfl, t2, ho, hk⟩
theorem all_take {l : List Note} {p : Note → Bool} (h : l.all p = true) (k : Nat) : (l.take k).all p = true := by
  rw [List.all_eq_true] at h ⊢
  exact fun x hx => h x (List.mem_of_mem_take hx)
theorem sortE_len (D : Int) (l : List Note) : (sortE (evsL D l)).length = 2 * l.length := by rw [(sortE_perm _).length_eq, evsL_len]
theorem timed_build (t j o k u : Int) : Instr.fill (fun x => [(0, 1), (1, 5)][x]?) #[iv 0, iv 0, iv 0, iv 0, iv 0, iv 0] [(0, iv t), (1, .agg #[iv 0, iv j, iv o, iv k, iv u])] = some #[iv t, iv 0, iv j, iv o, iv k, iv u] := by
  simp [Instr.fill, Value.cells, List.zipIdx]
theorem ev_build4 (j o k u : Int) : Instr.fill (fun x => [(0, 1), (1, 1), (2, 1), (3, 1), (4, 1)][x]?) #[iv 0, iv 0, iv 0, iv 0, iv 0] [(1, iv j), (2, iv o), (3, iv k), (4, iv u)] = some #[iv 0, iv j, iv o, iv k, iv u] := by rfl
theorem ev_build3 (j o k : Int) : Instr.fill (fun x => [(0, 1), (1, 1), (2, 1), (3, 1), (4, 1)][x]?) #[iv 0, iv 0, iv 0, iv 0, iv 0] [(1, iv j), (2, iv o), (3, iv k)] = some #[iv 0, iv j, iv o, iv k, iv 0] := by rfl




























































































































































































































































end Go.Proofs.Ytbpaeonfebmomaa

namespace Go.Proofs.Ytbpaeonfebmomaa
open Go.RowKit
set_option linter.unusedVariables false
set_option linter.unusedSimpArgs false
set_option maxRecDepth 100000
attribute [local simp] List.getElem?_cons_zero
attribute [local irreducible] awCond awCall awLoop awDraw ow retQ retC resQ Keeps
set_option maxHeartbeats 2000000 in
theorem overlap_i {M : Mem} {A : Option Addr} {n c : Nat} {l : List Note} (h : Sl noteR M A n l) (hn : n ≤ 1048576) (hv : l.all noteB = true) : Det Try.prog M.length 33 [.slice A n c] M (.bool (hitB l)) M := by
  have hl := h.1
  first | (refine det_fn Try.func33 rfl Try.ntmps33 Try.results33 rfl rfl rfl (by simp) ?_) | (refine det_fnC Try.func33 rfl Try.ntmps33 Try.results33 rfl rfl (by simp) ?_)
  simp
  refine awLoop_T (fun m T M' => ∃ k : Nat, k + m = n ∧ Keeps M M' ∧ (∀ i j, i < k → i < j → j < n → clashB (el l i) (el l j) = false) ∧ look T 9 = some (iv k) ∧ look T 8 = some (iv n) ∧ look T 7 = some (.slice A n c) ∧ look T 0 = some (.slice A n c)) n ⟨0, by omega, Keeps.refl _, fun i j hi => by omega, by simp, by simp, by simp, by simp⟩ ?_
  rintro m T M1 ⟨k, hm, kM, hc, t9, t8, t7, t0⟩
  have n1 := kM.len
  by_cases hlt : k < n
  case neg =>
    obtain rfl : k = n := by omega
    simp (disch := omega) [t9, t8]
    exact ⟨hitB_no.2 fun i j hij hj => hc i j (by omega) hij (by omega), kM⟩
  have hlt' : (k : Int) < n := by omega
  obtain ⟨id, off, rfl, hz, hcl⟩ := (h.keeps kM).at_ hlt
  have ld := note_load hcl
  have hka := all_el hv (i := k) (by omega)
  simp (disch := omega) [t9, t8, t7, t0, hlt, hlt', hz, ld, wrap_in]
  obtain ⟨M2, hM2⟩ : ∃ M2 : Mem, M2 = M1 ++ [Slot.live ⟨[iv (el l k).an, iv (el l k).ad, iv (el l k).ln, iv (el l k).ld, iv (el l k).k, iv (el l k).u, iv (el l k).o], true, true, 53, 7⟩] := ⟨_, rfl⟩
  rw [← hM2]
  have k12 : Keeps M1 M2 := by rw [hM2]; exact keeps_app _
  have n2 : M2.length = M1.length + 1 := by rw [hM2]; simp
  have bx : Cl M2 M1.length 0 (el l k).row := fun j x hx => by rw [hM2]; simp [cellAt]; exact hx
  have hzz : rowEsz M2 id = some 7 := rowEsz_keepsE k12 hz
  clear hM2
  refine ⟨by omega, hzz, ?_⟩
  obtain ⟨fa1, fa2⟩ := note_end hka
  refine awLoop_T (fun m' T M' => ∃ q : Nat, q + m' = n - (k + 1) ∧ Keeps M2 M' ∧ (∀ j, k < j → j < k + 1 + q → clashB (el l k) (el l j) = false) ∧ look T 19 = some (iv q) ∧ look T 18 = some (iv ((n - (k + 1) : Nat) : Int)) ∧ look T 17 = some (.slice (some ⟨id, off + (k + 1) * 7, none⟩) (n - (k + 1)) (n - (k + 1))) ∧ look T 4 = some (.pointer (some ⟨M1.length, 0, none⟩)) ∧ look T 9 = some (iv k) ∧ look T 8 = some (iv n) ∧ look T 7 = some (.slice (some ⟨id, off, none⟩) n c) ∧ look T 0 = some (.slice (some ⟨id, off, none⟩) n c)) (n - (k + 1))
    ⟨0, by omega, Keeps.refl _, fun j h1 h2 => by omega, by simp, by simp, by simp, by simp, by simp [t9], by simp [t8], by simp [t7], by simp [t0]⟩ ?_
  rintro m' T' M3 ⟨q, hq, k23, hcq, u19, u18, u17, u4, u9, u8, u7, u0⟩
  have n3 := k23.len
  by_cases hqn : q < n - (k + 1)
  case neg =>
    have hqn1 : ¬ (q : Int) < ((n - (k + 1) : Nat) : Int) := by omega
    simp (disch := omega) [u19, u18, hqn, hqn1, u9, wrap_in]
    refine lpI (m - 1) (by omega) ⟨k + 1, by omega, (kM.trans k12).trans k23, fun i j hi hij hj => ?_, by simp, by simp [u8], by simp [u7], by simp [u0]⟩
    by_cases e : i = k
    · subst e; exact hcq j hij (by omega)
    · exact hc i j (by omega) hij hj
  have hqn1 : (q : Int) < ((n - (k + 1) : Nat) : Int) := by omega
  have sd := ((h.keeps kM).keeps (k12.trans k23)).dropE (m := k + 1) (by omega)
  obtain ⟨_, _, e1, hz3, hc3⟩ := sd.at_ (i := q) hqn
  injection e1 with e1
  injection e1 with e1 e2
  subst e1; subst e2
  have ed : el (l.drop (k + 1)) q = el l (k + 1 + q) := by simp [el]
  rw [ed] at hc3
  have ld3 := note_load hc3
  have hkb := all_el hv (i := k + 1 + q) (by omega)
  obtain ⟨fb1, fb2⟩ := note_end hkb
  simp (disch := omega) [u19, u18, u17, hqn, hqn1, hz3, ld3]
  obtain ⟨M4, hM4⟩ : ∃ M4 : Mem, M4 = M3 ++ [Slot.live ⟨[iv (el l (k + 1 + q)).an, iv (el l (k + 1 + q)).ad, iv (el l (k + 1 + q)).ln, iv (el l (k + 1 + q)).ld, iv (el l (k + 1 + q)).k, iv (el l (k + 1 + q)).u, iv (el l (k + 1 + q)).o], true, true, 53, 7⟩] := ⟨_, rfl⟩
  rw [← hM4]
  have k34 : Keeps M3 M4 := by rw [hM4]; exact keeps_app _
  have n4 : M4.length = M3.length + 1 := by rw [hM4]; simp
  have bx4 : Cl M4 M3.length 0 (el l (k + 1 + q)).row := fun j x hx => by rw [hM4]; simp [cellAt]; exact hx
  have bxa : Cl M4 M1.length 0 (el l k).row := fun j x hx => cellAt_keeps (k23.trans k34) (bx j x hx)
  clear hM4
  obtain ⟨-, -, -, -, a4, -, a6⟩ := note_cells bxa
  obtain ⟨-, -, -, -, b4, -, b6⟩ := note_cells bx4
  obtain ⟨gb, -⟩ := note_cellsN bx4
  have lda := note_load bxa
  have KK := ((kM.trans k12).trans k23).trans k34
  simp only [Nat.zero_add] at a4 a6 b4 b6
  refine awDraw_E 17 [[],[0],[],[2],[1,0,3,2],[4,1,0,3,2],[5,4,1,0,3,2],[6,5,4,1,0,3,2],[5,4,1,0,3,2],[8,5,4,1,0,3,2],[7,6,5,4,1,0,3,2,9,8],[5,4,1,0,3,2,10,7,6,9,8],[11,5,4,1,0,3,2,10,7,6,9,8],[12,11,5,4,1,0,3,2,10,7,6,9,8],[13,12,11,5,4,1,0,3,2,10,7,6,9,8],[12,11,5,4,1,0,3,2,10,7,6,9,8],[15,12,11,5,4,1,0,3,2,10,7,6,9,8],[14,13,12,11,5,4,1,0,3,2,10,7,6,9,8,16,15],[17,14,13,12,11,5,4,1,0,3,2,10,7,6,9,8,16,15],[12,11,5,4,1,0,3,2,10,7,6,9,8,18,17,14,13,16,15]] (by kernel_rfl) (by kernel_rfl) ?_
  have ext : clashB (el l k) (el l (k + 1 + q)) = false → ∀ j, k < j → j < k + 1 + (q + 1) → clashB (el l k) (el l j) = false := fun hh j h1 h2 => by
    by_cases e : j = k + 1 + q
    · rw [e]; exact hh
    · exact hcq j h1 (by omega)
  have K24 := k23.trans k34
  by_cases eo : (el l k).o = (el l (k + 1 + q)).o
  case neg =>
    have hcl : clashB (el l k) (el l (k + 1 + q)) = false := by unfold clashB; simp [eo]
    simp (disch := omega) [u4, a4, a6, b4, b6, gb, lda, eo, u19, wrap_in]
    exact lpI (m' - 1) (by omega) ⟨q + 1, by omega, K24, ext hcl, by simp, by simp [u18], by simp [u17], by simp [u4], by simp [u9], by simp [u8], by simp [u7], by simp [u0]⟩
  by_cases ek : (el l k).k = (el l (k + 1 + q)).k
  case neg =>
    have hcl : clashB (el l k) (el l (k + 1 + q)) = false := by unfold clashB; simp [ek]
    simp (disch := omega) [u4, a4, a6, b4, b6, gb, lda, eo, ek, u19, wrap_in]
    exact lpI (m' - 1) (by omega) ⟨q + 1, by omega, K24, ext hcl, by simp, by simp [u18], by simp [u17], by simp [u4], by simp [u9], by simp [u8], by simp [u7], by simp [u0]⟩
  have hcv : clashB (el l k) (el l (k + 1 + q)) = decide (cmpF (el l (k + 1 + q)).at_ (el l k).fin < 0) := by
    unfold clashB cmpX
    rw [if_pos ⟨fb1, fa2⟩]
    simp [eo, ek]
  have eo' : ((el l k).o = (el l (k + 1 + q)).o) = True := eq_true eo
  have ek' : ((el l k).k = (el l (k + 1 + q)).k) = True := eq_true ek
  clear eo ek
  simp (disch := omega) [u4, a4, a6, b4, b6, gb, lda, eo', ek']
  refine awCall_det' (end_i (el l k)) (Nat.le_refl _) ?_
  simp (disch := omega)
  refine awCall_det' (compare_i (el l (k + 1 + q)).at_ (el l k).fin fb1 fa2) (by have := KK.len; omega) ?_
  by_cases hlt0 : cmpF (el l (k + 1 + q)).at_ (el l k).fin < 0
  · rw [decide_eq_true hlt0] at hcv
    simp (disch := omega) [hlt0]
    exact ⟨hitB_yes (i := k) (j := k + 1 + q) (by omega) (by omega) hcv, KK⟩
  · rw [decide_eq_false hlt0] at hcv
    simp (disch := omega) [hlt0, u19, wrap_in]
    exact lpI (m' - 1) (by omega) ⟨q + 1, by omega, K24, ext hcv, by simp, by simp [u18], by simp [u17], by simp [u4], by simp [u9], by simp [u8], by simp [u7], by simp [u0]⟩
end Go.Proofs.Ytbpaeonfebmomaa

namespace Go.Proofs.Ytbpaeonfebmomaa
open Go.Shelf
def sortFn_ren : Go.Shelf.Ren := ⟨fun | 6 => 34 | 15 => 61 | 14 => 60 | 28 => 89 | 29 => 90 | 20 => 81 | 21 => 82 | 22 => 83 | 23 => 84 | 24 => 85 | 25 => 86 | 26 => 87 | 27 => 88 | 46 => 98 | 47 => 99 | 48 => 100 | 49 => 101 | 50 => 102 | 57 => 106 | n => n, fun | 22 => 31 | 24 => 69 | 25 => 72 | 3 => 3 | 39 => 102 | 0 => 0 | 53 => 125 | 55 => 57 | 4 => 4 | 46 => 118 | 45 => 117 | 50 => 122 | 5 => 5 | 9 => 9 | 66 => 131 | 70 => 135 | 76 => 140 | 77 => 141 | n => n, fun | n => n⟩
theorem sortFn : Go.Proofs.SlLaysF0.n6 Try.prog sortFn_ren := {
  mixed := by kernel_rfl
  f6 := ⟨Try.f34.name, by decide, Try.func34.trans (congrArg some (by kernel_rfl))⟩
  f14 := ⟨Try.f60.name, by decide, Try.func60.trans (congrArg some (by kernel_rfl))⟩
  f15 := Try.func61.trans (congrArg some (by kernel_rfl))
  f20 := ⟨Try.f81.name, by decide, Try.func81.trans (congrArg some (by kernel_rfl))⟩
  f21 := ⟨Try.f82.name, by decide, Try.func82.trans (congrArg some (by kernel_rfl))⟩
  f22 := ⟨Try.f83.name, by decide, Try.func83.trans (congrArg some (by kernel_rfl))⟩
  f23 := ⟨Try.f84.name, by decide, Try.func84.trans (congrArg some (by kernel_rfl))⟩
  f24 := ⟨Try.f85.name, by decide, Try.func85.trans (congrArg some (by kernel_rfl))⟩
  f25 := ⟨Try.f86.name, by decide, Try.func86.trans (congrArg some (by kernel_rfl))⟩
  f26 := ⟨Try.f87.name, by decide, Try.func87.trans (congrArg some (by kernel_rfl))⟩
  f27 := ⟨Try.f88.name, by decide, Try.func88.trans (congrArg some (by kernel_rfl))⟩
  f28 := Try.func89.trans (congrArg some (by kernel_rfl))
  f29 := Try.func90.trans (congrArg some (by kernel_rfl))
  f46 := ⟨Try.f98.name, by decide, Try.func98.trans (congrArg some (by kernel_rfl))⟩
  f47 := Try.func99.trans (congrArg some (by kernel_rfl))
  f48 := Try.func100.trans (congrArg some (by kernel_rfl))
  f49 := ⟨Try.f101.name, by decide, Try.func101.trans (congrArg some (by kernel_rfl))⟩
  f50 := ⟨Try.f102.name, by decide, Try.func102.trans (congrArg some (by kernel_rfl))⟩
  f57 := ⟨Try.f106.name, by decide, Try.func106.trans (congrArg some (by kernel_rfl))⟩
  t0 := Try.underlying0
  a0 := Try.isAgg0
  z0 := Try.sizeOf0
  v0 := Try.zeroValue0
  t3 := Try.underlying3
  a3 := Try.isAgg3
  z3 := Try.sizeOf3
  v3 := Try.zeroValue3
  t4 := Try.underlying4
  a4 := Try.isAgg4
  z4 := Try.sizeOf4
  v4 := Try.zeroValue4
  t5 := Try.underlying5
  a5 := Try.isAgg5
  z5 := Try.sizeOf5
  v5 := Try.zeroValue5
  t9 := Try.underlying9
  a9 := Try.isAgg9
  z9 := Try.sizeOf9
  v9 := Try.zeroValue9
  t22 := Try.underlying31
  a22 := Try.isAgg31
  z22 := Try.sizeOf31
  v22 := Try.zeroValue31
  t25 := Try.underlying72
  a25 := Try.isAgg72
  z25 := Try.sizeOf72
  v25 := Try.zeroValue72
  t39 := Try.underlying102
  a39 := Try.isAgg102
  z39 := Try.sizeOf102
  v39 := Try.zeroValue102
  t45 := Try.underlying117
  a45 := Try.isAgg117
  z45 := Try.sizeOf117
  v45 := Try.zeroValue117
  t46 := Try.underlying118
  a46 := Try.isAgg118
  z46 := Try.sizeOf118
  v46 := Try.zeroValue118
  t50 := Try.underlying122
  a50 := Try.isAgg122
  z50 := Try.sizeOf122
  v50 := Try.zeroValue122
  t53 := Try.underlying125
  a53 := Try.isAgg125
  z53 := Try.sizeOf125
  v53 := Try.zeroValue125
  t55 := Try.underlying57
  a55 := Try.isAgg57
  z55 := Try.sizeOf57
  v55 := Try.zeroValue57
  t66 := Try.underlying131
  a66 := Try.isAgg131
  z66 := Try.sizeOf131
  v66 := Try.zeroValue131
  t70 := Try.underlying135
  a70 := Try.isAgg135
  z70 := Try.sizeOf135
  v70 := Try.zeroValue135
  t76 := Try.underlying140
  a76 := Try.isAgg140
  z76 := Try.sizeOf140
  v76 := Try.zeroValue140
  t77 := Try.underlying141
  a77 := Try.isAgg141
  z77 := Try.sizeOf141
  v77 := Try.zeroValue141 }
end Go.Proofs.Ytbpaeonfebmomaa

namespace Go.Proofs.Ytbpaeonfebmomaa
open Go.RowKit
set_option linter.unusedVariables false
set_option linter.unusedSimpArgs false
theorem Sim.rewrite {b : Nat} {M : Mem} {μ : Map} {w w' : World} (h : Sim M μ w) {id : Nat} {r : Row} {xs : List Value} (hr : M[id]? = some (.live r)) (ho : r.own = true) (hb : b ≤ id) (hxl : xs.length = r.cells.length)
    (h1 : w'.os = w.os) (h2 : w'.tape = w.tape) (h3 : w'.output = w.output) (h4 : w.heap.size ≤ w'.heap.size) (h5 : ∀ k, k < w.heap.size → k ≠ (μ.at_ id).block → w'.heap[k]? = w.heap[k]?)
    (h6 : ∀ (cur : Array Value) (fr : Nat × Nat), w.heap[(μ.at_ id).block]? = some (.cells cur r.elem fr) → r.cells.length ≤ cur.size → ∃ cur' : Array Value, w'.heap[(μ.at_ id).block]? = some (.cells cur' r.elem fr) ∧ cur'.size = cur.size ∧ ∀ (j : Nat) c, xs[j]? = some c → ∃ d, cur'[j]? = some d ∧ VRel M μ c d) :
    Sim (M.set id (.live { r with cells := xs })) μ w' ∧ Step b M μ w (M.set id (.live { r with cells := xs })) μ w' := by
  obtain ⟨a1, a2, a3⟩ := h.row id r hr
  obtain ⟨g, cur, fr, e1, e2, ef, e3, e4, e5⟩ := a3 ho
  have hid := (List.getElem?_eq_some_iff.1 hr).1
  have eg : (μ.at_ id).block = g := by rw [e1]
  rw [eg] at h5 h6 a1
  obtain ⟨cur', c1, c2, c3⟩ := h6 cur fr e2 e4
  have hst : Step b M μ w (M.set id (.live { r with cells := xs })) μ w' := by
    refine ⟨fun i s hs => ?_, fun _ _ => ⟨rfl, rfl⟩, h1, h2, h3, h4, fun k hk hn _ => h5 k hk fun e => hn id r hb hr ho (by rw [eg, e]), fun i r1 es hi hr' => absurd (List.getElem?_eq_some_iff.1 hr').1 (by rw [List.length_set]; omega), fun i r' hi hr' => ?_⟩
    · by_cases e : i = id
      · subst e
        rw [hr] at hs
        injection hs with hs
        subst hs
        exact ⟨_, List.getElem?_set_self hid, rfl, rfl, rfl, rfl, hxl, fun h => by omega⟩
      · exact ⟨s, by rw [List.getElem?_set_ne (fun h => e h.symm)]; exact hs, Slot.evolves_refl _ _⟩
    · have := (List.getElem?_eq_some_iff.1 hr').1
      rw [List.length_set] at this
      omega
  refine ⟨⟨fun i s hs => ?_, fun i i' r1 r2 k1 k2 hne ho1 => ?_, h.globStep hst, h.mapsKeep (fun k hk hn => h5 k hk fun e => hn id r hr ho (by rw [eg, e])) (fun i r1 es hs => by
    rcases getElem?_set_inv hs with ⟨_, h1, _⟩ | ⟨_, h1⟩
    · cases h1
    · exact h1)⟩, hst⟩
  · rcases getElem?_set_inv hs with ⟨rfl, k1, -⟩ | ⟨hne, k1⟩
    · injection k1 with k1
      subst k1
      refine ⟨by rw [eg]; omega, fun k x hx => ?_, fun _ => ⟨g, cur', fr, e1, c1, by rw [c2]; exact ef, by rw [c2]; exact e3, by rw [c2]; show xs.length ≤ _; omega, by rw [c2]; show r.tight = true → xs.length = _; rw [hxl]; exact e5⟩⟩
      obtain ⟨d, hd, hrel⟩ := c3 k x hx
      refine ⟨d, ?_, hrel.step hst⟩
      rw [e1, Addr.add_lit]
      simp only [Nat.zero_add]
      rw [cell_of_row _ g k cur' _ fr c1, hd]
    · obtain ⟨b1, b2, b3⟩ := h.row i s k1
      have hblk : (μ.at_ id).block ≠ (μ.at_ i).block := h.inj id i r s hr k1 (fun e => hne e.symm) ho
      rw [eg] at hblk
      have hsame := h5 (μ.at_ i).block b1 (Ne.symm hblk)
      refine ⟨by omega, fun k x hx => ?_, fun ho' => ?_⟩
      · obtain ⟨d, hd, hrel⟩ := b2 k x hx
        refine ⟨d, ?_, hrel.step hst⟩
        unfold World.cell? at hd ⊢
        rw [block_add_] at hd ⊢
        rw [hsame]
        exact hd
      · obtain ⟨g', cur2, fr', f1, f2, f3⟩ := b3 ho'
        rw [f1] at hsame
        exact ⟨g', cur2, fr', f1, by rw [hsame]; exact f2, f3⟩
  · have back : ∀ {i : Nat} {s : Row}, (M.set id (.live { r with cells := xs }))[i]? = some (.live s) → ∃ s0, M[i]? = some (.live s0) ∧ s.own = s0.own := by
      intro i s hs
      rcases getElem?_set_inv hs with ⟨rfl, h1, -⟩ | ⟨_, h1⟩
      · injection h1 with h1; subst h1; exact ⟨r, hr, rfl⟩
      · exact ⟨s, h1, rfl⟩
    obtain ⟨s1, q1, q2⟩ := back k1
    obtain ⟨s2, q3, -⟩ := back k2
    exact h.inj i i' s1 s2 q1 q3 hne (by rw [← q2]; exact ho1)
end Go.Proofs.Ytbpaeonfebmomaa

namespace Go.Proofs.Ytbpaeonfebmomaa
open Go.RowKit Go.Shelf Go.Lib Go.Sort
set_option linter.unusedVariables false
set_option linter.unusedSimpArgs false
def evK (e : StreamEvent) : Prop := (-1099511627776 ≤ e.d ∧ e.d ≤ 1099511627776) ∧ (-1099511627776 ≤ e.j ∧ e.j ≤ 1099511627776) ∧ (-1099511627776 ≤ e.o ∧ e.o ≤ 1099511627776) ∧ (-1099511627776 ≤ e.k ∧ e.k ≤ 1099511627776)
abbrev EvK := {e : StreamEvent // evK e}
instance : Inhabited EvK := ⟨⟨⟨0, 0, 0, 0, 0⟩, by unfold evK; simp only; omega⟩⟩
def encK (x : EvK) : List Value := x.1.row
def cfK (x y : EvK) : Int := cmpE x.1 y.1
theorem w64 {x : Int} (h1 : -9223372036854775808 ≤ x) (h2 : x ≤ 9223372036854775807) : IntKind.i64.wrap x = x := IntWalk.i64_in _ ⟨h1, h2⟩
set_option maxHeartbeats 1000000 in
theorem cmp_any (x y : EvK) (W : World) : Calls Try.prog 35 #[.agg (encK x).toArray, .agg (encK y).toArray] W fun e w' => e = .returned (.int .i64 (cfK x y)) ∧ ∃ q os', w' = grow (W.drewN q) os' := by
  obtain ⟨⟨d, j, o, k, u⟩, hx⟩ := x
  obtain ⟨⟨d', j', o', k', u'⟩, hy⟩ := y
  unfold evK at hx hy
  simp only at hx hy
  simp only [encK, StreamEvent.row, cfK, cmpE]
  by_cases e1 : d = d'
  · by_cases e2 : j = j'
    · by_cases e3 : o = o'
      · subst e1; subst e2; subst e3
        go_enter Try.func35, Try.ntmps35
        go_wp2
        go_ret
        exact ⟨rfl, 0, _, by rw [alloc_eq_grow, alloc_eq_grow, grow_grow]; rfl⟩
      · subst e1; subst e2
        go_enter Try.func35, Try.ntmps35
        go_wp2
        go_ret
        exact ⟨rfl, 0, _, by rw [alloc_eq_grow, alloc_eq_grow, grow_grow]; rfl⟩
    · subst e1
      go_enter Try.func35, Try.ntmps35
      go_wp2
      go_ret
      exact ⟨rfl, 0, _, by rw [alloc_eq_grow, alloc_eq_grow, grow_grow]; rfl⟩
  · go_enter Try.func35, Try.ntmps35
    go_wp2
    go_ret
    exact ⟨rfl, 0, _, by rw [alloc_eq_grow, alloc_eq_grow, grow_grow]; rfl⟩
theorem cmp_lays (blk off size : Nat) (w : World) : CmpLays Try.prog 35 #[] encK 5 cfK blk off size w := fun m os dk _ x y => by
  simpa using cmp_any x y (sortWorldK encK 5 w blk off m dk os)
theorem ltOf_iff (x y : EvK) : ltOf cfK x y = true ↔ cmpE x.1 y.1 < 0 := by unfold ltOf cfK; simp
theorem ltOf_not (x y : EvK) : ltOf cfK x y = false ↔ ¬ cmpE x.1 y.1 < 0 := by unfold ltOf cfK; simp
theorem cmp_swo : SWO (ltOf cfK) where
  irrefl x := by rw [ltOf_not, cmpE_lt]; omega
  trans x y z h1 h2 := by rw [ltOf_iff, cmpE_lt] at *; omega
  ntrans x y z h1 h2 := by rw [ltOf_not, cmpE_lt] at *; omega
end Go.Proofs.Ytbpaeonfebmomaa

namespace Go.Proofs.Ytbpaeonfebmomaa
open Go.Shelf Go.Lib Go.Sort
open Go.RowKit
set_option linter.unusedVariables false
set_option linter.unusedSimpArgs false
set_option maxRecDepth 100000
attribute [local simp] List.getElem?_cons_zero
attribute [local irreducible] awCond awCall awLoop awDraw ow retQ retC resQ Keeps
theorem ev_plain (l : List StreamEvent) : (cellsL streamEventR l).all plainV = true := by
  rw [List.all_eq_true]
  intro v hv
  induction l with
  | nil => simp [cellsL_nil] at hv
  | cons a l ih =>
    rw [cellsL_cons] at hv
    rcases List.mem_append.1 hv with h | h
    · simp only [streamEventR, StreamEvent.row, List.mem_cons, List.not_mem_nil, or_false] at h
      rcases h with rfl | rfl | rfl | rfl | rfl <;> rfl
    · exact ih h
theorem flat_ev (d : Array EvK) (j : Nat) (hj : j < d.size * 5) : (cellsL streamEventR (d.toList.map (·.1)))[j]? = some (flatK encK 5 d)[j]! := by
  have hi : j / 5 < d.size := by omega
  have e : j = j / 5 * 5 + j % 5 := by omega
  have := cellsL_get streamEventR (l := d.toList.map (·.1)) (i := j / 5) (j := j % 5) (by simpa using hi) (by omega)
  rw [← e] at this
  rw [this, get_flatK _ _ _ _ hj]
  have h5 : (encK d[j / 5]!).length = 5 := rfl
  have e2 : el (d.toList.map (·.1)) (j / 5) = (d[j / 5]!).1 := by simp [el, hi]
  rw [e2]
  show (encK d[j / 5]!)[j % 5]? = _
  rw [List.getElem?_eq_getElem (by rw [h5]; omega)]
  simp [h5, show j % 5 < 5 by omega]
theorem putRow_heap {w : World} {g : Nat} {cur : Array Value} {e : TypeId} {fr : Nat × Nat} (n : Nat) (F : Array Value) (os : Array Obj) (hg : w.heap[g]? = some (.cells cur e fr)) (hF : F.size ≤ cur.size) :
    (grow (putRow (fun x => x) (Go.Sort.ahead w n) g 0 F) os).os = w.os ∧ (grow (putRow (fun x => x) (Go.Sort.ahead w n) g 0 F) os).tape = w.tape ∧ (grow (putRow (fun x => x) (Go.Sort.ahead w n) g 0 F) os).output = w.output ∧ w.heap.size ≤ (grow (putRow (fun x => x) (Go.Sort.ahead w n) g 0 F) os).heap.size ∧
    (∀ k, k < w.heap.size → k ≠ g → (grow (putRow (fun x => x) (Go.Sort.ahead w n) g 0 F) os).heap[k]? = w.heap[k]?) ∧ ∃ cur' : Array Value, (grow (putRow (fun x => x) (Go.Sort.ahead w n) g 0 F) os).heap[g]? = some (.cells cur' e fr) ∧ cur'.size = cur.size ∧ ∀ j, j < F.size → cur'[j]? = some F[j]! := by
  have hlt : g < w.heap.size := (Array.getElem?_eq_some_iff.1 hg).1
  refine ⟨rfl, rfl, rfl, ?_, fun k hk hne => ?_, Go.Sort.putCells (fun x => x) 0 F cur, ?_, by simp [Go.Sort.putCells], fun j hj => ?_⟩
  · simp [grow, putRow, mapBlock, Go.Sort.ahead]
  · simp only [grow, putRow, mapBlock, Go.Sort.ahead]
    rw [Array.getElem?_append_left (by simpa using hk), Array.getElem?_modify, if_neg (Ne.symm hne)]
  · simp only [grow, putRow, mapBlock, Go.Sort.ahead]
    rw [Array.getElem?_append_left (by simpa using hlt), Array.getElem?_modify, if_pos rfl, hg]
    rfl
  · have hjc : j < cur.size := by omega
    simp [Go.Sort.putCells, hjc, hj]
set_option maxHeartbeats 2000000 in
theorem Sort_a {M : Mem} {B b n c id : Nat} {l : List StreamEvent} {t : Bool} (hln : l.length = n) (hid : B ≤ id) (hrow : M[id]? = some (.live ⟨cellsL streamEventR l, true, t, 69, 5⟩)) (hb : b ≤ B) (hl : l.length ≤ 1000) (hv : ∀ x, x ∈ l → evK x) :
    Ctr Try.prog b 34 [.slice (some ⟨id, 0, none⟩) n c, .func (.func 35) #[] #[]] M fun r M' => r = .tuple #[] ∧ ∃ l' : List StreamEvent, l'.Perm l ∧ l'.Pairwise LeE ∧ M' = M.set id (.live ⟨cellsL streamEventR l', true, t, 69, 5⟩) := by
  refine ⟨⟨_, Try.func34, rfl, rfl⟩, fun μ w cs hcs hS => ?_⟩
  obtain ⟨u', f', rfl, hu, hf⟩ : ∃ u' f', cs = [u', f'] ∧ VRel M μ (.slice (some ⟨id, 0, none⟩) n c) u' ∧ VRel M μ (.func (.func 35) #[] #[]) f' := by
    match cs, hcs with
    | [u', f'], h => exact ⟨u', f', rfl, h.2 0 _ _ rfl rfl, h.2 1 _ _ rfl rfl⟩
    | [], h => have := h.1; simp at this
    | [_], h => have := h.1; simp at this
    | _ :: _ :: _ :: _, h => have := h.1; simp at this
  have hf' : f' = .func (.func 35) #[] #[] := by
    cases hf with
    | plain h => rfl
    | fn h1 h2 h3 h4 =>
      rw [Array.eq_empty_of_size_eq_zero h1.symm, Array.eq_empty_of_size_eq_zero h3.symm]
  subst hf'
  obtain ⟨-, ad, cp, s1, rfl, hs1, -, hu1, hu2, hat⟩ := hu.sl_inv
  rw [hrow] at hs1
  injection hs1 with hs1
  obtain ⟨hu3, hu4⟩ := hat _ hs1.symm
  have hrr := hS.row id _ hrow
  obtain ⟨g, cur, fr, e1, e2', ef, e3, e4, -⟩ := hrr.own rfl
  have e4' : (cellsL streamEventR l).length ≤ cur.size := e4
  have had : ad = ⟨g, 0, none⟩ := by
    rcases hu3 with ⟨-, h⟩ | h
    · exact absurd rfl h
    · rw [h, e1]; rfl
  subst had
  have hcl : (cellsL streamEventR l).length = n * 5 := by rw [cellsL_len, hln]
  obtain ⟨d, hd⟩ : ∃ d : Array EvK, d.toList.map (·.1) = l := ⟨(l.attach.map fun x => (⟨x.1, hv x.1 x.2⟩ : EvK)).toArray, by simp⟩
  have hds : d.size = n := by have := congrArg List.length hd; simpa [hln] using this
  have hH : HoldsK encK 5 w g 0 d := fun j hj => by
    rw [size_flatK] at hj
    have hx := flat_ev d j hj
    rw [hd] at hx
    obtain ⟨y, hy, hr⟩ := hrr.cell j _ hx
    have hp := hr.of_plain (List.all_eq_true.1 (ev_plain l) _ (List.mem_of_getElem? hx))
    rw [e1, Addr.add_lit] at hy
    simp only [Nat.zero_add] at hy ⊢
    refine ⟨by rw [hy, hp]; rfl, ?_⟩
    have := ef j (by omega)
    simp only [World.frozen?, e2']
    simp
    omega
  have hcon := AnyQ.slices_SortFunc sortFn 5 Try.isAgg69 Try.sizeOf69 encK (fun _ => rfl) (fun x v hx => by
    simp only [encK, StreamEvent.row, List.mem_cons, List.not_mem_nil, or_false] at hx
    rcases hx with rfl | rfl | rfl | rfl | rfl <;> rfl) cfK cmp_swo 35 #[] g 0 cp d w (enters_of Try.func35 (by kernel_rfl) rfl) (cmp_lays g 0 d.size w) hH (Array.getElem?_eq_some_iff.1 e2').1 (by omega)
  rw [hds] at hcon
  refine Calls.mono hcon ?_
  rintro e w' ⟨rfl, d', n', os, hp, hs, rfl⟩
  obtain ⟨hp1, hp2, hp3⟩ := hp
  have hds' : d'.size = n := by rw [hp1, hds]
  have hperm : d'.toList.Perm d.toList := by
    have e1 : (d'.extract 0 n).toList = d'.toList := by rw [← hds']; simp
    have e2 : (d.extract 0 n).toList = d.toList := by rw [← hds]; simp
    rwa [e1, e2] at hp3
  have hF : (flatK encK 5 d').size ≤ cur.size := by rw [size_flatK, hds']; omega
  obtain ⟨o1, o2, o3, o4, o5, cur', o6, o7, o8⟩ := putRow_heap n' (flatK encK 5 d') os e2' hF
  have hl' : (d'.toList.map (·.1) : List StreamEvent).length = n := by simpa using hds'
  have hw : sortWorldK encK 5 w g 0 n' d' os = grow (putRow (fun x => x) (Go.Sort.ahead w n') g 0 (flatK encK 5 d')) os := rfl
  rw [hw]
  obtain ⟨q1, q2⟩ := hS.rewrite (b := b) (w' := grow (putRow (fun x => x) (Go.Sort.ahead w n') g 0 (flatK encK 5 d')) os) (xs := cellsL streamEventR (d'.toList.map (·.1))) hrow rfl (by omega) (by rw [cellsL_len, hl', hcl]) o1 o2 o3 o4 (fun k hk hne => o5 k hk (by rw [e1] at hne; exact hne)) (fun cur2 fr2 hc2 _ => by
    rw [e1] at hc2 ⊢
    rw [e2'] at hc2
    injection hc2 with hc2
    injection hc2 with a1 a2 a3
    subst a1; subst a3
    refine ⟨cur', o6, o7, fun j v hj => ?_⟩
    have hjl : j < d'.size * 5 := by have := (List.getElem?_eq_some_iff.1 hj).1; rw [cellsL_len, hl'] at this; omega
    refine ⟨v, ?_, .plain (List.all_eq_true.1 (ev_plain _) v (List.mem_of_getElem? hj))⟩
    rw [o8 j (by rw [size_flatK]; exact hjl), ← flat_ev d' j hjl, hj])
  refine ⟨.tuple #[], _, .tuple #[], μ, ⟨rfl, d'.toList.map (·.1), by rw [← hd]; exact hperm.map _, ?_, rfl⟩, rfl, .tup rfl (fun i x y h => by simp at h), q1, q2⟩
  rw [List.pairwise_iff_getElem]
  intro i j hi hj hij
  rw [List.length_map, Array.length_toList] at hi hj
  have := hs i j (Nat.zero_le _) hij (by omega)
  rw [ltOf_not] at this
  simp only [List.getElem_map, Array.getElem_toList]
  rw [getElem!_pos d' j hj, getElem!_pos d' i hi] at this
  exact .of_not this
end Go.Proofs.Ytbpaeonfebmomaa

namespace Go.Proofs.Ytbpaeonfebmomaa
open Go.RowKit
set_option linter.unusedVariables false
set_option linter.unusedSimpArgs false
set_option maxRecDepth 100000
attribute [local simp] List.getElem?_cons_zero
attribute [local irreducible] awCond awCall awLoop awDraw ow retQ retC resQ Keeps
theorem cells_set_d {l : List StreamEvent} {j : Nat} {x : Int} (h : j < l.length) : (cellsL streamEventR l).set (j * 5) (iv x) = cellsL streamEventR (l.set j { el l j with d := x }) := by
  have e1 : l = l.take j ++ (el l j :: l.drop (j + 1)) := by
    conv => lhs; rw [← List.take_append_drop j l, drop_el h]
  have hl : (l.take j).length = j := by simp; omega
  have e2 : l.set j { el l j with d := x } = l.take j ++ ({ el l j with d := x } :: l.drop (j + 1)) := by
    conv => lhs; rw [e1]
    rw [List.set_append_right _ _ (by omega), hl, Nat.sub_self]
    simp [hl, el_append_right]
    rw [show el (el l j :: List.drop (j + 1) l) 0 = el l j from rfl]
    exact ⟨rfl, rfl, rfl, rfl⟩
  rw [e2]
  conv => lhs; rw [e1]
  have e3 : (cellsL streamEventR (l.take j)).length = j * 5 := by rw [cellsL_len, hl]
  rw [cellsL_append, cellsL_append, cellsL_cons, cellsL_cons, List.set_append_right _ _ (by omega), e3, Nat.sub_self]
  rfl
/-- The first k events have their times, the rest still their ticks. -/
def halfE (s : List StreamEvent) (k : Nat) : List StreamEvent := dltE 0 (s.take k) ++ s.drop k
theorem halfE_len (s : List StreamEvent) {k : Nat} (hk : k ≤ s.length) : (halfE s k).length = s.length := by unfold halfE; rw [List.length_append, dltE_len, List.length_take, List.length_drop]; omega
theorem halfE_el {s : List StreamEvent} {k : Nat} (hk : k < s.length) : el (halfE s k) k = el s k := by
  have hl : (dltE 0 (s.take k)).length = k := by rw [dltE_len, List.length_take]; omega
  unfold halfE
  rw [el_append_right (by omega), hl, Nat.sub_self]
  simp [el]
theorem halfE_set {s : List StreamEvent} {k : Nat} (hk : k < s.length) : (halfE s k).set k { el s k with d := (el s k).d - lastE 0 (s.take k) } = halfE s (k + 1) := by
  have hl : (dltE 0 (s.take k)).length = k := by rw [dltE_len, List.length_take]; omega
  unfold halfE
  rw [List.set_append_right _ _ (by omega), hl, Nat.sub_self, take_el hk, (dltE_snoc _ _ _).1, drop_el hk]
  simp
theorem ev_two (a b : StreamEvent) : Instr.fill (fun i => some (i * 5, 5)) (zrow [iv 0, iv 0, iv 0, iv 0, iv 0] 2).toArray [(0, .agg #[iv a.d, iv a.j, iv a.o, iv a.k, iv a.u]), (1, .agg #[iv b.d, iv b.j, iv b.o, iv b.k, iv b.u])] = some #[iv a.d, iv a.j, iv a.o, iv a.k, iv a.u, iv b.d, iv b.j, iv b.o, iv b.k, iv b.u] := fill_two (by omega) rfl rfl rfl
theorem ev_build5 (a b c d e : Int) : Instr.fill (fun x => [(0, 1), (1, 1), (2, 1), (3, 1), (4, 1)][x]?) #[iv 0, iv 0, iv 0, iv 0, iv 0] [(0, iv a), (1, iv b), (2, iv c), (3, iv d), (4, iv e)] = some #[iv a, iv b, iv c, iv d, iv e] := by rfl
theorem ev_oneE (l : List StreamEvent) : (cellsL streamEventR l).all (fun u => u.oneCell') = true := by
  rw [List.all_eq_true]
  intro v hv
  induction l with
  | nil => simp [cellsL_nil] at hv
  | cons a l ih =>
    rw [cellsL_cons] at hv
    rcases List.mem_append.1 hv with h | h
    · simp only [streamEventR, StreamEvent.row, List.mem_cons, List.not_mem_nil, or_false] at h
      rcases h with rfl | rfl | rfl | rfl | rfl <;> rfl
    · exact ih h
set_option maxHeartbeats 4000000 in
theorem StreamOfScore_i {M : Mem} {A : Option Addr} {n c : Nat} {l : List Note} (D : Int) (h : Sl noteR M A n l) (hn : n ≤ 1048576) :
    Ctr Try.prog M.length 10 [.agg #[.slice A n c], iv D] M (StR M (stV l D)) := by
  have hl := h.1
  first | (refine ctr_fn Try.func10 rfl Try.ntmps10 Try.results10 rfl rfl (by simp) ?_) | (refine ctr_fnC Try.func10 rfl Try.ntmps10 Try.results10 rfl (by simp) ?_)
  simp
  obtain ⟨M0, hM0⟩ : ∃ M0 : Mem, M0 = M ++ [Slot.live ⟨[.slice A n c], true, true, 26, 1⟩] := ⟨_, rfl⟩
  rw [← hM0]
  have k0 : Keeps M M0 := by rw [hM0]; exact keeps_app _
  have l0 : M0.length = M.length + 1 := by rw [hM0]; simp
  have b0 : cellAt M0 M.length 0 = some (.slice A n c) := by rw [hM0]; simp
  clear hM0
  refine awCall_det' (isScore_i (c := c) (h.keeps k0) (by omega)) (by omega) ?_
  by_cases hs : scoreB l = true
  case neg =>
    have e : stV l D = ([], 1) := by unfold stV; rw [if_pos (by simpa using hs)]
    rw [e]
    simp [hs]
    exact StR.no k0
  simp [hs]
  refine awCall_det' (within_a D 1 960) (by omega) ?_
  by_cases hD0 : inB D 1 960 = true
  case neg =>
    have e : stV l D = ([], 2) := by unfold stV; rw [if_neg (by simp [hs]), if_pos (by simpa using hD0)]
    rw [e]
    simp [hD0]
    exact StR.no k0
  have hD := inB_iff.1 hD0
  have hsB := hs
  unfold scoreB at hsB
  simp only [Bool.and_eq_true, decide_eq_true_eq] at hsB
  obtain ⟨⟨hl60, hv⟩, ho⟩ := hsB
  have b00 : cellAt (M0 ++ [Slot.live ⟨[], true, true, 69, 5⟩]) M.length 0 = some (.slice A n c) := cellAt_keeps (keeps_app _) b0
  simp [hD0, b0, b00]
  refine awLoop_joinR (fun T' M' => ∃ v : Value, Keeps M0 M' ∧ Acc streamEventR 69 M0.length M' v (evsL D l) ∧ (∃ id n c, v = .slice (some ⟨id, 0, none⟩) n c) ∧ l.all (okT D) = true ∧ look T' 6 = some v ∧ look T' 2 = some (.pointer (some ⟨M.length, 0, none⟩))) ?_ ?_
  · intro Q' hQ hR
    refine awLoop_T (fun m T M' => ∃ (k : Nat) (v : Value), k + m = n ∧ Keeps M0 M' ∧ Acc streamEventR 69 M0.length M' v (evsL D (l.take k)) ∧ (∃ id n c, v = .slice (some ⟨id, 0, none⟩) n c) ∧ (∀ i, i < k → okT D (el l i) = true) ∧ look T 26 = some (iv k) ∧ look T 25 = some (iv n) ∧ look T 24 = some (.slice A n c) ∧ look T 6 = some v ∧ look T 2 = some (.pointer (some ⟨M.length, 0, none⟩)) ∧ look T 1 = some (iv D)) n
      ⟨0, _, by omega, keeps_app _, ⟨_, 0, 0, rfl, rfl, .inr ⟨M0.length, true, rfl, Nat.le_refl _, by rw [getElem?_snoc_eq]; rfl⟩⟩, ⟨_, _, _, rfl⟩, fun i hi => by omega, by simp, by simp, by simp, by simp, by simp, by simp⟩ ?_
    rintro m T M1 ⟨k, v, hm, kM, hA, ⟨vid, vn, vc, rfl⟩, hok, t26, t25, t24, t6, t2, t1⟩
    have n1 := kM.len
    by_cases hlt : k < n
    case neg =>
      obtain rfl : k = n := by omega
      rw [List.take_of_length_le (by omega)] at hA
      simp (disch := omega) [t26, t25]
      refine hQ _ _ ⟨_, kM, hA, ⟨_, _, _, rfl⟩, ?_, by simp [t6], by simp [t2]⟩
      rw [List.all_eq_true]
      intro x hx
      obtain ⟨i, hi, rfl⟩ := List.getElem_of_mem hx
      rw [el_eq hi]
      exact hok i (by omega)
    have hlt' : (k : Int) < n := by omega
    obtain ⟨id, off, rfl, hz, hc⟩ := (h.keeps (k0.trans kM)).at_ hlt
    have ld := note_load hc
    have hnb := all_el hv (i := k) (by omega)
    obtain ⟨f1, f2, z1, z2⟩ := note_nn hnb
    have hkl : (evsL D (l.take k)).length ≤ 120 := by rw [evsL_len, List.length_take]; omega
    simp (disch := omega) [t26, t25, t24, hlt, hlt', hz, ld]
    obtain ⟨M2, hM2⟩ : ∃ M2 : Mem, M2 = M1 ++ [Slot.live ⟨[iv (el l k).an, iv (el l k).ad, iv (el l k).ln, iv (el l k).ld, iv (el l k).k, iv (el l k).u, iv (el l k).o], true, true, 53, 7⟩] := ⟨_, rfl⟩
    rw [← hM2]
    have k12 : Keeps M1 M2 := by rw [hM2]; exact keeps_app _
    have n2 : M2.length = M1.length + 1 := by rw [hM2]; simp
    have bx : Cl M2 M1.length 0 (el l k).row := fun j x hx => by rw [hM2]; simp [cellAt]; exact hx
    clear hM2
    obtain ⟨g0, -⟩ := note_cellsN bx
    obtain ⟨-, -, -, -, a4, a5, a6⟩ := note_cells bx
    have ld2 := note_load bx
    simp only [Nat.zero_add] at a4 a5 a6
    simp (disch := omega) [g0, t1]
    refine awCall_det' (tick_i (f := (el l k).at_) f1 z1 hD) (by omega) ?_
    simp (disch := omega) [ld2, t1]
    refine awCall_det' (end_i (el l k)) (by omega) ?_
    try simp (disch := omega) [t1]
    refine awCall_det' (tick_i (f := (el l k).fin) f2 z2 hD) (by omega) ?_
    have hno : okT D (el l k) = false → stV l D = ([], 6) := fun hh => by
      unfold stV
      rw [if_neg (by simp [hs]), if_neg (by simp [hD0]), if_pos]
      rw [List.all_eq_false]
      exact ⟨el l k, el_mem (by omega), by simp [hh]⟩
    by_cases b1 : tkB D (el l k).at_ = true
    case neg =>
      rw [hno (by unfold okT; simp [b1])] at hR
      simp (disch := omega) [b1]
      refine hR _ ?_
      simp
      exact StR.no ((k0.trans kM).trans k12)
    by_cases b2 : tkB D (el l k).fin = true
    case neg =>
      rw [hno (by unfold okT; simp [b2])] at hR
      simp (disch := omega) [b1, b2]
      refine hR _ ?_
      simp
      exact StR.no ((k0.trans kM).trans k12)
    have e2 := ev_two (onE D (el l k)) (ofE D (el l k))
    simp only [onE, ofE] at e2
    simp (disch := omega) [b1, b2, t6, a4, a5, a6, ev_build5, e2]
    refine ((hA.keeps k12).keeps (keeps_app _)).extend (ls := [onE D (el l k), ofE D (el l k)]) (by_ := 40) (by omega) (by simp; omega) (by kernel_rfl) (by kernel_rfl) ?_ (ev_oneE _) (by simp; omega) (by unfold maxLen; simp; omega) ?_
    · have := cells_hrE (M := M2 ++ [Slot.live ⟨[iv (tkV D (el l k).at_), iv 1, iv (el l k).o, iv (el l k).k, iv (el l k).u, iv (tkV D (el l k).fin), iv 2, iv (el l k).o, iv (el l k).k, iv 0], true, true, 69, 5⟩]) (id := M2.length) (n := 10) getElem?_snoc_eq rfl
      simp [srcOf, cellsL_cons, cellsL_nil, streamEventR, StreamEvent.row, onE, ofE, this]
    intro v' M3 hA3 s3
    have k3 := s3.keeps ((kM.trans k12).trans (keeps_app _)) (Nat.le_refl _)
    have hv' : ∃ id n c, v' = .slice (some ⟨id, 0, none⟩) n c := by
      obtain ⟨A', n', c', rfl, hl', hA'⟩ := hA3
      rcases hA' with ⟨_, h0, _⟩ | ⟨id', t', rfl, _, _⟩
      · simp at hl'; omega
      · exact ⟨_, _, _, rfl⟩
    simp (disch := omega) [t26, wrap_in]
    refine lpI (m - 1) (by omega) ⟨k + 1, v', by omega, k3, ?_, hv', fun i hi => ?_, by simp, by simp [t25], by simp [t24], by simp, by simp [t2], by simp [t1]⟩
    · rw [evsL_take (by omega), List.append_assoc]
      exact hA3
    · by_cases hik : i = k
      · rw [hik]; unfold okT; simp [b1, b2]
      · exact hok i (by omega)
  rintro T0 M1 ⟨v, kM, hA, ⟨id, vn, vc, rfl⟩, hok, s6, s2⟩
  have bM := cellAt_keeps kM b0
  have h1 := h.keeps (k0.trans kM)
  have n1 := kM.len
  simp (disch := omega) [s2, bM]
  refine awCall_det' (overlap_i (c := c) h1 hn hv) (by omega) ?_
  by_cases hh : hitB l = true
  · have e : stV l D = ([], 4) := by
      unfold stV
      rw [if_neg (by simp [hs]), if_neg (by simp [hD0]), if_neg (by simp [hok]), if_pos hh]
    rw [e]
    simp (disch := omega) [hh]
    exact StR.no (k0.trans kM)
  have hh' : hitB l = false := by simpa using hh
  have e : stV l D = (dltE 0 (sortE (evsL D l)), 0) := by
    unfold stV
    rw [if_neg (by simp [hs]), if_neg (by simp [hD0]), if_neg (by simp [hok]), if_neg hh]
  rw [e]
  simp (disch := omega) [hh, s6]
  obtain ⟨_, _, _, e3, hvn, hr⟩ := (show Acc streamEventR 69 M0.length M1 _ (evsL D l) from hA)
  injection e3 with e31 e32 e33
  subst e31; subst e32; subst e33
  rcases hr with ⟨h0, _⟩ | ⟨id', t, e4, hid, hrow⟩
  · cases h0
  injection e4 with e4
  injection e4 with e4
  subst e4
  have hDp : 0 < D := by omega
  have hvl : (evsL D l).length ≤ 120 := by rw [evsL_len]; omega
  refine awCall_ctr ((Sort_a (b := M.length) (c := vc) hvn hid hrow (by omega) (by omega) fun x hx => ?_)) ?_
  · obtain ⟨q1, q2, q3, q4⟩ := evs_ok hv hD x hx
    unfold kdB at q1
    unfold evK
    omega
  rintro r M2 ⟨rfl, l', hp, hs', rfl⟩
  have hl' : l' = sortE (evsL D l) := sort_one l' (sortE (evsL D l)) (hp.trans (sortE_perm _).symm) hs' (sortE_sorted _) fun x y hx hy => evs_one (tkS_of hs hDp hok hh') x y (hp.mem_iff.1 hx) (hp.mem_iff.1 hy)
  subst hl'
  have hbd : ∀ x, x ∈ sortE (evsL D l) → 0 ≤ x.d ∧ x.d ≤ 960000000000 := fun x hx => (evs_ok hv hD x ((sortE_perm _).mem_iff.1 hx)).2.1
  have hsl : (sortE (evsL D l)).length = vn := by rw [(sortE_perm _).length_eq, hvn]
  have hvn120 : vn ≤ 120 := by omega
  generalize sortE (evsL D l) = srt at hbd hsl
  have hidl := (List.getElem?_eq_some_iff.1 hrow).1
  have half0 : halfE srt 0 = srt := by simp [halfE, dltE]
  refine awLoop_T (fun m T M' => ∃ k : Nat, k + m = vn ∧ M' = M1.set id (.live ⟨cellsL streamEventR (halfE srt k), true, t, 69, 5⟩) ∧ look T 75 = some (iv k) ∧ look T 74 = some (iv vn) ∧ look T 13 = some (iv (lastE 0 (srt.take k))) ∧ look T 6 = some (.slice (some ⟨id, 0, none⟩) vn vc)) vn ⟨0, by omega, by rw [half0], by simp, by simp, by simp [lastE], by simp [s6]⟩ ?_
  rintro m T M' ⟨k, hm, rfl, t75, t74, t13, t6⟩
  have row : (M1.set id (.live ⟨cellsL streamEventR (halfE srt k), true, t, 69, 5⟩))[id]? = some (.live ⟨cellsL streamEventR (halfE srt k), true, t, 69, 5⟩) := List.getElem?_set_self hidl
  by_cases hlt : k < vn
  case neg =>
    obtain rfl : k = vn := by omega
    have hE : halfE srt k = dltE 0 srt := by unfold halfE; rw [List.take_of_length_le (by omega), List.drop_of_length_le (by omega), List.append_nil]
    rw [hE] at row ⊢
    simp (disch := omega) [t75, t74, t6]
    have hW : Acc streamEventR 69 M.length (M1.set id (.live ⟨cellsL streamEventR (dltE 0 srt), true, t, 69, 5⟩)) (.slice (some ⟨id, 0, none⟩) k vc) (dltE 0 srt) := ⟨_, k, vc, rfl, by rw [dltE_len]; omega, .inr ⟨id, t, rfl, by omega, row⟩⟩
    have hf := hW.fresh (by rw [dltE_len]; omega) (keeps_set (k0.trans kM) (by omega))
    exact ⟨_, rfl, hf.ow.1, hf.ow.2⟩
  have hlt' : (k : Int) < vn := by omega
  have hx := hbd _ (el_mem (l := srt) (i := k) (by omega))
  have hlast := lastE_bd (l := srt.take k) (fun x hx => hbd x (List.mem_of_mem_take hx)) 0 (by omega)
  have hhl := halfE_len srt (k := k) (by omega)
  have hz : rowEsz (M1.set id (.live ⟨cellsL streamEventR (halfE srt k), true, t, 69, 5⟩)) id = some 5 := by simp [rowEsz, row]
  have c0 : cellAt (M1.set id (.live ⟨cellsL streamEventR (halfE srt k), true, t, 69, 5⟩)) id (k * 5) = some (iv (el srt k).d) := by
    have := cellsL_get streamEventR (l := halfE srt k) (i := k) (j := 0) (by omega) (by omega)
    rw [Nat.add_zero, halfE_el (by omega)] at this
    unfold cellAt
    rw [row]
    exact this
  have pb := put_rowE (b := M.length) (p := k * 5) (v := iv ((el srt k).d - lastE 0 (srt.take k))) row (by omega) (by rw [cellsL_len]; omega) rfl
  rw [cells_set_d (by omega), halfE_el (by omega), halfE_set (by omega), List.set_set] at pb
  have hsn := (dltE_snoc (srt.take k) 0 (el srt k)).2
  rw [← take_el (show k < srt.length by omega)] at hsn
  generalize hMk : M1.set id (.live ⟨cellsL streamEventR (halfE srt k), true, t, 69, 5⟩) = Mk at row hz c0 pb
  simp (disch := omega) [t75, t74, t6, t13, hlt, hlt', hz, c0, pb, wrap_in]
  exact lpI (m - 1) (by omega) ⟨k + 1, by omega, rfl, by simp (disch := omega) [wrap_in], by simp [t74], by rw [hsn]; simp, by simp [t6]⟩



theorem StreamOfScore_il {M : Mem} {v : Value} {lo hi : Nat} {l : List Note} (hx : RdL noteR lo hi M v l) (o : Int) (ex : l.length ≤ 1048576) : Ctr Try.prog M.length 10 [.agg #[v], iv o] M fun r M' => ∃ v0, r = .tuple #[v0, iv (stV l o).2] ∧ OwL streamEventR M.length M'.length M' v0 (stV l o).1 ∧ Keeps M M' := by
  obtain ⟨A, n, c, rfl, hn, hS, _⟩ := hx
  exact StreamOfScore_i o hS (by have := hS.1; omega)
end Go.Proofs.Ytbpaeonfebmomaa

namespace Go.Proofs.Ytbpaeonfebmomaa
open Go.RowKit
set_option linter.unusedVariables false
set_option linter.unusedSimpArgs false
set_option maxRecDepth 100000
attribute [local simp] List.getElem?_cons_zero
attribute [local irreducible] awCond awCall awLoop awDraw ow retQ retC resQ Keeps
abbrev noteS (t : Bool) (l : List Note) : Slot := .live ⟨cellsL noteR l, true, t, 53, 7⟩
def stN (M : Mem) (id : Nat) (t : Bool) (l : List Note) : Mem := M.set id (noteS t l)
theorem stN_len {M : Mem} {id : Nat} {t : Bool} {l : List Note} : (stN M id t l).length = M.length := by simp [stN]
theorem stN_row {M : Mem} {id : Nat} {t : Bool} {l : List Note} (h : id < M.length) : (stN M id t l)[id]? = some (noteS t l) := List.getElem?_set_self h
theorem stN_stN {M : Mem} {id : Nat} {t : Bool} {l l' : List Note} : stN (stN M id t l) id t l' = stN M id t l' := by simp [stN, List.set_set]
theorem stN_self {M : Mem} {id : Nat} {t : Bool} {l : List Note} (h : M[id]? = some (noteS t l)) : stN M id t l = M := by
  unfold stN
  apply List.ext_getElem?
  intro i
  by_cases e : i = id
  · subst e; rw [List.getElem?_set_self (List.getElem?_eq_some_iff.1 h).1, h]
  · rw [List.getElem?_set_ne (Ne.symm e)]
theorem stN_esz {M : Mem} {id : Nat} {t : Bool} {l : List Note} (h : M[id]? = some (noteS t l)) : rowEsz M id = some 7 := by simp [rowEsz, h]
theorem stN_cl {M : Mem} {id i : Nat} {t : Bool} {l : List Note} (h : M[id]? = some (noteS t l)) (hi : i < l.length) : Cl M id (i * 7) (el l i).row := by
  intro j x hx
  have hj : j < 7 := (List.getElem?_eq_some_iff.1 hx).1
  simp only [cellAt, h]
  show (cellsL noteR l)[i * 7 + j]? = some x
  rw [cellsL_get noteR hi hj]
  exact hx
theorem stN_at {M : Mem} {id i : Nat} {t : Bool} {l : List Note} (h : M[id]? = some (noteS t l)) (hi : i < l.length) : cellsAt M id (i * 7) 7 = some (el l i).row := cellsAt_of (stN_cl h hi) rfl (by omega)
theorem stN_put {b : Nat} {M : Mem} {id i : Nat} {t : Bool} {l : List Note} {a : Note} (h : M[id]? = some (noteS t l)) (hb : b ≤ id) (hi : i < l.length) : putCells b M id (i * 7) a.row = some (stN M id t (l.set i a)) :=
  put_rec (R := noteR) h hb hi rfl (by simp [noteR, Note.row])
def SortCtr (P : Program) (b : Nat) (f : FuncId) (args : List Value) (M : Mem) (id : Nat) (t : Bool) (K : List Note → Prop) : Prop :=
  Ctr P b f args M fun r M' => r = .tuple #[] ∧ ∃ l', K l' ∧ M' = stN M id t l'
/-- The first k of n swaps of two stretches. -/
def swI (l : List Note) (a b : Nat) : Nat → List Note
  | 0 => l
  | k + 1 => swapL (swI l a b k) (a + k) (b + k)
theorem swapL_len {l : List Note} {i j : Nat} : (swapL l i j).length = l.length := by simp [swapL]
theorem swI_len {l : List Note} {a b : Nat} : ∀ k, (swI l a b k).length = l.length
  | 0 => rfl
  | k + 1 => by rw [swI, swapL_len, swI_len k]
end Go.Proofs.Ytbpaeonfebmomaa
