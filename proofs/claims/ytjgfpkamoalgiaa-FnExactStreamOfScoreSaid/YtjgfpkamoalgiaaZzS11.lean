/- Parts of the proof, together: Ticks; events put in order by the reference. Streams: are two lists equal. Streams: are they valid. The reference's events of a score. The program's test of notes that overlap. slices.SortFunc at this program: where the contract of the library lies (seat r13's own numbers). A region that draws its order: an invariant over what has been done and what each operation gave. A row of one's own is writt No conditions. -/
import Derived.Test.YtjgfpkamoalgiaaZzS10
import Derived.Test.YtjgfpkamoalgiaaZzS8
import Derived.Test.YtjgfpkamoalgiaaProg
import Derived.Shelf.SlSortCmp.WholeK
import Derived.Ground.SlsfProg
import Derived.Test.YtjgfpkamoalgiaaZzS6
namespace Go.Proofs.Ytjgfpkamoalgiaa
open Go.RowKit
set_option linter.unusedVariables false
set_option linter.unusedSimpArgs false
set_option maxRecDepth 100000
attribute [local simp] List.getElem?_cons_zero
attribute [local irreducible] awCond awCall awLoop awDraw ow retQ retC resQ Keeps
theorem awLoop_join {P : Program} {b n id : Nat} {F : (Ex → St → Prop) → St → Prop} {Y : Code} {Q : Ex → St → Prop} {T : List (Nat × Value)} {M : Mem} (J : List (Nat × Value) → Mem → Prop)
    (h1 : ∀ Q' : Ex → St → Prop, (∀ T' M', J T' M' → Q' .normal ⟨n, T', M'⟩) → awLoop F (sBlock id Q' tk) ⟨n, T, M⟩)
    (h3 : ∀ T' M', J T' M' → sAw P b Y Q ⟨n, T', M'⟩) : awLoop F (sBlock id (sThen P b Y Q tk) tk) ⟨n, T, M⟩ :=
  h1 _ fun T' M' hJ => by rw [sThen_normal]; exact h3 T' M' hJ
theorem tk_arith {f : Frac} {D : Int} (hf : fracB f = true) (h0 : 0 ≤ f.n) (hD : 1 ≤ D ∧ D ≤ 960) : (0 ≤ f.n * D ∧ f.n * D ≤ 960000000000) ∧ (f.n * D).tdiv f.d = tkV D f ∧ (f.n * D).tmod f.d = f.n * D % f.d ∧ f.d ≠ 0 ∧ (0 ≤ tkV D f ∧ tkV D f ≤ 960000000000) := by
  obtain ⟨⟨d1, d2⟩, ⟨n1, n2⟩, -⟩ := fracB_iff.1 hf
  have hp : 0 ≤ f.n * D := Int.mul_nonneg h0 (by omega)
  have hq : f.n * D ≤ 1000000000 * 960 := Int.mul_le_mul n2 hD.2 (by omega) (by omega)
  have hv : 0 ≤ tkV D f := Int.ediv_nonneg hp (by omega)
  have hv2 : tkV D f ≤ f.n * D := Int.ediv_le_self _ hp
  exact ⟨⟨hp, by omega⟩, Int.tdiv_eq_ediv_of_nonneg hp, Int.tmod_eq_emod_of_nonneg hp, by omega, hv, by omega⟩
theorem tick_i {M : Mem} {f : Frac} {D : Int} (hf : fracB f = true) (h0 : 0 ≤ f.n) (hD : 1 ≤ D ∧ D ≤ 960) : Det Try.prog M.length 23 [f.v, iv D] M (.tuple #[iv (tkV D f), .bool (tkB D f)]) M := by
  obtain ⟨h1, h2, h3, h4, h5⟩ := tk_arith hf h0 hD
  first | (refine det_fn Try.func23 rfl Try.ntmps23 Try.results23 rfl rfl rfl (by simp) ?_) | (refine det_fnC Try.func23 rfl Try.ntmps23 Try.results23 rfl rfl (by simp) ?_)
  simp (disch := omega) [wrap_in]
  refine awDraw_E 10 [[],[],[1],[0,2,1],[],[],[5],[4,6,5],[7,4,6,5],[3,0,2,1],[8,7,4,6,5,9,3,0,2,1]] (by kernel_rfl) (by kernel_rfl) ?_
  simp (disch := omega) [wrap_in, h2, h3, h4]
  exact ⟨by unfold tkB; rfl, keeps_app _⟩
theorem l20Tick_s {M : Mem} {f : Frac} {D : Int} (hf : fracB f = true) (h0 : 0 ≤ f.n) (hD : 1 ≤ D ∧ D ≤ 960) : Det Try.prog M.length 17 [f.v, iv D] M (.tuple #[iv (tkV D f), .bool (tkB D f)]) M := by
  obtain ⟨h1, h2, h3, h4, h5⟩ := tk_arith hf h0 hD
  first | (refine det_fn Try.func17 rfl Try.ntmps17 Try.results17 rfl rfl rfl (by simp) ?_) | (refine det_fnC Try.func17 rfl Try.ntmps17 Try.results17 rfl rfl (by simp) ?_)
  simp (disch := omega) [wrap_in]
  refine awDraw_E 16 [[],[0],[],[1,0,2],[],[4],[3,1,0,2,5,4],[],[7],[],[8,7,9],[],[11],[10,8,7,9,12,11],[13,10,8,7,9,12,11],[6,3,1,0,2,5,4],[14,13,10,8,7,9,12,11,15,6,3,1,0,2,5,4]] (by kernel_rfl) (by kernel_rfl) ?_
  simp (disch := omega) [wrap_in, h2, h3, h4]
  exact ⟨by unfold tkB; rfl, keeps_app _⟩
/-- An event at a tick, as the reference keeps it. -/
def timedR : RecV StreamEvent 6 := ⟨fun e => [iv e.d, iv 0, iv e.j, iv e.o, iv e.k, iv e.u], fun _ => rfl⟩
theorem timed_cells {M : Mem} {id off : Nat} {g : StreamEvent} (h : Cl M id off (timedR.row g)) : cellAt M id off = some (iv g.d) ∧ cellAt M id (off + 2) = some (iv g.j) ∧ cellAt M id (off + 3) = some (iv g.o) ∧ cellAt M id (off + 4) = some (iv g.k) ∧ cellAt M id (off + 5) = some (iv g.u) :=
  ⟨h 0 _ rfl, h 2 _ rfl, h 3 _ rfl, h 4 _ rfl, h 5 _ rfl⟩
theorem cells_hrE {M : Mem} {id n : Nat} {r : Row} (h : M[id]? = some (.live r)) (hn : n = r.cells.length) : cellsAt M id 0 n = some r.cells := by
  subst hn
  simp [cellsAt, h]
def kdB (e : StreamEvent) : Prop := e.j = 1 ∨ e.j = 2
set_option maxHeartbeats 1000000 in
theorem l20Before_a {M : Mem} {id off id' off' : Nat} {a b : StreamEvent} (ha : Cl M id off (timedR.row a)) (hb : Cl M id' off' (timedR.row b)) (ka : kdB a) (kb : kdB b) :
    Det Try.prog M.length 35 [.pointer (some ⟨id, off, none⟩), .pointer (some ⟨id', off', none⟩)] M (.bool (decide (cmpE a b < 0))) M := by
  obtain ⟨a1, a2, a3, a4, a5⟩ := timed_cells ha
  obtain ⟨b1, b2, b3, b4, b5⟩ := timed_cells hb
  have e := cmpE_lt (a := a) (b := b)
  unfold kdB at ka kb
  first | (refine det_fn Try.func35 rfl Try.ntmps35 Try.results35 rfl rfl rfl (by simp) ?_) | (refine det_fnC Try.func35 rfl Try.ntmps35 Try.results35 rfl rfl (by simp) ?_)
  simp
  refine awDraw_E 8 [[],[0],[1,0],[2,1,0],[],[4],[5,4],[6,5,4],[3,2,1,0,7,6,5,4]] (by kernel_rfl) (by kernel_rfl) ?_
  simp [a1, b1]
  by_cases h1 : a.d = b.d
  case neg =>
    simp [h1]
    refine awDraw_E 8 [[],[0],[1,0],[2,1,0],[],[4],[5,4],[6,5,4],[3,2,1,0,7,6,5,4],[8,3,2,1,0,7,6,5,4]] (by kernel_rfl) (by kernel_rfl) ?_
    simp [a1, b1, Keeps.refl]
    rw [e]
    constructor <;> omega
  simp [h1]
  refine awDraw_E 10 [[],[0],[1,0],[2,1,0],[3,2,1,0],[],[5],[6,5],[7,6,5],[8,7,6,5],[4,3,2,1,0,9,8,7,6,5]] (by kernel_rfl) (by kernel_rfl) ?_
  simp [a2, b2]
  by_cases h2 : a.j = b.j
  case neg =>
    simp [h2, a2, Keeps.refl]
    rw [e]
    constructor <;> omega
  simp [h2]
  refine awDraw_E 10 [[],[0],[1,0],[2,1,0],[3,2,1,0],[],[5],[6,5],[7,6,5],[8,7,6,5],[4,3,2,1,0,9,8,7,6,5]] (by kernel_rfl) (by kernel_rfl) ?_
  simp [a3, b3]
  by_cases h3 : a.o = b.o
  case neg =>
    simp [h3]
    refine awDraw_E 10 [[],[0],[1,0],[2,1,0],[3,2,1,0],[],[5],[6,5],[7,6,5],[8,7,6,5],[4,3,2,1,0,9,8,7,6,5],[10,4,3,2,1,0,9,8,7,6,5]] (by kernel_rfl) (by kernel_rfl) ?_
    simp [a3, b3, Keeps.refl]
    rw [e]
    constructor <;> omega
  simp [h3]
  refine awDraw_E 10 [[],[0],[1,0],[2,1,0],[3,2,1,0],[],[5],[6,5],[7,6,5],[8,7,6,5],[4,3,2,1,0,9,8,7,6,5],[10,4,3,2,1,0,9,8,7,6,5]] (by kernel_rfl) (by kernel_rfl) ?_
  simp [a4, b4, Keeps.refl]
  rw [e]
  constructor <;> omega
theorem Sl.takeE {α : Type} {k : Nat} {R : RecV α k} {M : Mem} {id off n m : Nat} {l : List α} (h : Sl R M (some ⟨id, off, none⟩) n l) (hm : m ≤ n) : Sl R M (some ⟨id, off, none⟩) m (l.take m) := by
  refine ⟨by rw [List.length_take, h.1]; omega, fun hp => ?_⟩
  obtain ⟨_, _, e, he, hc⟩ := h.2 (by omega)
  cases e
  refine ⟨id, off, rfl, he, fun j x hx => hc j x ?_⟩
  rw [← List.take_append_drop m l, cellsL_append, List.getElem?_append_left (List.getElem?_eq_some_iff.1 hx).1]
  exact hx
theorem Sl.dropE {α : Type} {k : Nat} {R : RecV α k} {M : Mem} {id off n m : Nat} {l : List α} (h : Sl R M (some ⟨id, off, none⟩) n l) (hm : m ≤ n) : Sl R M (some ⟨id, off + m * k, none⟩) (n - m) (l.drop m) := by
  refine ⟨by rw [List.length_drop, h.1], fun hp => ?_⟩
  obtain ⟨_, _, e, he, hc⟩ := h.2 (by omega)
  cases e
  refine ⟨id, off + m * k, rfl, he, fun j x hx => ?_⟩
  rw [Nat.add_assoc]
  refine hc _ x ?_
  have hl := h.1
  have hml : (cellsL R (l.take m)).length = m * k := by rw [cellsL_len, List.length_take, hl, Nat.min_eq_left hm]
  rw [← List.take_append_drop m l, cellsL_append, List.getElem?_append_right (by omega), hml, show m * k + j - m * k = j by omega]
  exact hx
theorem nil_srcE {P : Program} {M : Mem} {k : Nat} {tx e : TypeId} (h : P.underlying tx = some (.slice e)) : srcOf P M k tx (.slice none 0 0) = some (0, []) := by
  simp [srcOf, h]
@[simp] theorem timed_fill (x0 x1 x2 x3 x4 x5 : Int) : Instr.fill (fun i => some (i * 6, 6)) (zrow [iv 0, iv 0, iv 0, iv 0, iv 0, iv 0] 1).toArray [(0, .agg #[iv x0, iv x1, iv x2, iv x3, iv x4, iv x5])] = some #[iv x0, iv x1, iv x2, iv x3, iv x4, iv x5] := fill_agg (by omega) rfl rfl
theorem timed_one (l : List StreamEvent) : (cellsL timedR l).all (fun u => u.oneCell') = true := by
  rw [List.all_eq_true]
  intro v hv
  induction l with
  | nil => simp [cellsL_nil] at hv
  | cons a l ih =>
    rw [cellsL_cons] at hv
    rcases List.mem_append.1 hv with h | h
    · simp only [timedR, List.mem_cons, List.not_mem_nil, or_false] at h
      rcases h with rfl | rfl | rfl | rfl | rfl | rfl <;> rfl
    · exact ih h
set_option maxHeartbeats 1000000 in
theorem l20Insert_a {M : Mem} {B b : Nat} {u : Value} {l : List StreamEvent} {e : StreamEvent} (hA : Acc timedR 56 B M u l) (hb : b ≤ B) (hB : B ≤ M.length) (hl : l.length ≤ 1000) (hk : ∀ x, x ∈ l → kdB x) (he : kdB e) :
    Ctr Try.prog b 18 [u, .agg #[iv e.d, iv 0, iv e.j, iv e.o, iv e.k, iv e.u]] M fun r M' => Acc timedR 56 M.length M' r (insE l e) ∧ Keeps M M' := by
  obtain ⟨A, n, c, rfl, hln, hA'⟩ := id hA
  first | (refine ctr_fn Try.func18 rfl Try.ntmps18 Try.results18 rfl rfl (by simp) ?_) | (refine ctr_fnC Try.func18 rfl Try.ntmps18 Try.results18 rfl (by simp) ?_)
  simp
  obtain ⟨M0, hM0⟩ : ∃ M0 : Mem, M0 = M ++ [Slot.live ⟨[iv e.d, iv 0, iv e.j, iv e.o, iv e.k, iv e.u], true, true, 56, 6⟩] := ⟨_, rfl⟩
  rw [← hM0]
  have k0 : Keeps M M0 := by rw [hM0]; exact keeps_app _
  have l0 : M0.length = M.length + 1 := by rw [hM0]; simp
  have r0 : M0[M.length]? = some (.live ⟨timedR.row e, true, true, 56, 6⟩) := by rw [hM0]; exact getElem?_snoc_eq
  have he0 : Cl M0 M.length 0 (timedR.row e) := fun j x hx => by simp [cellAt, r0, hx]
  have ld0 : cellsAt M0 M.length 0 6 = some [iv e.d, iv 0, iv e.j, iv e.o, iv e.k, iv e.u] := cells_hrE r0 rfl
  have hA0 := hA.keeps k0
  have hsrc0 := hA0.src (P := Try.prog) (tx := 42) ⟨_, Try.underlying42⟩
  clear hM0
  obtain ⟨A2, n2, c2, e2, hn2, sl0, -⟩ := hA0.sl
  cases e2
  refine awLoop_join (fun T' M' => ∃ m : Nat, M' = M0 ∧ m ≤ n ∧ posE e l n = m ∧ look T' 5 = some (iv m) ∧ look T' 3 = some (.pointer (some ⟨M.length, 0, none⟩)) ∧ look T' 0 = some (.slice A n c)) ?_ ?_
  · intro Q' hQ
    refine awLoop_T (fun m T M' => M' = M0 ∧ m ≤ n ∧ posE e l n = posE e l m ∧ look T 5 = some (iv m) ∧ look T 3 = some (.pointer (some ⟨M.length, 0, none⟩)) ∧ look T 0 = some (.slice A n c)) n ⟨rfl, Nat.le_refl _, rfl, by simp, by simp, by simp⟩ ?_
    rintro m T M' ⟨rfl, hm, hp, t5, t3, t0⟩
    rcases m with _ | m
    · simp (disch := omega) [t5, t3, t0]
      exact hQ _ _ ⟨0, rfl, hm, hp, by simp [t5], by simp [t3], by simp [t0]⟩
    · have e1 : (0 : Int) < (m : Int) + 1 := by omega
      obtain ⟨id, off, rfl, hz, hc⟩ := sl0.at_ (i := m) (by omega)
      have hm1 : m < n := by omega
      have hm1' : (m : Int) < n := by omega
      simp (disch := omega) [t5, t3, t0, e1, wrap_in, hm1, hm1', hz]
      refine awCall_det' (l20Before_a he0 hc he (hk _ (el_mem (by omega)))) (by omega) ?_
      by_cases hb : cmpE e (el l m) < 0
      · simp (disch := omega) [hb, t5, wrap_in]
        refine lpI m (by omega) ⟨rfl, by omega, by rw [hp, posE, if_pos hb], by simp, by simp [t3], by simp [t0]⟩
      · simp (disch := omega) [hb, t5, t3, t0]
        exact hQ _ _ ⟨m + 1, rfl, hm, by rw [hp, posE, if_neg hb], by simp [t5], by simp [t3], by simp [t0]⟩
  rintro T M' ⟨m, rfl, hm, hp, t5, t3, t0⟩
  have hins : insE l e = l.take m ++ [e] ++ l.drop m := by unfold insE; rw [hln, hp]; simp
  rw [hins]
  have hnew : Acc timedR 56 M'.length (M' ++ [.live ⟨[], true, true, 56, 6⟩]) (.slice (some ⟨M'.length, 0, none⟩) 0 0) [] := ⟨_, 0, 0, rfl, rfl, .inr ⟨M'.length, true, rfl, Nat.le_refl _, getElem?_snoc_eq⟩⟩
  have tl : (l.take m).length = m := by rw [List.length_take]; omega
  have dl : (l.drop m).length = n - m := by rw [List.length_drop]; omega
  rcases hA' with ⟨rfl, rfl, rfl⟩ | ⟨id, t, rfl, hid, hr⟩
  · obtain rfl := List.eq_nil_of_length_eq_zero hln
    obtain rfl : m = 0 := by omega
    simp (disch := omega) [t5, t3, t0]
    refine hnew.extend (ls := []) (by_ := 48) (by omega) (by simp) (by kernel_rfl) (by kernel_rfl) (by rw [nil_srcE Try.underlying42]; rfl) (by rfl) (by simp) (by unfold maxLen; simp) ?_
    intro v2 M2 hA2 s2
    have k2 : Keeps M' M2 := s2.keeps (keeps_app _) (Nat.le_refl _)
    have n2 := k2.len
    simp (disch := omega) [cellsAt_keeps k2 ld0]
    refine (hA2.keeps (keeps_app _)).append (a := e) (by_ := 48) (by omega) (by simp; omega) (by omega) (by kernel_rfl) (by kernel_rfl) ?_ (by rfl) (by simp) (by unfold maxLen; simp) ?_
    · have := cells_hrE (M := M2 ++ [Slot.live ⟨[iv e.d, iv 0, iv e.j, iv e.o, iv e.k, iv e.u], true, true, 56, 6⟩]) (id := M2.length) (n := 6) getElem?_snoc_eq rfl
      simp [srcOf, timedR, this]
    intro v3 M3 hA3 s3
    have k3 : Keeps M' M3 := s3.keeps (k2.trans (keeps_app _)) (Nat.le_refl _)
    have n3 := k3.len
    simp (disch := omega) [t5, t0]
    refine hA3.extend (ls := []) (by_ := 48) (by omega) (by omega) (by kernel_rfl) (by kernel_rfl) (by rw [nil_srcE Try.underlying42]; rfl) (by rfl) (by simp) (by unfold maxLen; simp) ?_
    intro v4 M4 hA4 s4
    try simp
    exact ⟨by simpa using hA4.low (B' := M.length) (by omega), k0.trans (s4.keeps k3 (Nat.le_refl _))⟩
  · have hmi : ((m : Int) ≤ n) := by omega
    have hz0 : rowEsz M' id = some 6 := by simp [rowEsz, k0.get hr]
    have slT := (sl0.app [Slot.live ⟨[], true, true, 56, 6⟩]).takeE (m := m) hm
    simp (disch := omega) [t5, t3, t0]
    refine ⟨by omega, by simp [rowEsz, (keeps_app _).get (k0.get hr)], ?_⟩
    refine hnew.extend (ls := l.take m) (by_ := 48) (by omega) (by simp) (by kernel_rfl) (by kernel_rfl) (slT.src (by omega) ⟨_, Try.underlying42⟩) (timed_one _) (by simp; omega) (by unfold maxLen; simp; omega) ?_
    intro v2 M2 hA2 s2
    have k2 : Keeps M' M2 := s2.keeps (keeps_app _) (Nat.le_refl _)
    have n2 := k2.len
    simp (disch := omega) [cellsAt_keeps k2 ld0]
    refine (hA2.keeps (keeps_app _)).append (a := e) (by_ := 48) (by omega) (by simp; omega) (by omega) (by kernel_rfl) (by kernel_rfl) ?_ (by rfl) (by simp; omega) (by unfold maxLen; simp; omega) ?_
    · have := cells_hrE (M := M2 ++ [Slot.live ⟨[iv e.d, iv 0, iv e.j, iv e.o, iv e.k, iv e.u], true, true, 56, 6⟩]) (id := M2.length) (n := 6) getElem?_snoc_eq rfl
      simp [srcOf, timedR, this]
    intro v3 M3 hA3 s3
    have k3 : Keeps M' M3 := s3.keeps (k2.trans (keeps_app _)) (Nat.le_refl _)
    have n3 := k3.len
    have slD := (sl0.keeps k3).dropE (m := m) hm
    simp (disch := omega) [t5, t0]
    refine ⟨by omega, by simp [rowEsz, k3.get (k0.get hr)], ?_⟩
    refine hA3.extend (ls := l.drop m) (by_ := 48) (by omega) (by omega) (by kernel_rfl) (by kernel_rfl) ?_ (timed_one _) (by simp; omega) (by unfold maxLen; simp; omega) ?_
    · have := slD.src (c := n - m) (P := Try.prog) (tx := 42) (by omega) ⟨_, Try.underlying42⟩
      simpa using this
    intro v4 M4 hA4 s4
    try simp
    exact ⟨by simpa using hA4.low (B' := M.length) (by omega), k0.trans (s4.keeps k3 (Nat.le_refl _))⟩
end Go.Proofs.Ytjgfpkamoalgiaa

namespace Go.Proofs.Ytjgfpkamoalgiaa
open Go.RowKit
set_option linter.unusedVariables false
set_option linter.unusedSimpArgs false
set_option maxRecDepth 100000
attribute [local simp] List.getElem?_cons_zero
attribute [local irreducible] awCond awCall awLoop awDraw ow retQ retC resQ Keeps











































































end Go.Proofs.Ytjgfpkamoalgiaa

namespace Go.Proofs.Ytjgfpkamoalgiaa
open Go.RowKit
set_option linter.unusedVariables false
set_option linter.unusedSimpArgs false
set_option maxRecDepth 100000
attribute [local simp] List.getElem?_cons_zero
attribute [local irreducible] awCond awCall awLoop awDraw ow retQ retC resQ Keeps
def eventB (e : StreamEvent) : Bool := inB e.d 0 268435455 && inB e.o 0 15 && inB e.k 0 127 && ((decide (e.j = 1) && inB e.u 1 127) || (decide (e.j = 2) && decide (e.u = 0)))




































def okE (l : List StreamEvent) : Bool := decide (l.length ≤ 200) && l.all eventB












































































end Go.Proofs.Ytjgfpkamoalgiaa

namespace Go.Proofs.Ytjgfpkamoalgiaa
open Go.RowKit
set_option linter.unusedVariables false
set_option linter.unusedSimpArgs false
set_option maxRecDepth 100000
attribute [local simp] List.getElem?_cons_zero
attribute [local irreducible] awCond awCall awLoop awDraw ow retQ retC resQ Keeps
theorem awLoop_joinR {P : Program} {b n id : Nat} {F : (Ex → St → Prop) → St → Prop} {Y : Code} {Q : Ex → St → Prop} {T : List (Nat × Value)} {M : Mem} (J : List (Nat × Value) → Mem → Prop)
    (h1 : ∀ Q' : Ex → St → Prop, (∀ T' M', J T' M' → Q' .normal ⟨n, T', M'⟩) → (∀ S, Q .ret S → Q' .ret S) → awLoop F (sBlock id Q' tk) ⟨n, T, M⟩)
    (h3 : ∀ T' M', J T' M' → sAw P b Y Q ⟨n, T', M'⟩) : awLoop F (sBlock id (sThen P b Y Q tk) tk) ⟨n, T, M⟩ :=
  h1 _ (fun T' M' hJ => by rw [sThen_normal]; exact h3 T' M' hJ) fun S hS => by rw [sThen_ret]; exact hS
def StR (M : Mem) (w : List StreamEvent × Int) (r : Value) (M' : Mem) : Prop := ∃ v0, r = .tuple #[v0, iv w.2] ∧ OwL streamEventR M.length M'.length M' v0 w.1 ∧ Keeps M M'
theorem StR.no {M M' : Mem} {e : Int} (h : Keeps M M') : StR M ([], e) (.tuple #[.slice none 0 0, iv e]) M' := ⟨_, rfl, OwL.nil, h⟩
theorem put_rowE {b : Nat} {M : Mem} {id p : Nat} {v : Value} {cs : List Value} {t : Bool} {e : TypeId} {z : Nat} (hr : M[id]? = some (.live ⟨cs, true, t, e, z⟩)) (hb : b ≤ id) (hp : p < cs.length) (h1 : oneV v = true) :
    putCells b M id p [v] = some (M.set id (.live ⟨cs.set p v, true, t, e, z⟩)) := by
  unfold putCells
  rw [hr]
  simp only
  rw [if_pos ⟨hb, trivial, by simp; omega, by simp [h1]⟩]
  rfl
theorem rowEsz_keepsE {M M' : Mem} {id k : Nat} (h : Keeps M M') (hz : rowEsz M id = some k) : rowEsz M' id = some k := by
  unfold rowEsz at hz ⊢
  cases hm : M[id]? with
  | none => rw [hm] at hz; cases hz
  | some s => rw [h.get hm]; rw [hm] at hz; exact hz
def lastE : Int → List StreamEvent → Int
  | b, [] => b
  | _, e :: l => lastE e.d l
theorem dltE_snoc : ∀ (l : List StreamEvent) (b : Int) (e : StreamEvent), dltE b (l ++ [e]) = dltE b l ++ [{ e with d := e.d - lastE b l }] ∧ lastE b (l ++ [e]) = e.d
  | [], b, e => ⟨rfl, rfl⟩
  | x :: l, b, e => by
    obtain ⟨h1, h2⟩ := dltE_snoc l x.d e
    exact ⟨by rw [List.cons_append, dltE, h1]; rfl, by rw [List.cons_append, lastE, h2]⟩
theorem lastE_bd {l : List StreamEvent} (h : ∀ x, x ∈ l → 0 ≤ x.d ∧ x.d ≤ 960000000000) : ∀ b : Int, 0 ≤ b ∧ b ≤ 960000000000 → 0 ≤ lastE b l ∧ lastE b l ≤ 960000000000 := by
  induction l with
  | nil => exact fun b hb => hb
  | cons x l ih => exact fun b hb => ih (fun y hy => h y (by simp [hy])) _ (h x (by simp))
theorem evsL_take {D : Int} {l : List Note} {k : Nat} (hk : k < l.length) : evsL D (l.take (k + 1)) = evsL D (l.take k) ++ [onE D (el l k)] ++ [ofE D (el l k)] := by
  rw [take_el hk]
  unfold evsL
  simp
theorem sortE_snoc (l : List StreamEvent) (e : StreamEvent) : sortE (l ++ [e]) = insE (sortE l) e := by unfold sortE; rw [List.foldl_append]; rfl
theorem note_nn {n : Note} (h : noteB n = true) : fracB n.at_ = true ∧ fracB n.fin = true ∧ 0 ≤ n.at_.n ∧ 0 ≤ n.fin.n := by
  obtain ⟨a1, a2⟩ := note_end h
  have hb := beatB_iff.1 (noteB_iff.1 h).1
  have hp := note_pos h
  obtain ⟨d1, d2⟩ := note_dens h
  refine ⟨a1, a2, hb.2.1, ?_⟩
  have h0 : 0 ≤ n.at_.n * n.fin.d := Int.mul_nonneg hb.2.1 (by omega)
  by_cases hn : 0 ≤ n.fin.n
  · exact hn
  · have := Int.mul_nonneg (a := -n.fin.n) (b := n.at_.d) (by omega) (by omega)
    rw [Int.neg_mul] at this
    omega
theorem evs_ok {D : Int} {l : List Note} (hv : l.all noteB = true) (hD : 1 ≤ D ∧ D ≤ 960) : ∀ x, x ∈ evsL D l → kdB x ∧ (0 ≤ x.d ∧ x.d ≤ 960000000000) ∧ (0 ≤ x.o ∧ x.o ≤ 15) ∧ (0 ≤ x.k ∧ x.k ≤ 127) := by
  intro x hx
  unfold evsL at hx
  obtain ⟨n, hn, hx⟩ := List.mem_flatMap.1 hx
  have hnb := List.all_eq_true.1 hv n hn
  obtain ⟨f1, f2, z1, z2⟩ := note_nn hnb
  obtain ⟨-, -, -, -, hk, hu, ho⟩ := noteB_iff.1 hnb
  have t1 := (tk_arith f1 z1 hD).2.2.2.2
  have t2 := (tk_arith f2 z2 hD).2.2.2.2
  simp only [List.mem_cons, List.not_mem_nil, or_false] at hx
  rcases hx with rfl | rfl
  · exact ⟨.inl rfl, t1, ho, hk⟩
  · exact ⟨.inr rfl, t2, ho, hk⟩
theorem all_take {l : List Note} {p : Note → Bool} (h : l.all p = true) (k : Nat) : (l.take k).all p = true := by
  rw [List.all_eq_true] at h ⊢
  exact fun x hx => h x (List.mem_of_mem_take hx)
theorem sortE_len (D : Int) (l : List Note) : (sortE (evsL D l)).length = 2 * l.length := by rw [(sortE_perm _).length_eq, evsL_len]
theorem timed_build (t j o k u : Int) : Instr.fill (fun x => [(0, 1), (1, 5)][x]?) #[iv 0, iv 0, iv 0, iv 0, iv 0, iv 0] [(0, iv t), (1, .agg #[iv 0, iv j, iv o, iv k, iv u])] = some #[iv t, iv 0, iv j, iv o, iv k, iv u] := by
  simp [Instr.fill, Value.cells, List.zipIdx]
theorem ev_build4 (j o k u : Int) : Instr.fill (fun x => [(0, 1), (1, 1), (2, 1), (3, 1), (4, 1)][x]?) #[iv 0, iv 0, iv 0, iv 0, iv 0] [(1, iv j), (2, iv o), (3, iv k), (4, iv u)] = some #[iv 0, iv j, iv o, iv k, iv u] := by rfl
theorem ev_build3 (j o k : Int) : Instr.fill (fun x => [(0, 1), (1, 1), (2, 1), (3, 1), (4, 1)][x]?) #[iv 0, iv 0, iv 0, iv 0, iv 0] [(1, iv j), (2, iv o), (3, iv k)] = some #[iv 0, iv j, iv o, iv k, iv 0] := by rfl
set_option maxHeartbeats 4000000 in
theorem StreamOfScore_s {M : Mem} {A : Option Addr} {n c : Nat} {l : List Note} (D : Int) (h : Sl noteR M A n l) (hn : n ≤ 1048576) :
    Ctr Try.prog M.length 5 [.agg #[.slice A n c], iv D] M (StR M (stV l D)) := by
  have hl := h.1
  first | (refine ctr_fn Try.func5 rfl Try.ntmps5 Try.results5 rfl rfl (by simp) ?_) | (refine ctr_fnC Try.func5 rfl Try.ntmps5 Try.results5 rfl (by simp) ?_)
  simp
  obtain ⟨M0, hM0⟩ : ∃ M0 : Mem, M0 = M ++ [Slot.live ⟨[.slice A n c], true, true, 31, 1⟩] := ⟨_, rfl⟩
  rw [← hM0]
  have k0 : Keeps M M0 := by rw [hM0]; exact keeps_app _
  have l0 : M0.length = M.length + 1 := by rw [hM0]; simp
  have b0 : cellAt M0 M.length 0 = some (.slice A n c) := by rw [hM0]; simp
  clear hM0
  refine awCall_det' (l18Ok_a (h.keeps k0) b0 (by omega)) (by omega) ?_
  by_cases hs : scoreB l = true
  case neg =>
    have e : stV l D = ([], 1) := by unfold stV; rw [if_pos (by simpa using hs)]
    rw [e]
    simp [hs]
    exact StR.no k0
  simp [hs]
  refine awCall_det' (l00In_a D 1 960) (by omega) ?_
  by_cases hD0 : inB D 1 960 = true
  case neg =>
    have e : stV l D = ([], 2) := by unfold stV; rw [if_neg (by simp [hs]), if_pos (by simpa using hD0)]
    rw [e]
    simp [hD0]
    exact StR.no k0
  have hD := inB_iff.1 hD0
  have hsB := hs
  unfold scoreB at hsB
  simp only [Bool.and_eq_true, decide_eq_true_eq] at hsB
  obtain ⟨⟨hl60, hv⟩, ho⟩ := hsB
  simp [hD0]
  refine awLoop_joinR (fun T' M' => ∃ v : Value, Keeps M0 M' ∧ Acc timedR 56 M0.length M' v (sortE (evsL D l)) ∧ l.all (okT D) = true ∧ look T' 6 = some v ∧ look T' 2 = some (.pointer (some ⟨M.length, 0, none⟩)) ∧ look T' 1 = some (iv D)) ?_ ?_
  · intro Q' hQ hR
    refine awLoop_T (fun m T M' => ∃ (k : Nat) (v : Value), k + m = n ∧ Keeps M0 M' ∧ Acc timedR 56 M0.length M' v (sortE (evsL D (l.take k))) ∧ (∀ i, i < k → okT D (el l i) = true) ∧ look T 7 = some (iv k) ∧ look T 6 = some v ∧ look T 2 = some (.pointer (some ⟨M.length, 0, none⟩)) ∧ look T 1 = some (iv D)) n
      ⟨0, _, by omega, keeps_app _, ⟨_, 0, 0, rfl, rfl, .inr ⟨M0.length, true, rfl, Nat.le_refl _, by rw [getElem?_snoc_eq]; rfl⟩⟩, fun i hi => by omega, by simp, by simp, by simp, by simp⟩ ?_
    rintro m T M1 ⟨k, v, hm, kM, hA, hok, t7, t6, t2, t1⟩
    have n1 := kM.len
    have bM := cellAt_keeps kM b0
    by_cases hlt : k < n
    case neg =>
      obtain rfl : k = n := by omega
      have e1 : ¬ (k : Int) < k := by omega
      rw [List.take_of_length_le (by omega)] at hA
      simp (disch := omega) [t7, t2, bM]
      refine hQ _ _ ⟨v, kM, hA, ?_, by simp [t6], by simp [t2], by simp [t1]⟩
      rw [List.all_eq_true]
      intro x hx
      obtain ⟨i, hi, rfl⟩ := List.getElem_of_mem hx
      rw [el_eq hi]
      exact hok i (by omega)
    have hlt' : (k : Int) < n := by omega
    obtain ⟨id, off, rfl, hz, hc⟩ := (h.keeps (k0.trans kM)).at_ hlt
    obtain ⟨g0, g2⟩ := note_cellsN hc
    obtain ⟨a0, a1, a2, a3, a4, a5, a6⟩ := note_cells hc
    have hnb := all_el hv (i := k) (by omega)
    obtain ⟨f1, f2, z1, z2⟩ := note_nn hnb
    obtain ⟨q1, q2, q3, q4, q5⟩ := tk_arith f1 z1 hD
    obtain ⟨r1, r2, r3, r4, r5⟩ := tk_arith f2 z2 hD
    have hkl : (sortE (evsL D (l.take k))).length ≤ 120 := by rw [sortE_len, List.length_take]; omega
    have hkd : ∀ x, x ∈ sortE (evsL D (l.take k)) → kdB x := fun x hx => (evs_ok (all_take hv k) hD x ((sortE_perm _).mem_iff.1 hx)).1
    simp (disch := omega) [t7, t2, bM, hlt, hlt', hz]
    refine awDraw_M 13 [[],[0],[1,0],[2,1,0],[],[4],[5,4],[6,5,4],[3,2,1,0,7,6,5,4],[8,3,2,1,0,7,6,5,4],[9,8,3,2,1,0,7,6,5,4],[9,8,3,2,1,0,7,6,5,4],[],[12,10,9,8,3,2,1,0,7,6,5,4],[11,9,8,3,2,1,0,7,6,5,4,13,12,10]] [11] (by kernel_rfl) (by decide +kernel) (by decide +kernel) ?_
    simp (disch := omega) [g0, g2]
    refine awCall_det' (AddFrac_s (el l k).at_ (el l k).len) (Nat.le_refl _) ?_
    refine ⟨[], by simp, ?_⟩
    simp (disch := omega)
    have hfin : (addF (el l k).at_ (el l k).len).1 = (el l k).fin := rfl
    rw [hfin]
    obtain ⟨M2, hM2⟩ : ∃ M2 : Mem, M2 = M1 ++ [Slot.live ⟨[iv (el l k).fin.n, iv (el l k).fin.d], true, true, 45, 2⟩] := ⟨_, rfl⟩
    rw [← hM2]
    have k12 : Keeps M1 M2 := by rw [hM2]; exact keeps_app _
    have n2 : M2.length = M1.length + 1 := by rw [hM2]; simp
    have fr2 : cellsAt M2 M1.length 0 2 = some [iv (el l k).fin.n, iv (el l k).fin.d] := by rw [hM2]; simp
    clear hM2
    have g0' := cellsAt_keeps k12 g0
    have c3' := cellAt_keeps k12 a4
    have c5' := cellAt_keeps k12 a6
    have c4' := cellAt_keeps k12 a5
    simp (disch := omega) [g0', t1]
    refine awCall_det' (l20Tick_s (f := (el l k).at_) f1 z1 hD) (by omega) ?_
    simp (disch := omega) [fr2, t1]
    refine awCall_det' (l20Tick_s (f := (el l k).fin) f2 z2 hD) (by omega) ?_
    have hno : okT D (el l k) = false → stV l D = ([], 6) := fun hh => by
      unfold stV
      rw [if_neg (by simp [hs]), if_neg (by simp [hD0]), if_pos]
      rw [List.all_eq_false]
      exact ⟨el l k, el_mem (by omega), by simp [hh]⟩
    by_cases b1 : tkB D (el l k).at_ = true
    case neg =>
      rw [hno (by unfold okT; simp [b1])] at hR
      simp (disch := omega) [b1]
      refine hR _ ?_
      simp
      exact StR.no ((k0.trans kM).trans k12)
    by_cases b2 : tkB D (el l k).fin = true
    case neg =>
      rw [hno (by unfold okT; simp [b2])] at hR
      simp (disch := omega) [b1, b2]
      refine hR _ ?_
      simp
      exact StR.no ((k0.trans kM).trans k12)
    simp (disch := omega) [b1, b2]
    refine awDraw_M 14 [[],[0],[1,0],[2,1,0],[],[4],[5,4],[6,5,4],[],[8],[9,8],[10,9,8],[3,2,1,0,7,6,5,4,11,10,9,8],[],[13,12,3,2,1,0,7,6,5,4,11,10,9,8]] [] (by kernel_rfl) (by decide +kernel) (by decide +kernel) ?_
    simp (disch := omega) [c3', c4', c5', ev_build4]
    obtain ⟨M3, hM3⟩ : ∃ M3 : Mem, M3 = M2 ++ [Slot.live ⟨[iv 0, iv 1, iv (el l k).o, iv (el l k).k, iv (el l k).u], true, true, 53, 5⟩] := ⟨_, rfl⟩
    rw [← hM3]
    have k23 : Keeps M2 M3 := by rw [hM3]; exact keeps_app _
    have n3 : M3.length = M2.length + 1 := by rw [hM3]; simp
    have ev3 : cellsAt M3 M2.length 0 5 = some [iv 0, iv 1, iv (el l k).o, iv (el l k).k, iv (el l k).u] := by rw [hM3]; simp
    clear hM3
    have k13 := k12.trans k23
    simp (disch := omega) [t6, ev3, timed_build]
    refine awCall_ctr (l20Insert_a (b := M.length) (e := onE D (el l k)) (hA.keeps k13) (by omega) (by omega) (by omega) hkd (.inl rfl)) ?_
    rintro v4 M4 ⟨hA4, k34⟩
    have n4 := k34.len
    have k14 := k13.trans k34
    have d3 := cellAt_keeps k14 a4
    have d4 := cellAt_keeps k14 a5
    have d5 := cellAt_keeps k14 a6
    try simp (disch := omega)
    refine awDraw_E 12 [[],[],[],[2],[3,2],[4,3,2],[],[6],[7,6],[8,7,6],[5,4,3,2,9,8,7,6],[1,10,5,4,3,2,9,8,7,6],[0,11,1,10,5,4,3,2,9,8,7,6],[12,0,11,1,10,5,4,3,2,9,8,7,6]] (by kernel_rfl) (by kernel_rfl) ?_
    simp (disch := omega) [d3, d4, d5, ev_build3, timed_build]
    have hlen4 : (insE (sortE (evsL D (l.take k))) (onE D (el l k))).length ≤ 121 := by rw [(insE_perm _ _).length_eq]; simp; omega
    have hkd4 : ∀ x, x ∈ insE (sortE (evsL D (l.take k))) (onE D (el l k)) → kdB x := fun x hx => by
      rcases List.mem_append.1 ((insE_perm _ _).mem_iff.1 hx) with hx | hx
      · exact hkd x hx
      · simp at hx; subst hx; exact .inl rfl
    refine awCall_ctr (l20Insert_a (b := M.length) (e := ofE D (el l k)) hA4 (by omega) (by omega) (by omega) hkd4 (.inr rfl)) ?_
    rintro v5 M5 ⟨hA5, k45⟩
    have n5 := k45.len
    simp (disch := omega) [t7, wrap_in]
    refine lpI (m - 1) (by omega) ⟨k + 1, v5, by omega, kM.trans (k14.trans k45), ?_, fun i hi => ?_, by simp, by simp, by simp [t2], by simp [t1]⟩
    · rw [evsL_take (by omega), sortE_snoc, sortE_snoc]
      exact hA5.low (by omega)
    · by_cases hik : i = k
      · rw [hik]; unfold okT; simp [b1, b2]
      · exact hok i (by omega)
  rintro T0 M1 ⟨v, kM, hA, hok, s6, s2, s1⟩
  have bM := cellAt_keeps kM b0
  have h1 := h.keeps (k0.trans kM)
  have n1 := kM.len
  simp (disch := omega)
  refine awLoop_joinR (fun T' M' => M' = M1 ∧ hitB l = false ∧ look T' 6 = some v) ?_ ?_
  · intro Q' hQ hR
    refine awLoop_T (fun m T M' => ∃ k : Nat, k + m = n ∧ M' = M1 ∧ (∀ i j, i < j → j < k → clashB (el l i) (el l j) = false) ∧ look T 16 = some (iv k) ∧ look T 6 = some v ∧ look T 2 = some (.pointer (some ⟨M.length, 0, none⟩))) n ⟨0, by omega, rfl, fun i j _ hj => by omega, by simp, by simp [s6], by simp [s2]⟩ ?_
    rintro m T M' ⟨k, hm, rfl, hc, t16, t6, t2⟩
    by_cases hlt : k < n
    case neg =>
      obtain rfl : k = n := by omega
      simp (disch := omega) [t16, t2, bM]
      exact hQ _ _ ⟨rfl, hitB_no.2 fun i j hij hj => hc i j hij (by omega), by simp [t6]⟩
    have hlt' : (k : Int) < n := by omega
    simp (disch := omega) [t16, t2, bM, hlt, hlt']
    refine awLoop_T (fun m' T M'' => ∃ q : Nat, q + m' = k ∧ M'' = M' ∧ (∀ i, i < q → clashB (el l i) (el l k) = false) ∧ look T 17 = some (iv q) ∧ look T 16 = some (iv k) ∧ look T 6 = some v ∧ look T 2 = some (.pointer (some ⟨M.length, 0, none⟩))) k ⟨0, by omega, rfl, fun i hi => by omega, by simp, by simp [t16], by simp [t6], by simp [t2]⟩ ?_
    rintro m' T' M'' ⟨q, hq, rfl, hcq, u17, u16, u6, u2⟩
    by_cases hqk : q < k
    case neg =>
      obtain rfl : q = k := by omega
      simp (disch := omega) [u17, u16, wrap_in]
      refine lpI (m - 1) (by omega) ⟨q + 1, by omega, rfl, fun i j hij hj => ?_, by simp, by simp [u6], by simp [u2]⟩
      by_cases e : j = q
      · subst e; exact hcq i hij
      · exact hc i j hij (by omega)
    have hqk' : (q : Int) < k := by omega
    have hqn : q < n := by omega
    have hqn' : (q : Int) < n := by omega
    obtain ⟨id, off, e1, hz1, hc1⟩ := h1.at_ hqn
    obtain ⟨id2, off2, e2, hz2, hc2⟩ := h1.at_ hlt
    subst e1
    injection e2 with e2
    injection e2 with e2 e3
    subst e2; subst e3
    simp (disch := omega) [u17, u16, hqk, hqk']
    refine awDraw_E 8 [[],[0],[],[1,0,2],[],[4],[],[5,4,6],[3,1,0,2,7,5,4,6]] (by kernel_rfl) (by kernel_rfl) ?_
    simp (disch := omega) [u17, u16, u2, bM, hqn, hqn', hlt, hlt', hz1]
    refine awCall_det' (l20Clash_a hc1 hc2) (by omega) ?_
    by_cases hcl : clashB (el l q) (el l k) = true
    · have e : stV l D = ([], 4) := by
        unfold stV
        rw [if_neg (by simp [hs]), if_neg (by simp [hD0]), if_neg (by simp [hok]), if_pos (hitB_yes hqk (by omega) hcl)]
      rw [e] at hR
      simp (disch := omega) [hcl]
      refine hR _ ?_
      simp
      exact StR.no (k0.trans kM)
    · simp (disch := omega) [hcl, u17, wrap_in]
      refine lpI (m' - 1) (by omega) ⟨q + 1, by omega, rfl, fun i hi => ?_, by simp, by simp [u16], by simp [u6], by simp [u2]⟩
      by_cases e : i = q
      · subst e; simpa using hcl
      · exact hcq i (by omega)
  rintro T1 M' ⟨rfl, hh, s6⟩
  have e : stV l D = (dltE 0 (sortE (evsL D l)), 0) := by
    unfold stV
    rw [if_neg (by simp [hs]), if_neg (by simp [hD0]), if_neg (by simp [hok]), if_neg (by simp [hh])]
  rw [e]
  have hbd : ∀ x, x ∈ sortE (evsL D l) → 0 ≤ x.d ∧ x.d ≤ 960000000000 := fun x hx => (evs_ok hv hD x ((sortE_perm _).mem_iff.1 hx)).2.1
  have hsl : (sortE (evsL D l)).length ≤ 120 := by rw [sortE_len]; omega
  generalize sortE (evsL D l) = srt at hA hbd hsl
  obtain ⟨A6, N, c6, rfl, hN, sl6, -⟩ := hA.sl
  simp (disch := omega)
  refine awLoop_T (fun m T M2 => ∃ (k : Nat) (w : Value), k + m = N ∧ Keeps M' M2 ∧ Acc streamEventR 53 M'.length M2 w (dltE 0 (srt.take k)) ∧ look T 20 = some (iv k) ∧ look T 19 = some (iv (lastE 0 (srt.take k))) ∧ look T 18 = some w ∧ look T 6 = some (.slice A6 N c6)) N
    ⟨0, _, by omega, keeps_app _, ⟨_, 0, 0, rfl, rfl, .inr ⟨M'.length, true, rfl, Nat.le_refl _, by rw [getElem?_snoc_eq]; rfl⟩⟩, by simp, by simp [lastE], by simp, by simp [s6]⟩ ?_
  rintro m T M2 ⟨k, w, hm, k2, hW, t20, t19, t18, t6⟩
  have n2 := k2.len
  by_cases hlt : k < N
  case neg =>
    obtain rfl : k = N := by omega
    rw [List.take_of_length_le (by omega)] at hW
    simp (disch := omega) [t20, t6, t18]
    have hf := (hW.low (B' := M.length) (by omega)).fresh (by rw [dltE_len]; omega) ((k0.trans kM).trans k2)
    exact ⟨w, rfl, hf.ow.1, hf.ow.2⟩
  have hlt' : (k : Int) < N := by omega
  obtain ⟨id, off, rfl, hz, hc⟩ := (sl6.keeps k2).at_ hlt
  have hx := hbd _ (el_mem (l := srt) (i := k) (by omega))
  have hlast := lastE_bd (l := srt.take k) (fun x hx => hbd x (List.mem_of_mem_take hx)) 0 (by omega)
  have c0 : cellAt M2 id (off + k * 6) = some (iv (el srt k).d) := hc 0 _ rfl
  have ld : cellsAt M2 id (off + k * 6 + 1) 5 = some [iv 0, iv (el srt k).j, iv (el srt k).o, iv (el srt k).k, iv (el srt k).u] := cellsAt_of (fun j x hx => by
    have := hc (j + 1) x (by simpa [timedR] using hx)
    rwa [show off + k * 6 + (j + 1) = off + k * 6 + 1 + j by omega] at this) rfl (by omega)
  simp (disch := omega) [t20, t6, hlt, hlt', hz, ld]
  obtain ⟨M3, hM3⟩ : ∃ M3 : Mem, M3 = M2 ++ [Slot.live ⟨[iv 0, iv (el srt k).j, iv (el srt k).o, iv (el srt k).k, iv (el srt k).u], true, true, 53, 5⟩] := ⟨_, rfl⟩
  rw [← hM3]
  have k3 : Keeps M2 M3 := by rw [hM3]; exact keeps_app _
  have n3 : M3.length = M2.length + 1 := by rw [hM3]; simp
  have r3 : M3[M2.length]? = some (.live ⟨[iv 0, iv (el srt k).j, iv (el srt k).o, iv (el srt k).k, iv (el srt k).u], true, true, 53, 5⟩) := by rw [hM3]; exact getElem?_snoc_eq
  clear hM3
  have c3 := cellAt_keeps k3 c0
  have pb := fun x : Int => put_rowE (b := M.length) (p := 0) (v := iv x) r3 (by omega) (by simp) rfl
  have hz3 : rowEsz M3 id = some 6 := rowEsz_keepsE k3 hz
  simp (disch := omega) [t20, t6, hlt, hlt', hz3, c3, t19, wrap_in, pb]
  obtain ⟨M4, hM4⟩ : ∃ M4 : Mem, M4 = M3.set M2.length (.live ⟨[iv ((el srt k).d - lastE 0 (srt.take k)), iv (el srt k).j, iv (el srt k).o, iv (el srt k).k, iv (el srt k).u], true, true, 53, 5⟩) := ⟨_, rfl⟩
  rw [← hM4]
  have k4 : Keeps M2 M4 := by rw [hM4]; exact keeps_set k3 (Nat.le_refl _)
  have n4 : M4.length = M3.length := by rw [hM4]; simp
  have r4 : cellsAt M4 M2.length 0 5 = some [iv ((el srt k).d - lastE 0 (srt.take k)), iv (el srt k).j, iv (el srt k).o, iv (el srt k).k, iv (el srt k).u] := by
    rw [hM4]
    exact cells_hrE (r := ⟨[iv ((el srt k).d - lastE 0 (srt.take k)), iv (el srt k).j, iv (el srt k).o, iv (el srt k).k, iv (el srt k).u], true, true, 53, 5⟩) (List.getElem?_set_self (by omega)) rfl
  clear hM4 pb
  have c4 := cellAt_keeps k4 c0
  have hz4 : rowEsz M4 id = some 6 := rowEsz_keepsE k4 hz
  try simp (disch := omega) [t20, t6, hlt, hlt', hz4, c4, t18, r4]
  have hdl : (dltE 0 (srt.take k)).length = k := by rw [dltE_len, List.length_take]; omega
  have hsn := dltE_snoc (srt.take k) 0 (el srt k)
  rw [← take_el (show k < srt.length by omega)] at hsn
  refine ((hW.keeps k4).keeps (keeps_app _)).append (a := ⟨(el srt k).d - lastE 0 (srt.take k), (el srt k).j, (el srt k).o, (el srt k).k, (el srt k).u⟩) (by_ := 40) (by omega) (by simp; omega) (by omega) (by kernel_rfl) (by kernel_rfl) ?_ (by rfl) (by omega) (by unfold maxLen; omega) ?_
  · have := cells_hrE (M := M4 ++ [Slot.live ⟨[iv ((el srt k).d - lastE 0 (srt.take k)), iv (el srt k).j, iv (el srt k).o, iv (el srt k).k, iv (el srt k).u], true, true, 53, 5⟩]) (id := M4.length) (n := 5) getElem?_snoc_eq rfl
    simp [srcOf, streamEventR, StreamEvent.row, this]
  intro w5 M5 hW5 s5
  have k5 := s5.keeps ((k2.trans k4).trans (keeps_app _)) (Nat.le_refl _)
  refine lpI (m - 1) (by omega) ⟨k + 1, w5, by omega, k5, by rw [hsn.1]; exact hW5, by simp (disch := omega) [wrap_in], by rw [hsn.2]; simp, by simp, by simp [t6]⟩
end Go.Proofs.Ytjgfpkamoalgiaa

namespace Go.Proofs.Ytjgfpkamoalgiaa
open Go.RowKit
set_option linter.unusedVariables false
set_option linter.unusedSimpArgs false
set_option maxRecDepth 100000
attribute [local simp] List.getElem?_cons_zero
attribute [local irreducible] awCond awCall awLoop awDraw ow retQ retC resQ Keeps
set_option maxHeartbeats 2000000 in
theorem overlap_i {M : Mem} {A : Option Addr} {n c : Nat} {l : List Note} (h : Sl noteR M A n l) (hn : n ≤ 1048576) (hv : l.all noteB = true) : Det Try.prog M.length 25 [.slice A n c] M (.bool (hitB l)) M := by
  have hl := h.1
  first | (refine det_fn Try.func25 rfl Try.ntmps25 Try.results25 rfl rfl rfl (by simp) ?_) | (refine det_fnC Try.func25 rfl Try.ntmps25 Try.results25 rfl rfl (by simp) ?_)
  simp
  refine awLoop_T (fun m T M' => ∃ k : Nat, k + m = n ∧ Keeps M M' ∧ (∀ i j, i < k → i < j → j < n → clashB (el l i) (el l j) = false) ∧ look T 9 = some (iv k) ∧ look T 8 = some (iv n) ∧ look T 7 = some (.slice A n c) ∧ look T 0 = some (.slice A n c)) n ⟨0, by omega, Keeps.refl _, fun i j hi => by omega, by simp, by simp, by simp, by simp⟩ ?_
  rintro m T M1 ⟨k, hm, kM, hc, t9, t8, t7, t0⟩
  have n1 := kM.len
  by_cases hlt : k < n
  case neg =>
    obtain rfl : k = n := by omega
    simp (disch := omega) [t9, t8]
    exact ⟨hitB_no.2 fun i j hij hj => hc i j (by omega) hij (by omega), kM⟩
  have hlt' : (k : Int) < n := by omega
  obtain ⟨id, off, rfl, hz, hcl⟩ := (h.keeps kM).at_ hlt
  have ld := note_load hcl
  have hka := all_el hv (i := k) (by omega)
  simp (disch := omega) [t9, t8, t7, t0, hlt, hlt', hz, ld, wrap_in]
  obtain ⟨M2, hM2⟩ : ∃ M2 : Mem, M2 = M1 ++ [Slot.live ⟨[iv (el l k).an, iv (el l k).ad, iv (el l k).ln, iv (el l k).ld, iv (el l k).k, iv (el l k).u, iv (el l k).o], true, true, 47, 7⟩] := ⟨_, rfl⟩
  rw [← hM2]
  have k12 : Keeps M1 M2 := by rw [hM2]; exact keeps_app _
  have n2 : M2.length = M1.length + 1 := by rw [hM2]; simp
  have bx : Cl M2 M1.length 0 (el l k).row := fun j x hx => by rw [hM2]; simp [cellAt]; exact hx
  have hzz : rowEsz M2 id = some 7 := rowEsz_keepsE k12 hz
  clear hM2
  refine ⟨by omega, hzz, ?_⟩
  obtain ⟨fa1, fa2⟩ := note_end hka
  refine awLoop_T (fun m' T M' => ∃ q : Nat, q + m' = n - (k + 1) ∧ Keeps M2 M' ∧ (∀ j, k < j → j < k + 1 + q → clashB (el l k) (el l j) = false) ∧ look T 19 = some (iv q) ∧ look T 18 = some (iv ((n - (k + 1) : Nat) : Int)) ∧ look T 17 = some (.slice (some ⟨id, off + (k + 1) * 7, none⟩) (n - (k + 1)) (n - (k + 1))) ∧ look T 4 = some (.pointer (some ⟨M1.length, 0, none⟩)) ∧ look T 9 = some (iv k) ∧ look T 8 = some (iv n) ∧ look T 7 = some (.slice (some ⟨id, off, none⟩) n c) ∧ look T 0 = some (.slice (some ⟨id, off, none⟩) n c)) (n - (k + 1))
    ⟨0, by omega, Keeps.refl _, fun j h1 h2 => by omega, by simp, by simp, by simp, by simp, by simp [t9], by simp [t8], by simp [t7], by simp [t0]⟩ ?_
  rintro m' T' M3 ⟨q, hq, k23, hcq, u19, u18, u17, u4, u9, u8, u7, u0⟩
  have n3 := k23.len
  by_cases hqn : q < n - (k + 1)
  case neg =>
    have hqn1 : ¬ (q : Int) < ((n - (k + 1) : Nat) : Int) := by omega
    simp (disch := omega) [u19, u18, hqn, hqn1, u9, wrap_in]
    refine lpI (m - 1) (by omega) ⟨k + 1, by omega, (kM.trans k12).trans k23, fun i j hi hij hj => ?_, by simp, by simp [u8], by simp [u7], by simp [u0]⟩
    by_cases e : i = k
    · subst e; exact hcq j hij (by omega)
    · exact hc i j (by omega) hij hj
  have hqn1 : (q : Int) < ((n - (k + 1) : Nat) : Int) := by omega
  have sd := ((h.keeps kM).keeps (k12.trans k23)).dropE (m := k + 1) (by omega)
  obtain ⟨_, _, e1, hz3, hc3⟩ := sd.at_ (i := q) hqn
  injection e1 with e1
  injection e1 with e1 e2
  subst e1; subst e2
  have ed : el (l.drop (k + 1)) q = el l (k + 1 + q) := by simp [el]
  rw [ed] at hc3
  have ld3 := note_load hc3
  have hkb := all_el hv (i := k + 1 + q) (by omega)
  obtain ⟨fb1, fb2⟩ := note_end hkb
  simp (disch := omega) [u19, u18, u17, hqn, hqn1, hz3, ld3]
  obtain ⟨M4, hM4⟩ : ∃ M4 : Mem, M4 = M3 ++ [Slot.live ⟨[iv (el l (k + 1 + q)).an, iv (el l (k + 1 + q)).ad, iv (el l (k + 1 + q)).ln, iv (el l (k + 1 + q)).ld, iv (el l (k + 1 + q)).k, iv (el l (k + 1 + q)).u, iv (el l (k + 1 + q)).o], true, true, 47, 7⟩] := ⟨_, rfl⟩
  rw [← hM4]
  have k34 : Keeps M3 M4 := by rw [hM4]; exact keeps_app _
  have n4 : M4.length = M3.length + 1 := by rw [hM4]; simp
  have bx4 : Cl M4 M3.length 0 (el l (k + 1 + q)).row := fun j x hx => by rw [hM4]; simp [cellAt]; exact hx
  have bxa : Cl M4 M1.length 0 (el l k).row := fun j x hx => cellAt_keeps (k23.trans k34) (bx j x hx)
  clear hM4
  obtain ⟨-, -, -, -, a4, -, a6⟩ := note_cells bxa
  obtain ⟨-, -, -, -, b4, -, b6⟩ := note_cells bx4
  obtain ⟨gb, -⟩ := note_cellsN bx4
  have lda := note_load bxa
  have KK := ((kM.trans k12).trans k23).trans k34
  simp only [Nat.zero_add] at a4 a6 b4 b6
  refine awDraw_E 17 [[],[0],[],[2],[1,0,3,2],[4,1,0,3,2],[5,4,1,0,3,2],[6,5,4,1,0,3,2],[5,4,1,0,3,2],[8,5,4,1,0,3,2],[7,6,5,4,1,0,3,2,9,8],[5,4,1,0,3,2,10,7,6,9,8],[11,5,4,1,0,3,2,10,7,6,9,8],[12,11,5,4,1,0,3,2,10,7,6,9,8],[13,12,11,5,4,1,0,3,2,10,7,6,9,8],[12,11,5,4,1,0,3,2,10,7,6,9,8],[15,12,11,5,4,1,0,3,2,10,7,6,9,8],[14,13,12,11,5,4,1,0,3,2,10,7,6,9,8,16,15],[17,14,13,12,11,5,4,1,0,3,2,10,7,6,9,8,16,15],[12,11,5,4,1,0,3,2,10,7,6,9,8,18,17,14,13,16,15]] (by kernel_rfl) (by kernel_rfl) ?_
  have ext : clashB (el l k) (el l (k + 1 + q)) = false → ∀ j, k < j → j < k + 1 + (q + 1) → clashB (el l k) (el l j) = false := fun hh j h1 h2 => by
    by_cases e : j = k + 1 + q
    · rw [e]; exact hh
    · exact hcq j h1 (by omega)
  have K24 := k23.trans k34
  by_cases eo : (el l k).o = (el l (k + 1 + q)).o
  case neg =>
    have hcl : clashB (el l k) (el l (k + 1 + q)) = false := by unfold clashB; simp [eo]
    simp (disch := omega) [u4, a4, a6, b4, b6, gb, lda, eo, u19, wrap_in]
    exact lpI (m' - 1) (by omega) ⟨q + 1, by omega, K24, ext hcl, by simp, by simp [u18], by simp [u17], by simp [u4], by simp [u9], by simp [u8], by simp [u7], by simp [u0]⟩
  by_cases ek : (el l k).k = (el l (k + 1 + q)).k
  case neg =>
    have hcl : clashB (el l k) (el l (k + 1 + q)) = false := by unfold clashB; simp [ek]
    simp (disch := omega) [u4, a4, a6, b4, b6, gb, lda, eo, ek, u19, wrap_in]
    exact lpI (m' - 1) (by omega) ⟨q + 1, by omega, K24, ext hcl, by simp, by simp [u18], by simp [u17], by simp [u4], by simp [u9], by simp [u8], by simp [u7], by simp [u0]⟩
  have hcv : clashB (el l k) (el l (k + 1 + q)) = decide (cmpF (el l (k + 1 + q)).at_ (el l k).fin < 0) := by
    unfold clashB cmpX
    rw [if_pos ⟨fb1, fa2⟩]
    simp [eo, ek]
  have eo' : ((el l k).o = (el l (k + 1 + q)).o) = True := eq_true eo
  have ek' : ((el l k).k = (el l (k + 1 + q)).k) = True := eq_true ek
  clear eo ek
  simp (disch := omega) [u4, a4, a6, b4, b6, gb, lda, eo', ek']
  refine awCall_det' (end_i (el l k)) (Nat.le_refl _) ?_
  simp (disch := omega)
  refine awCall_det' (compare_i (el l (k + 1 + q)).at_ (el l k).fin fb1 fa2) (by have := KK.len; omega) ?_
  by_cases hlt0 : cmpF (el l (k + 1 + q)).at_ (el l k).fin < 0
  · rw [decide_eq_true hlt0] at hcv
    simp (disch := omega) [hlt0]
    exact ⟨hitB_yes (i := k) (j := k + 1 + q) (by omega) (by omega) hcv, KK⟩
  · rw [decide_eq_false hlt0] at hcv
    simp (disch := omega) [hlt0, u19, wrap_in]
    exact lpI (m' - 1) (by omega) ⟨q + 1, by omega, K24, ext hcv, by simp, by simp [u18], by simp [u17], by simp [u4], by simp [u9], by simp [u8], by simp [u7], by simp [u0]⟩
end Go.Proofs.Ytjgfpkamoalgiaa

namespace Go.Proofs.Ytjgfpkamoalgiaa
open Go.Shelf
def sortFn_ren : Go.Shelf.Ren := ⟨fun | 6 => 26 | 15 => 43 | 14 => 42 | 28 => 62 | 29 => 63 | 20 => 54 | 21 => 55 | 22 => 56 | 23 => 57 | 24 => 58 | 25 => 59 | 26 => 60 | 27 => 61 | 46 => 70 | 47 => 71 | 48 => 72 | 49 => 73 | 50 => 74 | 57 => 76 | n => n, fun | 22 => 26 | 24 => 53 | 25 => 63 | 3 => 3 | 39 => 81 | 0 => 0 | 53 => 100 | 55 => 85 | 4 => 4 | 46 => 93 | 45 => 92 | 50 => 97 | 5 => 5 | 9 => 9 | 66 => 105 | 70 => 109 | 76 => 112 | 77 => 113 | n => n, fun | n => n⟩
theorem sortFn : Go.Proofs.SlLaysF0.n6 Try.prog sortFn_ren := {
  mixed := by kernel_rfl
  f6 := ⟨Try.f26.name, by decide, Try.func26.trans (congrArg some (by kernel_rfl))⟩
  f14 := ⟨Try.f42.name, by decide, Try.func42.trans (congrArg some (by kernel_rfl))⟩
  f15 := Try.func43.trans (congrArg some (by kernel_rfl))
  f20 := ⟨Try.f54.name, by decide, Try.func54.trans (congrArg some (by kernel_rfl))⟩
  f21 := ⟨Try.f55.name, by decide, Try.func55.trans (congrArg some (by kernel_rfl))⟩
  f22 := ⟨Try.f56.name, by decide, Try.func56.trans (congrArg some (by kernel_rfl))⟩
  f23 := ⟨Try.f57.name, by decide, Try.func57.trans (congrArg some (by kernel_rfl))⟩
  f24 := ⟨Try.f58.name, by decide, Try.func58.trans (congrArg some (by kernel_rfl))⟩
  f25 := ⟨Try.f59.name, by decide, Try.func59.trans (congrArg some (by kernel_rfl))⟩
  f26 := ⟨Try.f60.name, by decide, Try.func60.trans (congrArg some (by kernel_rfl))⟩
  f27 := ⟨Try.f61.name, by decide, Try.func61.trans (congrArg some (by kernel_rfl))⟩
  f28 := Try.func62.trans (congrArg some (by kernel_rfl))
  f29 := Try.func63.trans (congrArg some (by kernel_rfl))
  f46 := ⟨Try.f70.name, by decide, Try.func70.trans (congrArg some (by kernel_rfl))⟩
  f47 := Try.func71.trans (congrArg some (by kernel_rfl))
  f48 := Try.func72.trans (congrArg some (by kernel_rfl))
  f49 := ⟨Try.f73.name, by decide, Try.func73.trans (congrArg some (by kernel_rfl))⟩
  f50 := ⟨Try.f74.name, by decide, Try.func74.trans (congrArg some (by kernel_rfl))⟩
  f57 := ⟨Try.f76.name, by decide, Try.func76.trans (congrArg some (by kernel_rfl))⟩
  t0 := Try.underlying0
  a0 := Try.isAgg0
  z0 := Try.sizeOf0
  v0 := Try.zeroValue0
  t3 := Try.underlying3
  a3 := Try.isAgg3
  z3 := Try.sizeOf3
  v3 := Try.zeroValue3
  t4 := Try.underlying4
  a4 := Try.isAgg4
  z4 := Try.sizeOf4
  v4 := Try.zeroValue4
  t5 := Try.underlying5
  a5 := Try.isAgg5
  z5 := Try.sizeOf5
  v5 := Try.zeroValue5
  t9 := Try.underlying9
  a9 := Try.isAgg9
  z9 := Try.sizeOf9
  v9 := Try.zeroValue9
  t22 := Try.underlying26
  a22 := Try.isAgg26
  z22 := Try.sizeOf26
  v22 := Try.zeroValue26
  t25 := Try.underlying63
  a25 := Try.isAgg63
  z25 := Try.sizeOf63
  v25 := Try.zeroValue63
  t39 := Try.underlying81
  a39 := Try.isAgg81
  z39 := Try.sizeOf81
  v39 := Try.zeroValue81
  t45 := Try.underlying92
  a45 := Try.isAgg92
  z45 := Try.sizeOf92
  v45 := Try.zeroValue92
  t46 := Try.underlying93
  a46 := Try.isAgg93
  z46 := Try.sizeOf93
  v46 := Try.zeroValue93
  t50 := Try.underlying97
  a50 := Try.isAgg97
  z50 := Try.sizeOf97
  v50 := Try.zeroValue97
  t53 := Try.underlying100
  a53 := Try.isAgg100
  z53 := Try.sizeOf100
  v53 := Try.zeroValue100
  t55 := Try.underlying85
  a55 := Try.isAgg85
  z55 := Try.sizeOf85
  v55 := Try.zeroValue85
  t66 := Try.underlying105
  a66 := Try.isAgg105
  z66 := Try.sizeOf105
  v66 := Try.zeroValue105
  t70 := Try.underlying109
  a70 := Try.isAgg109
  z70 := Try.sizeOf109
  v70 := Try.zeroValue109
  t76 := Try.underlying112
  a76 := Try.isAgg112
  z76 := Try.sizeOf112
  v76 := Try.zeroValue112
  t77 := Try.underlying113
  a77 := Try.isAgg113
  z77 := Try.sizeOf113
  v77 := Try.zeroValue113 }
end Go.Proofs.Ytjgfpkamoalgiaa

namespace Go.Proofs.Ytjgfpkamoalgiaa
open Go.RowKit
set_option linter.unusedVariables false
def upG (γ : Nat → Value) (k : Nat) (v : Value) : Nat → Value := fun j => if j = k then v else γ j
@[simp] theorem upG_same (γ : Nat → Value) (k : Nat) (v : Value) : upG γ k v k = v := if_pos rfl
theorem upG_ne {γ : Nat → Value} {j k : Nat} {v : Value} (h : j ≠ k) : upG γ k v j = γ j := if_neg h
/-- No temporary is set twice. -/
def dstOnce (ops : Array Oper) : Bool := (List.range ops.size).all fun k => (List.range ops.size).all fun j => decide (j = k) || (dstOf ops j).isNone || dstOf ops j != dstOf ops k
theorem dstOnce_spec {ops : Array Oper} (h : dstOnce ops = true) {j k : Nat} {t : Nat} (hj : dstOf ops j = some t) (hk : dstOf ops k = some t) : j = k := by
  have lt : ∀ i, dstOf ops i = some t → i < ops.size := by
    intro i hi
    unfold dstOf at hi
    obtain ⟨o, ho, -⟩ := Option.bind_eq_some_iff.1 hi
    exact (Array.getElem?_eq_some_iff.1 ho).1
  have h1 := List.all_eq_true.1 h k (List.mem_range.2 (lt k hk))
  have h2 := List.all_eq_true.1 h1 j (List.mem_range.2 (lt j hj))
  rw [hj, hk] at h2
  simpa using h2
/-- What the temporaries hold: what has been done gave its value, the others are as they were. -/
structure TS (ops : Array Oper) (T0 : List (Nat × Value)) (X : Nat → Bool) (γ : Nat → Value) (T : List (Nat × Value)) : Prop where
  done : ∀ j d, X j = true → dstOf ops j = some d → look T d = some (γ j)
  frame : ∀ t, (∀ j, X j = true → dstOf ops j ≠ some t) → look T t = look T0 t
def noDst (ops : Array Oper) (t : Nat) : Bool := (List.range ops.size).all fun j => decide (dstOf ops j ≠ some t)
theorem TS.frame' {ops : Array Oper} {T0 T : List (Nat × Value)} {X : Nat → Bool} {γ : Nat → Value} (h : TS ops T0 X γ T) (t : Nat) (hn : noDst ops t = true) : look T t = look T0 t :=
  h.frame t fun j _ hj => by
    have hl : j < ops.size := by
      unfold dstOf at hj
      obtain ⟨o, ho, -⟩ := Option.bind_eq_some_iff.1 hj
      exact (Array.getElem?_eq_some_iff.1 ho).1
    have := List.all_eq_true.1 hn j (List.mem_range.2 hl)
    exact (of_decide_eq_true this) hj
/-- What has been done is closed under what must come ahead. -/
def Closed (ops : List Oper) (X : Nat → Bool) : Prop := ∀ k o, X k = true → ops[k]? = some o → ∀ e ∈ o.after.toList, Region.binds .any e = true → X e.on = true
def edge (ops : List Oper) (k j : Nat) : Bool := match ops[k]? with
  | some o => o.after.toList.any fun e => Region.binds .any e && decide (e.on = j)
  | none => false
theorem Closed.at_ {ops : List Oper} {X : Nat → Bool} (h : Closed ops X) {k : Nat} (j : Nat) (hk : X k = true) (he : edge ops k j = true) : X j = true := by
  unfold edge at he
  split at he
  · rename_i o ho
    obtain ⟨e, h1, h2⟩ := List.any_eq_true.1 he
    simp only [Bool.and_eq_true, decide_eq_true_eq] at h2
    have := h k o hk ho e h1 h2.1
    rwa [h2.2] at this
  · cases he
theorem edge_ahead {ops : List Oper} {X : Nat → Bool} {k : Nat} {o : Oper} (ho : ops[k]? = some o) (ha : ∀ e ∈ o.after.toList, Region.binds .any e = true → X e.on = true) (j : Nat) (he : edge ops k j = true) : X j = true := by
  unfold edge at he
  rw [ho] at he
  obtain ⟨e, h1, h2⟩ := List.any_eq_true.1 he
  simp only [Bool.and_eq_true, decide_eq_true_eq] at h2
  have := ha e h1 h2.1
  rwa [h2.2] at this
theorem awDraw_G {P : Program} {b : Nat} {ops : List Oper} {Q : St → Prop} {S : St} (G : (Nat → Bool) → (Nat → Value) → Mem → Prop) (h1 : P.follows .mixedOrders = true) (h2 : drawBack ⟨ops⟩ = true) (h3 : dstOnce ⟨ops⟩ = true)
    (h0 : ∀ γ, G (fun _ => false) γ S.M)
    (hstep : ∀ X γ T M k o (K : Value → Mem → Prop), Closed ops X → TS ⟨ops⟩ S.T X γ T → G X γ M → ops[k]? = some o → X k = false → (∀ e ∈ o.after.toList, Region.binds .any e = true → X e.on = true) → (∀ v M', G (upX X k) (upG γ k v) M' → K v M') → sOp P false b o ⟨S.n, T, M⟩ K)
    (hend : ∀ X γ T M, (∀ k, k < ops.length → X k = true) → TS ⟨ops⟩ S.T X γ T → G X γ M → Q ⟨S.n, T, M⟩) : awDraw P b ⟨ops⟩ Q S := by
  refine awDraw_I (fun X S' => S'.n = S.n ∧ Closed ops X ∧ ∃ γ, TS ⟨ops⟩ S.T X γ S'.T ∧ G X γ S'.M) h1 h2 ⟨rfl, fun k o h => (by cases h), fun _ => undef, ⟨(fun j d h => by cases h), fun t _ => rfl⟩, h0 _⟩ ?_ ?_
  · rintro X ⟨n, T, M⟩ k o ⟨hn, hC, γ, hT, hG⟩ ho hX ha
    simp only at hn hT hG
    subst hn
    refine hstep X γ T M k o _ hC hT hG ho hX ha fun v M' hG' => ⟨by cases o.dst <;> rfl, fun i o' hi ho' e he hb => ?_, upG γ k v, ?_, by cases o.dst <;> exact hG'⟩
    · by_cases e1 : e.on = k
      · rw [e1]; simp
      · rw [upX_ne e1]
        by_cases e2 : i = k
        · subst e2
          rw [ho] at ho'
          injection ho' with ho'
          subst ho'
          exact ha e he hb
        · rw [upX_ne e2] at hi
          exact hC i o' hi ho' e he hb
    have hdk : dstOf ⟨ops⟩ k = o.dst := by simp [dstOf, ho]
    refine ⟨fun j d hj hd => ?_, fun t ht => ?_⟩
    · by_cases e : j = k
      · subst e
        rw [hdk] at hd
        rw [hd]
        simp [St.put, look]
      · rw [upX_ne e] at hj
        rw [upG_ne e]
        have := hT.done j d hj hd
        cases hod : o.dst with
        | none => exact this
        | some d' =>
          simp only [St.put, look]
          rw [if_neg (fun e' => e (dstOnce_spec h3 hd (by rw [hdk, hod, e'])))]
          exact this
    · have hf := hT.frame t fun j hj => ht j (by
        by_cases e : j = k
        · subst e; simp
        · rw [upX_ne e]; exact hj)
      cases hod : o.dst with
      | none => exact hf
      | some d' =>
        have := ht k (by simp)
        rw [hdk, hod] at this
        simp only [St.put, look]
        rw [if_neg (fun e' => this (by rw [e']))]
        exact hf
  · rintro X ⟨n, T, M⟩ hX ⟨hn, hC, γ, hT, hG⟩
    simp only at hn hT hG
    subst hn
    exact hend X γ T M hX hT hG
end Go.Proofs.Ytjgfpkamoalgiaa

namespace Go.Proofs.Ytjgfpkamoalgiaa
open Go.RowKit
set_option linter.unusedVariables false
set_option linter.unusedSimpArgs false
theorem Sim.rewrite {b : Nat} {M : Mem} {μ : Map} {w w' : World} (h : Sim M μ w) {id : Nat} {r : Row} {xs : List Value} (hr : M[id]? = some (.live r)) (ho : r.own = true) (hb : b ≤ id) (hxl : xs.length = r.cells.length)
    (h1 : w'.os = w.os) (h2 : w'.tape = w.tape) (h3 : w'.output = w.output) (h4 : w.heap.size ≤ w'.heap.size) (h5 : ∀ k, k < w.heap.size → k ≠ (μ.at_ id).block → w'.heap[k]? = w.heap[k]?)
    (h6 : ∀ (cur : Array Value) (fr : Nat × Nat), w.heap[(μ.at_ id).block]? = some (.cells cur r.elem fr) → r.cells.length ≤ cur.size → ∃ cur' : Array Value, w'.heap[(μ.at_ id).block]? = some (.cells cur' r.elem fr) ∧ cur'.size = cur.size ∧ ∀ (j : Nat) c, xs[j]? = some c → ∃ d, cur'[j]? = some d ∧ VRel M μ c d) :
    Sim (M.set id (.live { r with cells := xs })) μ w' ∧ Step b M μ w (M.set id (.live { r with cells := xs })) μ w' := by
  obtain ⟨a1, a2, a3⟩ := h.row id r hr
  obtain ⟨g, cur, fr, e1, e2, ef, e3, e4, e5⟩ := a3 ho
  have hid := (List.getElem?_eq_some_iff.1 hr).1
  have eg : (μ.at_ id).block = g := by rw [e1]
  rw [eg] at h5 h6 a1
  obtain ⟨cur', c1, c2, c3⟩ := h6 cur fr e2 e4
  have hst : Step b M μ w (M.set id (.live { r with cells := xs })) μ w' := by
    refine ⟨fun i s hs => ?_, fun _ _ => ⟨rfl, rfl⟩, h1, h2, h3, h4, fun k hk hn => h5 k hk fun e => hn id r hb hr ho (by rw [eg, e]), fun i r' hi hr' => ?_⟩
    · by_cases e : i = id
      · subst e
        rw [hr] at hs
        injection hs with hs
        subst hs
        exact ⟨_, List.getElem?_set_self hid, rfl, rfl, rfl, rfl, hxl, fun h => by omega⟩
      · exact ⟨s, by rw [List.getElem?_set_ne (fun h => e h.symm)]; exact hs, Slot.evolves_refl _ _⟩
    · have := (List.getElem?_eq_some_iff.1 hr').1
      rw [List.length_set] at this
      omega
  refine ⟨⟨fun i s hs => ?_, fun i i' r1 r2 k1 k2 hne ho1 => ?_⟩, hst⟩
  · rcases getElem?_set_inv hs with ⟨rfl, k1, -⟩ | ⟨hne, k1⟩
    · injection k1 with k1
      subst k1
      refine ⟨by rw [eg]; omega, fun k x hx => ?_, fun _ => ⟨g, cur', fr, e1, c1, by rw [c2]; exact ef, by rw [c2]; exact e3, by rw [c2]; show xs.length ≤ _; omega, by rw [c2]; show r.tight = true → xs.length = _; rw [hxl]; exact e5⟩⟩
      obtain ⟨d, hd, hrel⟩ := c3 k x hx
      refine ⟨d, ?_, hrel.step hst⟩
      rw [e1, Addr.add_lit]
      simp only [Nat.zero_add]
      rw [cell_of_row _ g k cur' _ fr c1, hd]
    · obtain ⟨b1, b2, b3⟩ := h.row i s k1
      have hblk : (μ.at_ id).block ≠ (μ.at_ i).block := h.inj id i r s hr k1 (fun e => hne e.symm) ho
      rw [eg] at hblk
      have hsame := h5 (μ.at_ i).block b1 (Ne.symm hblk)
      refine ⟨by omega, fun k x hx => ?_, fun ho' => ?_⟩
      · obtain ⟨d, hd, hrel⟩ := b2 k x hx
        refine ⟨d, ?_, hrel.step hst⟩
        unfold World.cell? at hd ⊢
        rw [block_add_] at hd ⊢
        rw [hsame]
        exact hd
      · obtain ⟨g', cur2, fr', f1, f2, f3⟩ := b3 ho'
        rw [f1] at hsame
        exact ⟨g', cur2, fr', f1, by rw [hsame]; exact f2, f3⟩
  · have back : ∀ {i : Nat} {s : Row}, (M.set id (.live { r with cells := xs }))[i]? = some (.live s) → ∃ s0, M[i]? = some (.live s0) ∧ s.own = s0.own := by
      intro i s hs
      rcases getElem?_set_inv hs with ⟨rfl, h1, -⟩ | ⟨_, h1⟩
      · injection h1 with h1; subst h1; exact ⟨r, hr, rfl⟩
      · exact ⟨s, h1, rfl⟩
    obtain ⟨s1, q1, q2⟩ := back k1
    obtain ⟨s2, q3, -⟩ := back k2
    exact h.inj i i' s1 s2 q1 q3 hne (by rw [← q2]; exact ho1)
end Go.Proofs.Ytjgfpkamoalgiaa

namespace Go.Proofs.Ytjgfpkamoalgiaa
open Go.RowKit Go.Shelf Go.Lib Go.Sort
set_option linter.unusedVariables false
set_option linter.unusedSimpArgs false
def evK (e : StreamEvent) : Prop := (-1099511627776 ≤ e.d ∧ e.d ≤ 1099511627776) ∧ (-1099511627776 ≤ e.j ∧ e.j ≤ 1099511627776) ∧ (-1099511627776 ≤ e.o ∧ e.o ≤ 1099511627776) ∧ (-1099511627776 ≤ e.k ∧ e.k ≤ 1099511627776)
abbrev EvK := {e : StreamEvent // evK e}
instance : Inhabited EvK := ⟨⟨⟨0, 0, 0, 0, 0⟩, by unfold evK; simp only; omega⟩⟩
def encK (x : EvK) : List Value := x.1.row
def cfK (x y : EvK) : Int := cmpE x.1 y.1
theorem w64 {x : Int} (h1 : -9223372036854775808 ≤ x) (h2 : x ≤ 9223372036854775807) : IntKind.i64.wrap x = x := IntWalk.i64_in _ ⟨h1, h2⟩
set_option maxHeartbeats 1000000 in
theorem cmp_any (x y : EvK) (W : World) : Calls Try.prog 27 #[.agg (encK x).toArray, .agg (encK y).toArray] W fun e w' => e = .returned (.int .i64 (cfK x y)) ∧ ∃ q os', w' = grow (W.drewN q) os' := by
  obtain ⟨⟨d, j, o, k, u⟩, hx⟩ := x
  obtain ⟨⟨d', j', o', k', u'⟩, hy⟩ := y
  unfold evK at hx hy
  simp only at hx hy
  simp only [encK, StreamEvent.row, cfK, cmpE]
  by_cases e1 : d = d'
  · by_cases e2 : j = j'
    · by_cases e3 : o = o'
      · subst e1; subst e2; subst e3
        go_enter Try.func27, Try.ntmps27
        go_wp2
        go_ret
        exact ⟨rfl, 0, _, by rw [alloc_eq_grow, alloc_eq_grow, grow_grow]; rfl⟩
      · subst e1; subst e2
        go_enter Try.func27, Try.ntmps27
        go_wp2
        go_ret
        exact ⟨rfl, 0, _, by rw [alloc_eq_grow, alloc_eq_grow, grow_grow]; rfl⟩
    · subst e1
      go_enter Try.func27, Try.ntmps27
      go_wp2
      go_ret
      exact ⟨rfl, 0, _, by rw [alloc_eq_grow, alloc_eq_grow, grow_grow]; rfl⟩
  · go_enter Try.func27, Try.ntmps27
    go_wp2
    go_ret
    exact ⟨rfl, 0, _, by rw [alloc_eq_grow, alloc_eq_grow, grow_grow]; rfl⟩
theorem cmp_lays (blk off size : Nat) (w : World) : CmpLays Try.prog 27 #[] encK 5 cfK blk off size w := fun m os dk _ x y => by
  simpa using cmp_any x y (sortWorldK encK 5 w blk off m dk os)
theorem ltOf_iff (x y : EvK) : ltOf cfK x y = true ↔ cmpE x.1 y.1 < 0 := by unfold ltOf cfK; simp
theorem ltOf_not (x y : EvK) : ltOf cfK x y = false ↔ ¬ cmpE x.1 y.1 < 0 := by unfold ltOf cfK; simp
theorem cmp_swo : SWO (ltOf cfK) where
  irrefl x := by rw [ltOf_not, cmpE_lt]; omega
  trans x y z h1 h2 := by rw [ltOf_iff, cmpE_lt] at *; omega
  ntrans x y z h1 h2 := by rw [ltOf_not, cmpE_lt] at *; omega
end Go.Proofs.Ytjgfpkamoalgiaa

namespace Go.Proofs.Ytjgfpkamoalgiaa
open Go.Shelf Go.Lib Go.Sort
open Go.RowKit
set_option linter.unusedVariables false
set_option linter.unusedSimpArgs false
set_option maxRecDepth 100000
attribute [local simp] List.getElem?_cons_zero
attribute [local irreducible] awCond awCall awLoop awDraw ow retQ retC resQ Keeps
theorem ev_plain (l : List StreamEvent) : (cellsL streamEventR l).all plainV = true := by
  rw [List.all_eq_true]
  intro v hv
  induction l with
  | nil => simp [cellsL_nil] at hv
  | cons a l ih =>
    rw [cellsL_cons] at hv
    rcases List.mem_append.1 hv with h | h
    · simp only [streamEventR, StreamEvent.row, List.mem_cons, List.not_mem_nil, or_false] at h
      rcases h with rfl | rfl | rfl | rfl | rfl <;> rfl
    · exact ih h
theorem flat_ev (d : Array EvK) (j : Nat) (hj : j < d.size * 5) : (cellsL streamEventR (d.toList.map (·.1)))[j]? = some (flatK encK 5 d)[j]! := by
  have hi : j / 5 < d.size := by omega
  have e : j = j / 5 * 5 + j % 5 := by omega
  have := cellsL_get streamEventR (l := d.toList.map (·.1)) (i := j / 5) (j := j % 5) (by simpa using hi) (by omega)
  rw [← e] at this
  rw [this, get_flatK _ _ _ _ hj]
  have h5 : (encK d[j / 5]!).length = 5 := rfl
  have e2 : el (d.toList.map (·.1)) (j / 5) = (d[j / 5]!).1 := by simp [el, hi]
  rw [e2]
  show (encK d[j / 5]!)[j % 5]? = _
  rw [List.getElem?_eq_getElem (by rw [h5]; omega)]
  simp [h5, show j % 5 < 5 by omega]
theorem putRow_heap {w : World} {g : Nat} {cur : Array Value} {e : TypeId} {fr : Nat × Nat} (n : Nat) (F : Array Value) (os : Array Obj) (hg : w.heap[g]? = some (.cells cur e fr)) (hF : F.size ≤ cur.size) :
    (grow (putRow (fun x => x) (Go.Sort.ahead w n) g 0 F) os).os = w.os ∧ (grow (putRow (fun x => x) (Go.Sort.ahead w n) g 0 F) os).tape = w.tape ∧ (grow (putRow (fun x => x) (Go.Sort.ahead w n) g 0 F) os).output = w.output ∧ w.heap.size ≤ (grow (putRow (fun x => x) (Go.Sort.ahead w n) g 0 F) os).heap.size ∧
    (∀ k, k < w.heap.size → k ≠ g → (grow (putRow (fun x => x) (Go.Sort.ahead w n) g 0 F) os).heap[k]? = w.heap[k]?) ∧ ∃ cur' : Array Value, (grow (putRow (fun x => x) (Go.Sort.ahead w n) g 0 F) os).heap[g]? = some (.cells cur' e fr) ∧ cur'.size = cur.size ∧ ∀ j, j < F.size → cur'[j]? = some F[j]! := by
  have hlt : g < w.heap.size := (Array.getElem?_eq_some_iff.1 hg).1
  refine ⟨rfl, rfl, rfl, ?_, fun k hk hne => ?_, Go.Sort.putCells (fun x => x) 0 F cur, ?_, by simp [Go.Sort.putCells], fun j hj => ?_⟩
  · simp [grow, putRow, mapBlock, Go.Sort.ahead]
  · simp only [grow, putRow, mapBlock, Go.Sort.ahead]
    rw [Array.getElem?_append_left (by simpa using hk), Array.getElem?_modify, if_neg (Ne.symm hne)]
  · simp only [grow, putRow, mapBlock, Go.Sort.ahead]
    rw [Array.getElem?_append_left (by simpa using hlt), Array.getElem?_modify, if_pos rfl, hg]
    rfl
  · have hjc : j < cur.size := by omega
    simp [Go.Sort.putCells, hjc, hj]
set_option maxHeartbeats 2000000 in
theorem Sort_a {M : Mem} {B b n c id : Nat} {l : List StreamEvent} {t : Bool} (hln : l.length = n) (hid : B ≤ id) (hrow : M[id]? = some (.live ⟨cellsL streamEventR l, true, t, 53, 5⟩)) (hb : b ≤ B) (hl : l.length ≤ 1000) (hv : ∀ x, x ∈ l → evK x) :
    Ctr Try.prog b 26 [.slice (some ⟨id, 0, none⟩) n c, .func (.func 27) #[] #[]] M fun r M' => r = .tuple #[] ∧ ∃ l' : List StreamEvent, l'.Perm l ∧ l'.Pairwise LeE ∧ M' = M.set id (.live ⟨cellsL streamEventR l', true, t, 53, 5⟩) := by
  refine ⟨⟨_, Try.func26, rfl, rfl⟩, fun μ w cs hcs hS => ?_⟩
  obtain ⟨u', f', rfl, hu, hf⟩ : ∃ u' f', cs = [u', f'] ∧ VRel M μ (.slice (some ⟨id, 0, none⟩) n c) u' ∧ VRel M μ (.func (.func 27) #[] #[]) f' := by
    match cs, hcs with
    | [u', f'], h => exact ⟨u', f', rfl, h.2 0 _ _ rfl rfl, h.2 1 _ _ rfl rfl⟩
    | [], h => have := h.1; simp at this
    | [_], h => have := h.1; simp at this
    | _ :: _ :: _ :: _, h => have := h.1; simp at this
  have hf' : f' = .func (.func 27) #[] #[] := by
    cases hf with
    | plain h => rfl
    | fn h1 h2 h3 h4 =>
      rw [Array.eq_empty_of_size_eq_zero h1.symm, Array.eq_empty_of_size_eq_zero h3.symm]
  subst hf'
  obtain ⟨-, ad, cp, s1, rfl, hs1, -, hu1, hu2, hat⟩ := hu.sl_inv
  rw [hrow] at hs1
  injection hs1 with hs1
  obtain ⟨hu3, hu4⟩ := hat _ hs1.symm
  have hrr := hS.row id _ hrow
  obtain ⟨g, cur, fr, e1, e2', ef, e3, e4, -⟩ := hrr.own rfl
  have e4' : (cellsL streamEventR l).length ≤ cur.size := e4
  have had : ad = ⟨g, 0, none⟩ := by
    rcases hu3 with ⟨-, h⟩ | h
    · exact absurd rfl h
    · rw [h, e1]; rfl
  subst had
  have hcl : (cellsL streamEventR l).length = n * 5 := by rw [cellsL_len, hln]
  obtain ⟨d, hd⟩ : ∃ d : Array EvK, d.toList.map (·.1) = l := ⟨(l.attach.map fun x => (⟨x.1, hv x.1 x.2⟩ : EvK)).toArray, by simp⟩
  have hds : d.size = n := by have := congrArg List.length hd; simpa [hln] using this
  have hH : HoldsK encK 5 w g 0 d := fun j hj => by
    rw [size_flatK] at hj
    have hx := flat_ev d j hj
    rw [hd] at hx
    obtain ⟨y, hy, hr⟩ := hrr.cell j _ hx
    have hp := hr.of_plain (List.all_eq_true.1 (ev_plain l) _ (List.mem_of_getElem? hx))
    rw [e1, Addr.add_lit] at hy
    simp only [Nat.zero_add] at hy ⊢
    refine ⟨by rw [hy, hp]; rfl, ?_⟩
    have := ef j (by omega)
    simp only [World.frozen?, e2']
    simp
    omega
  have hcon := AnyQ.slices_SortFunc sortFn 5 Try.isAgg53 Try.sizeOf53 encK (fun _ => rfl) (fun x v hx => by
    simp only [encK, StreamEvent.row, List.mem_cons, List.not_mem_nil, or_false] at hx
    rcases hx with rfl | rfl | rfl | rfl | rfl <;> rfl) cfK cmp_swo 27 #[] g 0 cp d w (enters_of Try.func27 (by kernel_rfl) rfl) (cmp_lays g 0 d.size w) hH (Array.getElem?_eq_some_iff.1 e2').1 (by omega)
  rw [hds] at hcon
  refine Calls.mono hcon ?_
  rintro e w' ⟨rfl, d', n', os, hp, hs, rfl⟩
  obtain ⟨hp1, hp2, hp3⟩ := hp
  have hds' : d'.size = n := by rw [hp1, hds]
  have hperm : d'.toList.Perm d.toList := by
    have e1 : (d'.extract 0 n).toList = d'.toList := by rw [← hds']; simp
    have e2 : (d.extract 0 n).toList = d.toList := by rw [← hds]; simp
    rwa [e1, e2] at hp3
  have hF : (flatK encK 5 d').size ≤ cur.size := by rw [size_flatK, hds']; omega
  obtain ⟨o1, o2, o3, o4, o5, cur', o6, o7, o8⟩ := putRow_heap n' (flatK encK 5 d') os e2' hF
  have hl' : (d'.toList.map (·.1) : List StreamEvent).length = n := by simpa using hds'
  have hw : sortWorldK encK 5 w g 0 n' d' os = grow (putRow (fun x => x) (Go.Sort.ahead w n') g 0 (flatK encK 5 d')) os := rfl
  rw [hw]
  obtain ⟨q1, q2⟩ := hS.rewrite (b := b) (w' := grow (putRow (fun x => x) (Go.Sort.ahead w n') g 0 (flatK encK 5 d')) os) (xs := cellsL streamEventR (d'.toList.map (·.1))) hrow rfl (by omega) (by rw [cellsL_len, hl', hcl]) o1 o2 o3 o4 (fun k hk hne => o5 k hk (by rw [e1] at hne; exact hne)) (fun cur2 fr2 hc2 _ => by
    rw [e1] at hc2 ⊢
    rw [e2'] at hc2
    injection hc2 with hc2
    injection hc2 with a1 a2 a3
    subst a1; subst a3
    refine ⟨cur', o6, o7, fun j v hj => ?_⟩
    have hjl : j < d'.size * 5 := by have := (List.getElem?_eq_some_iff.1 hj).1; rw [cellsL_len, hl'] at this; omega
    refine ⟨v, ?_, .plain (List.all_eq_true.1 (ev_plain _) v (List.mem_of_getElem? hj))⟩
    rw [o8 j (by rw [size_flatK]; exact hjl), ← flat_ev d' j hjl, hj])
  refine ⟨.tuple #[], _, .tuple #[], μ, ⟨rfl, d'.toList.map (·.1), by rw [← hd]; exact hperm.map _, ?_, rfl⟩, rfl, .tup rfl (fun i x y h => by simp at h), q1, q2⟩
  rw [List.pairwise_iff_getElem]
  intro i j hi hj hij
  rw [List.length_map, Array.length_toList] at hi hj
  have := hs i j (Nat.zero_le _) hij (by omega)
  rw [ltOf_not] at this
  simp only [List.getElem_map, Array.getElem_toList]
  rw [getElem!_pos d' j hj, getElem!_pos d' i hi] at this
  exact .of_not this
end Go.Proofs.Ytjgfpkamoalgiaa
