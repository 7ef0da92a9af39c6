/- Parts of the proof, together: Drawn nodes in memory: a row of nodes, and the inputs of each in a row of its own. A region that draws its order: an invariant over what has been done and what each operation gave. Regions that draw their order and only make new values: each operation's value is told by what it is. Regions that draw their order, with calls that turn one row (the drawing source's) beside operations that make new va No conditions. -/
import Derived.Test.YtimijeeihicohaaZzL10
import Derived.Test.YtimijeeihicohaaZzL9
import Derived.Test.YtimijeeihicohaaZzL6
import Derived.Test.YtimijeeihicohaaZzL7
import Derived.Test.YtimijeeihicohaaZzL8
namespace Go.Proofs.Ytimijeeihicohaa
open Go.RowKit
set_option linter.unusedVariables false
set_option linter.unusedSimpArgs false
set_option maxRecDepth 100000
attribute [local simp] List.getElem?_cons_zero
attribute [local irreducible] awCond awCall awLoop awDraw ow retQ retC resQ Keeps
structure RNode where
  (k a b : Int)
  u : Value
instance : Inhabited RNode := ⟨⟨0, 0, 0, .int .i64 0⟩⟩
def rnR : RecV RNode 4 := ⟨fun x => [iv x.k, iv x.a, iv x.b, x.u], fun _ => rfl⟩
/-- The value v is a slice that lies in row i. -/
def Adr (v : Value) (i : Nat) : Prop := ∃ (a : Addr) (n c : Nat), v = .slice (some a) n c ∧ a.block = i
theorem not_adr {v : Value} {i : Nat} (h : ¬ Adr v i) : Apart v i := by
  intro A n c a e ea hi
  subst ea
  exact h ⟨a, n, c, e, hi.symm⟩
theorem apart_adr {v : Value} {i : Nat} (h : Apart v i) : ¬ Adr v i := fun ⟨a, n, c, e, e2⟩ => h _ _ _ a e rfl e2.symm
theorem Acc.adr_lt {α : Type} {q : Nat} {R : RecV α q} {e : TypeId} {B : Nat} {M : Mem} {v : Value} {l : List α} (h : Acc R e B M v l) {i : Nat} (ha : Adr v i) : B ≤ i ∧ i < M.length := by
  obtain ⟨A, n, c, rfl, _, h3⟩ := h
  obtain ⟨a, n', c', e, rfl⟩ := ha
  injection e with e1
  rcases h3 with ⟨h3, _⟩ | ⟨id, t, h4, h5, h6⟩
  · rw [h3] at e1; cases e1
  · rw [h4] at e1
    injection e1 with e1
    subst e1
    exact ⟨h5, (List.getElem?_eq_some_iff.1 h6).1⟩
/-- Rows from B on are as they were. -/
def Hi (B : Nat) (M M' : Mem) : Prop := ∀ (i : Nat) s, B ≤ i → M[i]? = some s → M'[i]? = some s
theorem Hi.refl (B : Nat) (M : Mem) : Hi B M M := fun _ _ _ h => h
theorem Hi.trans {B : Nat} {M M1 M2 : Mem} (h : Hi B M M1) (h' : Hi B M1 M2) : Hi B M M2 := fun i s hi hs => h' i s hi (h i s hi hs)
theorem Hi.app (B : Nat) (M L : Mem) : Hi B M (M ++ L) := fun i s _ hs => (keeps_app L).get hs
theorem Hi.set {B i : Nat} {M : Mem} {s : Slot} (h : i < B) : Hi B M (M.set i s) := fun j t hj ht => by rw [List.getElem?_set_ne (by omega)]; exact ht
theorem Grow.hi {g B : Nat} {M M' : Mem} (h : Grow g M M') (hg : g < B) : Hi B M M' := fun i s hi hs => h.2 i s (by omega) hs
theorem UpdS.hi {g B : Nat} {M M' : Mem} (h : UpdS g M M') (hg : g < B) : Hi B M M' := h.grow.hi hg
theorem Same.hi {B C : Nat} {M M' : Mem} (h : Same C M M') (hc : M.length ≤ C) : Hi B M M' := fun i s _ hs => h.2 i s (by have := (List.getElem?_eq_some_iff.1 hs).1; omega) hs
theorem Acc.hi {α : Type} {q : Nat} {R : RecV α q} {e : TypeId} {B C : Nat} {M M' : Mem} {v : Value} {l : List α} (h : Acc R e B M v l) (hh : Hi C M M') (hc : C ≤ B) : Acc R e B M' v l := by
  obtain ⟨A, n, c, h1, h2, h3⟩ := h
  refine ⟨A, n, c, h1, h2, ?_⟩
  rcases h3 with h3 | ⟨id, t, h4, h5, h6⟩
  · exact .inl h3
  · exact .inr ⟨id, t, h4, h5, hh _ _ (by omega) h6⟩
def DrN (B : Nat) (M : Mem) (v : Value) (ns : List Node) : Prop :=
  ∃ rs : List RNode, Acc rnR 138 B M v rs ∧ rs.length = ns.length ∧ ∀ i, i < ns.length → ((el rs i).k = (el ns i).k ∧ (el rs i).a = (el ns i).a ∧ (el rs i).b = (el ns i).b ∧ Acc intR 2 B M (el rs i).u (el ns i).from_) ∧
    ∀ id, Adr (el rs i).u id → Apart v id ∧ ∀ j, j < ns.length → j ≠ i → Apart (el rs j).u id
theorem DrN.nil {B : Nat} {M : Mem} : DrN B M (.slice none 0 0) [] := ⟨[], .nil, rfl, fun i hi => by simp at hi⟩
theorem DrN.hi {B : Nat} {M M' : Mem} {v : Value} {ns : List Node} (h : DrN B M v ns) (hh : Hi B M M') : DrN B M' v ns := by
  obtain ⟨rs, h1, h2, h3⟩ := h
  exact ⟨rs, h1.hi hh (Nat.le_refl _), h2, fun i hi => ⟨⟨(h3 i hi).1.1, (h3 i hi).1.2.1, (h3 i hi).1.2.2.1, (h3 i hi).1.2.2.2.hi hh (Nat.le_refl _)⟩, (h3 i hi).2⟩⟩
theorem DrN.one {B : Nat} {M : Mem} {v : Value} {ns : List Node} (h : DrN B M v ns) : ∃ A c, v = .slice A ns.length c := by
  obtain ⟨rs, ⟨A, n, c, rfl, h1, _⟩, h2, _⟩ := h
  exact ⟨A, c, by rw [← h1, h2]⟩
theorem DrN.slv {B : Nat} {M : Mem} {v : Value} {ns : List Node} (h : DrN B M v ns) (hn : ns.length ≤ 1099511627776) (hf : ∀ x, x ∈ ns → x.from_.length ≤ 1099511627776) : SlV nodeP B M.length M v ns := by
  obtain ⟨rs, h1, h2, h3⟩ := h
  obtain ⟨A, n, c, rfl, hl, hA⟩ := h1
  rcases hA with ⟨rfl, rfl, rfl⟩ | ⟨id, t, rfl, hid, hr⟩
  · refine ⟨none, 0, 0, rfl, by omega, fun _ => rfl, by omega, fun h => by omega⟩
  · have hsl : Sl rnR M (some ⟨id, 0, none⟩) n rs := ⟨hl, fun _ => ⟨id, 0, rfl, by simp [rowEsz, hr], fun j x hx => by simp [cellAt, hr, hx]⟩⟩
    refine ⟨_, n, c, rfl, by omega, (fun h => by cases h), by omega, fun hn0 => ⟨id, 0, rfl, hid, (List.getElem?_eq_some_iff.1 hr).1, by simp [rowEsz, hr], fun i hi => ?_⟩⟩
    obtain ⟨_, _, e, _, hc⟩ := hsl.at_ hi
    injection e with e
    injection e with e1 e2
    subst e1; subst e2
    obtain ⟨⟨a1, a2, a3, a4⟩, _⟩ := h3 i (by omega)
    refine ⟨_, ⟨(el rs i).u, by rw [← a1, ← a2, ← a3], a4.slv (by have := hf _ (el_mem (l := ns) (i := i) (by omega)); omega)⟩, ?_⟩
    exact hc
theorem DrN.snoc {P : Program} {t tx : TypeId} {B b by_ : Nat} {S : St} {M0 : Mem} {v x u : Value} {ns : List Node} {y : Node} {K : Value → Mem → Prop} (h : DrN B M0 v ns) (hh : Hi B M0 S.M) (hb : b ≤ B) (hB : B ≤ M0.length) (hl0 : M0.length ≤ S.M.length) (hq : qSlice P t = some (138, 4, by_))
    (hz : (P.info? 138).any (fun i => i.zero.any fun z => z.cells.size == 4) = true) (hs : srcOf P S.M 4 tx x = some (1, [iv y.k, iv y.a, iv y.b, u])) (hu : Acc intR 2 M0.length S.M u y.from_) (hn : (ns.length + 1) * by_ ≤ 140737488355328) (hm : ns.length + 1 ≤ maxLen)
    (hK : ∀ v' M', DrN B M' v' (ns ++ [y]) → Same B S.M M' → K v' M') : appendK P b S K t tx v x := by
  obtain ⟨rs, h1, h2, h3⟩ := h
  have ou : u.oneCell' = true := by obtain ⟨_, _, _, e, _⟩ := hu; rw [e]; rfl
  refine (h1.hi hh (Nat.le_refl _)).append2 (a := RNode.mk y.k y.a y.b u) hb (by omega) (by omega) hq hz hs (by simp [rnR, ou]; exact ⟨rfl, rfl, rfl⟩) (by rw [h2]; exact hn) (by rw [h2]; exact hm) fun v' M' hA hS hP => hK v' M' ?_ hS
  have up : ∀ {w : Value} {l : List Int}, Acc intR 2 B S.M w l → (∀ id, Adr w id → Apart v id) → Acc intR 2 B M' w l := fun {w l} hw ha => by
    obtain ⟨A, n, c, rfl, e2, e3⟩ := hw
    refine ⟨A, n, c, rfl, e2, e3.imp id fun ⟨i, t, ei, hi, hr⟩ => ⟨i, t, ei, hi, (hP i _ (ha i ?_) hr).1⟩⟩
    subst ei
    exact ⟨_, _, _, rfl, rfl⟩
  have lt : ∀ {w : Value} {l : List Int} {B : Nat}, Acc intR 2 B S.M w l → (∀ id, Adr w id → Apart v id) → ∀ id, Adr w id → Apart v' id := fun {w l B} hw ha i hi => by
    obtain ⟨_, hl⟩ := hw.adr_lt hi
    exact (hP i _ (ha i hi) (List.getElem?_eq_getElem hl)).2
  have hi0 : Hi B M0 S.M := hh
  have au : ∀ id, Adr u id → Apart v id := fun id hd => not_adr fun hv => by
    have := (hu.adr_lt hd).1
    have := (h1.adr_lt hv).2
    omega
  have ao : ∀ id, Adr u id → ∀ j, j < ns.length → Apart (el rs j).u id := fun id hd j hj => not_adr fun hv => by
    have := (hu.adr_lt hd).1
    have := ((h3 j hj).1.2.2.2.adr_lt hv).2
    omega
  refine ⟨rs ++ [⟨y.k, y.a, y.b, u⟩], hA, by simp [h2], fun i hi => ?_⟩
  have eL : ∀ j, j < ns.length → el (rs ++ [⟨y.k, y.a, y.b, u⟩]) j = el rs j := fun j hj => el_append_left (by omega)
  have eR : el (rs ++ [⟨y.k, y.a, y.b, u⟩]) ns.length = ⟨y.k, y.a, y.b, u⟩ := by rw [el_append_right (by omega), h2, Nat.sub_self]; rfl
  have nL : ∀ j, j < ns.length → el (ns ++ [y]) j = el ns j := fun j hj => el_append_left hj
  have nR : el (ns ++ [y]) ns.length = y := by rw [el_append_right (Nat.le_refl _), Nat.sub_self]; rfl
  simp only [List.length_append, List.length_singleton] at hi ⊢
  by_cases hin : i < ns.length
  · rw [eL i hin, nL i hin]
    obtain ⟨⟨a1, a2, a3, a4⟩, a5⟩ := h3 i hin
    have a4' := a4.hi hi0 (Nat.le_refl _)
    refine ⟨⟨a1, a2, a3, up a4' fun id hd => (a5 id hd).1⟩, fun id hd => ⟨lt a4' (fun id hd => (a5 id hd).1) id hd, fun j hj hne => ?_⟩⟩
    by_cases hj' : j < ns.length
    · rw [eL j hj']
      exact (a5 id hd).2 j hj' hne
    · obtain rfl : j = ns.length := by omega
      rw [eR]
      refine not_adr fun hd' => ?_
      exact apart_adr (ao id hd' i hin) hd
  · obtain rfl : i = ns.length := by omega
    rw [eR, nR]
    refine ⟨⟨rfl, rfl, rfl, up (hu.low hB) au⟩, fun id hd => ⟨lt hu au id hd, fun j hj hne => ?_⟩⟩
    rw [eL j (by omega)]
    exact ao id hd j (by omega)
/-- Node i is read, and its list of inputs may be written. -/
theorem DrN.at_ {B : Nat} {M : Mem} {v : Value} {ns : List Node} (h : DrN B M v ns) {i : Nat} (hi : i < ns.length) : ∃ (id c : Nat) (u : Value), v = .slice (some ⟨id, 0, none⟩) ns.length c ∧ rowEsz M id = some 4 ∧ B ≤ id ∧ Cl M id (i * 4) [iv (el ns i).k, iv (el ns i).a, iv (el ns i).b, u] ∧ Acc intR 2 B M u (el ns i).from_ ∧
    ∀ (j : Nat) (t : Bool) (l : List Int), Adr u j → l.length = (el ns i).from_.length → DrN B (M.set j (.live ⟨cellsL intR l, true, t, 2, 1⟩)) v (ns.set i ⟨(el ns i).k, (el ns i).a, (el ns i).b, l⟩) := by
  obtain ⟨rs, h1, h2, h3⟩ := h
  obtain ⟨⟨a1, a2, a3, a4⟩, a5⟩ := h3 i hi
  have h1' := h1
  obtain ⟨A, n, c, rfl, hl, hA⟩ := h1
  rcases hA with ⟨rfl, rfl, rfl⟩ | ⟨id, t, rfl, hid, hr⟩
  · omega
  have hsl : Sl rnR M (some ⟨id, 0, none⟩) n rs := ⟨hl, fun _ => ⟨id, 0, rfl, by simp [rowEsz, hr], fun j x hx => by simp [cellAt, hr, hx]⟩⟩
  obtain ⟨_, _, e, he, hc⟩ := hsl.at_ (i := i) (by omega)
  injection e with e
  injection e with e1 e2
  subst e1; subst e2
  rw [Nat.zero_add] at hc
  refine ⟨id, c, (el rs i).u, by rw [← h2, hl], he, hid, by rw [← a1, ← a2, ← a3]; exact hc, a4, fun j tt l hj hll => ?_⟩
  obtain ⟨hjB, hjM⟩ := a4.adr_lt hj
  obtain ⟨hjv, hjo⟩ := a5 j hj
  have hjid : j ≠ id := hjv _ _ _ _ rfl rfl
  have oth : ∀ (m : Nat) s, m ≠ j → M[m]? = some s → (M.set j (.live ⟨cellsL intR l, true, tt, 2, 1⟩))[m]? = some s := fun m s hm hs => by rw [List.getElem?_set_ne (Ne.symm hm)]; exact hs
  have nn : ∀ m, m < ns.length → el (ns.set i ⟨(el ns i).k, (el ns i).a, (el ns i).b, l⟩) m = if i = m then ⟨(el ns i).k, (el ns i).a, (el ns i).b, l⟩ else el ns m := fun m hm => by
    by_cases e : i = m
    · subst e; simp [el, hi]
    · simp [el, List.getElem?_set_ne e, e]
  refine ⟨rs, ⟨_, n, c, rfl, hl, .inr ⟨id, t, rfl, hid, oth _ _ (Ne.symm hjid) hr⟩⟩, by simpa using h2, fun m hm => ?_⟩
  simp only [List.length_set] at hm ⊢
  rw [nn m hm]
  by_cases e : i = m
  · subst e
    rw [if_pos rfl]
    refine ⟨⟨a1, a2, a3, ?_⟩, a5⟩
    obtain ⟨a, n', c', eu, ej⟩ := hj
    obtain ⟨A', n2, c2, e2, e3, e4⟩ := a4
    rw [eu] at e2
    injection e2 with e2 e2' e2''
    subst e2; subst e2'; subst e2''
    rcases e4 with ⟨e4, _⟩ | ⟨id', t', e4, e5, e6⟩
    · cases e4
    · injection e4 with e4
      subst e4
      subst ej
      exact ⟨_, _, _, eu, hll.trans e3, .inr ⟨id', tt, rfl, e5, by rw [List.getElem?_set_self hjM]⟩⟩
  · rw [if_neg e]
    obtain ⟨⟨b1, b2, b3, b4⟩, b5⟩ := h3 m hm
    refine ⟨⟨b1, b2, b3, ?_⟩, b5⟩
    obtain ⟨A', n2, c2, e2, e3, e4⟩ := b4
    refine ⟨A', n2, c2, e2, e3, Or.imp_right (fun ⟨q, t', q1, q2, q3⟩ => ⟨q, t', q1, q2, oth _ _ ?_ q3⟩) e4⟩
    subst q1
    exact fun hqj => (hjo m hm (Ne.symm e)) _ _ _ _ e2 rfl hqj.symm
end Go.Proofs.Ytimijeeihicohaa

namespace Go.Proofs.Ytimijeeihicohaa
open Go.RowKit
set_option linter.unusedVariables false
def upG (γ : Nat → Value) (k : Nat) (v : Value) : Nat → Value := fun j => if j = k then v else γ j
@[simp] theorem upG_same (γ : Nat → Value) (k : Nat) (v : Value) : upG γ k v k = v := if_pos rfl
theorem upG_ne {γ : Nat → Value} {j k : Nat} {v : Value} (h : j ≠ k) : upG γ k v j = γ j := if_neg h
/-- No temporary is set twice. -/
def dstOnce (ops : Array Oper) : Bool := (List.range ops.size).all fun k => (List.range ops.size).all fun j => decide (j = k) || (dstOf ops j).isNone || dstOf ops j != dstOf ops k
theorem dstOnce_spec {ops : Array Oper} (h : dstOnce ops = true) {j k : Nat} {t : Nat} (hj : dstOf ops j = some t) (hk : dstOf ops k = some t) : j = k := by
  have lt : ∀ i, dstOf ops i = some t → i < ops.size := by
    intro i hi
    unfold dstOf at hi
    obtain ⟨o, ho, -⟩ := Option.bind_eq_some_iff.1 hi
    exact (Array.getElem?_eq_some_iff.1 ho).1
  have h1 := List.all_eq_true.1 h k (List.mem_range.2 (lt k hk))
  have h2 := List.all_eq_true.1 h1 j (List.mem_range.2 (lt j hj))
  rw [hj, hk] at h2
  simpa using h2
/-- What the temporaries hold: what has been done gave its value, the others are as they were. -/
structure TS (ops : Array Oper) (T0 : List (Nat × Value)) (X : Nat → Bool) (γ : Nat → Value) (T : List (Nat × Value)) : Prop where
  done : ∀ j d, X j = true → dstOf ops j = some d → look T d = some (γ j)
  frame : ∀ t, (∀ j, X j = true → dstOf ops j ≠ some t) → look T t = look T0 t
def noDst (ops : Array Oper) (t : Nat) : Bool := (List.range ops.size).all fun j => decide (dstOf ops j ≠ some t)
theorem TS.frame' {ops : Array Oper} {T0 T : List (Nat × Value)} {X : Nat → Bool} {γ : Nat → Value} (h : TS ops T0 X γ T) (t : Nat) (hn : noDst ops t = true) : look T t = look T0 t :=
  h.frame t fun j _ hj => by
    have hl : j < ops.size := by
      unfold dstOf at hj
      obtain ⟨o, ho, -⟩ := Option.bind_eq_some_iff.1 hj
      exact (Array.getElem?_eq_some_iff.1 ho).1
    have := List.all_eq_true.1 hn j (List.mem_range.2 hl)
    exact (of_decide_eq_true this) hj
/-- What has been done is closed under what must come ahead. -/
def Closed (ops : List Oper) (X : Nat → Bool) : Prop := ∀ k o, X k = true → ops[k]? = some o → ∀ e ∈ o.after.toList, Region.binds .any e = true → X e.on = true
def edge (ops : List Oper) (k j : Nat) : Bool := match ops[k]? with
  | some o => o.after.toList.any fun e => Region.binds .any e && decide (e.on = j)
  | none => false
theorem Closed.at_ {ops : List Oper} {X : Nat → Bool} (h : Closed ops X) {k : Nat} (j : Nat) (hk : X k = true) (he : edge ops k j = true) : X j = true := by
  unfold edge at he
  split at he
  · rename_i o ho
    obtain ⟨e, h1, h2⟩ := List.any_eq_true.1 he
    simp only [Bool.and_eq_true, decide_eq_true_eq] at h2
    have := h k o hk ho e h1 h2.1
    rwa [h2.2] at this
  · cases he
theorem edge_ahead {ops : List Oper} {X : Nat → Bool} {k : Nat} {o : Oper} (ho : ops[k]? = some o) (ha : ∀ e ∈ o.after.toList, Region.binds .any e = true → X e.on = true) (j : Nat) (he : edge ops k j = true) : X j = true := by
  unfold edge at he
  rw [ho] at he
  obtain ⟨e, h1, h2⟩ := List.any_eq_true.1 he
  simp only [Bool.and_eq_true, decide_eq_true_eq] at h2
  have := ha e h1 h2.1
  rwa [h2.2] at this
theorem awDraw_G {P : Program} {b : Nat} {ops : List Oper} {Q : St → Prop} {S : St} (G : (Nat → Bool) → (Nat → Value) → Mem → Prop) (h1 : P.follows .mixedOrders = true) (h2 : drawBack ⟨ops⟩ = true) (h3 : dstOnce ⟨ops⟩ = true)
    (h0 : ∀ γ, G (fun _ => false) γ S.M)
    (hstep : ∀ X γ T M k o (K : Value → Mem → Prop), Closed ops X → TS ⟨ops⟩ S.T X γ T → G X γ M → ops[k]? = some o → X k = false → (∀ e ∈ o.after.toList, Region.binds .any e = true → X e.on = true) → (∀ v M', G (upX X k) (upG γ k v) M' → K v M') → sOp P false b o ⟨S.n, T, M⟩ K)
    (hend : ∀ X γ T M, (∀ k, k < ops.length → X k = true) → TS ⟨ops⟩ S.T X γ T → G X γ M → Q ⟨S.n, T, M⟩) : awDraw P b ⟨ops⟩ Q S := by
  refine awDraw_I (fun X S' => S'.n = S.n ∧ Closed ops X ∧ ∃ γ, TS ⟨ops⟩ S.T X γ S'.T ∧ G X γ S'.M) h1 h2 ⟨rfl, fun k o h => (by cases h), fun _ => undef, ⟨(fun j d h => by cases h), fun t _ => rfl⟩, h0 _⟩ ?_ ?_
  · rintro X ⟨n, T, M⟩ k o ⟨hn, hC, γ, hT, hG⟩ ho hX ha
    simp only at hn hT hG
    subst hn
    refine hstep X γ T M k o _ hC hT hG ho hX ha fun v M' hG' => ⟨by cases o.dst <;> rfl, fun i o' hi ho' e he hb => ?_, upG γ k v, ?_, by cases o.dst <;> exact hG'⟩
    · by_cases e1 : e.on = k
      · rw [e1]; simp
      · rw [upX_ne e1]
        by_cases e2 : i = k
        · subst e2
          rw [ho] at ho'
          injection ho' with ho'
          subst ho'
          exact ha e he hb
        · rw [upX_ne e2] at hi
          exact hC i o' hi ho' e he hb
    have hdk : dstOf ⟨ops⟩ k = o.dst := by simp [dstOf, ho]
    refine ⟨fun j d hj hd => ?_, fun t ht => ?_⟩
    · by_cases e : j = k
      · subst e
        rw [hdk] at hd
        rw [hd]
        simp [St.put, look]
      · rw [upX_ne e] at hj
        rw [upG_ne e]
        have := hT.done j d hj hd
        cases hod : o.dst with
        | none => exact this
        | some d' =>
          simp only [St.put, look]
          rw [if_neg (fun e' => e (dstOnce_spec h3 hd (by rw [hdk, hod, e'])))]
          exact this
    · have hf := hT.frame t fun j hj => ht j (by
        by_cases e : j = k
        · subst e; simp
        · rw [upX_ne e]; exact hj)
      cases hod : o.dst with
      | none => exact hf
      | some d' =>
        have := ht k (by simp)
        rw [hdk, hod] at this
        simp only [St.put, look]
        rw [if_neg (fun e' => this (by rw [e']))]
        exact hf
  · rintro X ⟨n, T, M⟩ hX ⟨hn, hC, γ, hT, hG⟩
    simp only at hn hT hG
    subst hn
    exact hend X γ T M hX hT hG
end Go.Proofs.Ytimijeeihicohaa

namespace Go.Proofs.Ytimijeeihicohaa
open Go.RowKit
set_option linter.unusedVariables false
set_option linter.unusedSimpArgs false
/-- kill j: the operations behind which nothing is said of j's value. -/
theorem awDraw_K {P : Program} {b : Nat} {ops : List Oper} {Q : St → Prop} {S : St} (kill : Nat → List Nat) (Φ : Nat → Value → Mem → Prop) (mono : ∀ k v M M', Φ k v M → Keeps M M' → Φ k v M')
    (h1 : P.follows .mixedOrders = true) (h2 : drawBack ⟨ops⟩ = true) (h3 : dstOnce ⟨ops⟩ = true)
    (hstep : ∀ (X : Nat → Bool) (k : Nat) (o : Oper) (T : List (Nat × Value)) (M : Mem) (K : Value → Mem → Prop), Closed ops X → X k = false → Keeps S.M M → (∀ j d, edge ops k j = true → dstOf ⟨ops⟩ j = some d → ∃ v, look T d = some v ∧ ((∀ z, z ∈ kill j → X z = false) → Φ j v M)) → (∀ t, noDst ⟨ops⟩ t = true → look T t = look S.T t) → ops[k]? = some o →
      (∀ v M', (Keeps M M' ∨ (Keeps S.M M' ∧ ∀ j u, X j = true → k ∉ kill j → Φ j u M → Φ j u M')) → Φ k v M' → K v M') → sOp P false b o ⟨S.n, T, M⟩ K)
    (hend : ∀ (T : List (Nat × Value)) (M : Mem), Keeps S.M M → (∀ k d, k < ops.length → dstOf ⟨ops⟩ k = some d → ∃ v, look T d = some v ∧ (kill k = [] → Φ k v M)) → (∀ t, noDst ⟨ops⟩ t = true → look T t = look S.T t) → Q ⟨S.n, T, M⟩) : awDraw P b ⟨ops⟩ Q S := by
  refine awDraw_G (fun X γ M => Keeps S.M M ∧ ∀ k, X k = true → (∀ z, z ∈ kill k → X z = false) → Φ k (γ k) M) h1 h2 h3 (fun γ => ⟨Keeps.refl _, fun k h => by cases h⟩) ?_ ?_
  · intro X γ T M k o K hC hT hG ho hX ha hK
    refine hstep X k o T M K hC hX hG.1 (fun j d he hd => ?_) (fun t ht => hT.frame' t ht) ho fun v M' hk hv => hK v M' ⟨?_, fun j hj hz => ?_⟩
    · have hj := edge_ahead ho ha j he
      exact ⟨γ j, hT.done j d hj hd, hG.2 j hj⟩
    · rcases hk with hk | hk
      · exact hG.1.trans hk
      · exact hk.1
    · by_cases e : j = k
      · subst e
        rw [show upG γ j v j = v by simp [upG]]
        exact hv
      · rw [upX_ne e] at hj
        rw [upG_ne e]
        have hkn : k ∉ kill j := fun h => by have := hz k h; rw [upX_same] at this; cases this
        have hz' : ∀ z, z ∈ kill j → X z = false := fun z h => by
          have := hz z h
          rw [upX_ne (fun e => hkn (by rw [← e]; exact h))] at this
          exact this
        rcases hk with hk | hk
        · exact mono _ _ _ _ (hG.2 j hj hz') hk
        · exact hk.2 j _ hj hkn (hG.2 j hj hz')
  · intro X γ T M hX hT hG
    refine hend T M hG.1 (fun k d hk hd => ⟨γ k, hT.done k d (hX k hk) hd, fun hn => hG.2 k (hX k hk) fun z hz => by rw [hn] at hz; cases hz⟩) fun t ht => hT.frame' t ht
end Go.Proofs.Ytimijeeihicohaa

namespace Go.Proofs.Ytimijeeihicohaa
open Go.RowKit
set_option linter.unusedVariables false
set_option linter.unusedSimpArgs false
theorem Keeps.grow {g : Nat} {M M' : Mem} (h : Keeps M M') : Grow g M M' := ⟨h.len, fun i s _ hs => h.get hs⟩
end Go.Proofs.Ytimijeeihicohaa

namespace Go.Proofs.Ytimijeeihicohaa
open Go.RowKit
set_option linter.unusedVariables false
set_option linter.unusedSimpArgs false
/-- m waits for k, through others too. -/
def reachE (ops : List Oper) : Nat → Nat → Nat → Bool
  | 0, m, k => edge ops m k
  | n + 1, m, k => edge ops m k || (List.range ops.length).any fun j => edge ops m j && reachE ops n j k
theorem reachE_at {ops : List Oper} {X : Nat → Bool} (hC : Closed ops X) : ∀ {n m k : Nat}, reachE ops n m k = true → X m = true → X k = true
  | 0, m, k, h, hm => hC.at_ k hm h
  | n + 1, m, k, h, hm => by
    simp only [reachE, Bool.or_eq_true, List.any_eq_true, Bool.and_eq_true] at h
    rcases h with h | ⟨j, _, h1, h2⟩
    · exact hC.at_ k hm h
    · exact reachE_at hC h2 (hC.at_ j hm h1)
def chainOk (ops : List Oper) (ms : List Nat) : Bool := decide ms.Nodup && ms.all (fun m => decide (m < ops.length)) && (List.range ms.length).all fun i => match ms[i + 1]?, ms[i]? with
  | some a, some b => reachE ops 4 a b
  | _, _ => true
/-- What is known of an operation that is waited for. -/
def Dep (ms : List Nat) (Φ : Nat → Value → Prop) (vs : List Value) (j : Nat) (v : Value) : Prop := (ms.contains j = false → Φ j v) ∧ ∀ i : Nat, ms[i]? = some j → vs[i]? = some v
theorem chain_at {ops : List Oper} {ms : List Nat} (h : chainOk ops ms = true) {i a b : Nat} (ha : ms[i + 1]? = some a) (hb : ms[i]? = some b) : reachE ops 4 a b = true := by
  unfold chainOk at h
  simp only [Bool.and_eq_true, List.all_eq_true] at h
  have := h.2 i (List.mem_range.2 (List.getElem?_eq_some_iff.1 hb).1)
  rw [ha, hb] at this
  exact this
theorem chain_inj {ops : List Oper} {ms : List Nat} (h : chainOk ops ms = true) {i j a : Nat} (hi : ms[i]? = some a) (hj : ms[j]? = some a) : i = j := by
  unfold chainOk at h
  simp only [Bool.and_eq_true, decide_eq_true_eq] at h
  have hn := h.1.1
  obtain ⟨h1, e1⟩ := List.getElem?_eq_some_iff.1 hi
  obtain ⟨h2, e2⟩ := List.getElem?_eq_some_iff.1 hj
  exact (List.getElem_inj hn).1 (e1.trans e2.symm)
theorem chain_lt {ops : List Oper} {ms : List Nat} (h : chainOk ops ms = true) {i a : Nat} (hi : ms[i]? = some a) : a < ops.length := by
  unfold chainOk at h
  simp only [Bool.and_eq_true, List.all_eq_true] at h
  have := h.1.2 a (List.mem_of_getElem? hi)
  simpa using this
theorem not_ms {ms : List Nat} {k : Nat} (h : ms.contains k = false) {i a : Nat} (hi : ms[i]? = some a) : a ≠ k := by
  intro e
  subst e
  have := List.mem_of_getElem? hi
  simp [this] at h
theorem awDraw_C {P : Program} {b : Nat} {ops : List Oper} {Q : St → Prop} {S : St} (ms : List Nat) (Φ : Nat → Value → Prop) (Ψ : List Value → Mem → Prop)
    (h1 : P.follows .mixedOrders = true) (h2 : drawBack ⟨ops⟩ = true) (h3 : dstOnce ⟨ops⟩ = true) (hms : chainOk ops ms = true) (h0 : Ψ [] S.M)
    (hread : ∀ (k : Nat) (o : Oper) (T : List (Nat × Value)) (M : Mem) (vs : List Value) (K : Value → Mem → Prop), ms.contains k = false → ops[k]? = some o → Ψ vs M → (∀ i m, ms[i]? = some m → reachE ops 3 m k = true → vs.length ≤ i) →
      (∀ j d, edge ops k j = true → dstOf ⟨ops⟩ j = some d → ∃ v, look T d = some v ∧ Dep ms Φ vs j v) → (∀ t, noDst ⟨ops⟩ t = true → look T t = look S.T t) → (∀ v, Φ k v → K v M) → sOp P false b o ⟨S.n, T, M⟩ K)
    (hmove : ∀ (i k : Nat) (o : Oper) (T : List (Nat × Value)) (M : Mem) (vs : List Value) (K : Value → Mem → Prop), ms[i]? = some k → ops[k]? = some o → Ψ vs M → vs.length = i →
      (∀ j d, edge ops k j = true → dstOf ⟨ops⟩ j = some d → ∃ v, look T d = some v ∧ Dep ms Φ vs j v) → (∀ t, noDst ⟨ops⟩ t = true → look T t = look S.T t) → (∀ v M', Ψ (vs ++ [v]) M' → K v M') → sOp P false b o ⟨S.n, T, M⟩ K)
    (hend : ∀ (T : List (Nat × Value)) (M : Mem) (vs : List Value), vs.length = ms.length → Ψ vs M → (∀ j d, j < ops.length → dstOf ⟨ops⟩ j = some d → ∃ v, look T d = some v ∧ Dep ms Φ vs j v) → (∀ t, noDst ⟨ops⟩ t = true → look T t = look S.T t) → Q ⟨S.n, T, M⟩) : awDraw P b ⟨ops⟩ Q S := by
  have dep : ∀ {X : Nat → Bool} {γ : Nat → Value} {s j : Nat}, (∀ k, X k = true → ms.contains k = false → Φ k (γ k)) → (∀ i m, ms[i]? = some m → X m = decide (i < s)) → X j = true → Dep ms Φ ((ms.take s).map γ) j (γ j) := by
    intro X γ s j hΦ hs hj
    refine ⟨fun hm => hΦ j hj hm, fun i hi => ?_⟩
    have := hs i j hi
    rw [hj] at this
    have hlt : i < s := by simpa using this.symm
    rw [List.getElem?_map, List.getElem?_take, if_pos hlt, hi]; rfl
  have len : ∀ {γ : Nat → Value} {s : Nat}, s ≤ ms.length → ((ms.take s).map γ).length = s := fun {γ s} h => by simp; omega
  refine awDraw_G (fun X γ M => (∀ k, X k = true → ms.contains k = false → Φ k (γ k)) ∧ ∃ s, s ≤ ms.length ∧ (∀ i m, ms[i]? = some m → X m = decide (i < s)) ∧ Ψ ((ms.take s).map γ) M) h1 h2 h3 (fun γ => ⟨fun k h => (by cases h), 0, Nat.zero_le _, fun i m _ => by simp, h0⟩) ?_ ?_
  · rintro X γ T M k o K hC hT ⟨hΦ, s, hs1, hs2, hΨ⟩ ho hX ha hK
    have hdep : ∀ j d, edge ops k j = true → dstOf ⟨ops⟩ j = some d → ∃ v, look T d = some v ∧ Dep ms Φ ((ms.take s).map γ) j v := fun j d he hd => by
      have hj := edge_ahead ho ha j he
      exact ⟨γ j, hT.done j d hj hd, dep hΦ hs2 hj⟩
    by_cases hk : ms.contains k = false
    · refine hread k o T M _ K hk ho hΨ (fun i m hi he => ?_) hdep (fun t ht => hT.frame' t ht) fun v hv => hK v M ⟨fun j hj hm => ?_, s, hs1, fun i m hi => ?_, ?_⟩
      · rw [len hs1]
        apply Classical.byContradiction
        intro hn
        have hXm : X m = true := by rw [hs2 i m hi]; simp; omega
        have := reachE_at hC he hXm
        rw [hX] at this
        cases this
      · by_cases e : j = k
        · subst e
          rw [show upG γ j v j = v by simp [upG]]
          exact hv
        · rw [upX_ne e] at hj
          rw [upG_ne e]
          exact hΦ j hj hm
      · rw [upX_ne (not_ms hk hi)]
        exact hs2 i m hi
      · rw [List.map_congr_left (g := γ) fun a ha => ?_]
        · exact hΨ
        · obtain ⟨i, hi⟩ := List.mem_iff_getElem?.1 (List.mem_of_mem_take ha)
          exact upG_ne (not_ms hk hi)
    · have hk' : k ∈ ms := by simpa using hk
      obtain ⟨i, hi⟩ := List.mem_iff_getElem?.1 hk'
      have hil := (List.getElem?_eq_some_iff.1 hi).1
      have his : s = i := by
        have h5 := hs2 i k hi
        rw [hX] at h5
        have h6 : ¬ i < s := by simpa using h5.symm
        rcases i with _ | i
        · omega
        · have hb : ms[i]? = some (ms[i]'(by omega)) := List.getElem?_eq_getElem _
          have he := chain_at hms hi hb
          have hj : X (ms[i]'(by omega)) = true := by
            rw [show (4 : Nat) = 3 + 1 from rfl] at he
            simp only [reachE, Bool.or_eq_true, List.any_eq_true, Bool.and_eq_true] at he
            rcases he with he | ⟨j, _, h1, h2⟩
            · exact edge_ahead ho ha _ he
            · exact reachE_at hC (n := 3) (by simp only [reachE, Bool.or_eq_true, List.any_eq_true, Bool.and_eq_true]; exact h2) (edge_ahead ho ha _ h1)
          rw [hs2 i _ hb] at hj
          simp at hj
          omega
      subst his
      refine hmove s k o T M _ K hi ho hΨ (len hs1) hdep (fun t ht => hT.frame' t ht) fun v M' hv => hK v M' ⟨fun j hj hm => ?_, s + 1, hil, fun j m hj => ?_, ?_⟩
      · have e : j ≠ k := fun e => by subst e; rw [hm] at hk; exact hk rfl
        rw [upX_ne e] at hj
        rw [upG_ne e]
        exact hΦ j hj hm
      · by_cases e : m = k
        · subst e
          obtain rfl := chain_inj hms hj hi
          rw [upX_same]
          simp
        · rw [upX_ne e, hs2 j m hj]
          have hne : j ≠ s := fun h => by subst h; rw [hi] at hj; injection hj with hj; exact e hj.symm
          by_cases hlt : j < s
          · simp [hlt, Nat.lt_succ_of_lt hlt]
          · have : ¬ j < s + 1 := by omega
            simp [hlt, this]
      · have e1 : ms.take (s + 1) = ms.take s ++ [k] := by
          rw [List.take_add_one, hi]
          rfl
        rw [e1, List.map_append, List.map_singleton, show upG γ k v k = v by simp [upG], List.map_congr_left (g := γ) fun a ha => ?_]
        · exact hv
        · refine upG_ne fun e => ?_
          subst e
          obtain ⟨j, hj⟩ := List.mem_iff_getElem?.1 ha
          rw [List.getElem?_take] at hj
          split at hj
          · have := chain_inj hms hj hi
            omega
          · cases hj
  · rintro X γ T M hX hT ⟨hΦ, s, hs1, hs2, hΨ⟩
    have hs : s = ms.length := by
      apply Classical.byContradiction
      intro hn
      have hlt : s < ms.length := by omega
      have hb : ms[s]? = some (ms[s]'hlt) := List.getElem?_eq_getElem _
      have := hs2 s _ hb
      rw [hX _ (chain_lt hms hb)] at this
      simp at this
    subst hs
    exact hend T M _ (len hs1) hΨ (fun j d hj hd => ⟨γ j, hT.done j d (hX j hj) hd, dep hΦ hs2 (hX j hj)⟩) fun t ht => hT.frame' t ht
end Go.Proofs.Ytimijeeihicohaa

namespace Go.Proofs.Ytimijeeihicohaa
open Go.RowKit
set_option linter.unusedVariables false
set_option linter.unusedSimpArgs false
set_option maxRecDepth 100000
attribute [local simp] List.getElem?_cons_zero
attribute [local irreducible] awCond awCall awLoop awDraw ow retQ retC resQ Keeps
theorem Acc.set_apart {α : Type} {q : Nat} {R : RecV α q} {e : TypeId} {B i : Nat} {M : Mem} {s : Slot} {v : Value} {l : List α} (h : Acc R e B M v l) (ha : Apart v i) : Acc R e B (M.set i s) v l := by
  obtain ⟨A, n, c, rfl, h2, h3⟩ := h
  refine ⟨A, n, c, rfl, h2, h3.imp id fun ⟨id, t, e1, e2, e3⟩ => ⟨id, t, e1, e2, ?_⟩⟩
  have := ha _ _ _ _ rfl e1
  rw [List.getElem?_set_ne (by simpa using this)]
  exact e3
theorem Acc.upd {α : Type} {q : Nat} {R : RecV α q} {e : TypeId} {B g : Nat} {M M' : Mem} {v : Value} {l : List α} (h : Acc R e B M v l) (u : UpdS g M M') (hg : g < B) : Acc R e B M' v l := u.acc h hg
theorem Grow.set {g i : Nat} {M M' : Mem} {s : Slot} (h : Grow g M M') (hi : M.length ≤ i) : Grow g M (M'.set i s) := ⟨by simpa using h.1, fun j t hj ht => by
  have := (List.getElem?_eq_some_iff.1 ht).1
  rw [List.getElem?_set_ne (by omega)]
  exact h.2 j t hj ht⟩
theorem Grow.same_from {g B : Nat} {M M' M'' : Mem} (h : Grow g M M') (hs : Same B M' M'') (hb : M.length ≤ B) : Grow g M M'' := ⟨Nat.le_trans h.1 hs.1, fun j t hj ht => hs.2 j t (by have := (List.getElem?_eq_some_iff.1 ht).1; omega) (h.2 j t hj ht)⟩
/-- The state of l06Draw's loop. -/
structure NdI (g B q : Nat) (z a : Int) (M M' : Mem) (l : List Int) (u : Value) (k' : Nat) : Prop where
  acc : Acc intR 2 M.length M' u l
  apart : Apart u q
  apart0 : Apart u M.length
  box : M'[q]? = some (.live ⟨[iv z, iv a, iv 0, u], true, true, 138, 4⟩)
  res : M'[M.length]? = some (.live ⟨[iv 0, iv 0, iv 0, .slice none 0 0], true, true, 138, 4⟩)
  src : Src g B M' k'
  grow : Grow g M M'
/-- What l06Draw gives. -/
def NdR (g B k : Nat) (z t bw : Int) (M : Mem) (r : Value) (M' : Mem) : Prop := ∃ (a c : Int) (u : Value) (l : List Int) (k' : Nat), r = .agg #[iv z, iv a, iv c, u] ∧ Acc intR 2 M.length M' u l ∧ aB ⟨z, a, 0, []⟩ t = true ∧ (z = 1 → a ≤ 1) ∧ (l.length : Int) = el arityL z.toNat ∧ (∀ f, f ∈ l → 0 ≤ f ∧ f < bw) ∧ (z = 17 → 1 ≤ c ∧ c ≤ 3) ∧ (z ≠ 17 → c = 0) ∧ k' ≤ k + 20 ∧ Src g B M' k' ∧ Grow g M M'
set_option maxHeartbeats 2000000 in
theorem l06Draw_b {M : Mem} {b g k B : Nat} (z t bw : Int) (h : Src g B M k) (hb : b ≤ g) (hB : B ≤ M.length) (hk : k ≤ 1000000) (hz : 1 ≤ z ∧ z ≤ 17) (ht : z = 13 → 1 ≤ t ∧ t ≤ 4) (hbw : 1 ≤ bw ∨ el arityL z.toNat = 0) (hbw' : bw ≤ 24) :
    Ctr Try.prog b 102 [.pointer (some ⟨g, 0, none⟩), iv z, iv t, iv bw] M fun r M' => NdR g B k z t bw M r M' := by
  have hg := h.lt
  have hz' : inB z 1 17 = true := inB_iff.2 hz
  have har : 0 ≤ el arityL z.toNat ∧ el arityL z.toNat ≤ 3 := by
    obtain ⟨n, rfl⟩ := Int.eq_ofNat_of_zero_le (show 0 ≤ z by omega)
    have : n = 1 ∨ n = 2 ∨ n = 3 ∨ n = 4 ∨ n = 5 ∨ n = 6 ∨ n = 7 ∨ n = 8 ∨ n = 9 ∨ n = 10 ∨ n = 11 ∨ n = 12 ∨ n = 13 ∨ n = 14 ∨ n = 15 ∨ n = 16 ∨ n = 17 := by omega
    rcases this with h | h | h | h | h | h | h | h | h | h | h | h | h | h | h | h | h <;> (subst h; decide)
  first | (refine ctr_fn Try.func102 rfl Try.ntmps102 Try.results102 rfl rfl (by simp) ?_) | (refine ctr_fnC Try.func102 rfl Try.ntmps102 Try.results102 rfl (by simp) ?_)
  simp
  refine awCall_ctr (l06DrawA_b z t (h.app _) hb (by simp; omega) (by omega) hz ht) ?_
  rintro r M1 ⟨a, k1, rfl, ha, ha1, hk1, h1, g1⟩
  have n1 := g1.1
  simp at n1
  have r1 : M1[M.length]? = some (.live ⟨[iv 0, iv 0, iv 0, .slice none 0 0], true, true, 138, 4⟩) := g1.2 _ _ (by omega) getElem?_snoc_eq
  have hfill : ∀ A n c, Instr.fill (fun x => [(0, 1), (1, 1), (2, 1), (3, 1)][x]?) #[iv 0, iv 0, iv 0, Value.slice none 0 0] [(0, iv z), (1, iv a), (3, .slice A n c)] = some #[iv z, iv a, iv 0, .slice A n c] := fun A n c => by rfl
  simp (disch := omega) [hfill]
  refine awCall_det' (l06Arity_s z hz') (by simp; omega) ?_
  obtain ⟨ar, har'⟩ := Int.eq_ofNat_of_zero_le har.1
  rw [har'] at har hbw ⊢; try simp only [Int.toNat_natCast] at har hbw
  generalize hq : M1.length + 1 = q
  have h3 : M1.length = q - 1 := by omega
  try simp
  refine awLoop_T (fun m T M' => ∃ (l : List Int) (u : Value) (k' : Nat), l.length + m = ar ∧ NdI g B q z a M M' l u k' ∧ (∀ f, f ∈ l → 0 ≤ f ∧ f < bw) ∧ k' ≤ k1 + 2 * l.length ∧ look T 10 = some (iv m) ∧ look T 9 = some (.pointer (some ⟨q, 0, none⟩)) ∧ look T 8 = some (.pointer (some ⟨M.length, 0, none⟩)) ∧ look T 3 = some (iv bw) ∧ look T 1 = some (iv z) ∧ look T 0 = some (.pointer (some ⟨g, 0, none⟩))) ar
    ⟨[], _, k1, by simp, ⟨⟨_, 0, 0, rfl, rfl, .inr ⟨M1.length, true, rfl, by omega, by simp; rfl⟩⟩, fun A n c a e ea => by cases e; cases ea; show q ≠ M1.length; omega, fun A n c a e ea => by cases e; cases ea; show M.length ≠ M1.length; omega, ?_, (keeps_app _).get r1, h1.app _, ((Grow.app g M _).trans g1).trans (Grow.app g M1 _)⟩, fun f hf => by simp at hf, by simp, by simp, by simp, by simp, by simp, by simp, by simp⟩ ?_
  · rw [← hq, List.getElem?_append_right (by omega), show M1.length + 1 - M1.length = 1 by omega]; rfl
  rintro m T M3 ⟨l, u, k3, hl, hI, hf, hk3, t10, t9, t8, t3, t1, t0⟩
  have qM : M.length + 1 ≤ q - 1 := by omega
  have lq := (List.getElem?_eq_some_iff.1 hI.box).1
  have ou : oneV u = true := by obtain ⟨_, _, _, e, _⟩ := hI.acc; rw [e]; rfl
  rcases m with _ | m
  · simp (disch := omega) [t10, t9, t8, t1]
    have hlen : (l.length : Int) = ar := by omega
    by_cases e17 : z = 17
    · subst e17
      simp [t0, t9, t8]
      refine awCall_ctr (hI.src.pick 3 hb (by omega) (by omega)) ?_
      rintro r M4 ⟨x, k4, rfl, x0, x1, hk4, h4, u4⟩
      have b4 := u4.2 _ _ (by omega) hI.box
      have z4 := u4.2 _ _ (by omega) hI.res
      have p5 : putCells b M4 q 2 [iv (1 + x)] = some (M4.set q (.live ⟨[iv 17, iv a, iv (1 + x), u], true, true, 138, 4⟩)) := put_row b4 (by omega) (by simp) rfl
      have l4 := u4.1
      have lq4 : q < M4.length := by omega
      have c5 : cellsAt (M4.set q (.live ⟨[iv 17, iv a, iv (1 + x), u], true, true, 138, 4⟩)) q 0 4 = some [iv 17, iv a, iv (1 + x), u] := by simp [cellsAt, lq4]
      have z5 : (M4.set q (.live ⟨[iv 17, iv a, iv (1 + x), u], true, true, 138, 4⟩))[M.length]? = some (.live ⟨[iv 0, iv 0, iv 0, .slice none 0 0], true, true, 138, 4⟩) := by rw [List.getElem?_set_ne (by omega)]; exact z4
      have p6 := put_whole (b := b) (vs := [iv 17, iv a, iv (1 + x), u]) z5 (by omega) rfl (by simp [ou])
      have c6 : cellsAt ((M4.set q (.live ⟨[iv 17, iv a, iv (1 + x), u], true, true, 138, 4⟩)).set M.length (.live ⟨[iv 17, iv a, iv (1 + x), u], true, true, 138, 4⟩)) M.length 0 4 = some [iv 17, iv a, iv (1 + x), u] := by
        refine cells_hr (r := ⟨[iv 17, iv a, iv (1 + x), u], true, true, 138, 4⟩) (set_get ?_) rfl
        simp; omega
      simp (disch := omega) [wrap_in, p5, c5, p6, c6, t9, t8]
      exact ⟨a, 1 + x, u, l, k4, rfl, ((hI.acc.upd u4 (by omega)).set_apart hI.apart).set_apart hI.apart0, ha, by omega, hlen.trans har'.symm, hf, by omega, fun h => absurd rfl h, by omega, (h4.same (Same.set (by omega))).same (Same.set (by omega)), ((hI.grow.trans u4.grow).set (by omega)).set (by omega)⟩
    · have z5 := hI.res
      have p6 := put_whole (b := b) (vs := [iv z, iv a, iv 0, u]) z5 (by omega) rfl (by simp [ou])
      have c5 : cellsAt M3 q 0 4 = some [iv z, iv a, iv 0, u] := cells_hr hI.box rfl
      have c6 : cellsAt (M3.set M.length (.live ⟨[iv z, iv a, iv 0, u], true, true, 138, 4⟩)) M.length 0 4 = some [iv z, iv a, iv 0, u] := cells_hr (r := ⟨[iv z, iv a, iv 0, u], true, true, 138, 4⟩) (set_get (by omega)) rfl
      simp (disch := omega) [e17, c5, p6, c6, t9, t8]
      exact ⟨a, 0, u, l, k3, rfl, hI.acc.set_apart hI.apart0, ha, ha1, hlen.trans har'.symm, hf, fun h => absurd h e17, fun _ => rfl, by omega, hI.src.same (Same.set (by omega)), hI.grow.set (by omega)⟩
  · have e : (0 : Int) < (m : Int) + 1 := by omega
    simp (disch := omega) [t10, e]
    have hbw1 : 1 ≤ bw := by omega
    have hk0 : ∀ (T' : List (Nat × Value)) t v, look ((21, Value.bool true) :: (20, iv (↑m + 1)) :: T) t = some v → True := fun _ _ _ _ => trivial
    refine awDraw_C [4, 5, 6, 8] (fun j v => match j with
      | 0 => v = .pointer (some ⟨q, 3, none⟩)
      | 1 => v = u
      | 2 => v = .pointer (some ⟨g, 0, none⟩)
      | 3 => v = iv bw
      | 7 => v = .pointer (some ⟨q, 3, none⟩)
      | _ => True) (fun vs M' => match vs with
      | [] => M' = M3
      | [x] => ∃ (y : Int) (k' : Nat), x = iv y ∧ 0 ≤ y ∧ y < bw ∧ k' ≤ k3 + 2 ∧ Src g B M' k' ∧ UpdS g M3 M'
      | [x, s] => ∃ (y : Int) (k' : Nat) (M4 : Mem), s = .slice (some ⟨M4.length, 0, none⟩) 1 1 ∧ 0 ≤ y ∧ y < bw ∧ k' ≤ k3 + 2 ∧ Src g B M4 k' ∧ UpdS g M3 M4 ∧ M' = M4 ++ [.live ⟨[iv y], true, true, 2, 1⟩]
      | [x, s, w] => ∃ (y : Int) (k' : Nat), 0 ≤ y ∧ y < bw ∧ k' ≤ k3 + 2 ∧ Src g B M' k' ∧ Acc intR 2 M.length M' w (l ++ [y]) ∧ Apart w q ∧ Apart w M.length ∧ M'[q]? = some (.live ⟨[iv z, iv a, iv 0, u], true, true, 138, 4⟩) ∧ M'[M.length]? = some (.live ⟨[iv 0, iv 0, iv 0, .slice none 0 0], true, true, 138, 4⟩) ∧ Grow g M M'
      | [x, s, w, _] => ∃ (y : Int) (k' : Nat), 0 ≤ y ∧ y < bw ∧ k' ≤ k3 + 2 ∧ NdI g B q z a M M' (l ++ [y]) w k'
      | _ => False) (by kernel_rfl) (by decide +kernel) (by decide +kernel) (by decide +kernel) rfl ?_ ?_ ?_
    · intro j o T' M4 vs K hj ho hΨ hlate hp hf' hK
      have f0 := (hf' 0 (by decide +kernel)).trans ((look_other (by omega)).trans ((look_other (by omega)).trans t0))
      have f3 := (hf' 3 (by decide +kernel)).trans ((look_other (by omega)).trans ((look_other (by omega)).trans t3))
      have f9 := (hf' 9 (by decide +kernel)).trans ((look_other (by omega)).trans ((look_other (by omega)).trans t9))
      rcases j with _ | _ | _ | _ | _ | _ | _ | _ | _ | j
      · simp at ho; subst ho
        simp [f9]
        exact hK _ rfl
      · obtain ⟨v, d, q1, -⟩ := hp 0 24 (by decide +kernel) rfl
        rw [q1 (by decide)] at d
        have hlt := hlate 2 6 rfl (by decide +kernel)
        have hc : cellAt M4 q 3 = some u := by
          match vs, hΨ, hlt with
          | [], hΨ, _ => rw [hΨ]; exact cell_hr hI.box 3
          | [x], ⟨y, k', _, _, _, _, _, u4⟩, _ => exact cell_hr (u4.2 _ _ (by omega) hI.box) 3
          | [x, s], ⟨y, k', M4', _, _, _, _, _, u4, e⟩, _ =>
            rw [e]
            exact cell_hr ((keeps_app _).get (u4.2 _ _ (by omega) hI.box)) 3
        simp at ho; subst ho
        simp [d, hc]
        exact hK _ rfl
      · simp at ho; subst ho
        simp [f0]
        exact hK _ rfl
      · simp at ho; subst ho
        simp [f3]
        exact hK _ rfl
      · cases hj
      · cases hj
      · cases hj
      · simp at ho; subst ho
        simp [f9]
        exact hK _ rfl
      · cases hj
      · simp at ho
    · intro i j o T' M4 vs K hj ho hΨ hlen hp hf' hK
      rcases i with _ | _ | _ | _ | i
      · obtain rfl : 4 = j := by simpa using hj
        obtain rfl := List.eq_nil_of_length_eq_zero hlen
        obtain ⟨v2, d2, q2, -⟩ := hp 2 26 (by decide +kernel) rfl
        rw [q2 (by decide)] at d2
        obtain ⟨v3, d3, q3, -⟩ := hp 3 27 (by decide +kernel) rfl
        rw [q3 (by decide)] at d3
        replace hΨ : M4 = M3 := hΨ
        subst hΨ
        simp at ho; subst ho
        simp [d2, d3]
        refine awCall_ctr (hI.src.pick bw hb (by omega) (by omega)) ?_
        rintro r M5 ⟨x, k5, rfl, x0, x1, hk5, h5, u5⟩
        exact hK _ _ ⟨x, k5, rfl, x0, by omega, hk5, h5, u5⟩
      · obtain rfl : 5 = j := by simpa using hj
        obtain ⟨x, rfl⟩ : ∃ x, vs = [x] := by match vs, hlen with | [x], _ => exact ⟨x, rfl⟩
        obtain ⟨v4, d4, -, q4⟩ := hp 4 28 (by decide +kernel) rfl
        obtain rfl : x = v4 := by simpa using q4 0 rfl
        obtain ⟨y, k', rfl, y0, y1, hk', h4, u4⟩ := hΨ
        simp at ho; subst ho
        simp [d4, fill1]
        exact hK _ _ ⟨y, k', M4, rfl, y0, y1, hk', h4, u4, rfl⟩
      · obtain rfl : 6 = j := by simpa using hj
        obtain ⟨x, s, rfl⟩ : ∃ x s, vs = [x, s] := by match vs, hlen with | [x, s], _ => exact ⟨x, s, rfl⟩
        obtain ⟨v1, d1, q1, -⟩ := hp 1 25 (by decide +kernel) rfl
        rw [q1 (by decide)] at d1
        obtain ⟨v5, d5, -, q5⟩ := hp 5 29 (by decide +kernel) rfl
        obtain rfl : s = v5 := by simpa using q5 1 rfl
        obtain ⟨y, k', M5, rfl, y0, y1, hk', h4, u4, rfl⟩ := hΨ
        have n4 := u4.1
        simp at ho; subst ho
        simp [d1, d5]
        refine (((hI.acc.upd u4 (by omega)).keeps (keeps_app _)).append2 (a := y) (e := 2) (by_ := 8) (by omega) (by simp; omega) (by omega) (by simp) (by kernel_rfl) (by simp [srcOf, intR]) (by rfl) (by omega) (by unfold maxLen; omega) ?_)
        intro v' M6 a1 a2 a3
        have b6 := a3 q _ hI.apart ((keeps_app _).get (u4.2 _ _ (by omega) hI.box))
        have z6 := a3 M.length _ hI.apart0 ((keeps_app _).get (u4.2 _ _ (by omega) hI.res))
        exact hK _ _ ⟨y, k', y0, y1, hk', (h4.app _).same (a2.low hB), a1, b6.2, z6.2, b6.1, z6.1, ((hI.grow.trans u4.grow).trans (Grow.app g M5 _)).same_from a2 (Nat.le_refl _)⟩
      · obtain rfl : 8 = j := by simpa using hj
        obtain ⟨x, s, w, rfl⟩ : ∃ x s w, vs = [x, s, w] := by match vs, hlen with | [x, s, w], _ => exact ⟨x, s, w, rfl⟩
        obtain ⟨v6, d6, -, q6⟩ := hp 6 30 (by decide +kernel) rfl
        obtain rfl : w = v6 := by simpa using q6 2 rfl
        obtain ⟨v7, d7, q7, -⟩ := hp 7 31 (by decide +kernel) rfl
        rw [q7 (by decide)] at d7
        obtain ⟨y, k', y0, y1, hk', h4, a1, b1, b2, b3, b4, gr⟩ := hΨ
        have ow : oneV w = true := by obtain ⟨_, _, _, e, _⟩ := a1; rw [e]; rfl
        have p8 : putCells b M4 q 3 [w] = some (M4.set q (.live ⟨[iv z, iv a, iv 0, w], true, true, 138, 4⟩)) := put_row b3 (by omega) (by simp) ow
        have lq4 := (List.getElem?_eq_some_iff.1 b3).1
        obtain ⟨A9, m9, c9, rfl, _⟩ := id a1
        simp at ho; subst ho
        simp [d6, d7, p8]
        exact hK _ _ ⟨y, k', y0, y1, hk', a1.set_apart b1, b1, b2, set_get lq4, by rw [List.getElem?_set_ne (by omega)]; exact b4, h4.same (Same.set (by omega)), gr.set (by omega)⟩
      · simp at hj
    · intro T' M4 vs hlen hΨ hp hf'
      have f0 := (hf' 0 (by decide +kernel)).trans ((look_other (by omega)).trans ((look_other (by omega)).trans t0))
      have f1 := (hf' 1 (by decide +kernel)).trans ((look_other (by omega)).trans ((look_other (by omega)).trans t1))
      have f3 := (hf' 3 (by decide +kernel)).trans ((look_other (by omega)).trans ((look_other (by omega)).trans t3))
      have f8 := (hf' 8 (by decide +kernel)).trans ((look_other (by omega)).trans ((look_other (by omega)).trans t8))
      have f9 := (hf' 9 (by decide +kernel)).trans ((look_other (by omega)).trans ((look_other (by omega)).trans t9))
      have f10 := (hf' 10 (by decide +kernel)).trans ((look_other (by omega)).trans ((look_other (by omega)).trans t10))
      obtain ⟨x, s, w, e8, rfl⟩ : ∃ x s w e8, vs = [x, s, w, e8] := by match vs, hlen with | [x, s, w, e8], _ => exact ⟨x, s, w, e8, rfl⟩
      obtain ⟨y, k', y0, y1, hk', hN⟩ := hΨ
      simp (disch := omega) [f10, wrap_in]
      refine lpI m (by omega) ⟨l ++ [y], w, k', by simp; omega, hN, fun f h => ?_, by simp; omega, by simp, by simp [f9], by simp [f8], by simp [f3], by simp [f1], by simp [f0]⟩
      rcases List.mem_append.1 h with h | h
      · exact hf f h
      · simp at h; subst h; exact ⟨y0, y1⟩
end Go.Proofs.Ytimijeeihicohaa

namespace Go.Proofs.Ytimijeeihicohaa
open Go.RowKit
set_option linter.unusedVariables false
set_option linter.unusedSimpArgs false
set_option maxRecDepth 100000
attribute [local simp] List.getElem?_cons_zero
attribute [local irreducible] awCond awCall awLoop awDraw ow retQ retC resQ Keeps
def tvR : RecV Value 1 := ⟨fun v => [v], fun _ => rfl⟩
def TabA (B : Nat) (M : Mem) (v : Value) (ts : List (List Int)) : Prop :=
  ∃ us : List Value, Acc tvR 46 B M v us ∧ us.length = ts.length ∧ ∀ i, i < ts.length → Acc intR 2 B M (us.getD i (iv 0)) (el ts i) ∧ ∀ id, Adr (us.getD i (iv 0)) id → Apart v id
theorem Hi.same_from {B C : Nat} {M M' M'' : Mem} (h : Hi B M M') (hs : Same C M' M'') (hb : M.length ≤ C) : Hi B M M'' := fun i s hi ht => hs.2 i s (by have := (List.getElem?_eq_some_iff.1 ht).1; omega) (h i s hi ht)
theorem TabA.hi {B : Nat} {M M' : Mem} {v : Value} {ts : List (List Int)} (h : TabA B M v ts) (hh : Hi B M M') : TabA B M' v ts := by
  obtain ⟨us, h1, h2, h3⟩ := h
  exact ⟨us, h1.hi hh (Nat.le_refl _), h2, fun i hi => ⟨(h3 i hi).1.hi hh (Nat.le_refl _), (h3 i hi).2⟩⟩
theorem TabA.one {B : Nat} {M : Mem} {v : Value} {ts : List (List Int)} (h : TabA B M v ts) : ∃ A c, v = .slice A ts.length c := by
  obtain ⟨rs, ⟨A, n, c, rfl, h1, _⟩, h2, _⟩ := h
  exact ⟨A, c, by rw [← h1, h2]⟩
theorem TabA.slv {B : Nat} {M : Mem} {v : Value} {ts : List (List Int)} (h : TabA B M v ts) (hn : ts.length ≤ 1099511627776) (hf : ∀ x, x ∈ ts → x.length ≤ 1099511627776) : SlV tabP B M.length M v ts := by
  obtain ⟨us, h1, h2, h3⟩ := h
  obtain ⟨A, n, c, rfl, hl, hA⟩ := h1
  rcases hA with ⟨rfl, rfl, rfl⟩ | ⟨id, t, rfl, hid, hr⟩
  · refine ⟨none, 0, 0, rfl, by omega, fun _ => rfl, by omega, fun h => by omega⟩
  · refine ⟨_, n, c, rfl, by omega, (fun h => by cases h), by omega, fun hn0 => ⟨id, 0, rfl, hid, (List.getElem?_eq_some_iff.1 hr).1, by simp [rowEsz, hr], fun i hi => ?_⟩⟩
    obtain ⟨a4, _⟩ := h3 i (by omega)
    refine ⟨_, ⟨us.getD i (iv 0), rfl, a4.slv (by have := hf _ (el_mem (l := ts) (i := i) (by omega)); omega)⟩, ?_⟩
    intro j x hx
    rcases j with _ | j
    · simp at hx
      subst hx
      have : (cellsL tvR us)[i]? = some (us.getD i (iv 0)) := by
        have e : ∀ (us : List Value), cellsL tvR us = us := fun us => by
          induction us with
          | nil => rfl
          | cons a us ih => rw [cellsL_cons, ih]; rfl
        rw [e, List.getElem?_eq_getElem (by omega)]
        simp [hi, hl]
      simp [cellAt, hr]
      exact this
    · simp at hx
theorem TabA.snoc {P : Program} {t tx : TypeId} {B b by_ : Nat} {S : St} {M0 : Mem} {v x u : Value} {ts : List (List Int)} {y : List Int} {K : Value → Mem → Prop} (h : TabA B M0 v ts) (hh : Hi B M0 S.M) (hb : b ≤ B) (hB : B ≤ M0.length) (hl0 : M0.length ≤ S.M.length) (hq : qSlice P t = some (46, 1, by_))
    (hz : (P.info? 46).any (fun i => i.zero.any fun z => z.cells.size == 1) = true) (hs : srcOf P S.M 1 tx x = some (1, [u])) (hu : Acc intR 2 M0.length S.M u y) (hn : (ts.length + 1) * by_ ≤ 140737488355328) (hm : ts.length + 1 ≤ maxLen)
    (hK : ∀ v' M', TabA B M' v' (ts ++ [y]) → Same B S.M M' → K v' M') : appendK P b S K t tx v x := by
  obtain ⟨us, h1, h2, h3⟩ := h
  have ou : u.oneCell' = true := by obtain ⟨_, _, _, e, _⟩ := hu; rw [e]; rfl
  refine (h1.hi hh (Nat.le_refl _)).append2 (a := u) hb (by omega) (by omega) hq hz hs (by simp [tvR, ou]) (by rw [h2]; exact hn) (by rw [h2]; exact hm) fun v' M' hA hS hP => hK v' M' ?_ hS
  have up : ∀ {w : Value} {l : List Int}, Acc intR 2 B S.M w l → (∀ id, Adr w id → Apart v id) → Acc intR 2 B M' w l := fun {w l} hw ha => by
    obtain ⟨A, n, c, rfl, e2, e3⟩ := hw
    refine ⟨A, n, c, rfl, e2, e3.imp id fun ⟨i, t, ei, hi, hr⟩ => ⟨i, t, ei, hi, (hP i _ (ha i ?_) hr).1⟩⟩
    subst ei
    exact ⟨_, _, _, rfl, rfl⟩
  have lt : ∀ {w : Value} {l : List Int} {B : Nat}, Acc intR 2 B S.M w l → (∀ id, Adr w id → Apart v id) → ∀ id, Adr w id → Apart v' id := fun {w l B} hw ha i hi => by
    obtain ⟨_, hl⟩ := hw.adr_lt hi
    exact (hP i _ (ha i hi) (List.getElem?_eq_getElem hl)).2
  have au : ∀ id, Adr u id → Apart v id := fun id hd => not_adr fun hv => by
    have := (hu.adr_lt hd).1
    have := (h1.adr_lt hv).2
    omega
  refine ⟨us ++ [u], hA, by simp [h2], fun i hi => ?_⟩
  have eL : ∀ j, j < ts.length → (us ++ [u]).getD j (iv 0) = us.getD j (iv 0) := fun j hj => by simp [List.getElem?_append_left (show j < us.length by omega)]
  have eR : (us ++ [u]).getD ts.length (iv 0) = u := by simp [← h2]
  have nL : ∀ j, j < ts.length → el (ts ++ [y]) j = el ts j := fun j hj => el_append_left hj
  have nR : el (ts ++ [y]) ts.length = y := by rw [el_append_right (Nat.le_refl _), Nat.sub_self]; rfl
  simp only [List.length_append, List.length_singleton] at hi
  by_cases hin : i < ts.length
  · rw [eL i hin, nL i hin]
    obtain ⟨a4, a5⟩ := h3 i hin
    have a4' := a4.hi hh (Nat.le_refl _)
    exact ⟨up a4' a5, lt a4' a5⟩
  · obtain rfl : i = ts.length := by omega
    rw [eR, nR]
    exact ⟨up (hu.low hB) au, lt hu au⟩
/-- What l06DrawTables gives. -/
def TbR (g B k : Nat) (M : Mem) (r : Value) (M' : Mem) : Prop := ∃ (ts : List (List Int)) (k' : Nat), TabA M.length M' r ts ∧ 1 ≤ ts.length ∧ ts.length ≤ 2 ∧ (∀ x, x ∈ ts → tableB x = true) ∧ k' ≤ k + 200 ∧ Src g B M' k' ∧ Grow g M M'
set_option maxHeartbeats 2000000 in
theorem l06DrawTables_b {M : Mem} {b g k B : Nat} (h : Src g B M k) (hb : b ≤ g) (hB : B ≤ M.length) (hk : k ≤ 1000000) :
    Ctr Try.prog b 98 [.pointer (some ⟨g, 0, none⟩)] M fun r M' => TbR g B k M r M' := by
  have hg := h.lt
  first | (refine ctr_fn Try.func98 rfl Try.ntmps98 Try.results98 rfl rfl (by simp) ?_) | (refine ctr_fnC Try.func98 rfl Try.ntmps98 Try.results98 rfl (by simp) ?_)
  simp
  refine awCall_ctr ((h.app _).pick 2 hb (by omega) (by omega)) ?_
  rintro r M1 ⟨x, k1, rfl, x0, x1, hk1, h1, u1⟩
  obtain ⟨cn, hcn⟩ := Int.eq_ofNat_of_zero_le (show 0 ≤ 1 + x by omega)
  have n1 := u1.1
  simp at n1
  have g1 : Grow g M M1 := (Grow.app g M _).trans u1.grow
  have e1 := u1.2 M.length _ (by omega) getElem?_snoc_eq
  simp (disch := omega) [wrap_in, hcn]
  refine awLoop_T (fun m T M' => ∃ (ts : List (List Int)) (v : Value) (k' : Nat), ts.length + m = cn ∧ TabA M.length M' v ts ∧ (∀ x, x ∈ ts → tableB x = true) ∧ k' ≤ k + 2 + 60 * ts.length ∧ Src g B M' k' ∧ Grow g M M' ∧ look T 4 = some (iv m) ∧ look T 3 = some v ∧ look T 0 = some (.pointer (some ⟨g, 0, none⟩))) cn
    ⟨[], _, k1, by simp, ⟨[], ⟨_, 0, 0, rfl, rfl, .inr ⟨M.length, true, rfl, Nat.le_refl _, e1⟩⟩, rfl, fun i hi => by simp at hi⟩, fun x h => by simp at h, by simp; omega, h1, g1, by simp, by simp, by simp⟩ ?_
  rintro m T M2 ⟨ts, v, k2, hl, hT, hts, hk2, h2, g2, t4, t3, t0⟩
  rcases m with _ | m
  · simp [t4, t3]
    exact ⟨ts, k2, hT, by omega, by omega, hts, by omega, h2, g2⟩
  have e : (0 : Int) < (m : Int) + 1 := by omega
  simp (disch := omega) [t4, t0, e, fill4]
  have n2 := g2.1
  have hc := among_new (b := b) (M := M2 ++ [.live ⟨[], true, true, 2, 1⟩]) (n := 4) [2, 4, 8, 4] rfl (h2.app _) hb (by omega) (by omega) (by omega) rfl (by simp; omega)
  simp at hc
  refine awCall_ctr hc ?_
  clear hc
  rintro r M3 ⟨w, rfl, hw, k3, hk3, h3, g3⟩
  have n3 := g3.1
  simp at n3
  have r3 : M3[M2.length]? = some (.live ⟨[], true, true, 2, 1⟩) := g3.2 _ _ (by omega) (by simp)
  obtain ⟨wn, rfl⟩ : ∃ wn : Nat, w = wn := Int.eq_ofNat_of_zero_le (by omega)
  have g23 : Grow g M2 M3 := (Grow.app g M2 _).trans g3
  try simp
  refine awLoop_T (fun m' T M' => ∃ (l : List Int) (u : Value) (k' : Nat), l.length + m' = wn ∧ Acc intR 2 M2.length M' u l ∧ (∀ x, x ∈ l → smB x) ∧ k' ≤ k3 + 6 * l.length ∧ Src g B M' k' ∧ Hi M.length M2 M' ∧ Grow g M2 M' ∧ look T 6 = some (iv m') ∧ look T 5 = some u ∧ look T 4 = some (iv (m + 1)) ∧ look T 3 = some v ∧ look T 0 = some (.pointer (some ⟨g, 0, none⟩))) wn
    ⟨[], _, k3, by simp, ⟨_, 0, 0, rfl, rfl, .inr ⟨M2.length, true, rfl, Nat.le_refl _, r3⟩⟩, fun x h => by simp at h, by simp, h3, g23.hi (by omega), g23, by simp, by simp, by simp [t4], by simp [t3], by simp [t0]⟩ ?_
  rintro m' T M4 ⟨l, u, k4, hl', hA, hs, hk4, h4, hh4, g4, t6, t5, t4', t3', t0'⟩
  have n4 := g4.1
  rcases m' with _ | m'
  · have hA' := hA
    obtain ⟨A, n, c, rfl, hln, -⟩ := hA'
    have hfl : Instr.fill (fun i => some (i, 1)) (zrow [Value.slice none 0 0] 1).toArray [(0, .slice A n c)] = some #[.slice A n c] := by rfl
    simp (disch := omega) [t6, t5, t4', t3', hfl]
    refine hT.snoc (by_ := 24) (y := l) (u := .slice A n c) (hh4.trans (Hi.app _ _ _)) (by omega) (by omega) (by simp; omega) (by kernel_rfl) (by kernel_rfl) (by simp [srcOf]) (hA.keeps (keeps_app _)) (by omega) (by unfold maxLen; omega) ?_
    intro v' M5 hT5 s5
    simp (disch := omega) [t4', wrap_in]
    refine lpI m (by omega) ⟨ts ++ [l], v', k4, by simp; omega, hT5, fun y hy => ?_, by simp; omega, (h4.app _).same (s5.low hB), ((g2.trans g4).trans (Grow.app g M4 _)).same_from s5 (Nat.le_refl _), by simp, by simp, by simp [t0']⟩
    rcases List.mem_append.1 hy with hy | hy
    · exact hts y hy
    · simp at hy
      subst hy
      unfold tableB areSB
      simp only [Bool.and_eq_true, Bool.or_eq_true, decide_eq_true_eq, List.all_eq_true]
      refine ⟨by omega, fun z hz => ?_⟩
      have := hs z hz
      unfold smB at this
      unfold sampleB
      exact inB_iff.2 this
  · have e' : (0 : Int) < (m' : Int) + 1 := by omega
    simp (disch := omega) [t6, t5, t0', e']
    refine awCall_ctr (l01Draw_b h4 hb (by omega) (by omega)) ?_
    rintro r M5 ⟨z, k5, rfl, hz, hk5, h5, g5⟩
    have n5 := g5.1
    simp [fill1, t5]
    refine (g5.acc hA (by omega)).keeps (keeps_app _) |>.append (a := z) (e := 2) (by_ := 8) (by omega) (by simp; omega) (by omega) (by simp) (by kernel_rfl) (by simp [srcOf, intR]) (by rfl) (by omega) (by unfold maxLen; omega) ?_
    intro u' M6 hA6 s6
    simp (disch := omega) [t6, wrap_in]
    refine lpI m' (by omega) ⟨l ++ [z], u', k5, by simp; omega, hA6, fun y hy => ?_, by simp; omega, (h5.app _).same (s6.low (by omega)), ((hh4.trans (g5.hi (by omega))).trans (Hi.app _ _ _)).same_from s6 (Nat.le_refl _), ((g4.trans g5).trans (Grow.app g M5 _)).same_from s6 (Nat.le_refl _), by simp, by simp, by simp [t4'], by simp [t3'], by simp [t0']⟩
    rcases List.mem_append.1 hy with hy | hy
    · exact hs y hy
    · simp at hy; subst hy; exact hz
end Go.Proofs.Ytimijeeihicohaa

namespace Go.Proofs.Ytimijeeihicohaa
open Go.RowKit
set_option linter.unusedVariables false
set_option linter.unusedSimpArgs false
set_option maxRecDepth 100000
attribute [local simp] List.getElem?_cons_zero
attribute [local irreducible] awCond awCall awLoop awDraw ow retQ retC resQ Keeps
theorem l07Kinds_b {M : Mem} (lin : Bool) : Ctr Try.prog M.length 99 [.bool lin] M fun r M' => ∃ (l : List Int), Acc intR 2 M.length M' r l ∧ 0 < l.length ∧ l.length ≤ 20 ∧ (∀ z, z ∈ l → 1 ≤ z ∧ z ≤ 17) ∧ (lin = true → ∀ z, z ∈ l → z ≠ 13) ∧ Keeps M M' := by
  first | (refine ctr_fn Try.func99 rfl Try.ntmps99 Try.results99 rfl rfl (by simp) ?_) | (refine ctr_fnC Try.func99 rfl Try.ntmps99 Try.results99 rfl (by simp) ?_)
  cases lin
  · simp
    have hf : Instr.fill (fun i => some (i, 1)) (zrow [Value.int IntKind.i64 0] 20).toArray [(0, Value.int IntKind.i64 1), (1, Value.int IntKind.i64 2), (2, Value.int IntKind.i64 3), (3, Value.int IntKind.i64 4), (4, Value.int IntKind.i64 5), (5, Value.int IntKind.i64 6), (6, Value.int IntKind.i64 7), (7, Value.int IntKind.i64 8), (8, Value.int IntKind.i64 9), (9, Value.int IntKind.i64 10), (10, Value.int IntKind.i64 11), (11, Value.int IntKind.i64 12), (12, Value.int IntKind.i64 13), (13, Value.int IntKind.i64 14), (14, Value.int IntKind.i64 15), (15, Value.int IntKind.i64 16), (16, Value.int IntKind.i64 17), (17, Value.int IntKind.i64 1), (18, Value.int IntKind.i64 3), (19, Value.int IntKind.i64 6)] = some #[Value.int IntKind.i64 1, Value.int IntKind.i64 2, Value.int IntKind.i64 3, Value.int IntKind.i64 4, Value.int IntKind.i64 5, Value.int IntKind.i64 6, Value.int IntKind.i64 7, Value.int IntKind.i64 8, Value.int IntKind.i64 9, Value.int IntKind.i64 10, Value.int IntKind.i64 11, Value.int IntKind.i64 12, Value.int IntKind.i64 13, Value.int IntKind.i64 14, Value.int IntKind.i64 15, Value.int IntKind.i64 16, Value.int IntKind.i64 17, Value.int IntKind.i64 1, Value.int IntKind.i64 3, Value.int IntKind.i64 6] := fill_ints (k := .i64) [1, 2, 3, 4, 5, 6, 7, 8, 9, 10, 11, 12, 13, 14, 15, 16, 17, 1, 3, 6] rfl
    simp [hf]
    refine ⟨[1, 2, 3, 4, 5, 6, 7, 8, 9, 10, 11, 12, 13, 14, 15, 16, 17, 1, 3, 6], ⟨_, 20, 20, rfl, rfl, .inr ⟨M.length, true, rfl, Nat.le_refl _, by rw [getElem?_snoc_eq]; rfl⟩⟩, by decide, by decide, by decide, keeps_app _⟩
  · simp
    have hf : Instr.fill (fun i => some (i, 1)) (zrow [Value.int IntKind.i64 0] 11).toArray [(0, Value.int IntKind.i64 1), (1, Value.int IntKind.i64 3), (2, Value.int IntKind.i64 4), (3, Value.int IntKind.i64 5), (4, Value.int IntKind.i64 6), (5, Value.int IntKind.i64 7), (6, Value.int IntKind.i64 8), (7, Value.int IntKind.i64 17), (8, Value.int IntKind.i64 1), (9, Value.int IntKind.i64 5), (10, Value.int IntKind.i64 6)] = some #[Value.int IntKind.i64 1, Value.int IntKind.i64 3, Value.int IntKind.i64 4, Value.int IntKind.i64 5, Value.int IntKind.i64 6, Value.int IntKind.i64 7, Value.int IntKind.i64 8, Value.int IntKind.i64 17, Value.int IntKind.i64 1, Value.int IntKind.i64 5, Value.int IntKind.i64 6] := fill_ints (k := .i64) [1, 3, 4, 5, 6, 7, 8, 17, 1, 5, 6] rfl
    simp [hf]
    refine ⟨[1, 3, 4, 5, 6, 7, 8, 17, 1, 5, 6], ⟨_, 11, 11, rfl, rfl, .inr ⟨M.length, true, rfl, Nat.le_refl _, by rw [getElem?_snoc_eq]; rfl⟩⟩, by decide, by decide, by decide, by decide, keeps_app _⟩
end Go.Proofs.Ytimijeeihicohaa

namespace Go.Proofs.Ytimijeeihicohaa
open Go.RowKit
set_option linter.unusedVariables false
theorem awCond_join {P : Program} {b n : Nat} {c : Bool} {A B Y : Code} {Q : Ex → St → Prop} {T : List (Nat × Value)} {M : Mem} (J : List (Nat × Value) → Mem → Prop)
    (h1 : ∀ Q' : Ex → St → Prop, (∀ T' M', J T' M' → Q' .normal ⟨n, T', M'⟩) → c = true → sAw P b A Q' ⟨n, T, M⟩)
    (h2 : ∀ Q' : Ex → St → Prop, (∀ T' M', J T' M' → Q' .normal ⟨n, T', M'⟩) → c = false → sAw P b B Q' ⟨n, T, M⟩)
    (h3 : ∀ T' M', J T' M' → sAw P b Y Q ⟨n, T', M'⟩) : awCond (.bool c) (sAw P b A (sThen P b Y Q tk) ⟨n, T, M⟩) (sAw P b B (sThen P b Y Q tk) ⟨n, T, M⟩) :=
  ⟨fun h => h1 _ (fun T' M' hJ => by rw [sThen_normal]; exact h3 T' M' hJ) h, fun h => h2 _ (fun T' M' hJ => by rw [sThen_normal]; exact h3 T' M' hJ) h⟩
theorem awThen_join {P : Program} {b n : Nat} {A Y : Code} {Q : Ex → St → Prop} {T : List (Nat × Value)} {M : Mem} (J : List (Nat × Value) → Mem → Prop)
    (h1 : ∀ Q' : Ex → St → Prop, (∀ T' M', J T' M' → Q' .normal ⟨n, T', M'⟩) → sAw P b A Q' ⟨n, T, M⟩)
    (h3 : ∀ T' M', J T' M' → sAw P b Y Q ⟨n, T', M'⟩) : sAw P b A (sThen P b Y Q tk) ⟨n, T, M⟩ :=
  h1 _ fun T' M' hJ => by rw [sThen_normal]; exact h3 T' M' hJ
end Go.Proofs.Ytimijeeihicohaa

namespace Go.Proofs.Ytimijeeihicohaa
open Go.RowKit
set_option linter.unusedVariables false
set_option linter.unusedSimpArgs false
set_option maxRecDepth 100000
attribute [local simp] List.getElem?_cons_zero
attribute [local irreducible] awCond awCall awLoop awDraw ow retQ retC resQ Keeps
section
variable {α : Type} {k : Nat}
theorem put_splice {b : Nat} {M : Mem} {id p : Nat} {vs cs : List Value} {t : Bool} {e : TypeId} {z : Nat} (hr : M[id]? = some (.live ⟨cs, true, t, e, z⟩)) (hb : b ≤ id) (hp : p + vs.length ≤ cs.length) (h1 : vs.all oneV = true) :
    putCells b M id p vs = some (M.set id (.live ⟨splice cs p vs, true, t, e, z⟩)) := by
  unfold putCells
  rw [hr]
  simp only
  rw [if_pos ⟨hb, trivial, hp, h1⟩]
theorem splice_set [Inhabited α] (R : RecV α k) {l : List α} {i : Nat} {a : α} (hi : i < l.length) : splice (cellsL R l) (i * k) (R.row a) = cellsL R (l.set i a) := by
  have h1 : l = l.take i ++ (el l i :: l.drop (i + 1)) := by
    conv => lhs; rw [← List.take_append_drop i l, drop_el hi]
  have hl : (cellsL R (l.take i)).length = i * k := by rw [cellsL_len, List.length_take, Nat.min_eq_left (by omega)]
  have h2 : cellsL R l = cellsL R (l.take i) ++ (R.row (el l i) ++ cellsL R (l.drop (i + 1))) := by
    conv => lhs; rw [h1]
    rw [cellsL_append, cellsL_cons]
  rw [h2, ← hl, splice_app _ _ _ (by rw [List.length_append, R.len, R.len]; omega), R.len, List.drop_append_of_le_length (by rw [R.len]; omega), List.drop_of_length_le (by rw [R.len]; omega), List.nil_append]
  have h3 : l.set i a = l.take i ++ (a :: l.drop (i + 1)) := List.set_eq_take_append_cons_drop .. |>.trans (by rw [if_pos hi])
  rw [h3, cellsL_append, cellsL_cons]
theorem put_rec [Inhabited α] {R : RecV α k} {b : Nat} {M : Mem} {id i off : Nat} {l : List α} {a : α} {t : Bool} {e : TypeId} (hr : M[id]? = some (.live ⟨cellsL R l, true, t, e, k⟩)) (hb : b ≤ id) (hi : i < l.length) (ho : off = i * k) (h1 : (R.row a).all oneV = true) :
    putCells b M id off (R.row a) = some (M.set id (.live ⟨cellsL R (l.set i a), true, t, e, k⟩)) := by
  subst ho
  rw [put_splice hr hb (by rw [R.len, cellsL_len]; have := Nat.mul_le_mul_right k (show i + 1 ≤ l.length from hi); rw [Nat.add_mul, Nat.one_mul] at this; exact this) h1, splice_set R hi]
end
/-- The list lies in a row of its own. -/
theorem Acc.put {α : Type} {k : Nat} [Inhabited α] {R : RecV α k} {e : TypeId} {B b : Nat} {M : Mem} {A : Option Addr} {n c : Nat} {l : List α} (h : Acc R e B M (.slice A n c) l) (hb : b ≤ B) (h0 : 0 < l.length) :
    ∃ id, A = some ⟨id, 0, none⟩ ∧ B ≤ id ∧ rowEsz M id = some k ∧ (∀ (i j : Nat) x, i < l.length → (R.row (el l i))[j]? = some x → cellAt M id (i * k + j) = some x) ∧
      ∀ (i : Nat) (a : α), i < l.length → (R.row a).all oneV = true → ∃ M', putCells b M id (i * k) (R.row a) = some M' ∧ Acc R e B M' (.slice A n c) (l.set i a) ∧ M'.length = M.length ∧ ∀ (q : Nat) s, q ≠ id → M[q]? = some s → M'[q]? = some s := by
  obtain ⟨A', n', c', he, hl, hA⟩ := h
  injection he with h1 h2 h3
  subst h1; subst h2; subst h3
  rcases hA with ⟨rfl, h1, rfl⟩ | ⟨id, t, rfl, hid, hr⟩
  · omega
  refine ⟨id, rfl, hid, by simp [rowEsz, hr], fun i j x hi hx => ?_, fun i a hi h1 => ⟨_, put_rec hr (by omega) hi rfl h1, ⟨_, _, _, rfl, by simp [hl], .inr ⟨id, t, rfl, hid, List.getElem?_set_self (List.getElem?_eq_some_iff.1 hr).1⟩⟩, by simp, fun q s hq hs => by rw [List.getElem?_set_ne (Ne.symm hq)]; exact hs⟩⟩
  have hj : j < k := by have := (List.getElem?_eq_some_iff.1 hx).1; rwa [R.len] at this
  simp only [cellAt, hr]
  show (cellsL R l)[i * k + j]? = some x
  rw [cellsL_get R hi hj]
  exact hx
end Go.Proofs.Ytimijeeihicohaa
