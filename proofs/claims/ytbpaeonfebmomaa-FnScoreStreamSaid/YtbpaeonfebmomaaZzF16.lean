/- Parts of the proof, together: Note: a list is cloned. Notes in order: the program's function. The keys of the program's map of sounding notes. Regions that draw their order, whose values are known and whose stores lie in known memory. The program's notes out of events. The program's score out of events. The reference sorts the notes of a score. No conditions. -/
import Derived.Test.YtbpaeonfebmomaaZzF9
import Derived.Test.YtbpaeonfebmomaaZzF8
import Derived.Test.YtbpaeonfebmomaaZzF15
import Derived.DeepKeys3
import Derived.Test.YtbpaeonfebmomaaZzF12
import Derived.Test.YtbpaeonfebmomaaZzF14
import Derived.Test.YtbpaeonfebmomaaZzF10
namespace Go.Proofs.Ytbpaeonfebmomaa
open Go.RowKit
set_option linter.unusedVariables false
set_option linter.unusedSimpArgs false
set_option maxRecDepth 100000
attribute [local simp] List.getElem?_cons_zero
attribute [local irreducible] awCond awCall awLoop awDraw ow retQ retC resQ Keeps
theorem note_oneC (l : List Note) : (cellsL noteR l).all (fun u => u.oneCell') = true := by
  induction l with
  | nil => rfl
  | cons a l ih => rw [cellsL_cons, List.all_append, ih]; rfl
theorem CloneNote_a {M : Mem} {A : Option Addr} {n c : Nat} {l : List Note} (h : Sl noteR M A n l) (hn : n ≤ 1048576) : Ctr Try.prog M.length 67 [.slice A n c] M fun r M' => Acc noteR 53 M.length M' r l ∧ Keeps M M' := by
  have hl := h.1
  first | (refine ctr_fn Try.func67 rfl Try.ntmps67 Try.results67 rfl rfl (by simp) ?_) | (refine ctr_fnC Try.func67 rfl Try.ntmps67 Try.results67 rfl (by simp) ?_)
  rcases A with _ | ad
  · have h0 : l = [] := by
      apply List.eq_nil_of_length_eq_zero
      rcases Nat.eq_zero_or_pos n with e | e
      · omega
      · obtain ⟨_, _, e', _⟩ := h.2 e
        cases e'
    simp [nil_eq Try.underlying24]
    exact ⟨h0 ▸ .nil, Keeps.refl _⟩
  · simp [nil_eq Try.underlying24]
    refine cloneX (R := noteR) (e := 53) (by_ := 56) (l := l) (by exact h.keeps (keeps_app _)) (by omega) ⟨_, 0, 0, rfl, rfl, .inr ⟨M.length, true, rfl, Nat.le_refl _, by simp [cellsL]⟩⟩ (Nat.le_refl _) (by simp) (by simp) ⟨_, Try.underlying24⟩ (by kernel_rfl) (note_oneC _) (by omega) (by unfold maxLen; omega) ?_
    intro v' M2 hA hS
    try simp
    exact ⟨hA, hS.keeps (keeps_app _) (Nat.le_refl _)⟩
end Go.Proofs.Ytbpaeonfebmomaa

namespace Go.Proofs.Ytbpaeonfebmomaa
open Go.RowKit
set_option linter.unusedVariables false
set_option linter.unusedSimpArgs false
set_option maxRecDepth 100000
attribute [local simp] List.getElem?_cons_zero
attribute [local irreducible] awCond awCall awLoop awDraw ow retQ retC resQ Keeps
theorem insertion_nil {M : Mem} {B : Nat} : Ctr Try.prog B 104 [.slice none 0 0, iv 0, iv 0, cmpV] M fun r M' => r = .tuple #[] ∧ M' = M := by
  first | (refine ctr_fn Try.func104 rfl Try.ntmps104 Try.results104 rfl rfl (by simp) ?_) | (refine ctr_fnC Try.func104 rfl Try.ntmps104 Try.results104 rfl (by simp) ?_)
  simp (disch := omega) [wrap_in]
  refine awLoop_T (fun k T M' => k = 0 ∧ M' = M ∧ look T 8 = some (iv 1) ∧ look T 2 = some (iv 0)) 0 ⟨rfl, rfl, by simp, by simp⟩ ?_
  rintro k T M' ⟨rfl, rfl, t8, t2⟩
  simp (disch := omega) [t8, t2]
theorem stable_nil {M : Mem} {B : Nat} : Ctr Try.prog B 95 [.slice none 0 0, iv 0, cmpV] M fun r M' => r = .tuple #[] ∧ M' = M := by
  first | (refine ctr_fn Try.func95 rfl Try.ntmps95 Try.results95 rfl rfl (by simp) ?_) | (refine ctr_fnC Try.func95 rfl Try.ntmps95 Try.results95 rfl (by simp) ?_)
  simp (disch := omega) [wrap_in]
  refine awLoop_T (fun k T M' => k = 0 ∧ M' = M ∧ look T 8 = some (iv 20) ∧ look T 7 = some (iv 0) ∧ look T 6 = some (iv 20) ∧ look T 0 = some (.slice none 0 0) ∧ look T 1 = some (iv 0) ∧ look T 2 = some cmpV) 0 ⟨rfl, rfl, by simp, by simp, by simp, by simp, by simp, by simp⟩ ?_
  rintro k T M' ⟨rfl, rfl, t8, t7, t6, t0, t1, t2⟩
  simp (disch := omega) [t8, t7, t6, t0, t1, t2]
  refine awCall_ctr (insertion_nil (B := B)) ?_
  rintro r M2 ⟨rfl, rfl⟩
  try simp (disch := omega)
  refine awLoop_T (fun k T M' => k = 0 ∧ M' = M2 ∧ look T 6 = some (iv 20) ∧ look T 1 = some (iv 0)) 0 ⟨rfl, rfl, by simp [t6], by simp [t1]⟩ ?_
  rintro k T M' ⟨rfl, rfl, t6, t1⟩
  simp (disch := omega) [t6, t1]
theorem SortStable_nil {M : Mem} {B : Nat} : Ctr Try.prog B 68 [.slice none 0 0, cmpV] M fun r M' => r = .tuple #[] ∧ M' = M := by
  first | (refine ctr_fn Try.func68 rfl Try.ntmps68 Try.results68 rfl rfl (by simp) ?_) | (refine ctr_fnC Try.func68 rfl Try.ntmps68 Try.results68 rfl (by simp) ?_)
  simp
  refine awCall_ctr (stable_nil (B := B)) ?_
  rintro r M2 ⟨rfl, rfl⟩
  try simp
theorem SortAcc_a {M : Mem} {B b : Nat} {v : Value} {l : List Note} (hA : Acc noteR 53 B M v l) (hb : b ≤ B) (hn : l.length ≤ 1000) (hv : ∀ x, x ∈ l → noteB x = true) :
    Ctr Try.prog b 68 [v, cmpV] M fun r M' => r = .tuple #[] ∧ ∃ l', l'.Perm l ∧ l'.Pairwise LeN ∧ Acc noteR 53 B M' v l' ∧ Same B M M' := by
  obtain ⟨A, n, c, rfl, hl, hA⟩ := hA
  rcases hA with ⟨rfl, rfl, rfl⟩ | ⟨id, t, rfl, hid, hr⟩
  · obtain rfl := nil_of_len hl
    refine SortStable_nil.mono ?_
    rintro r M' ⟨h1, h2⟩
    exact ⟨h1, [], .refl _, .nil, .nil, by rw [h2]; exact .refl _ _⟩
  · refine (SortStable_a (B := b) (c := c) hr (by omega) hl (by omega) hv).mono ?_
    rintro r M' ⟨h1, l', p, s, h2⟩
    refine ⟨h1, l', p, s, ⟨_, n, c, rfl, by rw [p.length_eq, hl], .inr ⟨id, t, rfl, hid, ?_⟩⟩, ?_, ?_⟩
    · rw [h2]; exact stN_row (List.getElem?_eq_some_iff.1 hr).1
    · rw [h2, stN_len]; exact Nat.le_refl _
    · intro i s hi hs
      rw [h2]
      unfold stN
      rw [List.getElem?_set_ne (by omega)]
      exact hs
theorem sorted_i {M : Mem} {A : Option Addr} {n c : Nat} {l : List Note} (h : Sl noteR M A n l) (hn : n ≤ 1000) (hv : ∀ x, x ∈ l → noteB x = true) :
    Ctr Try.prog M.length 38 [.slice A n c] M fun r M' => ∃ l', l'.Perm l ∧ l'.Pairwise LeN ∧ Acc noteR 53 M.length M' r l' ∧ Keeps M M' := by
  first | (refine ctr_fn Try.func38 rfl Try.ntmps38 Try.results38 rfl rfl (by simp) ?_) | (refine ctr_fnC Try.func38 rfl Try.ntmps38 Try.results38 rfl (by simp) ?_)
  simp
  refine awCall_ctr ((CloneNote_a (c := c) h (by omega)).weaken (by simp)) ?_
  rintro v M1 ⟨hA, hk⟩
  try simp
  refine awCall_ctr ((SortAcc_a (b := M.length) hA (Nat.le_refl _) (by have := h.1; omega) hv).weaken (by simp)) ?_
  rintro r M2 ⟨rfl, l', p, s, hA2, hS⟩
  try simp
  exact ⟨l', p, s, hA2, hS.keeps hk (Nat.le_refl _)⟩
end Go.Proofs.Ytbpaeonfebmomaa

namespace Go.Proofs.Ytbpaeonfebmomaa
open Go.RowKit
set_option linter.unusedVariables false
set_option linter.unusedSimpArgs false
set_option maxRecDepth 100000
attribute [local simp] List.getElem?_cons_zero
attribute [local irreducible] awCond awCall awLoop awDraw ow retQ retC resQ Keeps
abbrev sndV (o k : Int) : Value := .agg #[iv o, iv k]
theorem lit_wf {o : Int} (ho : 0 ≤ o ∧ o ≤ 1000) : (Lit.int .i64 o).wf = true := by
  have h1 : IntKind.i64.min = -9223372036854775808 := by decide
  have h2 : IntKind.i64.max = 9223372036854775807 := by decide
  simp only [Lit.wf, h1, h2, Bool.and_eq_true, decide_eq_true_eq]
  omega
theorem snd_lits {n : Nat} (o k : Int) (ho : 0 ≤ o ∧ o ≤ 1000) (hk : 0 ≤ k ∧ k ≤ 1000) : Try.prog.keyLits (n + 2) 75 [iv o, iv k] = some [.int .i64 o, .int .i64 k] := by
  have e2 : Try.prog.cellsOf 2 = 1 := by kernel_rfl
  have e75 : Try.prog.cellsOf 75 = 2 := by kernel_rfl
  have u2 : Try.prog.underlying 2 = some (.int .i64) := by kernel_rfl
  have in2 : ∀ x : Int, 0 ≤ x ∧ x ≤ 1000 → Try.prog.keyLits (n + 1) 2 [iv x] = some [.int .i64 x] := fun x hx => by
    unfold Program.keyLits
    rw [u2]
    simp [lit_wf hx]
  unfold Program.keyLits
  rw [Try.underlying75]
  simp [e2, e75, in2 o ho, in2 k hk]
theorem snd_keyOf (o k : Int) (ho : 0 ≤ o ∧ o ≤ 1000) (hk : 0 ≤ k ∧ k ≤ 1000) : ∃ l, keyOf Try.prog 75 (sndV o k) = some l := by
  have h1 : Try.prog.keyType 75 = true := by kernel_rfl
  have h2 : (sndV o k).formed Try.prog 75 = true := by kernel_rfl
  obtain ⟨n, hn⟩ : ∃ n, Try.prog.types.size = n + 1 := ⟨Try.prog.types.size - 1, by decide +kernel⟩
  unfold keyOf
  rw [Try.underlying75]
  simp only [h1, h2, Bool.and_self, if_true]
  have := snd_lits (n := n) o k ho hk
  rw [hn, show (sndV o k).cells.toList = [iv o, iv k] from rfl, this]
  exact ⟨_, rfl⟩
theorem snd_law : WideMaps.KeyLaw Try.prog 75 := Go.deep_law (m := 5) (by omega) (by kernel_rfl) (by kernel_rfl) (by rw [Try.underlying75])
open Classical in
theorem findE_none {k : Value} : ∀ (l : List (Value × Value)) (i : Nat), (∀ e ∈ l, e.1 ≠ k) → findE k l i = none
  | [], _, _ => rfl
  | e :: es, i, h => by
    rw [findE, if_neg (h e (by simp))]
    exact findE_none es (i + 1) fun x hx => h x (by simp [hx])
open Classical in
theorem findE_at {k : Value} : ∀ (l : List (Value × Value)) (i j : Nat) (e : Value × Value), l[j]? = some e → e.1 = k → (∀ q x, q < j → l[q]? = some x → x.1 ≠ k) → findE k l i = some (i + j, e.2)
  | [], _, _, _, h, _, _ => by simp at h
  | x :: es, i, 0, e, h, hk, _ => by
    simp at h; subst h
    rw [findE, if_pos hk]; rfl
  | x :: es, i, j + 1, e, h, hk, hn => by
    rw [findE, if_neg (hn 0 x (by omega) (by simp)), findE_at es (i + 1) j e (by simpa using h) hk fun q y hq hy => hn (q + 1) y (by omega) (by simpa using hy), show i + 1 + j = i + (j + 1) by omega]
theorem snd_keyLaw (o k : Int) (ho : 0 ≤ o ∧ o ≤ 1000) (hk : 0 ≤ k ∧ k ≤ 1000) (ks : List Value) (hks : ∀ x ∈ ks, ∃ o k : Int, x = sndV o k ∧ (0 ≤ o ∧ o ≤ 1000) ∧ (0 ≤ k ∧ k ≤ 1000)) (hnd : ks.Nodup) : KeyLawP Try.prog 75 (sndV o k) ks := by
  obtain ⟨lx, hx⟩ := snd_keyOf o k ho hk
  refine ⟨fun e w => snd_law.check w e hx, fun m w hm => ?_⟩
  have hall : ∀ e ∈ m, ∃ l, keyOf Try.prog 75 e.key = some l := fun e he => by
    obtain ⟨o', k', e1, h1, h2⟩ := hks e.key (by rw [← hm]; exact List.mem_map_of_mem he)
    rw [e1]
    exact snd_keyOf o' k' h1 h2
  have hnd' : (m.map (·.key)).Nodup := by rw [hm]; exact hnd
  rcases snd_law.find w hx m hall with ⟨h1, h2⟩ | ⟨j, e, h1, h2, h3⟩
  · rw [h1, findE_none]
    intro e he
    obtain ⟨x, hx, rfl⟩ := List.mem_map.1 he
    exact h2 x hx
  · rw [h1, findE_at _ 0 j (e.key, e.val) (by simp [h2]) h3 fun q x hq hxq => ?_, Nat.zero_add]
    intro hh
    rw [List.getElem?_map] at hxq
    cases hmq : m[q]? with
    | none => rw [hmq] at hxq; cases hxq
    | some y =>
      rw [hmq] at hxq
      simp at hxq
      subst hxq
      have a1 : (m.map (·.key))[q]? = some (sndV o k) := by rw [List.getElem?_map, hmq]; simp; exact hh
      have a2 : (m.map (·.key))[j]? = some (sndV o k) := by rw [List.getElem?_map, h2]; simp; exact h3
      have hql := (List.getElem?_eq_some_iff.1 a1).1
      have := (List.getElem?_inj hql hnd').1 (a1.trans a2.symm)
      omega
end Go.Proofs.Ytbpaeonfebmomaa

namespace Go.Proofs.Ytbpaeonfebmomaa
open Go.RowKit
set_option linter.unusedVariables false
set_option linter.unusedSimpArgs false
theorem awDraw_W {P : Program} {b : Nat} {ops : List Oper} {Q : St → Prop} {S : St} (mem : (Nat → Bool) → Mem) (φ : Nat → Value)
    (h1 : P.follows .mixedOrders = true) (h2 : drawBack ⟨ops⟩ = true) (h3 : dstOnce ⟨ops⟩ = true) (h0 : S.M = mem fun _ => false)
    (hstep : ∀ (X : Nat → Bool) (k : Nat) (o : Oper) (T : List (Nat × Value)) (K : Value → Mem → Prop), X k = false → (∀ j d, edge ops k j = true → dstOf ⟨ops⟩ j = some d → look T d = some (φ j)) → (∀ t, noDst ⟨ops⟩ t = true → look T t = look S.T t) → ops[k]? = some o →
      (∀ v, (v = φ k ∨ dstOf ⟨ops⟩ k = none) → K v (mem (upX X k))) → sOp P false b o ⟨S.n, T, mem X⟩ K)
    (hend : ∀ (X : Nat → Bool) (T : List (Nat × Value)), (∀ k, k < ops.length → X k = true) → (∀ t, noDst ⟨ops⟩ t = true → look T t = look S.T t) → Q ⟨S.n, T, mem X⟩) : awDraw P b ⟨ops⟩ Q S := by
  refine awDraw_G (fun X γ M => M = mem X ∧ ∀ k, X k = true → dstOf ⟨ops⟩ k ≠ none → γ k = φ k) h1 h2 h3 (fun γ => ⟨h0, fun k h => by cases h⟩) ?_ ?_
  · intro X γ T M k o K hC hT hG ho hX ha hK
    obtain ⟨rfl, hγ⟩ := hG
    refine hstep X k o T K hX (fun j d he hd => ?_) (fun t ht => hT.frame' t ht) ho fun v hv => hK v _ ⟨rfl, fun j hj hd => ?_⟩
    · have hj := edge_ahead ho ha j he
      rw [← hγ j hj (by rw [hd]; simp)]
      exact hT.done j d hj hd
    · by_cases e : j = k
      · subst e
        rw [show upG γ j v j = v by simp [upG]]
        exact hv.resolve_right hd
      · rw [upX_ne e] at hj
        rw [upG_ne e]
        exact hγ j hj hd
  · intro X γ T M hX hT hG
    obtain ⟨rfl, hγ⟩ := hG
    exact hend X T hX (fun t ht => hT.frame' t ht)
/-- The same, with guarded operations; the values are told at the end. -/
theorem awDraw_WG {P : Program} {b : Nat} {ops : List Oper} {Q : St → Prop} {S : St} (mem : (Nat → Bool) → Mem) (φ : Nat → Value)
    (h1 : P.follows .mixedOrders = true) (h2 : drawBackG ⟨ops⟩ = true) (h3 : dstOnce ⟨ops⟩ = true) (h0 : S.M = mem fun _ => false)
    (hstep : ∀ (X : Nat → Bool) (k : Nat) (o : Oper) (T : List (Nat × Value)) (K : Value → Mem → Prop), X k = false → (∀ j, edge ops k j = true → X j = true) → (∀ j d, edge ops k j = true → dstOf ⟨ops⟩ j = some d → look T d = some (φ j)) → (∀ t, noDst ⟨ops⟩ t = true → look T t = look S.T t) → ops[k]? = some o →
      (∀ v, (v = φ k ∨ dstOf ⟨ops⟩ k = none) → K v (mem (upX X k))) → awG ⟨ops⟩ o ⟨S.n, T, mem X⟩ (sOp P false b o ⟨S.n, T, mem X⟩ K) (K undef (mem X)))
    (hend : ∀ (X : Nat → Bool) (T : List (Nat × Value)), (∀ k, k < ops.length → X k = true) → (∀ k d, k < ops.length → dstOf ⟨ops⟩ k = some d → look T d = some (φ k)) → (∀ t, noDst ⟨ops⟩ t = true → look T t = look S.T t) → Q ⟨S.n, T, mem X⟩) : awDraw P b ⟨ops⟩ Q S := by
  refine awDraw_GG (fun X γ M => M = mem X ∧ ∀ k, X k = true → dstOf ⟨ops⟩ k ≠ none → γ k = φ k) h1 h2 h3 (fun γ => ⟨h0, fun k h => by cases h⟩) ?_ ?_
  · intro X γ T M k o K hC hT hG ho hX ha hK
    obtain ⟨rfl, hγ⟩ := hG
    refine hstep X k o T K hX (fun j he => edge_ahead ho ha j he) (fun j d he hd => ?_) (fun t ht => hT.frame' t ht) ho fun v hv => hK v _ ⟨rfl, fun j hj hd => ?_⟩
    · have hj := edge_ahead ho ha j he
      rw [← hγ j hj (by rw [hd]; simp)]
      exact hT.done j d hj hd
    · by_cases e : j = k
      · subst e
        rw [show upG γ j v j = v by simp [upG]]
        exact hv.resolve_right hd
      · rw [upX_ne e] at hj
        rw [upG_ne e]
        exact hγ j hj hd
  · intro X γ T M hX hT hG
    obtain ⟨rfl, hγ⟩ := hG
    exact hend X T hX (fun k d hk hd => by rw [← hγ k (hX k hk) (by rw [hd]; simp)]; exact hT.done k d (hX k hk) hd) (fun t ht => hT.frame' t ht)
theorem awG_none {ops : Array Oper} {o : Oper} {S : St} {A B : Prop} (h : o.guard = none) (hA : A) : awG ops o S A B := by
  unfold awG
  rw [h]
  exact hA
theorem awG_some {ops : Array Oper} {o : Oper} {S : St} {A B : Prop} {j d : Nat} {w y : Bool} (h : o.guard = some (j, w)) (hd : dstOf ops j = some d) (hg : S.get d = some (.bool y)) (hA : y = w → A) (hB : y = !w → B) : awG ops o S A B := by
  unfold awG
  rw [h]
  simp only
  rw [hd]
  exact ow_iff.2 ⟨_, hg, hA, hB⟩
end Go.Proofs.Ytbpaeonfebmomaa

namespace Go.Proofs.Ytbpaeonfebmomaa
open Go.RowKit
set_option linter.unusedVariables false
set_option linter.unusedSimpArgs false
set_option maxRecDepth 100000
attribute [local simp] List.getElem?_cons_zero
attribute [local irreducible] awCond awCall awLoop awDraw ow retQ retC resQ Keeps
def ScR (M : Mem) (w : List Note × Int) (r : Value) (M' : Mem) : Prop := ∃ v0, r = .tuple #[.agg #[v0], iv w.2] ∧ OwL noteR M.length M'.length M' v0 w.1 ∧ Keeps M M'
theorem ScR.no {M M' : Mem} {e : Int} (h : Keeps M M') : ScR M ([], e) (.tuple #[.agg #[.slice none 0 0], iv e]) M' := ⟨_, rfl, OwL.nil, h⟩
abbrev begV (x : Opn) : Value := .agg #[iv x.t, iv x.u]
def entO (os : List Opn) : List (Value × Value) := os.map fun x => (sndV x.o x.k, begV x)
set_option maxHeartbeats 4000000 in
theorem n_build7 (x y z w : Int) (a b c : Int) : Instr.fill (fun x => [(0, 2), (2, 2), (4, 1), (5, 1), (6, 1)][x]?) #[iv 0, iv 0, iv 0, iv 0, iv 0, iv 0, iv 0] [(0, .agg #[iv x, iv y]), (1, .agg #[iv z, iv w]), (2, iv a), (3, iv b), (4, iv c)] = some #[iv x, iv y, iv z, iv w, iv a, iv b, iv c] := by kernel_rfl
set_option maxHeartbeats 1000000 in
theorem noteOf_i {M : Mem} (e : StreamEvent) (x : Opn) (now D : Int) (hx : x.o = e.o ∧ x.k = e.k) (ht : 0 ≤ x.t ∧ x.t ≤ 1000000000000) (hn : 0 ≤ now ∧ now ≤ 1000000000000) (hD : 1 ≤ D ∧ D ≤ 960) :
    Det Try.prog M.length 37 [e.v, begV x, iv now, iv D] M (.tuple #[(mkN D x now).v, .bool (okM D x now)]) M := by
  first | (refine det_fn Try.func37 rfl Try.ntmps37 Try.results37 rfl rfl rfl (by simp) ?_) | (refine det_fnC Try.func37 rfl Try.ntmps37 Try.results37 rfl rfl (by simp) ?_)
  simp (disch := omega) [wrap_in]
  refine awCall_det' (MakeFrac_i x.t D (by omega) (by omega) (by omega) (by omega)) (by simp only [List.length_append]; omega) ?_
  simp (disch := omega) [wrap_in]
  refine awCall_det' (MakeFrac_i (now - x.t) D (by omega) (by omega) (by omega) (by omega)) (by simp only [List.length_append]; omega) ?_
  simp (disch := omega) [wrap_in, n_build7]
  obtain ⟨N, hN⟩ : ∃ N, N = mkN D x now := ⟨_, rfl⟩
  obtain ⟨c1, hc1⟩ : ∃ c1, c1 = (mkF x.t D).2 := ⟨_, rfl⟩
  obtain ⟨c2, hc2⟩ : ∃ c2, c2 = (mkF (now - x.t) D).2 := ⟨_, rfl⟩
  have hok : okM D x now = (decide (c1 = 0) && decide (c2 = 0) && noteB N) := by unfold okM; rw [hN, hc1, hc2, Bool.and_assoc]
  have hNv : N.v = Value.agg #[iv (mkF x.t D).1.n, iv (mkF x.t D).1.d, iv (mkF (now - x.t) D).1.n, iv (mkF (now - x.t) D).1.d, iv e.k, iv x.u, iv e.o] := by rw [hN, ← hx.1, ← hx.2]; rfl
  have hNr : N.row = [iv (mkF x.t D).1.n, iv (mkF x.t D).1.d, iv (mkF (now - x.t) D).1.n, iv (mkF (now - x.t) D).1.d, iv e.k, iv x.u, iv e.o] := by rw [hN, ← hx.1, ← hx.2]; rfl
  rw [← hN, hok, ← hc1, ← hc2, ← hNv, ← hNr]
  generalize Slot.live ⟨[iv e.d, iv e.j, iv e.o, iv e.k, iv e.u], true, true, 69, 5⟩ = r0
  generalize Slot.live ⟨[iv x.t, iv x.u], true, true, 77, 2⟩ = r1
  generalize Slot.live ⟨[iv (mkF x.t D).1.n, iv (mkF x.t D).1.d], true, true, 51, 2⟩ = r3
  generalize Slot.live ⟨[iv (mkF (now - x.t) D).1.n, iv (mkF (now - x.t) D).1.d], true, true, 51, 2⟩ = r4
  obtain ⟨zN, hzN⟩ : ∃ zN : List Value, zN = [iv 0, iv 0, iv 0, iv 0, iv 0, iv 0, iv 0] := ⟨_, rfl⟩
  have hload : ∀ X : Nat → Bool, cellsAt (M ++ [r0, r1, .live ⟨if X 11 = true then N.row else zN, true, true, 53, 7⟩, r3, r4, .live ⟨N.row, true, true, 53, 7⟩]) (M.length + 5) 0 7 = some [iv N.an, iv N.ad, iv N.ln, iv N.ld, iv N.k, iv N.u, iv N.o] := by
    intro X
    simp [cellsAt, Note.row]
  rw [← hzN]
  refine awDraw_WG (fun X => M ++ [r0, r1, .live ⟨if X 11 = true then N.row else zN, true, true, 53, 7⟩, r3, r4, .live ⟨N.row, true, true, 53, 7⟩]) (fun k => match k with
    | 0 => N.v
    | 1 => iv c1
    | 2 => .bool (decide (c1 = 0))
    | 3 => .bool (decide (c1 = 0))
    | 4 => if c1 = 0 then iv c2 else undef
    | 5 => if c1 = 0 then .bool (decide (c2 = 0)) else undef
    | 6 => .bool (decide (c1 = 0) && decide (c2 = 0))
    | 7 => .bool (decide (c1 = 0) && decide (c2 = 0))
    | 8 => if c1 = 0 ∧ c2 = 0 then N.v else undef
    | 9 => if c1 = 0 ∧ c2 = 0 then .bool (noteB N) else undef
    | 10 => .bool (decide (c1 = 0) && decide (c2 = 0) && noteB N)
    | 11 => undef
    | 12 => .bool (decide (c1 = 0) && decide (c2 = 0) && noteB N)
    | _ => undef) (by kernel_rfl) (by decide +kernel) (by decide +kernel) (by simp) ?_ ?_
  · intro X k o T K hX hd hp hf ho hK
    have g14 := hf 14 (by decide +kernel)
    have g11 := hf 11 (by decide +kernel)
    have g13 := hf 13 (by decide +kernel)
    have g8 := hf 8 (by decide +kernel)
    simp at g14 g11 g13 g8
    rcases k with _ | _ | _ | _ | _ | _ | _ | _ | _ | _ | _ | _ | _ | k
    · simp at ho; subst ho
      refine awG_none rfl ?_
      simp [g14, g11, g13, g8, hload X]
      have := hK _ (.inl rfl)
      simpa [upX] using this
    · simp at ho; subst ho
      refine awG_none rfl ?_
      simp [g14, g11, g13, g8, hload X]
      have := hK _ (.inl rfl)
      simpa [upX] using this
    · simp at ho; subst ho
      have p1 := hp 1 41 (by decide +kernel) rfl
      simp only at p1
      refine awG_none rfl ?_
      simp [g14, g11, g13, g8, hload X, p1]
      have := hK _ (.inl rfl)
      simpa [upX] using this
    · simp at ho; subst ho
      have p2 := hp 2 42 (by decide +kernel) rfl
      simp only at p2
      refine awG_none rfl ?_
      simp [g14, g11, g13, g8, hload X, p2]
      have := hK _ (.inl rfl)
      simpa [upX] using this
    · simp at ho; subst ho
      have p3 := hp 3 43 (by decide +kernel) rfl
      simp only at p3
      refine awG_some (j := 3) (d := 43) (w := true) (y := decide (c1 = 0)) rfl rfl (by simp [p3]) (fun hy => ?_) (fun hy => ?_)
      · simp at hy
        simp [hy, g14, g11, g13, g8, hload X]
        have := hK _ (.inl rfl)
        simpa [upX, hy] using this
      · have := hK undef (.inl (by simp at hy; simp; first | exact fun a => absurd a hy | exact fun a b => absurd b (hy a)))
        simpa [upX] using this
    · simp at ho; subst ho
      have p4 := hp 4 44 (by decide +kernel) rfl
      have p3 := hp 3 43 (by decide +kernel) rfl
      simp only at p4 p3
      refine awG_some (j := 3) (d := 43) (w := true) (y := decide (c1 = 0)) rfl rfl (by simp [p3]) (fun hy => ?_) (fun hy => ?_)
      · simp at hy
        simp [hy, g14, g11, g13, g8, hload X, p4]
        have := hK _ (.inl rfl)
        simpa [upX, hy] using this
      · have := hK undef (.inl (by simp at hy; simp; first | exact fun a => absurd a hy | exact fun a b => absurd b (hy a)))
        simpa [upX] using this
    · simp at ho; subst ho
      have p3 := hp 3 43 (by decide +kernel) rfl
      have p5 := hp 5 45 (by decide +kernel) rfl
      simp only at p3 p5
      refine awG_none rfl ?_
      have := hK _ (.inl rfl)
      by_cases e1 : c1 = 0 <;> by_cases e2 : c2 = 0 <;> simp [p3, p5, e1, e2] <;> simpa [upX, e1, e2] using this
    · simp at ho; subst ho
      have p6 := hp 6 46 (by decide +kernel) rfl
      simp only at p6
      refine awG_none rfl ?_
      simp [g14, g11, g13, g8, hload X, p6]
      have := hK _ (.inl rfl)
      simpa [upX] using this
    · simp at ho; subst ho
      have p7 := hp 7 47 (by decide +kernel) rfl
      simp only at p7
      refine awG_some (j := 7) (d := 47) (w := true) (y := (decide (c1 = 0) && decide (c2 = 0))) rfl rfl (by simp [p7]) (fun hy => ?_) (fun hy => ?_)
      · simp at hy
        simp [hy, g14, g11, g13, g8, hload X]
        have := hK _ (.inl rfl)
        simpa [upX, hy] using this
      · have := hK undef (.inl (by simp at hy; simp; first | exact fun a => absurd a hy | exact fun a b => absurd b (hy a)))
        simpa [upX] using this
    · simp at ho; subst ho
      have p8 := hp 8 48 (by decide +kernel) rfl
      have p7 := hp 7 47 (by decide +kernel) rfl
      simp only at p8 p7
      refine awG_some (j := 7) (d := 47) (w := true) (y := (decide (c1 = 0) && decide (c2 = 0))) rfl rfl (by simp [p7]) (fun hy => ?_) (fun hy => ?_)
      · simp at hy
        simp [hy] at p8
        simp [p8]
        refine awCall_det' (isNote_i N) (by simp) ?_
        have := hK _ (.inl rfl)
        simpa [upX, hy] using this
      · have := hK undef (.inl (by simp at hy; simp; first | exact fun a => absurd a hy | exact fun a b => absurd b (hy a)))
        simpa [upX] using this
    · simp at ho; subst ho
      have p7 := hp 7 47 (by decide +kernel) rfl
      have p9 := hp 9 49 (by decide +kernel) rfl
      simp only at p7 p9
      refine awG_none rfl ?_
      have := hK _ (.inl rfl)
      by_cases e1 : c1 = 0 <;> by_cases e2 : c2 = 0 <;> simp [p7, p9, e1, e2] <;> simpa [upX, e1, e2] using this
    · simp at ho; subst ho
      have p0 := hp 0 40 (by decide +kernel) rfl
      simp only at p0
      refine awG_none rfl ?_
      simp [g8, p0]
      have := hK undef (.inr rfl)
      refine ⟨by split <;> simp [Note.row, hzN], ?_⟩
      have hset : (((((((if X 11 = true then N.row else zN).set 0 (iv N.an)).set 1 (iv N.ad)).set 2 (iv N.ln)).set 3 (iv N.ld)).set 4 (iv N.k)).set 5 (iv N.u)).set 6 (iv N.o) = N.row := by split <;> simp [Note.row, hzN]
      rw [hset]
      simpa [upX] using this
    · simp at ho; subst ho
      have p10 := hp 10 50 (by decide +kernel) rfl
      simp only at p10
      refine awG_none rfl ?_
      simp [g14, g11, g13, g8, hload X, p10]
      have := hK _ (.inl rfl)
      simpa [upX] using this
    · simp at ho
  · intro X T hX hv hf
    have g8 := hf 8 (by decide +kernel)
    have v9 := hv 12 9 (by decide) rfl
    have hX11 := hX 11 (by decide)
    simp at g8 v9
    simp [g8, v9, hX11, Note.row, keeps_app]
end Go.Proofs.Ytbpaeonfebmomaa

namespace Go.Proofs.Ytbpaeonfebmomaa
open Go.RowKit
set_option linter.unusedVariables false
set_option linter.unusedSimpArgs false
set_option maxRecDepth 100000
attribute [local simp] List.getElem?_cons_zero
attribute [local irreducible] awCond awCall awLoop awDraw ow retQ retC resQ Keeps
theorem okE_elX {l : List StreamEvent} (h : okE l = true) {i : Nat} (hi : i < l.length) : eventB (el l i) = true := by
  unfold okE at h
  simp only [Bool.and_eq_true] at h
  exact List.all_eq_true.1 h.2 _ (el_mem hi)
theorem okE_lenX {l : List StreamEvent} (h : okE l = true) : l.length ≤ 200 := by
  unfold okE at h
  simp only [Bool.and_eq_true, decide_eq_true_eq] at h
  exact h.1
theorem len_mp {P : Program} {S : St} {K : Value → Mem → Prop} {t kt et : TypeId} {r id : Nat} {es : List (Value × Value)} (hu : P.underlying t = some (.map kt et)) (hm : S.M[id]? = some (.mp r es)) (hK : K (.int .i64 ((es.length : Nat) : Int)) S.M) : lenK P S K t (.map (some r)) := by
  unfold lenK
  rw [hu]
  exact ⟨id, es, hm, hK⟩
theorem snd_build (a b : Int) : Instr.fill (fun x => [(0, 1), (1, 1)][x]?) #[iv 0, iv 0] [(0, iv a), (1, iv b)] = some #[iv a, iv b] := by rfl
theorem snd_inj {o k o' k' : Int} : sndV o k = sndV o' k' ↔ o = o' ∧ k = k' := by
  constructor
  · intro h
    simp at h
    exact h
  · rintro ⟨rfl, rfl⟩; rfl
theorem ent_get {os : List Opn} {i : Nat} (hi : i < os.length) : (entO os)[i]? = some (sndV (el os i).o (el os i).k, begV (el os i)) := by
  unfold entO
  rw [List.getElem?_map, List.getElem?_eq_getElem hi, el_eq hi]
  rfl
theorem ent_inv {os : List Opn} {i : Nat} {x : Value × Value} (h : (entO os)[i]? = some x) : i < os.length ∧ x = (sndV (el os i).o (el os i).k, begV (el os i)) := by
  have hi := (List.getElem?_eq_some_iff.1 h).1
  unfold entO at hi
  rw [List.length_map] at hi
  rw [ent_get hi] at h
  injection h with h
  exact ⟨hi, h.symm⟩
theorem ent_find {os : List Opn} {e : StreamEvent} : findE (sndV e.o e.k) (entO os) 0 = (fndO os e).map fun i => (i, begV (el os i)) := by
  cases hf : fndO os e with
  | none =>
    have hn := fndO_none hf
    rw [findE_none]
    · rfl
    · intro x hx he
      unfold entO at hx
      obtain ⟨y, hy, rfl⟩ := List.mem_map.1 hx
      exact hn y hy (snd_inj.1 he)
  | some i =>
    obtain ⟨h1, h2, h3⟩ := fndO_some hf
    have hq := hf
    unfold fndO at hq
    obtain ⟨q1, q2, q3⟩ := List.findIdx?_eq_some_iff_getElem.1 hq
    rw [findE_at (entO os) 0 i _ (ent_get h1) (snd_inj.2 ⟨h2, h3⟩) fun q x hlt hx he => ?_]
    · simp
    · obtain ⟨g1, rfl⟩ := ent_inv hx
      have := q3 q hlt
      rw [el_eq g1] at this
      rw [snd_inj] at he
      exact this (Opn.is_iff.2 he)
theorem ent_keys {D now : Int} {os : List Opn} {ns : List Note} (hI : InvO D now os ns) {e : StreamEvent} (he : eventB e = true) : KeyLawP Try.prog 75 (sndV e.o e.k) ((entO os).map (·.1)) := by
  unfold eventB at he
  simp only [Bool.and_eq_true] at he
  have b2 := inB_iff.1 he.1.1.2
  have b3 := inB_iff.1 he.1.2
  refine snd_keyLaw _ _ (by omega) (by omega) _ (fun x hx => ?_) ?_
  · obtain ⟨y, hy, rfl⟩ := List.mem_map.1 hx
    unfold entO at hy
    obtain ⟨z, hz, rfl⟩ := List.mem_map.1 hy
    have := hI.bd z hz
    exact ⟨z.o, z.k, rfl, by omega, by omega⟩
  · unfold entO
    rw [List.map_map]
    refine List.Pairwise.map _ (fun a b hab => ?_) hI.keys
    intro hh
    exact hab (snd_inj.1 hh)
theorem ent_plain {os : List Opn} : ∀ e ∈ entO os, plainD e.2 = true := by
  intro e he
  unfold entO at he
  obtain ⟨z, hz, rfl⟩ := List.mem_map.1 he
  simp [plainD, begV, plainV]
theorem beg_zero (w : World) : (zeroValue 77).run Try.prog w = .ok (.agg #[iv 0, iv 0]) w := by
  simp [Try.zeroValue77]
theorem end_box {M M' : Mem} {x : Value} {Q : Value → Mem → Prop} {c : Value} {u : Value} (hbox : M'[M.length]? = some (.live ⟨[u], true, true, 26, 1⟩)) (h1 : oneV x = true) (hQ : Q (.tuple #[.agg #[x], c]) (M'.set M.length (.live ⟨[x], true, true, 26, 1⟩))) :
    ow (putCells M.length M' M.length 0 [x]) fun M'' => ow (cellsAt M'' M.length 0 1) fun cs => Q (.tuple #[.agg cs.toArray, c]) M'' := by
  have hlt := (List.getElem?_eq_some_iff.1 hbox).1
  rw [put_whole (vs := [x]) hbox (Nat.le_refl _) rfl (by simp [h1])]
  refine ow_iff.2 ⟨_, rfl, ow_iff.2 ⟨[x], ?_, hQ⟩⟩
  simp [cellsAt, hlt]
theorem sos_err {D c : Int} {l : List StreamEvent} (hv0 : sosV l D = if (sosG D l 0 [] []).2 = 0 then (sortN (sosG D l 0 [] []).1, 0) else ([], (sosG D l 0 [] []).2)) (hg : sosG D l 0 [] [] = ([], c)) (hc : c ≠ 0) : sosV l D = ([], c) := by
  rw [hv0, hg]
  simp only
  rw [if_neg hc]
theorem note_oneN (N : Note) : (noteR.row N).all (fun u => u.oneCell') = true := by
  show ([iv N.an, iv N.ad, iv N.ln, iv N.ld, iv N.k, iv N.u, iv N.o] : List Value).all (fun u => u.oneCell') = true
  rfl
theorem map_erase {α β : Type} (f : α → β) : ∀ (l : List α) (i : Nat), (l.map f).eraseIdx i = (l.eraseIdx i).map f
  | [], _ => rfl
  | x :: l, 0 => rfl
  | x :: l, i + 1 => by simp [map_erase f l i]
theorem one_build (q : Option Addr) (n c : Nat) : Instr.fill (fun x => [(0, 1)][x]?) #[Value.slice none 0 0] [(0, .slice q n c)] = some #[.slice q n c] := by rfl
theorem Acc.set_apartS {α : Type} {k : Nat} {R : RecV α k} {e : TypeId} {B : Nat} {M : Mem} {v : Value} {l : List α} {i : Nat} {s : Slot} (h : Acc R e B M v l) (ha : Apart v i) : Acc R e B (M.set i s) v l := by
  obtain ⟨A, n, c, rfl, hl, hA⟩ := h
  refine ⟨A, n, c, rfl, hl, ?_⟩
  rcases hA with hA | ⟨id, t, rfl, hid, hr⟩
  · exact .inl hA
  · refine .inr ⟨id, t, rfl, hid, ?_⟩
    have := ha _ _ _ _ rfl rfl
    rw [List.getElem?_set_ne (by simpa using this)]
    exact hr
set_option maxHeartbeats 2000000 in
theorem ScoreOfStream_i {M : Mem} {A : Option Addr} {n c : Nat} {l : List StreamEvent} (D : Int) (h : Sl streamEventR M A n l) (hn : n ≤ 1048576) :
    Ctr Try.prog M.length 11 [.slice A n c, iv D] M fun r M' => ScR M (sosV l D) r M' := by
  have hl := h.1
  first | (refine ctr_fn Try.func11 rfl Try.ntmps11 Try.results11 rfl rfl (by simp) ?_) | (refine ctr_fnC Try.func11 rfl Try.ntmps11 Try.results11 rfl (by simp) ?_)
  simp
  refine awCall_det' (isStream_a (h.app _) (by omega)) (by simp) ?_
  by_cases hok : okE l = true
  case neg =>
    simp at hok
    simp [hok]
    have e : sosV l D = ([], 1) := by unfold sosV; rw [if_pos hok]
    rw [e]
    exact ScR.no (keeps_app _)
  simp [hok]
  refine awCall_det' (within_a _ _ _) (by simp) ?_
  by_cases hd : inB D 1 960 = true
  case neg =>
    simp at hd
    simp [hd]
    have e : sosV l D = ([], 2) := by unfold sosV; rw [if_neg (by simp [hok]), if_pos hd]
    rw [e]
    exact ScR.no (keeps_app _)
  simp [hd]
  intro r
  have hD := inB_iff.1 hd
  have h200 := okE_lenX hok
  have hall := fun i (hi : i < l.length) => okE_elX hok hi
  have hv0 : sosV l D = if (sosG D l 0 [] []).2 = 0 then (sortN (sosG D l 0 [] []).1, 0) else ([], (sosG D l 0 [] []).2) := by
    unfold sosV
    rw [if_neg (by simp [hok]), if_neg (by simp [hd])]
  refine awLoop_T (fun m T M' => ∃ (k : Nat) (v : Value) (now : Int) (os : List Opn) (ns : List Note), k + m = n ∧ Keeps M M' ∧ M'[M.length]? = some (.live ⟨[.slice none 0 0], true, true, 26, 1⟩) ∧ M'[M.length + 2]? = some (.mp r (entO os)) ∧ Apart v (M.length + 2) ∧
    Acc noteR 53 (M.length + 1) M' v ns ∧ InvO D now os ns ∧ (0 ≤ now ∧ now ≤ 268435455 * k) ∧ ns.length ≤ k ∧ os.length ≤ k ∧ sosG D l 0 [] [] = sosG D (l.drop k) now os ns ∧ look T 28 = some (iv k) ∧ look T 27 = some (iv n) ∧ look T 26 = some (.slice A n c) ∧ look T 8 = some (iv now) ∧ look T 7 = some (.map (some r)) ∧ look T 6 = some v ∧
    look T 5 = some (iv 0) ∧ look T 4 = some (.pointer (some ⟨M.length, 0, none⟩)) ∧ look T 1 = some (iv D)) n ⟨0, _, 0, [], [], by omega, keeps_app _, by simp, by simp [entO], ?_, ⟨_, 0, 0, rfl, rfl, .inr ⟨M.length + 1, true, rfl, Nat.le_refl _, by simp [cellsL]⟩⟩, .nil D, by omega, by simp, by simp, by simp, by simp, by simp, by simp, by simp, by simp, by simp, by simp, by simp, by simp⟩ ?_
  · intro A n c a e ea
    injection e with e1
    subst e1
    injection ea with ea
    subst ea
    show M.length + 2 ≠ M.length + 1
    omega
  rintro m T M1 ⟨k, v, now, os, ns, hm, kM, hbox, hmap, hap, hA, hI, hnow, hns, hos, hg, t28, t27, t26, t8, t7, t6, t5, t4, t1⟩
  have n1 := kM.len
  have hblt := (List.getElem?_eq_some_iff.1 hbox).1
  by_cases hlt : k < n
  case neg =>
    obtain rfl : k = n := by omega
    rw [List.drop_of_length_le (by omega)] at hg
    simp (disch := omega) [t28, t27, t26, t8, t7, t6, t5, t4, t1]
    refine len_mp (id := M.length + 2) (kt := 75) (et := 77) (by kernel_rfl) hmap ?_
    have hle : (entO os).length = os.length := by unfold entO; rw [List.length_map]
    rw [hle]
    rw [sosG] at hg
    by_cases h1 : os.length > 0
    · rw [if_pos h1] at hg
      simp (disch := omega) [t28, t27, t26, t8, t7, t6, t5, t4, t1, h1]
      refine end_box hbox rfl ?_
      rw [sos_err hv0 hg (by omega)]
      exact ScR.no (keeps_set kM (by omega))
    rw [if_neg h1] at hg
    simp (disch := omega) [t28, t27, t26, t8, t7, t6, t5, t4, t1, h1]
    obtain ⟨A1, n2, c2, rfl, hn2, hS1, ho1⟩ := hA.sl
    subst hn2
    by_cases h2 : ns.length > 60
    · rw [if_pos h2] at hg
      have h2' : (60 : Int) < ns.length := by omega
      simp (disch := omega) [t28, t27, t26, t8, t7, t6, t5, t4, t1, h2, h2']
      refine end_box hbox rfl ?_
      rw [sos_err hv0 hg (by omega)]
      exact ScR.no (keeps_set kM (by omega))
    rw [if_neg h2] at hg
    have h2' : ¬ (60 : Int) < ns.length := by omega
    simp (disch := omega) [t28, t27, t26, t8, t7, t6, t5, t4, t1, h2, h2']
    refine awCall_ctr ((sorted_i (c := c2) hS1 (by omega) hI.ok).weaken (by omega)) ?_
    rintro v3 M3 ⟨l', hp, hs, hA3, hk3⟩
    obtain ⟨A3, n3, c3, rfl, hn3, hS3, ho3⟩ := hA3.sl
    simp (disch := omega) [t5, t4, one_build]
    refine end_box (hk3.get hbox) ho3 ?_
    have e : sosV l D = (l', 0) := by
      rw [hv0, hg]
      simp only [if_true]
      rw [sortN_eq hp hs hI.tw]
    rw [e]
    have kF : Keeps M (M3.set M.length (.live ⟨[.slice A3 n3 c3], true, true, 26, 1⟩)) := keeps_set (kM.trans hk3) (by omega)
    exact ⟨_, rfl, (((hA3.set_ne (by omega)).low (by omega)).fresh (by have := hp.length_eq; rw [this]; omega) kF).ow.1, kF⟩
  have hlt' : (k : Int) < n := by omega
  obtain ⟨id, off, rfl, hz, hc⟩ := (h.keeps kM).at_ hlt
  have ld := streamEvent_load hc
  have hev := hall k (by omega)
  have hdr : l.drop k = el l k :: l.drop (k + 1) := drop_el (by omega)
  rw [hdr] at hg
  have hevX := hev
  unfold eventB at hevX
  simp only [Bool.and_eq_true] at hevX
  obtain ⟨⟨⟨hb1, hb2⟩, hb3⟩, hbj⟩ := hevX
  have hb1 := inB_iff.1 hb1
  have hb2 := inB_iff.1 hb2
  have hb3 := inB_iff.1 hb3
  have hnl := h.1
  simp (disch := omega) [t28, t27, t26, t8, t7, t6, t5, t4, t1, hlt, hlt', hz, ld, snd_build, wrap_in]
  obtain ⟨M2, hM2⟩ : ∃ M2 : Mem, M2 = M1 ++ [Slot.live ⟨[iv (el l k).d, iv (el l k).j, iv (el l k).o, iv (el l k).k, iv (el l k).u], true, true, 69, 5⟩, Slot.live ⟨[iv (el l k).o, iv (el l k).k], true, true, 75, 2⟩] := ⟨_, rfl⟩
  rw [← hM2]
  have k12 : Keeps M1 M2 := by rw [hM2]; exact keeps_app _
  have n2 : M2.length = M1.length + 2 := by rw [hM2]; simp
  have bx : Cl M2 M1.length 0 (el l k).row := fun j x hx => by rw [hM2]; simp [cellAt]; exact hx
  have by_ : cellsAt M2 (M1.length + 1) 0 2 = some [iv (el l k).o, iv (el l k).k] := by rw [hM2]; simp [cellsAt]
  have bz : M2[M1.length + 1]? = some (.live ⟨[iv (el l k).o, iv (el l k).k], true, true, 75, 2⟩) := by rw [hM2]; simp
  clear hM2
  obtain ⟨a0, a1, a2, a3, a4⟩ := streamEvent_cells bx
  have ld2 := streamEvent_load bx
  simp only [Nat.zero_add] at a1 a2 a3 a4
  have hmap2 := k12.get hmap
  have hbox2 := k12.get hbox
  have hA2 := hA.keeps k12
  refine ⟨M.length + 2, entO os, 75, 77, .agg #[iv 0, iv 0], by kernel_rfl, hmap2, by simp [plainD, plainV], ent_plain, ent_keys hI hev, by simp [plainD, plainV], beg_zero, ?_⟩
  rw [ent_find]
  rw [sosG] at hg
  cases hf : fndO os (el l k) with
  | none =>
    rw [hf] at hg
    simp only [Option.map_none]
    simp only at hg
    by_cases hj : (el l k).j = 1
    · rw [if_pos hj] at hg
      simp (disch := omega) [t28, t27, t26, t8, t7, t6, t5, t4, t1, cellAt_app a1, cellAt_app a4, hj, by_, cellsAt_app by_, snd_build]
      refine ⟨M.length + 2, entO os, 75, 77, by kernel_rfl, (keeps_app _).get hmap2, by omega, by simp [plainD, plainV], by simp [plainD, plainV], ent_keys hI hev, ?_, ?_⟩
      · rw [ent_find, hf]; rfl
      simp (disch := omega) [t28, t27, t26, t8, t7, t6, t5, t4, t1, wrap_in]
      have hI2 := hI.open_ hev hf hnow.1
      refine lpI (m - 1) (by omega) ?_
      refine ⟨k + 1, v, now + (el l k).d, os ++ [⟨(el l k).o, (el l k).k, now + (el l k).d, (el l k).u⟩], ns, by omega, (keeps_set (kM.trans k12) (by omega)).app _, ?_, ?_, hap, ?_, hI2, by omega, by omega, by simp; omega, hg, by simp, by simp [t27], by simp [t26], by simp, by simp [t7], by simp [t6], by simp [t5], by simp [t4], by simp [t1]⟩
      · rw [List.getElem?_append_left (by rw [List.length_set]; omega), List.getElem?_set_ne (by omega)]; exact hbox2
      · have hmlt := (List.getElem?_eq_some_iff.1 hmap2).1
        rw [List.getElem?_append_left (by rw [List.length_set]; omega), List.getElem?_set_self hmlt]
        simp [entO]
      · exact (hA2.set_apartS hap).keeps (keeps_app _)
    · rw [if_neg hj] at hg
      simp (disch := omega) [t28, t27, t26, t8, t7, t6, t5, t4, t1, cellAt_app a1, hj, hbox2]
      refine end_box ((keeps_app _).get hbox2) rfl ?_
      rw [sos_err hv0 hg (by omega)]
      exact ScR.no (keeps_set ((kM.trans k12).app _) (by omega))
  | some i =>
    rw [hf] at hg
    simp only [Option.map_some]
    simp only at hg
    by_cases hj : (el l k).j = 1
    · rw [if_pos hj] at hg
      simp (disch := omega) [t28, t27, t26, t8, t7, t6, t5, t4, t1, cellAt_app a1, cellAt_app a4, hj]
      refine end_box ((keeps_app _).get hbox2) rfl ?_
      rw [sos_err hv0 hg (by omega)]
      exact ScR.no (keeps_set ((kM.trans k12).app _) (by omega))
    · rw [if_neg hj] at hg
      simp (disch := omega) [t28, t27, t26, t8, t7, t6, t5, t4, t1, cellAt_app a1, hj, hbox2, cellsAt_app ld2]
      obtain ⟨f1, f2, f3⟩ := fndO_some hf
      have hlow := hI.low _ (el_mem f1)
      refine awCall_det' (noteOf_i (el l k) (el os i) (now + (el l k).d) D ⟨f2, f3⟩ (by omega) (by omega) hD) (by simp; omega) ?_
      by_cases hm : okM D (el os i) (now + (el l k).d) = true
      · rw [if_pos hm] at hg
        simp (disch := omega) [t28, t27, t26, t8, t7, t6, t5, t4, t1, hm]
        obtain ⟨N, hN⟩ : ∃ N, N = mkN D (el os i) (now + (el l k).d) := ⟨_, rfl⟩
        rw [← hN] at hg ⊢
        obtain ⟨M3, hM3⟩ : ∃ M3 : Mem, M3 = M2 ++ [Slot.live ⟨[iv (el os i).t, iv (el os i).u], true, true, 77, 2⟩, Slot.live ⟨[iv N.an, iv N.ad, iv N.ln, iv N.ld, iv N.k, iv N.u, iv N.o], true, true, 53, 7⟩, Slot.live ⟨[iv N.an, iv N.ad, iv N.ln, iv N.ld, iv N.k, iv N.u, iv N.o], true, true, 53, 7⟩] := ⟨_, rfl⟩
        rw [← hM3]
        have k23 : Keeps M2 M3 := by rw [hM3]; exact keeps_app _
        have n3 : M3.length = M2.length + 3 := by rw [hM3]; simp
        have hsrc : srcOf Try.prog M3 7 24 (.slice (some ⟨M2.length + 2, 0, none⟩) 1 1) = some (1, N.row) := by
          rw [hM3]
          simp [srcOf, cellsAt, Note.row, Try.underlying24]
        clear hM3
        refine (hA2.keeps k23).append2 (a := N) (by_ := 56) (by omega) (by simp only []; omega) (by omega) (by kernel_rfl) (by kernel_rfl) hsrc (note_oneN N) (by omega) (by unfold maxLen; omega) ?_
        intro v' M4 hA4 s4 hap4
        obtain ⟨hmap4, hap'⟩ := hap4 _ _ hap ((k23).get hmap2)
        have hbox4 := s4.2 M.length _ (by omega) (k23.get hbox2)
        have k4 := s4.keeps ((kM.trans k12).trans k23) (by omega)
        have n4 := s4.1
        obtain ⟨bz4, -⟩ := hap4 _ _ (hA.apart (i := M1.length + 1) (by omega)) (k23.get bz)
        have cz4 : cellsAt M4 (M1.length + 1) 0 2 = some [iv (el l k).o, iv (el l k).k] := by simp [cellsAt, bz4]
        simp (disch := omega) [t28, t27, t26, t8, t7, t6, t5, t4, t1, cz4]
        refine ⟨M.length + 2, entO os, 75, 77, i, begV (el os i), by kernel_rfl, hmap4, by omega, by simp [plainD, plainV], ent_keys hI hev, by rw [ent_find, hf]; rfl, ?_⟩
        simp (disch := omega) [t28, t27, t26, t8, t7, t6, t5, t4, t1, wrap_in]
        have hI2 := hI.close hD.1 hev hf hnow.1 hm
        rw [← hN] at hI2
        refine lpI (m - 1) (by omega) ?_
        refine ⟨k + 1, v', now + (el l k).d, os.eraseIdx i, ns ++ [N], by omega, keeps_set k4 (by omega), ?_, ?_, hap', hA4.set_apartS hap', hI2, by omega, by simp; omega, by rw [List.length_eraseIdx_of_lt f1]; omega, hg, by simp, by simp [t27], by simp [t26], by simp, by simp [t7], by simp, by simp [t5], by simp [t4], by simp [t1]⟩
        · rw [List.getElem?_set_ne (by omega)]; exact hbox4
        · rw [List.getElem?_set_self ((List.getElem?_eq_some_iff.1 hmap4).1)]
          congr 2
          unfold entO
          rw [map_erase]
      · rw [if_neg hm] at hg
        simp (disch := omega) [t28, t27, t26, t8, t7, t6, t5, t4, t1, hm]
        refine end_box ((keeps_app _).get hbox2) rfl ?_
        rw [sos_err hv0 hg (by omega)]
        exact ScR.no (keeps_set ((kM.trans k12).app _) (by omega))
end Go.Proofs.Ytbpaeonfebmomaa

namespace Go.Proofs.Ytbpaeonfebmomaa
open Go.RowKit
set_option linter.unusedVariables false
set_option linter.unusedSimpArgs false
set_option maxRecDepth 100000
attribute [local simp] List.getElem?_cons_zero
attribute [local irreducible] awCond awCall awLoop awDraw ow retQ retC resQ Keeps
set_option maxHeartbeats 2000000 in
theorem l18Make_a {M : Mem} {A : Option Addr} {n c : Nat} {l : List Note} (h : Sl noteR M A n l) (hn : n ≤ 1000) (hc : A = none → c = 0) (hv : ∀ x, x ∈ l → noteB x = true) (ht : l.Pairwise fun x y => ordN x y ≠ 0) :
    Ctr Try.prog M.length 74 [.slice A n c] M fun r M' => ScR M (sortN l, 0) r M' := by
  have hl := h.1
  first | (refine ctr_fn Try.func74 rfl Try.ntmps74 Try.results74 rfl rfl (by simp) ?_) | (refine ctr_fnC Try.func74 rfl Try.ntmps74 Try.results74 rfl (by simp) ?_)
  simp
  obtain ⟨M0, hM0⟩ : ∃ M0 : Mem, M0 = M ++ [Slot.live ⟨[.slice none 0 0], true, true, 26, 1⟩] := ⟨_, rfl⟩
  rw [← hM0]
  have k0 : Keeps M M0 := by rw [hM0]; exact keeps_app _
  have l0 : M0.length = M.length + 1 := by rw [hM0]; simp
  have b0 : M0[M.length]? = some (Slot.live ⟨[.slice none 0 0], true, true, 26, 1⟩) := by rw [hM0]; simp
  clear hM0
  have h0 := h.keeps k0
  refine awLoop_T (fun m T M' => ∃ k : Nat, k + m = n ∧ M' = M0 ∧ look T 4 = some (iv k) ∧ look T 3 = some (iv 0) ∧ look T 2 = some (.pointer (some ⟨M.length, 0, none⟩)) ∧ look T 0 = some (.slice A n c)) n ⟨0, by omega, rfl, by simp, by simp, by simp, by simp⟩ ?_
  rintro m T M1 ⟨k, hm, rfl, t4, t3, t2, t0⟩
  by_cases hlt : k < n
  · obtain ⟨id, off, rfl, hz, hcl⟩ := h0.at_ hlt
    have hlt' : (k : Int) < n := by omega
    simp (disch := omega) [t4, t3, t2, t0, hlt, hlt', hz]
    refine awCall_det' (l18Note_a hcl) (by omega) ?_
    have := hv _ (el_mem (show k < l.length by omega))
    simp (disch := omega) [t4, t3, t2, t0, this, wrap_in]
    exact lpI (m - 1) (by omega) ⟨k + 1, by omega, rfl, by simp, by simp [t3], by simp [t2], by simp [t0]⟩
  · obtain rfl : k = n := by omega
    simp (disch := omega) [t4, t3, t2, t0]
    refine awCall_ctr ((l18Sort_a h0 (by omega) hc hv).weaken (by omega)) ?_
    rintro v M2 ⟨l', hA, hp, hs, hk⟩
    obtain ⟨A2, n2, c2, rfl, hn2, hS2, ho2⟩ := hA.sl
    have b2 := hk.get b0
    have kl := hk.len
    simp (disch := omega) [t4, t3, t2, t0, one_build]
    obtain ⟨M3, hM3⟩ : ∃ M3 : Mem, M3 = M2 ++ [Slot.live ⟨[.slice A2 n2 c2], true, true, 26, 1⟩] := ⟨_, rfl⟩
    rw [← hM3]
    have k23 : Keeps M2 M3 := by rw [hM3]; exact keeps_app _
    have l3 : M3.length = M2.length + 1 := by rw [hM3]; simp
    have x3 : M3[M2.length]? = some (Slot.live ⟨[.slice A2 n2 c2], true, true, 26, 1⟩) := by rw [hM3]; simp
    clear hM3
    have cx : cellAt M3 M2.length 0 = some (.slice A2 n2 c2) := by simp [cellAt, x3]
    have cs3 : cellsAt M3 M2.length 0 1 = some [.slice A2 n2 c2] := by simp [cellsAt, x3]
    have hS3 := hS2.keeps k23
    have b3 := k23.get b2
    have hpl := hp.length_eq
    have htw := tw_perm hp ht
    have hv2 : ∀ x, x ∈ l' → noteB x = true := fun x hx => hv x (hp.mem_iff.1 hx)
    have hsl : l'.Pairwise LeN := by
      rw [List.pairwise_iff_getElem]
      intro i j hi hj hij
      rw [el_eq hi, el_eq hj]
      exact hs i j hij hj
    refine awLoop_T (fun m T M' => ∃ i : Nat, (i + m = n2 ∨ (m = 0 ∧ n2 ≤ i)) ∧ 1 ≤ i ∧ M' = M3 ∧ look T 6 = some (iv i) ∧ look T 3 = some (iv 0) ∧ look T 2 = some (.pointer (some ⟨M.length, 0, none⟩)) ∧ look T 5 = some (.pointer (some ⟨M2.length, 0, none⟩))) (n2 - 1) ⟨1, by omega, by omega, rfl, by simp, by simp [t3], by simp [t2], by simp⟩ ?_
    rintro m T M4 ⟨i, hm, hi1, rfl, u5, u3, u2, u6⟩
    by_cases hi : i < n2
    · have hi' : (i : Int) < n2 := by omega
      obtain ⟨id, off, rfl, hz, hcl⟩ := hS3.at_ hi
      obtain ⟨id', off', e', hz', hcl'⟩ := hS3.at_ (show i - 1 < n2 by omega)
      simp at e'
      obtain ⟨rfl, rfl⟩ := e'
      have ei : ((i - 1 : Nat) : Int) = (i : Int) - 1 := by omega
      have hne : ordN (el l' (i - 1)) (el l' i) ≠ 0 := by
        have := List.pairwise_iff_getElem.1 htw (i - 1) i (by omega) (by omega) (by omega)
        rwa [el_eq (by omega), el_eq (by omega)] at this
      simp (disch := omega) [u5, u3, u2, u6, hi, hi', cx]
      refine awDraw_E 9 [[],[0],[],[2],[1,0,3,2],[],[5],[],[6,5,7],[4,1,0,3,2,8,6,5,7],[9,4,1,0,3,2,8,6,5,7]] (by kernel_rfl) (by kernel_rfl) ?_
      simp (disch := omega) [u5, u3, u2, u6, hi, hi', cx, wrap_in]
      refine ⟨by omega, awCall_det' (l18Order_a hcl' hcl (hv2 _ (el_mem (by omega))) (hv2 _ (el_mem (by omega)))) (by omega) ?_⟩
      simp (disch := omega) [u5, u3, u2, u6, hne, wrap_in]
      exact lpI (m - 1) (by omega) ⟨i + 1, by omega, by omega, rfl, by simp, by simp [u3], by simp [u2], by simp [u6]⟩
    · have hi' : ¬ (i : Int) < n2 := by omega
      simp (disch := omega) [u5, u3, u2, u6, hi, hi', cx, cs3]
      refine end_box (hk.trans k23 |>.get b0) ho2 ?_
      have e : sortN l = l' := (sortN_eq hp hsl ht).symm
      rw [e]
      have kF : Keeps M (M4.set M.length (.live ⟨[.slice A2 n2 c2], true, true, 26, 1⟩)) := keeps_set ((k0.trans hk).trans k23) (by omega)
      exact ⟨_, rfl, ((((hA.keeps k23).set_ne (by omega)).low (by omega)).fresh (by rw [hpl]; omega) kF).ow.1, kF⟩
set_option maxHeartbeats 1000000 in
theorem SortNotes_s {M : Mem} {A : Option Addr} {n c : Nat} {l : List Note} (h : Sl noteR M A n l) (hn : n ≤ 60) (hc : A = none → c = 0) (hv : ∀ x, x ∈ l → noteB x = true) (ht : l.Pairwise fun x y => ordN x y ≠ 0) :
    Ctr Try.prog M.length 44 [.slice A n c] M fun r M' => ScR M (sortN l, 0) r M' := by
  have hl := h.1
  have hn' : ¬ (60 : Int) < n := by omega
  first | (refine ctr_fn Try.func44 rfl Try.ntmps44 Try.results44 rfl rfl (by simp) ?_) | (refine ctr_fnC Try.func44 rfl Try.ntmps44 Try.results44 rfl (by simp) ?_)
  simp [hn']
  refine awCall_ctr ((l18Make_a (h.app _) (by omega) hc hv ht).weaken (by simp)) ?_
  rintro r M1 ⟨v0, rfl, ho, hk⟩
  obtain ⟨A3, n3, c3, rfl, hrest⟩ := id ho
  have b0 : M1[M.length]? = some (Slot.live ⟨[.slice none 0 0], true, true, 26, 1⟩) := hk.get (by simp)
  have hkl := hk.len
  simp only [List.length_append, List.length_cons, List.length_nil] at hkl
  simp (disch := omega) []
  refine end_box ((keeps_app _).get b0) rfl ?_
  obtain ⟨M2, hM2⟩ : ∃ M2 : Mem, M2 = M1 ++ [Slot.live ⟨[.slice A3 n3 c3], true, true, 26, 1⟩] := ⟨_, rfl⟩
  rw [← hM2]
  have k2 : Keeps M1 M2 := by rw [hM2]; exact keeps_app _
  have l2 : M2.length = M1.length + 1 := by rw [hM2]; simp
  have kM : Keeps M M1 := (keeps_app _).trans hk
  have hT : Turn M.length (M.length + 1) M2 (M2.set M.length (.live ⟨[.slice A3 n3 c3], true, true, 26, 1⟩)) := by
    refine ⟨by simp, fun i s hs hi => ?_⟩
    rw [List.getElem?_set_ne (by omega)]
    exact hs
  refine ⟨_, rfl, ((ho.keeps k2).turn hT (.inr (by simp))).wide (by simp) (by simp; omega), keeps_set (kM.trans k2) (by omega)⟩
end Go.Proofs.Ytbpaeonfebmomaa
