/- More operations over abstract states: conversions, addresses, slices, builds. No conditions. -/
import Derived.Test.YtffbocbjmhkikaaAw4
namespace Go.Proofs.Ytffbocbjmhkikaa
open Go.RowKit
set_option linter.unusedVariables false
set_option linter.unusedSimpArgs false

def unV (op : UnOp) (x : Value) : Option Value :=
  match op, x with
  | .neg, .int k n => some (.int k (k.wrap (0 - n)))
  | .not, .bool t => some (.bool (!t))
  | _, _ => none
def convV (P : Program) (src dst : TypeId) (x : Value) : Option Value :=
  match P.underlying src, P.underlying dst, x with
  | some (.int _), some (.int k), .int _ n => some (.int k (k.wrap n))
  | some .string, some .string, .string s => some (.string s)
  | _, _, _ => none
/-- A byte of a string. -/
def strAt (s : ByteArray) (i : Nat) : Int := ((s.data.toList.getD i 0).toNat : Int)

section
variable {P : Program} {b : Nat} {o : Oper} {S : St} {K : Value → Mem → Prop}
theorem or_un {op : UnOp} {t : TypeId} {x : Operand} (ho : o.op = .unOp op t x) (h : ow (S.ev x) fun u => ow (unV op u) fun r => K r S.M) : OpRun P b o S K := by
  obtain ⟨u, hu, h⟩ := ow_iff.1 h
  obtain ⟨r, hr, hK⟩ := ow_iff.1 h
  refine .pure (v := r) (fun μ a w hE hS => ⟨r, ?_, ?_⟩) hK
  · have rx := hE.ev hu
    unfold unV at hr
    split at hr
    · injection hr with hr
      subst hr
      simp [execOp, ho, rx.int, Op.unary, Op.intArith]
    · injection hr with hr
      subst hr
      simp [execOp, ho, rx.bool, Op.unary]
    · cases hr
  · unfold unV at hr
    split at hr
    · injection hr with hr; subst hr; exact .plain rfl
    · injection hr with hr; subst hr; exact .plain rfl
    · cases hr
theorem convV_inv {src dst : TypeId} {x r : Value} (h : convV P src dst x = some r) :
    (∃ k' k k2 n, P.underlying src = some (.int k') ∧ P.underlying dst = some (.int k) ∧ x = .int k2 n ∧ r = .int k (k.wrap n)) ∨ (∃ s, P.underlying src = some .string ∧ P.underlying dst = some .string ∧ x = .string s ∧ r = .string s) := by
  unfold convV at h
  split at h
  · injection h with h
    exact .inl ⟨_, _, _, _, by assumption, by assumption, rfl, h.symm⟩
  · injection h with h
    exact .inr ⟨_, by assumption, by assumption, rfl, h.symm⟩
  · cases h
theorem or_conv {src dst : TypeId} {x : Operand} (ho : o.op = .convert src dst x) (h : ow (S.ev x) fun u => ow (convV P src dst u) fun r => K r S.M) : OpRun P b o S K := by
  obtain ⟨u, hu, h⟩ := ow_iff.1 h
  obtain ⟨r, hr, hK⟩ := ow_iff.1 h
  rcases convV_inv hr with ⟨k', k, k2, n, h1, h2, rfl, rfl⟩ | ⟨s, h1, h2, rfl, rfl⟩
  · refine .pure (fun μ a w hE hS => ⟨_, ?_, .plain rfl⟩) hK
    simp [execOp, ho, (hE.ev hu).int, convert, run_underlying h1, run_underlying h2, Conv.intToInt]
  · refine .pure (fun μ a w hE hS => ⟨_, ?_, .plain rfl⟩) hK
    simp [execOp, ho, (hE.ev hu).string, convert, run_underlying h1, run_underlying h2]
def evs (S : St) (xs : List Operand) : Option (List Value) := xs.mapM S.ev
theorem evs_nil {S : St} : evs S [] = some [] := rfl
theorem evs_cons {S : St} {x : Operand} {xs : List Operand} : evs S (x :: xs) = (S.ev x).bind fun v => (evs S xs).map fun vs => v :: vs := by
  simp [evs, List.mapM_cons]
  cases S.ev x <;> simp
  cases List.mapM S.ev xs <;> rfl
theorem Env.evs {S : St} {μ : Map} {a : Act} (h : Env S μ a) : ∀ {xs : List Operand} {vs : List Value}, evs S xs = some vs → LRel S.M μ vs (xs.map a.eval) := by
  intro xs
  induction xs with
  | nil => intro vs hv; rw [evs_nil] at hv; injection hv with hv; subst hv; exact .nil
  | cons x xs ih =>
    intro vs hv
    rw [evs_cons] at hv
    obtain ⟨v, h1, h2⟩ := Option.bind_eq_some_iff.1 hv
    obtain ⟨us, h3, h4⟩ := Option.map_eq_some_iff.1 h2
    subst h4
    exact .cons (h.ev h1) (ih h3)
theorem or_func {fn : Fn} {first captured : Array Operand} (ho : o.op = .makeFunc fn first captured) (h : ow (evs S first.toList) fun us => ow (evs S captured.toList) fun vs => K (.func fn us.toArray vs.toArray) S.M) : OpRun P b o S K := by
  obtain ⟨us, hu, h⟩ := ow_iff.1 h
  obtain ⟨vs, hv, hK⟩ := ow_iff.1 h
  refine .pure (fun μ a w hE hS => ⟨.func fn (first.map a.eval) (captured.map a.eval), by simp [execOp, ho, Instr.makeFunc], ?_⟩) hK
  have r1 := hE.evs hu
  have r2 := hE.evs hv
  exact .fn (by have := r1.1; simpa using this) (fun i x y hx hy => r1.2 i x y (by simpa using hx) (by simpa using hy)) (by have := r2.1; simpa using this) (fun i x y hx hy => r2.2 i x y (by simpa using hx) (by simpa using hy))
def tupAt (v : Value) (i : Nat) : Option Value :=
  match v with
  | .tuple vs => vs[i]?
  | _ => none
theorem or_extract {x : Operand} {i : Nat} (ho : o.op = .extract x i) (h : ow (S.ev x) fun u => ow (tupAt u i) fun v => K v S.M) : OpRun P b o S K := by
  obtain ⟨u, hu, h⟩ := ow_iff.1 h
  obtain ⟨v, hv, hK⟩ := ow_iff.1 h
  unfold tupAt at hv
  split at hv
  · rename_i vs _
    refine .pure (fun μ a w hE hS => ?_) hK
    obtain ⟨ys, he, h1⟩ := (hE.ev hu).tup_inv
    obtain ⟨y, hy, hrel⟩ := h1.at_ (i := i) (x := v) (by simpa using hv)
    refine ⟨y, ?_, hrel⟩
    have hy' : ys[i]? = some y := by simpa using hy
    simp [execOp, ho, he, Instr.extract, hy']
  · cases hv
/-- A field of a struct by value. -/
def fieldV (v : Value) (f : Nat × Option Nat) : Option Value :=
  match v, f with
  | .agg cs, (off, none) => cs[off]?
  | .agg cs, (off, some k) => some (.agg ((cs.toList.drop off).take k).toArray)
  | _, _ => none
theorem qField_some {t : TypeId} {f off : Nat} {k : Option Nat} (h : qField P t f = some (off, k)) : ∃ fs fl, P.underlying t = some (.struct fs) ∧ fs[f]? = some fl ∧ fl.offset = off ∧ qLoad P fl.type = some k ∧ ∃ i, P.info? fl.type = some i ∧ i.size ≠ 0 := by
  unfold qField at h
  split at h
  · rename_i fs hfs
    split at h
    · rename_i fl hfl
      split at h
      · rename_i k' hk
        split at h
        · rename_i hany
          injection h with h
          injection h with h1 h2
          subst h2
          refine ⟨fs, fl, hfs, hfl, h1, hk, ?_⟩
          cases hi : P.info? fl.type with
          | none => rw [hi] at hany; cases hany
          | some i => rw [hi] at hany; exact ⟨i, rfl, by simpa using hany⟩
        · cases h
      · cases h
    · cases h
  · cases h
theorem or_field {t : TypeId} {x : Operand} {f : Nat} (ho : o.op = .field t x f) (h : ow (S.ev x) fun u => ow (qField P t f) fun q => ow (fieldV u q) fun v => K v S.M) : OpRun P b o S K := by
  obtain ⟨u, hu, h⟩ := ow_iff.1 h
  obtain ⟨⟨off, k⟩, hq, h⟩ := ow_iff.1 h
  obtain ⟨v, hv, hK⟩ := ow_iff.1 h
  obtain ⟨fs, fl, h1, h2, h3, h4, i, h5, h6⟩ := qField_some hq
  obtain ⟨d, i', hd, hi', hcase⟩ := qLoad_some h4
  rw [h5] at hi'
  injection hi' with hi'
  subst hi'
  obtain ⟨cs, rfl⟩ : ∃ cs, u = .agg cs := by
    unfold fieldV at hv
    split at hv
    · exact ⟨_, rfl⟩
    · exact ⟨_, rfl⟩
    · cases hv
  refine .pure (fun μ a w hE hS => ?_) hK
  obtain ⟨ys, he, hrel⟩ := (hE.ev hu).agg_inv
  cases k with
  | none =>
    rcases hcase with ⟨n, hn, _⟩ | ⟨-, hn1, hn2⟩
    · cases hn
    have hv' : cs[off]? = some v := hv
    obtain ⟨y, hy, hr⟩ := hrel.at_ (i := off) (x := v) (by simpa using hv')
    refine ⟨y, ?_, hr⟩
    have hy' : ys[off]? = some y := by simpa using hy
    have hA := run_isAgg hd w
    have hA' : (isAgg fl.type).run P w = .ok false w := by
      rw [hA]
      cases d <;> first | rfl | exact absurd rfl (hn1 _) | exact absurd rfl (hn2 _ _)
    simp [execOp, ho, he, Instr.field, run_underlying h1, h2, h3, asAgg, part, hA', hy']
  | some k =>
    rcases hcase with ⟨n, hn, hsz, hagg⟩ | ⟨hn, -⟩
    · injection hn with hn
      subst hn
      have hv' : some (Value.agg ((cs.toList.drop off).take k).toArray) = some v := hv
      injection hv' with hv'
      subst hv'
      refine ⟨.agg ((ys.toList.drop off).take k).toArray, ?_, .mk_agg ((hrel.drop off).take k)⟩
      have hA := run_isAgg hd w
      have hA' : (isAgg fl.type).run P w = .ok true w := by rw [hA]; rcases hagg with ⟨fs, rfl⟩ | ⟨n, e, rfl⟩ <;> rfl
      have hex : ys.extract off (off + k) = ((ys.toList.drop off).take k).toArray := by
        apply Array.ext'
        simp [List.drop_take]
      simp [execOp, ho, he, Instr.field, run_underlying h1, h2, h3, asAgg, part, hA', sizeOf, typeInfo, h5, hsz, hex]
    · cases hn
def fieldAddrK (S : St) (K : Value → Mem → Prop) (off : Nat) (v : Value) : Prop :=
  match v with
  | .pointer (some ⟨id, o, none⟩) => K (.pointer (some ⟨id, o + off, none⟩)) S.M
  | _ => False
theorem or_fieldAddr {t : TypeId} {x : Operand} {f : Nat} (ho : o.op = .fieldAddr t x f) (h : ow (S.ev x) fun u => ow (qField P t f) fun q => fieldAddrK S K q.1 u) : OpRun P b o S K := by
  obtain ⟨u, hu, h⟩ := ow_iff.1 h
  obtain ⟨⟨off, k⟩, hq, h⟩ := ow_iff.1 h
  obtain ⟨fs, fl, h1, h2, h3, h4, i, h5, h6⟩ := qField_some hq
  unfold fieldAddrK at h
  split at h
  · rename_i id of _
    refine .pure (fun μ a w hE hS => ?_) h
    obtain ⟨-, ad, s, he, hs, hkn, hat⟩ := (hE.ev hu).ptr_inv
    refine ⟨.pointer (some (ad.add off)), ?_, .ptr hs hkn fun r hr => by rw [hat r hr, add_add_]⟩
    simp [execOp, ho, he, Instr.fieldAt, run_underlying h1, h2, Instr.sureAddr, fieldPlace, sizeOf, typeInfo, h5, h6, h3]
  · exact h.elim
theorem qSlice_some {t e : TypeId} {sz by_ : Nat} (h : qSlice P t = some (e, sz, by_)) : P.underlying t = some (.slice e) ∧ ∃ i, P.info? e = some i ∧ i.size = sz ∧ i.bytes = by_ ∧ 0 < sz := by
  unfold qSlice at h
  split at h
  · rename_i e' he
    split at h
    · rename_i i hi
      split at h
      · rename_i hp
        injection h with h
        injection h with h1 h2
        injection h2 with h2 h3
        subst h1
        exact ⟨he, i, hi, h2, h3, by omega⟩
      · cases h
    · cases h
  · cases h
def indexAddrK (S : St) (K : Value → Mem → Prop) (esz : Nat) (v i : Value) : Prop :=
  match v, i with
  | .slice (some ⟨id, o, none⟩) n _, .int _ j => (0 ≤ j ∧ j < (n : Int)) ∧ K (.pointer (some ⟨id, o + j.toNat * esz, none⟩)) S.M
  | _, _ => False
theorem indexAddrK_inv {esz : Nat} {v i : Value} (h : indexAddrK S K esz v i) : ∃ id of n c k j, v = .slice (some ⟨id, of, none⟩) n c ∧ i = .int k j ∧ 0 ≤ j ∧ j < (n : Int) ∧ K (.pointer (some ⟨id, of + j.toNat * esz, none⟩)) S.M := by
  unfold indexAddrK at h
  split at h
  · exact ⟨_, _, _, _, _, _, rfl, rfl, h.1.1, h.1.2, h.2⟩
  · exact h.elim
theorem or_indexAddr {t : TypeId} {x y : Operand} (ho : o.op = .indexAddr t x y) (h : ow (S.ev x) fun u => ow (S.ev y) fun i => ow (qSlice P t) fun q => indexAddrK S K q.2.1 u i) : OpRun P b o S K := by
  obtain ⟨u, hu, h⟩ := ow_iff.1 h
  obtain ⟨v, hv, h⟩ := ow_iff.1 h
  obtain ⟨⟨e, sz, by_⟩, hq, h⟩ := ow_iff.1 h
  obtain ⟨h1, i, h2, h3, h4, h5⟩ := qSlice_some hq
  obtain ⟨id, of, n, c, k, j, rfl, rfl, c1, c2, hK⟩ := indexAddrK_inv h
  refine .pure (fun μ a w hE hS => ?_) hK
  obtain ⟨-, ad, cp, s, he, hs, hkn, hn, hm, hat⟩ := (hE.ev hu).sl_inv
  have hi := (hE.ev hv).int
  refine ⟨.pointer (some (ad.add (j.toNat * sz))), ?_, .ptr hs hkn fun r hr => ?_⟩
  · simp [execOp, ho, he, hi, Instr.indexAt, run_underlying h1, asIntOf, c1, c2, sizeOf, typeInfo, h2, h3]
  · obtain ⟨h6, -⟩ := hat r hr
    rcases h6 with ⟨h6, -⟩ | h6
    · omega
    · rw [h6, add_add_]
def indexK (S : St) (K : Value → Mem → Prop) (v i : Value) : Prop :=
  match v, i with
  | .string s, .int _ j => (0 ≤ j ∧ j < (s.size : Int)) ∧ K (.int .u8 (strAt s j.toNat)) S.M
  | _, _ => False
theorem indexK_inv {v i : Value} (h : indexK S K v i) : ∃ s k j, v = .string s ∧ i = .int k j ∧ 0 ≤ j ∧ j < (s.size : Int) ∧ K (.int .u8 (strAt s j.toNat)) S.M := by
  unfold indexK at h
  split at h
  · exact ⟨_, _, _, rfl, rfl, h.1.1, h.1.2, h.2⟩
  · exact h.elim
theorem or_index {t : TypeId} {x y : Operand} (ho : o.op = .index t x y) (h : P.underlying t = some .string ∧ ow (S.ev x) fun u => ow (S.ev y) fun i => indexK S K u i) : OpRun P b o S K := by
  obtain ⟨ht, h⟩ := h
  obtain ⟨u, hu, h⟩ := ow_iff.1 h
  obtain ⟨v, hv, h⟩ := ow_iff.1 h
  obtain ⟨s, k, j, rfl, rfl, c1, c2, hK⟩ := indexK_inv h
  refine .pure (fun μ a w hE hS => ⟨_, ?_, .plain rfl⟩) hK
  have hs := (hE.ev hu).string
  have hi := (hE.ev hv).int
  have hlt : j.toNat < s.size := by omega
  have hb : s[j.toNat]? = some (s.data.toList.getD j.toNat 0) := by
    rw [getElem?_pos s j.toNat hlt]
    congr 1
    have hl : j.toNat < s.data.toList.length := by simpa using hlt
    rw [List.getD_eq_getElem?_getD, List.getElem?_eq_getElem hl]
    rfl
  simp [execOp, ho, hs, hi, Instr.index, run_underlying ht, asIntOf, c1, hb, strAt]
theorem or_nilCheck {x : Operand} (ho : o.op = .nilCheck x) (h : ow (S.ev x) fun u => match u with | .pointer (some ⟨id, off, none⟩) => K (.pointer (some ⟨id, off, none⟩)) S.M | .func (.func f) us vs => K (.func (.func f) us vs) S.M | _ => False) : OpRun P b o S K := by
  obtain ⟨u, hu, h⟩ := ow_iff.1 h
  split at h
  · refine .pure (fun μ a w hE hS => ⟨_, ?_, hE.ev hu⟩) h
    obtain ⟨-, ad, s, he, -⟩ := (hE.ev hu).ptr_inv
    simp [execOp, ho, he]
  · refine .pure (fun μ a w hE hS => ⟨_, ?_, hE.ev hu⟩) h
    have := hE.ev hu
    generalize hc : a.eval x = c at this
    cases this with
    | plain hp => simp [plainV] at hp
    | fn _ _ _ _ => simp [execOp, ho, hc]
  · exact h.elim
end
end Go.Proofs.Ytffbocbjmhkikaa
