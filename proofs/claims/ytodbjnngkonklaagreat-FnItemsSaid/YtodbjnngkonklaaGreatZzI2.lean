/- Parts of the proof, together: Slices that are made, copied, turned to strings, over abstract states. Maps over abstract states: what is looked up, written, struck. Code over abstract states: contracts, the weakest precondition and its soundness (but for regions that draw their order). Operations hang on their operands alone, and have one outcome. No conditions. -/
import Derived.Test.YtodbjnngkonklaaGreatZzI1
import Derived.Laws.IdiomStrings
import Derived.ChangeMaps5
import Derived.Orders
namespace Go.Proofs.YtodbjnngkonklaaGreat
open Go.RowKit
set_option linter.unusedVariables false
set_option linter.unusedSimpArgs false

/-- n times the cells z. -/
def zrow (z : List Value) (n : Nat) : List Value := (List.replicate n z).flatten
theorem zrow_len (z : List Value) (n : Nat) : (zrow z n).length = n * z.length := by simp [zrow]
theorem zrow_succ (z : List Value) (n : Nat) : zrow z (n + 1) = z ++ zrow z n := by simp [zrow, List.replicate_succ]
theorem zrow_get (z : List Value) : ∀ (n i : Nat), i < n * z.length → (zrow z n)[i]? = z[i % z.length]?
  | 0, i, h => by omega
  | n + 1, i, h => by
    rw [zrow_succ]
    rw [Nat.add_mul, Nat.one_mul] at h
    by_cases hi : i < z.length
    · rw [List.getElem?_append_left hi, Nat.mod_eq_of_lt hi]
    · rw [List.getElem?_append_right (by omega), zrow_get z n _ (by omega)]
      conv => rhs; rw [Nat.mod_eq_sub_mod (by omega)]
theorem zrow_plain {z : List Value} (h : z.all plainV = true) (n : Nat) : (zrow z n).all plainV = true := by
  rw [List.all_eq_true] at h ⊢
  intro x hx
  unfold zrow at hx
  obtain ⟨l, hl, hxl⟩ := List.mem_flatten.1 hx
  rw [List.eq_of_mem_replicate hl] at hxl
  exact h x hxl
/-- What the model lays: the same. -/
theorem zrow_laid (z : Value) (n : Nat) : ((Array.range (n * z.cells.size)).map fun i => z.cells[i % z.cells.size]!) = (zrow z.cells.toList n).toArray := by
  apply Array.ext'
  apply List.ext_getElem?
  intro i
  by_cases hi : i < n * z.cells.size
  · simp only [Array.toList_map, Array.toList_range, List.getElem?_map, List.getElem?_range hi, Option.map_some]
    rw [zrow_get _ _ _ (by simpa using hi)]
    have hp : 0 < z.cells.size := by rcases Nat.eq_zero_or_pos z.cells.size with h | h; · rw [h] at hi; omega
                                     · exact h
    have hm := Nat.mod_lt i hp
    simp [hm]
  · rw [List.getElem?_eq_none (by simp; omega), List.getElem?_eq_none (by simp [zrow_len]; omega)]
theorem qZero_some {P : Program} {t : TypeId} {z : List Value} (h : qZero P t = some z) : ∃ i v, P.info? t = some i ∧ i.zero = some v ∧ v.cells.toList = z ∧ z.all plainV = true := by
  unfold qZero at h
  split at h
  · rename_i i hi
    split at h
    · rename_i v hv
      split at h
      · rename_i hp
        injection h with h
        exact ⟨i, v, hi, hv, h, by rw [← h]; exact hp⟩
      · cases h
    · cases h
  · cases h

section
variable {P : Program} {b : Nat} {o : Oper} {S : St} {K : Value → Mem → Prop}
theorem fill_size {place : Nat → Option (Nat × Nat)} : ∀ (vs : List (Nat × Value)) (xs cs : Array Value), Instr.fill place xs vs = some cs → cs.size = xs.size := by
  intro vs
  induction vs with
  | nil => intro xs cs h; injection h with h; subst h; rfl
  | cons p vs ih =>
    intro xs cs h
    obtain ⟨i, v⟩ := p
    simp only [Instr.fill] at h
    split at h
    · cases h
    · split at h
      · cases h
      · rw [ih _ _ h]
        have key : ∀ (l : List (Value × Nat)) (off : Nat) (ys : Array Value), (l.foldl (fun cs (c : Value × Nat) => cs.setIfInBounds (off + c.2) c.1) ys).size = ys.size := by
          intro l
          induction l with
          | nil => intro off ys; rfl
          | cons c l ih => intro off ys; simp only [List.foldl_cons]; rw [ih]; simp
        rw [← Array.foldl_toList]
        exact key _ _ _
theorem or_buildSlice {t : TypeId} {n : Nat} {ps : Array (Nat × Operand)} (ho : o.op = .buildSlice t n ps)
    (h : ow (partsV S ps.toList) fun vs => ow (qSlice P t) fun q => ow (qZero P q.1) fun z => (z.length = q.2.1 ∧ n * q.2.1 ≤ 16777216) ∧ ow (Instr.fill (fun i => some (i * q.2.1, q.2.1)) (zrow z n).toArray vs) fun cs =>
      K (.slice (some ⟨S.M.length, 0, none⟩) n n) (S.M ++ [.live ⟨cs.toList, true, true, q.1, q.2.1⟩])) : OpRun P b o S K := by
  obtain ⟨vs, hvs, h⟩ := ow_iff.1 h
  obtain ⟨⟨e, sz, by_⟩, hq, h⟩ := ow_iff.1 h
  obtain ⟨z, hz, hc, h⟩ := ow_iff.1 h
  obtain ⟨cs, hf, hK⟩ := ow_iff.1 h
  obtain ⟨ht, i, h2, h3, h4, h5⟩ := qSlice_some hq
  obtain ⟨i', v, h2', hv, hvz, hp⟩ := qZero_some hz
  simp only at h2' hc hf hK
  subst h3
  rw [h2] at h2'
  injection h2' with h2'
  subst h2'
  intro μ a w hE hS
  obtain ⟨e1, e2⟩ := hE.parts hvs
  obtain ⟨r', hr', hrel⟩ := fill_rel (M := S.M) (μ := μ) vs (ps.toList.map fun p => (p.1, a.eval p.2)) _ (zrow z n).toArray cs e1 e2 (.plain (zrow_plain hp n)) hf
  have hsz : cs.size = n * i.size := by rw [fill_size vs _ cs hf, List.size_toArray, zrow_len, hc.1]
  have hsz' : r'.size = n * i.size := by have := hrel.1; simp at this; omega
  obtain ⟨h1, h6⟩ := hS.alloc (b := b) (xs := cs.toList) (cur := r') (elem := e) (esz := i.size) (tight := true) (by have := hrel.1; simpa using Nat.le_of_eq this) (fun _ => by have := hrel.1; simpa using this)
    (fun j c hc => by obtain ⟨d, hd, hh⟩ := hrel.at_ hc; exact ⟨d, by simpa using hd, hh⟩)
  refine ⟨.value (.slice (some ⟨w.heap.size, 0, none⟩) n n), _, _, _, _, _, ?_, .inl rfl, hK, ?_, h1, h6⟩
  · have hns : ¬ (n * i.size > 2 ^ 24) := by have := hc.2; omega
    have hvs2 : v.cells.size = i.size := by rw [← hc.1, ← hvz]; simp
    have hlaid : ((Array.range (n * i.size)).map fun j => v.cells[j % v.cells.size]!) = (zrow z n).toArray := by rw [← hvz, ← zrow_laid, hvs2]
    by_cases h0 : n * i.size = 0
    · have hn : n = 0 := by
        rcases Nat.mul_eq_zero.1 h0 with h | h
        · exact h
        · omega
      subst hn
      have hr2 : Instr.fill (fun j => some (j * i.size, i.size)) #[] (ps.toList.map fun p => (p.1, a.eval p.2)) = some r' := hr'
      have hr3 : ∀ f : Nat → Value, Instr.fill (fun j => some (j * i.size, i.size)) ((Array.range 0).map f) (ps.toList.map fun p => (p.1, a.eval p.2)) = some r' := fun f => by
        have e0 : (Array.range 0).map f = #[] := by simp
        rw [e0]; exact hr2
      simp [execOp, ho, Instr.buildSlice, run_underlying ht, sizeOf, typeInfo, h2, hr3, newRow]
    · simp only [execOp, ho, Instr.buildSlice, Sem.run_bind, run_underlying ht, Result.andThen_ok, sizeOf, typeInfo, Go.program, Sem.run, h2, Sem.run_pure, if_neg hns, if_neg h0, zeroValue, hv, hlaid, Sem.run_ite]
      simp [hr', newRow]
  · refine .sl getElem?_snoc_eq rfl (Nat.le_refl _) ?_ fun r hr => ?_
    · unfold maxLen
      have := hc.2
      have : n * 1 ≤ n * i.size := Nat.mul_le_mul_left _ h5
      omega
    · injection hr with hr
      subst hr
      exact ⟨.inr (by rw [Map.set_at, Addr.add_lit]), fun _ => by rw [Map.set_room, hsz']; simp⟩

def makeK (P : Program) (S : St) (K : Value → Mem → Prop) (t : TypeId) (x y : Value) : Prop :=
  match x, y with
  | .int _ n, .int _ m => ow (qSlice P t) fun q => ow (qZero P q.1) fun z => (z.length = q.2.1 ∧ m = n ∧ 0 ≤ n ∧ n * q.2.2 ≤ 281474976710656 ∧ n ≤ 9223372036854775807) ∧ K (.slice (some ⟨S.M.length, 0, none⟩) n.toNat n.toNat) (S.M ++ [.live ⟨zrow z n.toNat, true, true, q.1, q.2.1⟩])
  | _, _ => False
theorem makeK_inv {t : TypeId} {x y : Value} (h : makeK P S K t x y) : ∃ k k' n e sz by_ z, x = .int k n ∧ y = .int k' n ∧ qSlice P t = some (e, sz, by_) ∧ qZero P e = some z ∧ z.length = sz ∧ 0 ≤ n ∧ n * by_ ≤ 281474976710656 ∧ n ≤ 9223372036854775807 ∧
    K (.slice (some ⟨S.M.length, 0, none⟩) n.toNat n.toNat) (S.M ++ [.live ⟨zrow z n.toNat, true, true, e, sz⟩]) := by
  unfold makeK at h
  split at h
  · obtain ⟨⟨e, sz, by_⟩, hq, hA⟩ := ow_iff.1 h
    obtain ⟨z, hz, ⟨c1, c2, c3, c4, c5⟩, hK⟩ := ow_iff.1 hA
    subst c2
    exact ⟨_, _, _, e, sz, by_, z, rfl, rfl, hq, hz, c1, c3, c4, c5, hK⟩
  · exact h.elim
theorem or_make {t : TypeId} {x y : Operand} (ho : o.op = .makeSlice t x y) (h : ow (S.ev x) fun u => ow (S.ev y) fun v => makeK P S K t u v) : OpRun P b o S K := by
  obtain ⟨u, hu, h⟩ := ow_iff.1 h
  obtain ⟨v, hv, h⟩ := ow_iff.1 h
  obtain ⟨k, k', n, e, sz, by_, z, rfl, rfl, hq, hz, c1, c3, c4, c5, hK⟩ := makeK_inv h
  obtain ⟨ht, i, h2, h3, h4, h5⟩ := qSlice_some hq
  obtain ⟨i', zv, h2', hzv, hvz, hp⟩ := qZero_some hz
  rw [h2] at h2'
  injection h2' with h2'
  subst h2'
  subst h3
  subst h4
  intro μ a w hE hS
  obtain ⟨m, rfl⟩ : ∃ m : Nat, n = m := ⟨n.toNat, by omega⟩
  simp only [Int.toNat_natCast] at hK
  have hl : (zrow z m).length = m * i.size := by rw [zrow_len, c1]
  obtain ⟨h1, h6⟩ := hS.alloc (b := b) (xs := zrow z m) (cur := (zrow z m).toArray) (elem := e) (esz := i.size) (tight := true) (by simp) (fun _ => by simp)
    (fun j c hc => ⟨c, by simpa using hc, .plain (List.all_eq_true.1 (zrow_plain hp m) c (List.mem_of_getElem? hc))⟩)
  refine ⟨.value (.slice (some ⟨w.heap.size, 0, none⟩) m m), _, _, _, _, _, ?_, .inl rfl, hK, ?_, h1, h6⟩
  · have hx := (hE.ev hu).int
    have hy := (hE.ev hv).int
    have hvs2 : zv.cells.size = i.size := by rw [← c1, ← hvz]; simp
    have hr := run_make (P := P) w t e i zv ht h2 hzv k k' (m : Int) (m : Int) c3 (Int.le_refl _) (by rw [Int.mul_comm]; exact c4) c5
    simp only [Int.toNat_natCast] at hr
    have hlaid : madeCells zv.cells (m * i.size) = (zrow z m).toArray := by rw [← hvz, ← zrow_laid, hvs2]; simp only [madeCells, hvs2]
    simp [execOp, ho, hx, hy, hr, hlaid]
  · refine .sl getElem?_snoc_eq rfl (Nat.le_refl _) (by unfold maxLen; omega) fun r hr => ?_
    injection hr with hr
    subst hr
    exact ⟨.inr (by rw [Map.set_at, Addr.add_lit]), fun _ => by rw [Map.set_room, List.size_toArray, hl]; simp⟩

/-- Bytes to a string. -/
def byteV (v : Value) : Option UInt8 :=
  match v with
  | .int .u8 n => some (UInt8.ofNat n.toNat)
  | _ => none
def b2sK (P : Program) (S : St) (K : Value → Mem → Prop) (src dst : TypeId) (x : Value) : Prop :=
  P.underlying dst = some .string ∧ ow (qSlice P src) fun q => P.underlying q.1 = some (.int .u8) ∧ q.2.1 = 1 ∧
    match x with
    | .slice none n c => (n = 0 ∧ c = 0) ∧ K (.string .empty) S.M
    | .slice (some ⟨id, off, none⟩) n _ => ow (cellsAt S.M id off n) fun cs => ow (cs.mapM byteV) fun bs => K (.string ⟨bs.toArray⟩) S.M
    | _ => False
theorem or_b2s {src dst : TypeId} {x : Operand} (ho : o.op = .convert src dst x) (h : ow (S.ev x) fun u => b2sK P S K src dst u) : OpRun P b o S K := by
  obtain ⟨u, hu, h⟩ := ow_iff.1 h
  unfold b2sK at h
  obtain ⟨hd, h⟩ := h
  obtain ⟨⟨e, sz, by_⟩, hq, he, h1, h⟩ := ow_iff.1 h
  simp only at he h1
  obtain ⟨ht, i, h2, h3, h4, h5⟩ := qSlice_some hq
  split at h
  · obtain ⟨⟨hn, hc⟩, hK⟩ := h
    subst hn
    subst hc
    refine .pure (fun μ a w hE hS => ⟨_, ?_, .plain rfl⟩) hK
    have hx : a.eval x = .slice none 0 0 := (hE.ev hu).of_plain rfl
    simp [execOp, ho, hx, convert, run_underlying ht, run_underlying hd, run_underlying he, Conv.bytesToString]
  · obtain ⟨cs, hcs, hA⟩ := ow_iff.1 h
    obtain ⟨bs, hbs, hK⟩ := ow_iff.1 hA
    refine .pure (fun μ a w hE hS => ⟨_, ?_, .plain rfl⟩) hK
    obtain ⟨-, ad, cp, s, hx, hs, hkn, hn, hm, hat⟩ := (hE.ev hu).sl_inv
    obtain ⟨r, hr, hlen, ds, hrel, hcell⟩ := hS.cells hcs
    rw [hr] at hs
    injection hs with hs
    obtain ⟨h6, -⟩ := hat r hs.symm
    have hload := run_loadCells (P := P) (w := w) ad ds (fun j u hj => by
      rcases h6 with ⟨h6, -⟩ | h6
      · have := (List.getElem?_eq_some_iff.1 hj).1
        have := hrel.1
        omega
      · rw [h6, add_add_]; exact hcell j u hj)
    rw [← hrel.1, hlen] at hload
    have hds : ds = cs := by
      have key : ∀ (cs ds : List Value) (bs : List UInt8), cs.mapM byteV = some bs → LRel S.M μ cs ds → ds = cs := by
        intro cs
        induction cs with
        | nil => intro ds bs _ h; exact List.eq_nil_of_length_eq_zero h.1.symm
        | cons c cs ih =>
          intro ds bs hb h
          match ds, h with
          | [], h => exact absurd h.1 (by simp)
          | d :: ds, h =>
            simp only [List.mapM_cons] at hb
            obtain ⟨b1, hb1, hb⟩ := Option.bind_eq_some_iff.1 hb
            obtain ⟨b2, hb2, hb⟩ := Option.bind_eq_some_iff.1 hb
            have e1 : d = c := by
              have := h.2 0 c d rfl rfl
              unfold byteV at hb1
              split at hb1
              · exact this.int
              · cases hb1
            rw [e1, ih ds b2 hb2 ⟨by simpa using h.1, fun i x y hx hy => h.2 (i + 1) x y (by simpa using hx) (by simpa using hy)⟩]
      exact key cs ds bs hbs hrel
    rw [hds] at hload
    have hfold : ∀ (f : Value → ByteArray → Sem (ForInStep ByteArray)), (∀ n s, f (.int .u8 n) s = pure (ForInStep.yield (s.push (UInt8.ofNat n.toNat)))) → ∀ (cs : List Value) (bs : List UInt8) (acc : ByteArray), cs.mapM byteV = some bs → (forIn cs acc f).run P w = .ok ⟨acc.data ++ bs.toArray⟩ w := by
      intro f hf
      intro cs
      induction cs with
      | nil => intro bs acc hb; injection hb with hb; subst hb; simp
      | cons c cs ih =>
        intro bs acc hb
        simp only [List.mapM_cons] at hb
        obtain ⟨b1, hb1, hb⟩ := Option.bind_eq_some_iff.1 hb
        obtain ⟨b2, hb2, hb⟩ := Option.bind_eq_some_iff.1 hb
        injection hb with hb
        subst hb
        unfold byteV at hb1
        split at hb1
        · injection hb1 with hb1
          subst hb1
          simp only [List.forIn_cons, hf, Sem.run_bind, Sem.run_pure, Result.andThen_ok]
          rw [ih b2 _ hb2]
          simp [ByteArray.push]
        · cases hb1
    have he2 : (ByteArray.empty.data ++ bs.toArray) = bs.toArray := by
      apply Array.ext'
      rw [Array.toList_append]
      rfl
    simp only [execOp, ho, hx, convert, Sem.run_bind, run_underlying ht, run_underlying hd, run_underlying he, Result.andThen_ok, Conv.bytesToString, hload, Array.forIn_toList.symm, List.toList_toArray]
    rw [hfold _ (fun _ _ => rfl) cs bs .empty hbs, he2]
    rfl
  · exact h.elim
/-- A string as bytes of its own. -/
def s2K (P : Program) (S : St) (K : Value → Mem → Prop) (src dst : TypeId) (s : ByteArray) : Prop :=
  match P.underlying dst with
  | some (.slice e) => (P.underlying src = some .string ∧ P.underlying e = some (.int .u8) ∧ s.size ≤ 1099511627776) ∧ K (.slice (some ⟨S.M.length, 0, none⟩) s.size s.size) (S.M ++ [.live ⟨byteCells s, true, false, e, 1⟩])
  | _ => ow (convV P src dst (.string s)) fun r => K r S.M
theorem byteCells_len (s : ByteArray) : (byteCells s).length = s.size := by unfold byteCells; rw [List.length_map]; rfl
theorem or_s2 {src dst : TypeId} {x : Operand} {s : ByteArray} (ho : o.op = .convert src dst x) (hu : S.ev x = some (.string s)) (h : s2K P S K src dst s) : OpRun P b o S K := by
  unfold s2K at h
  split at h
  · rename_i e hd
    obtain ⟨⟨hs, he, hm⟩, hK⟩ := h
    intro μ a w hE hS
    have hx : a.eval x = .string s := (hE.ev hu).string
    have hge := grownCap_ge w s.size 0 e
    have hle := grownCap_le_maxLen w s.size 0 e (by unfold maxLen; omega)
    have hr := run_bytes_of_string (P := P) w src dst e s hs hd he
    generalize hcp : grownCap w s.size 0 e = cp at hr hge hle
    have hrow : (bytesRow s cp).size = cp := by
      unfold bytesRow
      simp only [Array.size_append, Array.size_map, Array.size_replicate]
      have : s.data.size = s.size := rfl
      omega
    obtain ⟨g1, g2⟩ := (hS.heap (w' := w.drew) rfl).allocF (b := b) (xs := byteCells s) (cur := bytesRow s cp) (elem := e) (esz := 1) (tight := false) (fr := ((bytesRow s cp).size, (bytesRow s cp).size + 1)) (fun j hj => by rcases hj with hj | ⟨hj, -⟩ <;> simp_all <;> omega) (by rw [byteCells_len, hrow]; exact hge) (fun h => by cases h)
      (fun j c hc => by
        refine ⟨c, ?_, .plain ?_⟩
        · have hj := (List.getElem?_eq_some_iff.1 hc).1
          rw [byteCells_len] at hj
          unfold bytesRow
          rw [Array.getElem?_append_left (by simp only [Array.size_map]; exact hj), ← hc]
          simp [byteCells]
        · have hm := List.mem_of_getElem? hc
          unfold byteCells at hm
          obtain ⟨z, -, rfl⟩ := List.mem_map.1 hm
          rfl)
    refine ⟨.value (.slice (some ⟨w.heap.size, 0, none⟩) s.size cp), _, _, _, _, _, ?_, .inl rfl, hK, ?_, g1, Step.trans (Step.heap (b := b) (M := S.M) (μ := μ) (w := w) (w' := w.drew) rfl rfl rfl rfl) g2⟩
    · simp [execOp, ho, hx, hr]
    · exact .sl getElem?_snoc_eq rfl hge hle fun r hr => by
        injection hr with hr
        subst hr
        exact ⟨.inr (by rw [Map.set_at, Addr.add_lit]; rfl), fun _ => by rw [Map.set_room, hrow]; simp⟩
  · exact or_conv ho (ow_iff.2 ⟨_, hu, h⟩)
end
end Go.Proofs.YtodbjnngkonklaaGreat

namespace Go.Proofs.YtodbjnngkonklaaGreat
open Go.RowKit Go.ChangeMaps
set_option linter.unusedVariables false
set_option linter.unusedSimpArgs false
theorem VRel.plainD_eq {M : Mem} {μ : Map} {v c : Value} (h : plainD v = true) (hv : VRel M μ v c) : c = v := by
  unfold plainD at h
  rw [Bool.or_eq_true] at h
  rcases h with h | h
  · exact hv.of_plain h
  · split at h
    · rename_i cs
      obtain ⟨ys, rfl, h1, h2⟩ := hv.agg_inv
      congr 1
      apply Array.ext'
      apply List.ext_getElem?
      intro i
      by_cases hi : i < cs.size
      · have hx : cs.toList[i]? = some cs[i] := by simp [hi]
        have hy : ys.toList[i]? = some (ys.toList[i]'(by rw [← h1]; simpa using hi)) := List.getElem?_eq_getElem _
        have := (h2 i _ _ hx hy).of_plain (Array.all_eq_true.1 h i hi)
        rw [hy, this, hx]
      · rw [List.getElem?_eq_none (by rw [← h1]; simpa using hi), List.getElem?_eq_none (by simpa using hi)]
    · rename_i cs
      obtain ⟨ys, rfl, h1, -⟩ := hv.tup_inv
      have e0 : cs.size = 0 := by simpa using h
      have e1 : ys.size = 0 := by simpa [e0] using h1.symm
      rw [Array.eq_empty_of_size_eq_zero e0, Array.eq_empty_of_size_eq_zero e1]
    · cases h
open Classical in
/-- Where a key stands. -/
noncomputable def findE (k : Value) : List (Value × Value) → Nat → Option (Nat × Value)
  | [], _ => none
  | e :: es, i => if e.1 = k then some (i, e.2) else findE k es (i + 1)
/-- The key can be asked, and is found where it stands. -/
def KeyLawP (P : Program) (kt : TypeId) (k : Value) (ks : List Value) : Prop :=
  (∀ e w, (Instr.checkKey e 10000 kt k).run P w = .ok () w) ∧
  ∀ (m : List MapEntry) w, m.map (·.key) = ks → (Instr.findKey kt k m).run P w = .ok (findE k (m.map fun e => (e.key, e.val)) 0) w
section
variable {A : Mem} {μ : Map} {w w' : World}
theorem RowRel.grow {id : Nat} {r : Row} (h : RowRel A μ w id r) (hb : ∀ k, k < w.heap.size → w'.heap[k]? = w.heap[k]?) (hs : w.heap.size ≤ w'.heap.size) : RowRel A μ w' id r := by
  refine ⟨Nat.lt_of_lt_of_le h.lt hs, fun j c hc => ?_, fun ho => ?_⟩
  · obtain ⟨d, hd, hv⟩ := h.cell j c hc
    exact ⟨d, by rw [World.cell?_of_block (w := w) (hb _ (by rw [block_add_]; exact h.lt))]; exact hd, hv⟩
  · obtain ⟨g, cur, fr, e1, e2, e3⟩ := h.own ho
    exact ⟨g, cur, fr, e1, by rw [hb g (by have := h.lt; rw [e1] at this; exact this)]; exact e2, e3⟩
theorem Sim.grow (h : Sim A μ w) (hb : ∀ k, k < w.heap.size → w'.heap[k]? = w.heap[k]?) (hs : w.heap.size ≤ w'.heap.size) : Sim A μ w' :=
  ⟨fun id r hr => (h.row id r hr).grow hb hs, h.inj, fun hon => ⟨by rw [hb _ (h.glob hon).2.1]; exact (h.glob hon).1, Nat.lt_of_lt_of_le (h.glob hon).2.1 hs, (h.glob hon).2.2⟩, h.mapsKeep (fun k hk _ => hb k hk) (fun _ _ _ h => h)⟩
end
theorem Sim.mset {M : Mem} {μ : Map} {w : World} {b id r : Nat} {es es' : List (Value × Value)} (hS : Sim M μ w) (h2 : M[id]? = some (.mp r es)) (hb : b ≤ id) (m' : Array MapEntry) (c' : Nat) (hm' : m'.toList.map (fun e => (e.key, e.val)) = es') :
    Sim (M.set id (.mp r es')) μ { w with heap := w.heap.setIfInBounds r (.map m' c') } ∧ Step b M μ w (M.set id (.mp r es')) μ { w with heap := w.heap.setIfInBounds r (.map m' c') } := by
  obtain ⟨m, c, q1, q2⟩ := hS.maps.1 id r es h2
  have hid := (List.getElem?_eq_some_iff.1 h2).1
  have hr := (Array.getElem?_eq_some_iff.1 q1).1
  have same : ∀ k, k ≠ r → (w.heap.setIfInBounds r (.map m' c'))[k]? = w.heap[k]? := fun k hk => by rw [Array.getElem?_setIfInBounds, if_neg (Ne.symm hk)]
  have hst : Step b M μ w (M.set id (.mp r es')) μ { w with heap := w.heap.setIfInBounds r (.map m' c') } := by
    refine ⟨fun i s hs => ?_, fun _ _ => ⟨rfl, rfl⟩, rfl, rfl, rfl, by simp, fun k hk _ hm => same k (fun e => hm id r es hb h2 e.symm), fun i r1 es1 hi h => absurd (List.getElem?_eq_some_iff.1 h).1 (by rw [List.length_set]; omega), fun i r1 hi h => absurd (List.getElem?_eq_some_iff.1 h).1 (by rw [List.length_set]; omega)⟩
    by_cases e : i = id
    · subst e
      rw [h2] at hs
      injection hs with hs
      subst hs
      exact ⟨_, List.getElem?_set_self hid, rfl, fun h => by omega⟩
    · exact ⟨s, by rw [List.getElem?_set_ne (fun h => e h.symm)]; exact hs, Slot.evolves_refl _ _⟩
  have live : ∀ {i : Nat} {s : Row}, (M.set id (.mp r es'))[i]? = some (.live s) → M[i]? = some (.live s) := by
    intro i s hs
    rcases getElem?_set_inv hs with ⟨_, h1, _⟩ | ⟨_, h1⟩
    · cases h1
    · exact h1
  have mapsl : ∀ {i r1 : Nat} {es1 : List (Value × Value)}, (M.set id (.mp r es'))[i]? = some (.mp r1 es1) → (i = id ∧ r1 = r ∧ es1 = es') ∨ (i ≠ id ∧ M[i]? = some (.mp r1 es1)) := by
    intro i r1 es1 hs
    rcases getElem?_set_inv hs with ⟨h0, h1, _⟩ | ⟨h0, h1⟩
    · injection h1 with h1 h3; exact .inl ⟨h0, h1, h3⟩
    · exact .inr ⟨h0, h1⟩
  refine ⟨⟨fun i s hs => ?_, fun i j r1 r2 h1 h3 hne ho => hS.inj i j r1 r2 (live h1) (live h3) hne ho, hS.globStep hst, fun i r1 es1 hs => ?_, fun i j r1 es1 es2 hi hj => ?_⟩, hst⟩
  · obtain ⟨a1, a2, a3⟩ := hS.row i s (live hs)
    refine ⟨by simpa using a1, fun j x hj => ?_, fun ho => ?_⟩
    · obtain ⟨d, hd, hv⟩ := a2 j x hj
      refine ⟨d, ?_, hv.step hst⟩
      have hne : ((μ.at_ i).add j).block ≠ r := fun e => by
        unfold World.cell? at hd
        rw [e, q1] at hd
        cases hd
      rw [← hd]
      unfold World.cell?
      rw [same _ hne]
    · obtain ⟨g, cur, fr, e1, e2, e3⟩ := a3 ho
      refine ⟨g, cur, fr, e1, ?_, e3⟩
      rw [← e2]
      exact same g fun e => by rw [e, q1] at e2; cases e2
  · rcases mapsl hs with ⟨rfl, rfl, rfl⟩ | ⟨hne, h1⟩
    · exact ⟨m', c', by simp [Array.getElem?_setIfInBounds, hr], hm'⟩
    · obtain ⟨m1, c1, p1, p2⟩ := hS.maps.1 i r1 es1 h1
      refine ⟨m1, c1, ?_, p2⟩
      rw [← p1]
      exact same r1 fun e => hne (hS.maps.2 i id r es1 es (by rw [← e]; exact h1) h2)
  · rcases mapsl hi with ⟨rfl, rfl, rfl⟩ | ⟨hne, h1⟩ <;> rcases mapsl hj with ⟨rfl, e2, rfl⟩ | ⟨hne', h3⟩
    · rfl
    · exact (hS.maps.2 _ _ _ _ _ h2 h3)
    · subst e2; exact (hS.maps.2 _ _ _ _ _ h1 h2)
    · exact hS.maps.2 i j r1 es1 es2 h1 h3
theorem Sim.mnew {M : Mem} {μ : Map} {w : World} {b : Nat} (hS : Sim M μ w) :
    Sim (M ++ [.mp w.heap.size []]) μ (w.alloc (.map #[] 0)) ∧ Step b M μ w (M ++ [.mp w.heap.size []]) μ (w.alloc (.map #[] 0)) := by
  have hb : ∀ k, k < w.heap.size → (w.alloc (.map #[] 0)).heap[k]? = w.heap[k]? := fun k hk => Below.heap_alloc _ _ _ hk
  have hsz : w.heap.size ≤ (w.alloc (.map #[] 0)).heap.size := by simp
  have hS1 := hS.grow hb hsz
  have hst : Step b M μ w (M ++ [.mp w.heap.size []]) μ (w.alloc (.map #[] 0)) := by
    refine ⟨fun i s hs => ⟨s, by rw [getElem?_snoc_lt (List.getElem?_eq_some_iff.1 hs).1]; exact hs, Slot.evolves_refl _ _⟩, fun _ _ => ⟨rfl, rfl⟩, rfl, rfl, rfl, hsz, fun k hk _ _ => hb k hk, fun i r es hi h => ?_, fun i r hi h => ?_⟩
    · rcases getElem?_snoc_inv h with ⟨h1, _⟩ | ⟨_, h1⟩
      · omega
      · injection h1 with h1 _; omega
    · rcases getElem?_snoc_inv h with ⟨h1, _⟩ | ⟨_, h1⟩
      · omega
      · cases h1
  have live : ∀ {i : Nat} {s : Row}, (M ++ [Slot.mp w.heap.size []])[i]? = some (.live s) → M[i]? = some (.live s) := by
    intro i s hs
    rcases getElem?_snoc_inv hs with ⟨_, h1⟩ | ⟨_, h1⟩
    · exact h1
    · cases h1
  have mapsl : ∀ {i r1 : Nat} {es1 : List (Value × Value)}, (M ++ [Slot.mp w.heap.size []])[i]? = some (.mp r1 es1) → (i = M.length ∧ r1 = w.heap.size ∧ es1 = []) ∨ M[i]? = some (.mp r1 es1) := by
    intro i r1 es1 hs
    rcases getElem?_snoc_inv hs with ⟨_, h1⟩ | ⟨h0, h1⟩
    · exact .inr h1
    · injection h1 with h1 h2; exact .inl ⟨h0, h1, h2⟩
  have old : ∀ {i r1 : Nat} {es1 : List (Value × Value)}, M[i]? = some (.mp r1 es1) → r1 < w.heap.size := fun {i r1 es1} h => by
    obtain ⟨m, c, q1, -⟩ := hS.maps.1 i r1 es1 h
    exact (Array.getElem?_eq_some_iff.1 q1).1
  refine ⟨⟨fun i s hs => ?_, fun i j r1 r2 h1 h3 hne ho => hS1.inj i j r1 r2 (live h1) (live h3) hne ho, hS.globStep hst, fun i r1 es1 hs => ?_, fun i j r1 es1 es2 hi hj => ?_⟩, hst⟩
  · obtain ⟨a1, a2, a3⟩ := hS1.row i s (live hs)
    refine ⟨a1, fun j x hj => ?_, a3⟩
    obtain ⟨d, hd, hv⟩ := a2 j x hj
    refine ⟨d, hd, hv.same fun i s hs _ => ⟨by rw [getElem?_snoc_lt (List.getElem?_eq_some_iff.1 hs).1]; exact hs, rfl, rfl⟩⟩
  · rcases mapsl hs with ⟨rfl, rfl, rfl⟩ | h1
    · exact ⟨#[], 0, heap_alloc_new w _, rfl⟩
    · exact hS1.maps.1 i r1 es1 h1
  · rcases mapsl hi with ⟨rfl, rfl, rfl⟩ | h1 <;> rcases mapsl hj with ⟨rfl, e2, rfl⟩ | h3
    · rfl
    · exact absurd (old h3) (by omega)
    · subst e2; exact absurd (old h1) (by omega)
    · exact hS.maps.2 i j r1 es1 es2 h1 h3
section
variable {P : Program} {b : Nat} {o : Oper} {S : St} {K : Value → Mem → Prop}
def lookK (P : Program) (S : St) (K : Value → Mem → Prop) (t : TypeId) (u k : Value) : Prop :=
  match u with
  | .map (some r) => ∃ (id : Nat) (es : List (Value × Value)) (kt et : TypeId) (z : Value), P.underlying t = some (.map kt et) ∧ S.M[id]? = some (.mp r es) ∧ plainD k = true ∧ (∀ e ∈ es, plainD e.2 = true) ∧ KeyLawP P kt k (es.map (·.1)) ∧
      plainD z = true ∧ (∀ w, (zeroValue et).run P w = .ok z w) ∧ (match findE k es 0 with | some (_, v) => K (.tuple #[v, .bool true]) S.M | none => K (.tuple #[z, .bool false]) S.M)
  | _ => False
def updK (P : Program) (b : Nat) (S : St) (K : Value → Mem → Prop) (t : TypeId) (u k v : Value) : Prop :=
  match u with
  | .map (some r) => ∃ (id : Nat) (es : List (Value × Value)) (kt et : TypeId), P.underlying t = some (.map kt et) ∧ S.M[id]? = some (.mp r es) ∧ b ≤ id ∧ plainD k = true ∧ plainD v = true ∧ KeyLawP P kt k (es.map (·.1)) ∧ findE k es 0 = none ∧
      K undef (S.M.set id (.mp r (es ++ [(k, v)])))
  | _ => False
def delK (P : Program) (b : Nat) (S : St) (K : Value → Mem → Prop) (t : TypeId) (u k : Value) : Prop :=
  match u with
  | .map (some r) => ∃ (id : Nat) (es : List (Value × Value)) (kt et : TypeId) (i : Nat) (v : Value), P.underlying t = some (.map kt et) ∧ S.M[id]? = some (.mp r es) ∧ b ≤ id ∧ plainD k = true ∧ KeyLawP P kt k (es.map (·.1)) ∧ findE k es 0 = some (i, v) ∧
      K (.tuple #[]) (S.M.set id (.mp r (es.eraseIdx i)))
  | _ => False
theorem or_lookup {t : TypeId} {x y : Operand} (ho : o.op = .lookup t x y true) (h : ow (S.ev x) fun u => ow (S.ev y) fun k => lookK P S K t u k) : OpRun P b o S K := by
  obtain ⟨u, hu, h⟩ := ow_iff.1 h
  obtain ⟨k, hk, h⟩ := ow_iff.1 h
  unfold lookK at h
  split at h
  · rename_i r _
    obtain ⟨id, es, kt, et, z, h1, h2, h3, h4, h5, h6, h7, h8⟩ := h
    intro μ a w hE hS
    have e1 : a.eval x = .map (some r) := (hE.ev hu).of_plain rfl
    have e2 : a.eval y = k := VRel.plainD_eq h3 (hE.ev hk)
    obtain ⟨m, c, q1, q2⟩ := hS.maps.1 id r es h2
    have q3 : m.toList.map (·.key) = es.map (·.1) := by rw [← q2, List.map_map]; rfl
    have q4 := h5.2 m.toList w q3
    rw [q2] at q4
    cases hf : findE k es 0 with
    | none =>
      rw [hf] at h8 q4
      refine ⟨.value (.tuple #[z, .bool false]), w, _, _, S.M, μ, ?_, .inl rfl, h8, VRel.mk_tup (.cons (.of_plainD h6) (.cons (.plain rfl) .nil)), hS, .refl⟩
      simp [execOp, ho, e1, e2, Instr.lookup, run_underlying h1, MapKept.run_getObj_map q1, h5.1, q4, h7]
    | some p =>
      obtain ⟨i, v⟩ := p
      rw [hf] at h8 q4
      have hv : plainD v = true := by
        have mem : ∀ (l : List (Value × Value)) j, findE k l j = some (i, v) → ∃ e ∈ l, e.2 = v := by
          intro l
          induction l with
          | nil => intro j h; cases h
          | cons e l ih =>
            intro j h
            simp only [findE] at h
            split at h
            · injection h with h; injection h with _ h; exact ⟨e, by simp, h⟩
            · obtain ⟨e', h1, h2⟩ := ih _ h; exact ⟨e', by simp [h1], h2⟩
        obtain ⟨e, he, rfl⟩ := mem es 0 hf
        exact h4 e he
      refine ⟨.value (.tuple #[v, .bool true]), w, _, _, S.M, μ, ?_, .inl rfl, h8, VRel.mk_tup (.cons (.of_plainD hv) (.cons (.plain rfl) .nil)), hS, .refl⟩
      simp [execOp, ho, e1, e2, Instr.lookup, run_underlying h1, MapKept.run_getObj_map q1, h5.1, q4]
  · exact h.elim
theorem or_makeMap {t : TypeId} (ho : o.op = .makeMap t none) (h : ∀ r, K (.map (some r)) (S.M ++ [.mp r []])) : OpRun P b o S K := by
  intro μ a w hE hS
  obtain ⟨g1, g2⟩ := hS.mnew (b := b)
  refine ⟨.value (.map (some w.heap.size)), _, _, _, _, μ, ?_, .inl rfl, h w.heap.size, .plain rfl, g1, g2⟩
  simp [execOp, ho, run_makeMap]
theorem or_update {t : TypeId} {x y z : Operand} (ho : o.op = .mapUpdate t x y z) (h : ow (S.ev x) fun u => ow (S.ev y) fun k => ow (S.ev z) fun v => updK P b S K t u k v) : OpRun P b o S K := by
  obtain ⟨u, hu, h⟩ := ow_iff.1 h
  obtain ⟨k, hk, h⟩ := ow_iff.1 h
  obtain ⟨v, hv, h⟩ := ow_iff.1 h
  unfold updK at h
  split at h
  · rename_i r _ _
    obtain ⟨id, es, kt, et, h1, h2, h3, h4, h5, h6, h7, h8⟩ := h
    intro μ a w hE hS
    have e1 : a.eval x = .map (some r) := (hE.ev hu).of_plain rfl
    have e2 : a.eval y = k := VRel.plainD_eq h4 (hE.ev hk)
    have e3 : a.eval z = v := VRel.plainD_eq h5 (hE.ev hv)
    obtain ⟨m, c, q1, q2⟩ := hS.maps.1 id r es h2
    have q3 : m.toList.map (·.key) = es.map (·.1) := by rw [← q2, List.map_map]; rfl
    have q4 := h6.2 m.toList w q3
    rw [q2, h7] at q4
    obtain ⟨g1, g2⟩ := hS.mset (es' := es ++ [(k, v)]) h2 h3 (m.push { key := k, val := v, born := c }) (c + 1) (by simp [q2])
    refine ⟨.skip, _, undef, undef, _, μ, ?_, .inr ⟨rfl, rfl⟩, h8, .tup rfl (fun i x y h => by simp at h), g1, g2⟩
    simp [execOp, ho, e1, e2, e3, Instr.mapUpdate, run_underlying h1, MapKept.run_getObj_map q1, h6.1, q4, MapKept.run_setObj_map _ q1]
  · exact h.elim
theorem or_delete {c : Call} {x y : Operand} {t t2 : TypeId} (ho : o.op = .call c) (hc : c.callee = .builtin .delete) (ha : c.args = #[x, y]) (ht : c.argTypes = #[t, t2]) (h : ow (S.ev x) fun u => ow (S.ev y) fun k => delK P b S K t u k) : OpRun P b o S K := by
  obtain ⟨u, hu, h⟩ := ow_iff.1 h
  obtain ⟨k, hk, h⟩ := ow_iff.1 h
  unfold delK at h
  split at h
  · rename_i r _
    obtain ⟨id, es, kt, et, i, v, h1, h2, h3, h4, h6, h7, h8⟩ := h
    intro μ a w hE hS
    have e1 : a.eval x = .map (some r) := (hE.ev hu).of_plain rfl
    have e2 : a.eval y = k := VRel.plainD_eq h4 (hE.ev hk)
    obtain ⟨m, c, q1, q2⟩ := hS.maps.1 id r es h2
    have q3 : m.toList.map (·.key) = es.map (·.1) := by rw [← q2, List.map_map]; rfl
    have q4 := h6.2 m.toList w q3
    rw [q2, h7] at q4
    obtain ⟨g1, g2⟩ := hS.mset (es' := es.eraseIdx i) h2 h3 (m.eraseIdxIfInBounds i) c (by simp [q2, Array.toList_eraseIdxIfInBounds, Go.ChangeMaps.map_eraseIdx])
    refine ⟨.value (.tuple #[]), _, .tuple #[], .tuple #[], _, μ, ?_, .inl rfl, h8, .tup rfl (fun i x y h => by simp at h), g1, g2⟩
    simp [execOp, ho, resolve, hc, ha, ht, invoke, builtin, e1, e2, Builtin.delete_, run_underlying h1, MapKept.run_getObj_map q1, h6.1, q4, MapKept.run_setObj_map _ q1]
  · exact h.elim
end
end Go.Proofs.YtodbjnngkonklaaGreat

namespace Go.Proofs.YtodbjnngkonklaaGreat
open Go.RowKit
set_option linter.unusedVariables false
set_option linter.unusedSimpArgs false

/-- A contract: called with args in M, the function returns v and leaves M'; ids below b are not touched. -/
structure Det (P : Program) (b : Nat) (f : FuncId) (args : List Value) (M : Mem) (v : Value) (M' : Mem) : Prop where
  fn : ∃ fn, P.funcs[f]? = some fn ∧ (fn.name == "runtime.NumGoroutine") = false ∧ fn.body.isNone = false
  run : ∀ μ w cs, LRel M μ args cs → Sim M μ w → Calls P f cs.toArray w (fun e w' => ∃ c μ', e = .returned c ∧ VRel M' μ' v c ∧ Sim M' μ' w' ∧ Step b M μ w M' μ' w')
/-- A contract that tells what holds of the outcome. -/
structure Ctr (P : Program) (b : Nat) (f : FuncId) (args : List Value) (M : Mem) (K : Value → Mem → Prop) : Prop where
  fn : ∃ fn, P.funcs[f]? = some fn ∧ (fn.name == "runtime.NumGoroutine") = false ∧ fn.body.isNone = false
  run : ∀ μ w cs, LRel M μ args cs → Sim M μ w → Calls P f cs.toArray w (fun e w' => ∃ v M' c μ', K v M' ∧ e = .returned c ∧ VRel M' μ' v c ∧ Sim M' μ' w' ∧ Step b M μ w M' μ' w')
theorem Ctr.mono {P : Program} {b : Nat} {f : FuncId} {args : List Value} {M : Mem} {K K' : Value → Mem → Prop} (h : Ctr P b f args M K) (hK : ∀ v M', K v M' → K' v M') : Ctr P b f args M K' :=
  ⟨h.fn, fun μ w cs hl hS => (h.run μ w cs hl hS).mono fun e w' ⟨v, M', c, μ', k, r⟩ => ⟨v, M', c, μ', hK _ _ k, r⟩⟩
theorem Det.ctr {P : Program} {b : Nat} {f : FuncId} {args : List Value} {M M' : Mem} {v : Value} {K : Value → Mem → Prop} (h : Det P b f args M v M') (hK : K v M') : Ctr P b f args M K :=
  ⟨h.fn, fun μ w cs hl hS => (h.run μ w cs hl hS).mono fun e w' ⟨c, μ', r⟩ => ⟨v, M', c, μ', hK, r⟩⟩
theorem Ctr.weaken {P : Program} {b b' : Nat} {f : FuncId} {args : List Value} {M : Mem} {K : Value → Mem → Prop} (h : Ctr P b f args M K) (hb : b' ≤ b) : Ctr P b' f args M K :=
  ⟨h.fn, fun μ w cs hl hS => (h.run μ w cs hl hS).mono fun e w' ⟨v, M', c, μ', k, he, hv, h1, h2⟩ => ⟨v, M', c, μ', k, he, hv, h1, h2.weaken hb⟩⟩
theorem Det.weaken {P : Program} {b b' : Nat} {f : FuncId} {args : List Value} {M M' : Mem} {v : Value} (h : Det P b f args M v M') (hb : b' ≤ b) : Det P b' f args M v M' :=
  ⟨h.fn, fun μ w cs hl hS => (h.run μ w cs hl hS).mono fun e w' ⟨c, μ', he, hv, h1, h2⟩ => ⟨c, μ', he, hv, h1, h2.weaken hb⟩⟩

inductive Ex where
  | normal
  | exit (id : Nat)
  | ret
def Ex.toExit : Ex → Exit
  | .normal => .normal
  | .exit id => .exit id
  | .ret => .ret
def exThen (next : St → Prop) (Q : Ex → St → Prop) : Ex → St → Prop
  | .normal, S => next S
  | e, S => Q e S
def exBlock (id : Nat) (Q : Ex → St → Prop) : Ex → St → Prop
  | .exit i, S => if i = id then Q .normal S else Q (.exit i) S
  | e, S => Q e S
@[simp] theorem exThen_normal (next : St → Prop) (Q : Ex → St → Prop) (S : St) : exThen next Q .normal S = next S := (rfl)
@[simp] theorem exThen_exit (next : St → Prop) (Q : Ex → St → Prop) (S : St) (i : Nat) : exThen next Q (.exit i) S = Q (.exit i) S := (rfl)
@[simp] theorem exThen_ret (next : St → Prop) (Q : Ex → St → Prop) (S : St) : exThen next Q .ret S = Q .ret S := (rfl)
@[simp] theorem exBlock_normal (id : Nat) (Q : Ex → St → Prop) (S : St) : exBlock id Q .normal S = Q .normal S := (rfl)
@[simp] theorem exBlock_exit (id : Nat) (Q : Ex → St → Prop) (S : St) (i : Nat) : exBlock id Q (.exit i) S = if i = id then Q .normal S else Q (.exit i) S := (rfl)
@[simp] theorem exBlock_ret (id : Nat) (Q : Ex → St → Prop) (S : St) : exBlock id Q .ret S = Q .ret S := (rfl)

/-- What is shown of the model's code. -/
def AQ (b : Nat) (Q : Ex → St → Prop) (M : Mem) (μ : Map) (w : World) : Exit → Act → World → Prop :=
  fun e a' w' => ∃ x S' μ', e = Ex.toExit x ∧ Q x S' ∧ Env S' μ' a' ∧ Sim S'.M μ' w' ∧ Step b M μ w S'.M μ' w'
def AW (P : Program) (b : Nat) (c : Code) (Q : Ex → St → Prop) (S : St) : Prop := ∀ μ a w, Env S μ a → Sim S.M μ w → c.wp P (AQ b Q S.M μ w) a w

/-- A call; d: its outcome must be told. -/
def awCall (P : Program) (d : Bool) (b : Nat) (g : FuncId) (args : List Value) (M : Mem) (K : Value → Mem → Prop) (_ : Tk K := tk) : Prop := (∃ v M', Det P b g args M v M' ∧ K v M') ∨ (d = false ∧ Ctr P b g args M K)
theorem awCall_det {P : Program} {d : Bool} {b : Nat} {g : FuncId} {args : List Value} {M : Mem} {K : Value → Mem → Prop} {v : Value} {M' : Mem} (h : Det P b g args M v M') (hK : K v M') : awCall P d b g args M K := .inl ⟨v, M', h, hK⟩
theorem awCall_ctr {P : Program} {b : Nat} {g : FuncId} {args : List Value} {M : Mem} {K K' : Value → Mem → Prop} (h : Ctr P b g args M K') (hK : ∀ v M', K' v M' → K v M') : awCall P false b g args M K := .inr ⟨rfl, h.mono hK⟩
theorem awCall_run {P : Program} {d : Bool} {b : Nat} {g : FuncId} {args : List Value} {M : Mem} {K : Value → Mem → Prop} (h : awCall P d b g args M K) : Ctr P b g args M K := by
  rcases h with ⟨v, M', h, hK⟩ | ⟨-, h⟩
  · exact h.ctr hK
  · exact h
def callV (P : Program) (d : Bool) (b : Nat) (S : St) (K : Value → Mem → Prop) (f : Value) (as1 : List Value) : Prop :=
  match f with
  | .func (.func g) us vs => awCall P d b g (us.toList ++ as1 ++ vs.toList) S.M K
  | _ => False
/-- One operation. -/
noncomputable def awOp (P : Program) (d : Bool) (b : Nat) (o : Oper) (S : St) (K : Value → Mem → Prop) : Prop :=
  match o.op with
  | .move x => ow (S.ev x) fun v => K v S.M
  | .assign x => ow (S.ev x) fun v => K v S.M
  | .pick c x y => ow (S.ev c) fun cv => ow (S.ev x) fun u => ow (S.ev y) fun v => match cv with | .bool t => K (if t = true then u else v) S.M | _ => False
  | .alloc t => ow (qZero P t) fun cs => K (.pointer (some ⟨S.M.length, 0, none⟩)) (S.M ++ [.live ⟨cs, true, true, t, cs.length⟩])
  | .box t x => ow (S.ev x) fun v => K (.pointer (some ⟨S.M.length, 0, none⟩)) (S.M ++ [.live ⟨v.cells.toList, true, true, t, v.cells.size⟩])
  | .build t ps => ow (partsV S ps.toList) fun vs => ow (qBuild P t) fun q => ow (Instr.fill (q.2[·]?) q.1 vs) fun cs => K (.agg cs) S.M
  | .buildSlice t n ps => ow (partsV S ps.toList) fun vs => ow (qSlice P t) fun q => ow (qZero P q.1) fun z => (z.length = q.2.1 ∧ n * q.2.1 ≤ 16777216) ∧ ow (Instr.fill (fun i => some (i * q.2.1, q.2.1)) (zrow z n).toArray vs) fun cs =>
      K (.slice (some ⟨S.M.length, 0, none⟩) n n) (S.M ++ [.live ⟨cs.toList, true, true, q.1, q.2.1⟩])
  | .load t x => ow (S.ev x) (loadK P S t K)
  | .store t x y => ow (S.ev x) fun p => ow (S.ev y) fun v => storeK P b S t K p v
  | .nilCheck x => ow (S.ev x) fun u => match u with | .pointer (some ⟨id, off, none⟩) => K (.pointer (some ⟨id, off, none⟩)) S.M | .func (.func f) us vs => K (.func (.func f) us vs) S.M | _ => False
  | .binOp op t x y _ => ow (S.ev x) fun u => ow (S.ev y) fun v => ow (binV P op t u v) fun r => K r S.M
  | .unOp op _ x => ow (S.ev x) fun u => ow (unV op u) fun r => K r S.M
  | .convert src dst x => ow (S.ev x) fun u => match u with
    | .slice q n c => b2sK P S K src dst (.slice q n c)
    | .string s => s2K P S K src dst s
    | u => ow (convV P src dst u) fun r => K r S.M
  | .makeFunc fn first captured => ow (evs S first.toList) fun us => ow (evs S captured.toList) fun vs => K (.func fn us.toArray vs.toArray) S.M
  | .makeSlice t x y => ow (S.ev x) fun u => ow (S.ev y) fun v => makeK P S K t u v
  | .slice t x lo hi none => ow (S.ev x) fun u => ow (evo S lo) fun l => ow (evo S hi) fun h => sliceK P S K t u l h
  | .fieldAddr t x f => ow (S.ev x) fun u => ow (qField P t f) fun q => fieldAddrK S K q.1 u
  | .field t x f => ow (S.ev x) fun u => ow (qField P t f) fun q => ow (fieldV u q) fun v => K v S.M
  | .indexAddr t x y => ow (S.ev x) fun u => ow (S.ev y) fun i => ow (qSlice P t) fun q => indexAddrK S K q.2.1 u i
  | .index t x y => P.underlying t = some .string ∧ ow (S.ev x) fun u => ow (S.ev y) fun i => indexK S K u i
  | .extract x i => ow (S.ev x) fun u => ow (tupAt u i) fun v => K v S.M
  | .call c => match c.callee, c.args.toList, c.argTypes.toList with
    | .value f, as1, _ => ow (S.ev f) fun fv => ow (evs S as1) fun vs => callV P d b S K fv vs
    | .builtin .len, [x], [t] => ow (S.ev x) fun u => lenK P S K t u
    | .builtin .delete, [x, y], [t, _] => ow (S.ev x) fun u => ow (S.ev y) fun k => delK P b S K t u k
    | .builtin .append, [s, x], [t, tx] => ow (S.ev s) fun u => ow (S.ev x) fun v => appendK P b S K t tx u v
    | .builtin .min, [x, y], _ => ow (S.ev x) fun u => ow (S.ev y) fun v => ow (minV u v) fun r => K r S.M
    | .builtin .max, [x, y], _ => ow (S.ev x) fun u => ow (S.ev y) fun v => ow (maxV u v) fun r => K r S.M
    | _, _, _ => False
  | .lookup t x y true => ow (S.ev x) fun u => ow (S.ev y) fun k => lookK P S K t u k
  | .makeMap t none => d = false ∧ ∀ r, K (.map (some r)) (S.M ++ [.mp r []])
  | .mapUpdate t x y z => ow (S.ev x) fun u => ow (S.ev y) fun k => ow (S.ev z) fun v => updK P b S K t u k v
  | _ => False
def isCall (o : Oper) : Bool :=
  match o.op with
  | .call { callee := .value _, .. } => true
  | _ => false
theorem toArray_eq {α : Type} {a : Array α} {l : List α} (h : a.toList = l) : a = l.toArray := by rw [← h]

section
variable {P : Program} {d : Bool} {b : Nat} {o : Oper} {S : St} {K : Value → Mem → Prop}
theorem awOp_run (hc : isCall o = false) (h : awOp P d b o S K) : OpRun P b o S K := by
  unfold awOp at h
  split at h
  case h_22 =>
    rename_i c hop
    split at h
    · exfalso
      obtain ⟨ce, ar, at_⟩ := c
      cases ce <;> simp_all [isCall]
    · rename_i h1 h2 h3
      exact or_len hop h1 (toArray_eq h2) (toArray_eq h3) h
    · rename_i h1 h2 h3
      exact or_delete hop h1 (toArray_eq h2) (toArray_eq h3) h
    · rename_i h1 h2 h3
      exact or_append hop h1 (toArray_eq h2) (toArray_eq h3) h
    · rename_i h1 h2
      exact or_min2 hop h1 (toArray_eq h2) h
    · rename_i h1 h2
      exact or_max2 hop h1 (toArray_eq h2) h
    · exact h.elim
  all_goals first
    | exact h.elim
    | exact or_move (.inl (by assumption)) h
    | exact or_move (.inr (by assumption)) h
    | exact or_pick (by assumption) h
    | exact or_alloc (by assumption) h
    | exact or_box (by assumption) h
    | exact or_build (by assumption) h
    | exact or_buildSlice (by assumption) h
    | exact or_load (by assumption) h
    | exact or_store (by assumption) h
    | exact or_nilCheck (by assumption) h
    | exact or_bin (by assumption) h
    | exact or_un (by assumption) h
    | exact or_func (by assumption) h
    | exact or_make (by assumption) h
    | exact or_slice (by assumption) h
    | exact or_fieldAddr (by assumption) h
    | exact or_field (by assumption) h
    | exact or_indexAddr (by assumption) h
    | exact or_index (by assumption) h
    | exact or_extract (by assumption) h
    | exact or_lookup (by assumption) h
    | exact or_makeMap (by assumption) h.2
    | exact or_update (by assumption) h
    | skip
  rename_i src dst x hop
  obtain ⟨u, hu, h'⟩ := ow_iff.1 h
  split at h'
  · exact or_b2s hop (ow_iff.2 ⟨_, hu, h'⟩)
  · exact or_s2 hop hu h'
  · exact or_conv hop (ow_iff.2 ⟨_, hu, h'⟩)

/-- The operation, where it is no call: what the model's wp says. -/
theorem OpRun.wp (h : OpRun P b o S K) {μ : Map} {a : Act} {w : World} (hE : Env S μ a) (hS : Sim S.M μ w) {next : Act → World → Prop} {Q : Exit → Act → World → Prop}
    (hn : ∀ v M' c μ' w', K v M' → VRel M' μ' v c → Sim M' μ' w' → Step b S.M μ w M' μ' w' → next (a.put o.dst c) w') : o.wp P a w next Q := by
  obtain ⟨nx, w', v, c, M', μ', hr, hnx, hK, hv, h1, h2⟩ := h μ a w hE hS
  unfold Oper.wp
  rw [hr]
  rcases hnx with rfl | ⟨rfl, rfl⟩
  · exact hn v M' _ μ' w' hK hv h1 h2
  · exact hn v M' _ μ' w' hK hv h1 h2
theorem callV_inv {f : Value} {as1 : List Value} (h : callV P d b S K f as1) : ∃ g us vs, f = .func (.func g) us vs ∧ Ctr P b g (us.toList ++ as1 ++ vs.toList) S.M K := by
  unfold callV at h
  split at h
  · exact ⟨_, _, _, rfl, awCall_run h⟩
  · exact h.elim
theorem awOp_wp (h : awOp P d b o S K) {μ : Map} {a : Act} {w : World} (hE : Env S μ a) (hS : Sim S.M μ w) {next : Act → World → Prop} {Q : Exit → Act → World → Prop}
    (hn : ∀ v M' c μ' w', K v M' → VRel M' μ' v c → Sim M' μ' w' → Step b S.M μ w M' μ' w' → next (a.put o.dst c) w') : o.wp P a w next Q := by
  cases hc : isCall o with
  | false => exact (awOp_run hc h).wp hE hS hn
  | true =>
    unfold isCall at hc
    split at hc
    · rename_i fo as1 ats hop
      unfold awOp at h
      simp only [hop] at h
      obtain ⟨fv, hf, h'⟩ := ow_iff.1 h
      obtain ⟨vs, hvs, h''⟩ := ow_iff.1 h'
      obtain ⟨g, us, cs, rfl, hd⟩ := callV_inv h''
      have rf := hE.ev hf
      have ra := hE.evs hvs
      obtain ⟨fn, hfn, hname, hbody⟩ := hd.fn
      generalize hce : a.eval fo = cf at rf
      cases rf with
      | plain hp => simp [plainV] at hp
      | @fn _ _ ys _ zs e1 r1 e2 r2 =>
        have hl : LRel S.M μ (us.toList ++ vs ++ cs.toList) (ys.toList ++ as1.toList.map a.eval ++ zs.toList) :=
          LRel.append (LRel.append ⟨by simpa using e1, fun i x y hx hy => r1 i x y (by simpa using hx) (by simpa using hy)⟩ ra) ⟨by simpa using e2, fun i x y hx hy => r2 i x y (by simpa using hx) (by simpa using hy)⟩
        have hrun := hd.run μ w _ hl hS
        have hx : (execOp a.eval o).run P w = .ok (.enter g (ys ++ as1.map a.eval ++ zs)) w := by
          have hname' : ¬ fn.name = "runtime.NumGoroutine" := by simpa using hname
          have hbody' : ¬ fn.body = none := by intro h; rw [h] at hbody; cases hbody
          simp [execOp, hop, resolve, hce, Deferred.ofValue, invoke, callFunc, Go.program, Sem.run, hfn, hname', hbody']
        unfold Oper.wp
        rw [hx]
        have harr : (ys ++ as1.map a.eval ++ zs) = (ys.toList ++ as1.toList.map a.eval ++ zs.toList).toArray := by apply Array.ext'; simp
        simp only [Oper.upon]
        rw [harr]
        refine hrun.mono ?_
        rintro e w' ⟨v, M', c, μ', hK, rfl, hv, h1, h2⟩
        exact hn v M' _ μ' w' hK hv h1 h2
    · cases hc

/-- Operations one after the other; the rest of them is a list of numbers. -/
noncomputable def awOps (P : Program) (b : Nat) (ops : Array Oper) (Q : St → Prop) : List Oper → St → Prop
  | [], S => Q S
  | o :: os, S =>
    match o.guard with
    | none => awOp P false b o S fun v M' => awOps P b ops Q os (St.put { S with M := M' } o.dst v)
    | some (j, want) => ow (((ops[j]?).bind (·.dst)).bind S.get) fun g => match g with
      | .bool y => (y = want → awOp P false b o S fun v M' => awOps P b ops Q os (St.put { S with M := M' } o.dst v)) ∧ (y = !want → awOps P b ops Q os (S.put o.dst undef))
      | .tuple _ => awOps P b ops Q os (S.put o.dst undef)
      | _ => False
theorem get_rel {μ : Map} {a : Act} (hE : Env S μ a) {t : Nat} {v : Value} (h : S.get t = some v) : ∃ c, a.tmps[t]? = some c ∧ VRel S.M μ v c := by
  unfold St.get at h
  split at h
  · exact hE.val t v h (by assumption)
  · cases h
theorem awOps_wp {ops : Array Oper} {Q : St → Prop} : ∀ (l : List Nat) (os : List Oper) (S : St), l.map (ops[·]?) = os.map some → awOps P b ops Q os S → ∀ μ a w, Env S μ a → Sim S.M μ w → ∀ (R : Exit → Act → World → Prop),
    (∀ S' μ' a' w', Q S' → Env S' μ' a' → Sim S'.M μ' w' → Step b S.M μ w S'.M μ' w' → R .normal a' w') → wpOps P ops R l a w := by
  intro l
  induction l with
  | nil =>
    intro os S hl h μ a w hE hS R hR
    have : os = [] := by cases os <;> simp_all
    subst this
    exact hR S μ a w h hE hS .refl
  | cons i l ih =>
    intro os S hl h μ a w hE hS R hR
    match os, hl with
    | [], hl => cases hl
    | o :: os, hl =>
      simp only [List.map_cons, List.cons.injEq] at hl
      obtain ⟨ho, hl⟩ := hl
      simp only [wpOps, ho]
      have go : (awOp P false b o S fun v M' => awOps P b ops Q os (St.put { S with M := M' } o.dst v)) → o.wp P a w (wpOps P ops R l) R := fun h' =>
        awOp_wp h' hE hS fun v M' c μ' w' hK hv hS' hst => ih os _ hl hK μ' _ w' (hE.put hst hv o.dst) (by cases o.dst <;> exact hS') R
          fun S'' μ'' a'' w'' q1 q2 q3 q4 => hR S'' μ'' a'' w'' q1 q2 q3 (hst.trans (by cases hd : o.dst <;> rw [hd] at q4 <;> exact q4))
      have skip : awOps P b ops Q os (S.put o.dst undef) → wpOps P ops R l (a.put o.dst undef) w := fun h' => by
        have hE' := hE.put (b := b) (M' := S.M) (μ' := μ) (w := w) (w' := w) .refl (v := undef) (c := undef) (.tup rfl (fun i x y h => by simp at h)) o.dst
        exact ih os _ hl h' μ _ w hE' (by cases o.dst <;> exact hS) R fun S'' μ'' a'' w'' q1 q2 q3 q4 => hR S'' μ'' a'' w'' q1 q2 q3 (by cases hd : o.dst <;> rw [hd] at q4 <;> exact q4)
      simp only [awOps] at h
      cases hg : o.guard with
      | none =>
        rw [hg] at h
        rw [if_pos (by simp [Region.wanted, hg])]
        exact .inl (go h)
      | some jw =>
        obtain ⟨j, want⟩ := jw
        rw [hg] at h
        obtain ⟨g, hg1, h⟩ := ow_iff.1 h
        obtain ⟨t, ht, hget⟩ := Option.bind_eq_some_iff.1 hg1
        obtain ⟨c, hc1, hc2⟩ := get_rel hE hget
        have hy : yielded ops a.tmps j = match c with | .bool y => some y | _ => none := by
          unfold yielded
          rw [ht]
          simp only [Option.bind_some, hc1]
          cases c <;> rfl
        cases g <;> simp only at h <;> try exact h.elim
        · rename_i y
          have := hc2.bool
          subst this
          by_cases hyw : y = want
          · rw [if_pos (by simp [Region.wanted, hg, hy, hyw])]
            exact .inl (go (h.1 hyw))
          · rw [if_neg (by simp [Region.wanted, hg, hy, hyw])]
            exact skip (h.2 (by cases y <;> cases want <;> simp_all))
        · obtain ⟨ys, rfl, -⟩ := hc2.tup_inv
          rw [if_neg (by simp [Region.wanted, hg, hy])]
          exact skip h
theorem awOps_region {ops : Array Oper} {id : Nat} {Q : Ex → St → Prop} (h : awOps P b ops (Q .normal) ops.toList S) : AW P b (.region id ops false) Q S := by
  intro μ a w hE hS
  refine wp_region (awOps_wp (List.range ops.size) ops.toList S ?_ h μ a w hE hS _ fun S' μ' a' w' q1 q2 q3 q4 => ⟨.normal, S', μ', rfl, q1, q2, q3, q4⟩)
  apply List.ext_getElem?
  intro i
  simp only [List.getElem?_map]
  by_cases hi : i < ops.size
  · rw [List.getElem?_range hi]
    simp [hi]
  · rw [List.getElem?_eq_none (by simp; omega), List.getElem?_eq_none (by simp; omega)]
    rfl
end
end Go.Proofs.YtodbjnngkonklaaGreat

namespace Go.Proofs.YtodbjnngkonklaaGreat
open Go.RowKit
set_option linter.unusedVariables false
set_option linter.unusedSimpArgs false

/-- One outcome, whatever is asked of it. -/
def Pt (F : (Value → Mem → Prop) → Prop) : Prop := ∀ K, F K → ∃ v M', K v M' ∧ ∀ K' : Value → Mem → Prop, K' v M' → F K'
theorem Pt.leaf {v : Value} {M : Mem} : Pt fun K => K v M := fun K h => ⟨v, M, h, fun _ h => h⟩
theorem Pt.ff : Pt fun _ => False := fun K h => h.elim
theorem Pt.ow {α : Type} {o : Option α} {F : α → (Value → Mem → Prop) → Prop} (h : ∀ a, Pt (F a)) : Pt fun K => ow o fun a => F a K := by
  cases o with
  | none => exact .ff
  | some a => exact h a
theorem Pt.and {p : Prop} {F : (Value → Mem → Prop) → Prop} (h : Pt F) : Pt fun K => p ∧ F K := by
  intro K hK
  obtain ⟨v, M', h1, h2⟩ := h K hK.2
  exact ⟨v, M', h1, fun K' h' => ⟨hK.1, h2 K' h'⟩⟩
theorem Pt.imp {p : Prop} {F G : (Value → Mem → Prop) → Prop} (h : Pt F) (h' : Pt G) : Pt fun K => (p → F K) ∧ (¬ p → G K) := by
  intro K hK
  by_cases hp : p
  · obtain ⟨v, M', h1, h2⟩ := h K (hK.1 hp)
    exact ⟨v, M', h1, fun K' h' => ⟨fun _ => h2 K' h', fun hn => absurd hp hn⟩⟩
  · obtain ⟨v, M', h1, h2⟩ := h' K (hK.2 hp)
    exact ⟨v, M', h1, fun K' h' => ⟨fun hn => absurd hn hp, fun _ => h2 K' h'⟩⟩
theorem Pt.ite {p : Prop} [Decidable p] {F G : (Value → Mem → Prop) → Prop} (h : Pt F) (h' : Pt G) : Pt fun K => if p then F K else G K := by
  by_cases hp : p
  · simpa [hp] using h
  · simpa [hp] using h'
theorem Pt.call {P : Program} {b : Nat} {g : FuncId} {args : List Value} {M : Mem} : Pt fun K => awCall P true b g args M K := by
  intro K h
  rcases h with ⟨v, M', hd, hK⟩ | ⟨h, -⟩
  · exact ⟨v, M', hK, fun K' h' => .inl ⟨v, M', hd, h'⟩⟩
  · cases h

section
variable {P : Program} {b : Nat} {S : St}
theorem pt_load {t : TypeId} {v : Value} : Pt fun K => loadK P S t K v := by
  unfold loadK
  split
  · refine .ow fun k => ?_
    cases k with
    | none => exact .ow fun _ => .leaf
    | some k => exact .ow fun _ => .leaf
  · exact .ff
theorem pt_store {t : TypeId} {p v : Value} : Pt fun K => storeK P b S t K p v := by
  unfold storeK
  split
  · exact .and (.ow fun _ => .leaf)
  · exact .ff
theorem pt_append {t tx : TypeId} {s x : Value} : Pt fun K => appendK P b S K t tx s x := by
  unfold appendK
  refine .ow fun q => .ow fun mn => .and (.and ?_)
  split
  · exact .and (.and (.and (.imp .leaf .leaf)))
  · split
    · exact .and (.and (.and (.imp .leaf (.ite .leaf (.and .leaf)))))
    · exact .ff
  · exact .ff
theorem pt_b2s {src dst : TypeId} {x : Value} : Pt fun K => b2sK P S K src dst x := by
  unfold b2sK
  refine .and (.ow fun q => .and (.and ?_))
  split
  · exact .and .leaf
  · exact .ow fun _ => .ow fun _ => .leaf
  · exact .ff
theorem pt_s2 {src dst : TypeId} {s : ByteArray} : Pt fun K => s2K P S K src dst s := by
  unfold s2K
  split
  · exact .and .leaf
  · exact .ow fun _ => .leaf
theorem pt_make {t : TypeId} {x y : Value} : Pt fun K => makeK P S K t x y := by
  unfold makeK
  split
  · exact .ow fun _ => .ow fun _ => .and .leaf
  · exact .ff
theorem pt_slice {t : TypeId} {x : Value} {lo hi : Option Value} : Pt fun K => sliceK P S K t x lo hi := by
  unfold sliceK
  split
  · exact .and (.ow fun _ => .ow fun _ => .and .leaf)
  · exact .and (.ow fun _ => .ow fun _ => .ow fun _ => .and .leaf)
  · exact .ow fun _ => .ow fun _ => .ow fun _ => .and (.and .leaf)
  · exact .ff
theorem pt_len {t : TypeId} {x : Value} : Pt fun K => lenK P S K t x := by
  unfold lenK
  split
  · exact .leaf
  · exact .leaf
  · rintro K ⟨id, es, h1, h2⟩; exact ⟨_, _, h2, fun K' h' => ⟨id, es, h1, h'⟩⟩
  · exact .ff
theorem pt_fieldAddr {off : Nat} {v : Value} : Pt fun K => fieldAddrK S K off v := by
  unfold fieldAddrK
  split
  · exact .leaf
  · exact .ff
theorem pt_indexAddr {esz : Nat} {v i : Value} : Pt fun K => indexAddrK S K esz v i := by
  unfold indexAddrK
  split
  · exact .and .leaf
  · exact .ff
theorem pt_index {v i : Value} : Pt fun K => indexK S K v i := by
  unfold indexK
  split
  · exact .and .leaf
  · exact .ff
theorem pt_callV {f : Value} {as1 : List Value} : Pt fun K => callV P true b S K f as1 := by
  unfold callV
  split
  · exact .call
  · exact .ff
theorem pt_look {t : TypeId} {u k : Value} : Pt fun K => lookK P S K t u k := by
  unfold lookK
  split
  · rintro K ⟨id, es, kt, et, z, h1, h2, h3, h4, h5, h6, h7, h8⟩
    cases hf : findE k es 0 with
    | none => rw [hf] at h8; exact ⟨_, _, h8, fun K' h' => ⟨id, es, kt, et, z, h1, h2, h3, h4, h5, h6, h7, by rw [hf]; exact h'⟩⟩
    | some p => rw [hf] at h8; exact ⟨_, _, h8, fun K' h' => ⟨id, es, kt, et, z, h1, h2, h3, h4, h5, h6, h7, by rw [hf]; exact h'⟩⟩
  · exact .ff
theorem pt_upd {t : TypeId} {u k v : Value} : Pt fun K => updK P b S K t u k v := by
  unfold updK
  split
  · rintro K ⟨id, es, kt, et, h1, h2, h3, h4, h5, h6, h7, h8⟩
    exact ⟨_, _, h8, fun K' h' => ⟨id, es, kt, et, h1, h2, h3, h4, h5, h6, h7, h'⟩⟩
  · exact .ff
theorem pt_del {t : TypeId} {u k : Value} : Pt fun K => delK P b S K t u k := by
  unfold delK
  split
  · rintro K ⟨id, es, kt, et, i, v, h1, h2, h3, h4, h5, h6, h7⟩
    exact ⟨_, _, h7, fun K' h' => ⟨id, es, kt, et, i, v, h1, h2, h3, h4, h5, h6, h'⟩⟩
  · exact .ff
theorem awOp_pt (o : Oper) : Pt fun K => awOp P true b o S K := by
  unfold awOp
  split
  · exact .ow fun _ => .leaf
  · exact .ow fun _ => .leaf
  · refine .ow fun cv => .ow fun u => .ow fun v => ?_
    split
    · exact .leaf
    · exact .ff
  · exact .ow fun _ => .leaf
  · exact .ow fun _ => .leaf
  · exact .ow fun _ => .ow fun _ => .ow fun _ => .leaf
  · exact .ow fun _ => .ow fun _ => .ow fun _ => .and (.ow fun _ => .leaf)
  · exact .ow fun _ => pt_load
  · exact .ow fun _ => .ow fun _ => pt_store
  · refine .ow fun u => ?_
    split
    · exact .leaf
    · exact .leaf
    · exact .ff
  · exact .ow fun _ => .ow fun _ => .ow fun _ => .leaf
  · exact .ow fun _ => .ow fun _ => .leaf
  · refine .ow fun u => ?_
    split
    · exact pt_b2s
    · exact pt_s2
    · exact .ow fun _ => .leaf
  · exact .ow fun _ => .ow fun _ => .leaf
  · exact .ow fun _ => .ow fun _ => pt_make
  · exact .ow fun _ => .ow fun _ => .ow fun _ => pt_slice
  · exact .ow fun _ => .ow fun _ => pt_fieldAddr
  · exact .ow fun _ => .ow fun _ => .ow fun _ => .leaf
  · exact .ow fun _ => .ow fun _ => .ow fun _ => pt_indexAddr
  · exact .and (.ow fun _ => .ow fun _ => pt_index)
  · exact .ow fun _ => .ow fun _ => .leaf
  · split
    · exact .ow fun _ => .ow fun _ => pt_callV
    · exact .ow fun _ => pt_len
    · exact .ow fun _ => .ow fun _ => pt_del
    · exact .ow fun _ => .ow fun _ => pt_append
    · exact .ow fun _ => .ow fun _ => .ow fun _ => .leaf
    · exact .ow fun _ => .ow fun _ => .ow fun _ => .leaf
    · exact .ff
  · exact .ow fun _ => .ow fun _ => pt_look
  · intro K h; exact absurd h.1 (by decide)
  · exact .ow fun _ => .ow fun _ => .ow fun _ => pt_upd
  · exact .ff

theorem evs_congr {S' : St} {xs : List Operand} (h : ∀ x ∈ xs, S.ev x = S'.ev x) : evs S xs = evs S' xs := by
  induction xs with
  | nil => rfl
  | cons x xs ih => rw [evs_cons, evs_cons, h x (by simp), ih fun y hy => h y (by simp [hy])]
theorem partsV_congr {S' : St} {ps : List (Nat × Operand)} (h : ∀ p ∈ ps, S.ev p.2 = S'.ev p.2) : partsV S ps = partsV S' ps := by
  induction ps with
  | nil => rfl
  | cons p ps ih =>
    obtain ⟨i, x⟩ := p
    have := h (i, x) (by simp)
    simp only at this
    simp only [partsV, this, ih fun q hq => h q (by simp [hq])]
theorem evo_congr {S' : St} {x : Option Operand} (h : ∀ y, x = some y → S.ev y = S'.ev y) : evo S x = evo S' x := by
  cases x with
  | none => rfl
  | some y => simp only [evo, h y rfl]
theorem awOp_congr {d : Bool} {S' : St} {o : Oper} {K : Value → Mem → Prop} (hM : S'.M = S.M) (h : ∀ x ∈ o.op.operands.toList, S.ev x = S'.ev x) (hK : awOp P d b o S K) : awOp P d b o S' K := by
  obtain ⟨n, T, M⟩ := S
  obtain ⟨n', T', M'⟩ := S'
  simp only at hM
  subst hM
  unfold awOp at hK ⊢
  split at hK
  · rename_i x hop
    rw [hop] at h
    try simp only [hop]
    rw [← h x (by simp [Op.operands])]
    exact hK
  · rename_i x hop
    rw [hop] at h
    try simp only [hop]
    rw [← h x (by simp [Op.operands])]
    exact hK
  · rename_i c x y hop
    rw [hop] at h
    try simp only [hop]
    rw [← h c (by simp [Op.operands]), ← h x (by simp [Op.operands]), ← h y (by simp [Op.operands])]
    exact hK
  · rename_i t hop
    try simp only [hop]
    exact hK
  · rename_i t x hop
    rw [hop] at h
    try simp only [hop]
    rw [← h x (by simp [Op.operands])]
    exact hK
  · rename_i t ps hop
    rw [hop] at h
    try simp only [hop]
    rw [← partsV_congr fun p hp => h p.2 (by simp only [Op.operands]; exact List.mem_map.2 ⟨p, hp, rfl⟩)]
    exact hK
  · rename_i t n' ps hop
    rw [hop] at h
    try simp only [hop]
    rw [← partsV_congr fun p hp => h p.2 (by simp only [Op.operands]; exact List.mem_map.2 ⟨p, hp, rfl⟩)]
    exact hK
  · rename_i t x hop
    rw [hop] at h
    try simp only [hop]
    rw [← h x (by simp [Op.operands])]
    exact hK
  · rename_i t x y hop
    rw [hop] at h
    try simp only [hop]
    rw [← h x (by simp [Op.operands]), ← h y (by simp [Op.operands])]
    exact hK
  · rename_i x hop
    rw [hop] at h
    try simp only [hop]
    rw [← h x (by simp [Op.operands])]
    exact hK
  · rename_i op t x y t' hop
    rw [hop] at h
    try simp only [hop]
    rw [← h x (by simp [Op.operands]), ← h y (by simp [Op.operands])]
    exact hK
  · rename_i op t x hop
    rw [hop] at h
    try simp only [hop]
    rw [← h x (by simp [Op.operands])]
    exact hK
  · rename_i src dst x hop
    rw [hop] at h
    try simp only [hop]
    rw [← h x (by simp [Op.operands])]
    exact hK
  · rename_i fn first captured hop
    rw [hop] at h
    try simp only [hop]
    rw [← evs_congr fun x hx => h x (by simp only [Op.operands, Array.toList_append, List.mem_append]; exact .inl hx), ← evs_congr fun x hx => h x (by simp only [Op.operands, Array.toList_append, List.mem_append]; exact .inr hx)]
    exact hK
  · rename_i t x y hop
    rw [hop] at h
    try simp only [hop]
    rw [← h x (by simp [Op.operands]), ← h y (by simp [Op.operands])]
    exact hK
  · rename_i t x lo hi hop
    rw [hop] at h
    try simp only [hop]
    rw [← h x (by simp [Op.operands]), ← evo_congr (x := lo) fun y hy => h y (by simp [Op.operands, hy]), ← evo_congr (x := hi) fun y hy => h y (by simp [Op.operands, hy])]
    exact hK
  · rename_i t x f hop
    rw [hop] at h
    try simp only [hop]
    rw [← h x (by simp [Op.operands])]
    exact hK
  · rename_i t x f hop
    rw [hop] at h
    try simp only [hop]
    rw [← h x (by simp [Op.operands])]
    exact hK
  · rename_i t x y hop
    rw [hop] at h
    try simp only [hop]
    rw [← h x (by simp [Op.operands]), ← h y (by simp [Op.operands])]
    exact hK
  · rename_i t x y hop
    rw [hop] at h
    try simp only [hop]
    rw [← h x (by simp [Op.operands]), ← h y (by simp [Op.operands])]
    exact hK
  · rename_i x i hop
    rw [hop] at h
    try simp only [hop]
    rw [← h x (by simp [Op.operands])]
    exact hK
  · rename_i c hop
    rw [hop] at h
    have hargs : ∀ x ∈ c.args.toList, (⟨n, T, M'⟩ : St).ev x = (⟨n', T', M'⟩ : St).ev x := fun x hx => h x (by
      simp only [Op.operands, Call.operands, Array.toList_append, List.mem_append]
      exact .inr hx)
    split at hK
    · rename_i _ _ f h1
      have hf : (⟨n, T, M'⟩ : St).ev f = (⟨n', T', M'⟩ : St).ev f := h f (by simp [Op.operands, Call.operands, h1])
      try simp only [hop, h1]
      rw [← hf, ← evs_congr hargs]
      exact hK
    · rename_i x t h1 h2 h3
      have := hargs x (by simp [h2])
      try simp only [hop, h1, h2, h3]
      rw [← this]
      exact hK
    · rename_i x y t _ h1 h2 h3
      have e1 := hargs x (by simp [h2])
      have e2 := hargs y (by simp [h2])
      try simp only [hop, h1, h2, h3]
      rw [← e1, ← e2]
      exact hK
    · rename_i s x t tx h1 h2 h3
      have e1 := hargs s (by simp [h2])
      have e2 := hargs x (by simp [h2])
      try simp only [hop, h1, h2, h3]
      rw [← e1, ← e2]
      exact hK
    · rename_i _ x y h1 h2
      have e1 := hargs x (by simp [h2])
      have e2 := hargs y (by simp [h2])
      try simp only [hop, h1, h2]
      rw [← e1, ← e2]
      exact hK
    · rename_i _ x y h1 h2
      have e1 := hargs x (by simp [h2])
      have e2 := hargs y (by simp [h2])
      try simp only [hop, h1, h2]
      rw [← e1, ← e2]
      exact hK
    · exact hK.elim
  · rename_i t x y hop
    rw [hop] at h
    try simp only [hop]
    rw [← h x (by simp [Op.operands]), ← h y (by simp [Op.operands])]
    exact hK
  · rename_i t hop
    try simp only [hop]
    exact hK
  · rename_i t x y z hop
    rw [hop] at h
    try simp only [hop]
    rw [← h x (by simp [Op.operands]), ← h y (by simp [Op.operands]), ← h z (by simp [Op.operands])]
    exact hK
  · exact hK.elim
end
end Go.Proofs.YtodbjnngkonklaaGreat
