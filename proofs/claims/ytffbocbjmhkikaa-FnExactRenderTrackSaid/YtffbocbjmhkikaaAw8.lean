/- Slices that are made, copied, turned to strings, over abstract states. No conditions. -/
import Derived.Test.YtffbocbjmhkikaaAw7
import Derived.Laws.IdiomStrings
namespace Go.Proofs.Ytffbocbjmhkikaa
open Go.RowKit
set_option linter.unusedVariables false
set_option linter.unusedSimpArgs false

/-- n times the cells z. -/
def zrow (z : List Value) (n : Nat) : List Value := (List.replicate n z).flatten
theorem zrow_len (z : List Value) (n : Nat) : (zrow z n).length = n * z.length := by simp [zrow]
theorem zrow_zero (z : List Value) : zrow z 0 = [] := rfl
theorem zrow_succ (z : List Value) (n : Nat) : zrow z (n + 1) = z ++ zrow z n := by simp [zrow, List.replicate_succ]
theorem zrow_one (v : Value) (n : Nat) : zrow [v] n = List.replicate n v := by simp [zrow]
theorem zrow_get (z : List Value) : ∀ (n i : Nat), i < n * z.length → (zrow z n)[i]? = z[i % z.length]?
  | 0, i, h => by omega
  | n + 1, i, h => by
    rw [zrow_succ]
    rw [Nat.add_mul, Nat.one_mul] at h
    by_cases hi : i < z.length
    · rw [List.getElem?_append_left hi, Nat.mod_eq_of_lt hi]
    · rw [List.getElem?_append_right (by omega), zrow_get z n _ (by omega)]
      conv => rhs; rw [Nat.mod_eq_sub_mod (by omega)]
theorem zrow_plain {z : List Value} (h : z.all plainV = true) (n : Nat) : (zrow z n).all plainV = true := by
  rw [List.all_eq_true] at h ⊢
  intro x hx
  unfold zrow at hx
  obtain ⟨l, hl, hxl⟩ := List.mem_flatten.1 hx
  rw [List.eq_of_mem_replicate hl] at hxl
  exact h x hxl
/-- What the model lays: the same. -/
theorem zrow_laid (z : Value) (n : Nat) : ((Array.range (n * z.cells.size)).map fun i => z.cells[i % z.cells.size]!) = (zrow z.cells.toList n).toArray := by
  apply Array.ext'
  apply List.ext_getElem?
  intro i
  by_cases hi : i < n * z.cells.size
  · simp only [Array.toList_map, Array.toList_range, List.getElem?_map, List.getElem?_range hi, Option.map_some]
    rw [zrow_get _ _ _ (by simpa using hi)]
    have hp : 0 < z.cells.size := by rcases Nat.eq_zero_or_pos z.cells.size with h | h; · rw [h] at hi; omega
                                     · exact h
    have hm := Nat.mod_lt i hp
    simp [hm]
  · rw [List.getElem?_eq_none (by simp; omega), List.getElem?_eq_none (by simp [zrow_len]; omega)]
theorem qZero_some {P : Program} {t : TypeId} {z : List Value} (h : qZero P t = some z) : ∃ i v, P.info? t = some i ∧ i.zero = some v ∧ v.cells.toList = z ∧ z.all plainV = true := by
  unfold qZero at h
  split at h
  · rename_i i hi
    split at h
    · rename_i v hv
      split at h
      · rename_i hp
        injection h with h
        exact ⟨i, v, hi, hv, h, by rw [← h]; exact hp⟩
      · cases h
    · cases h
  · cases h

section
variable {P : Program} {b : Nat} {o : Oper} {S : St} {K : Value → Mem → Prop}
theorem fill_size {place : Nat → Option (Nat × Nat)} : ∀ (vs : List (Nat × Value)) (xs cs : Array Value), Instr.fill place xs vs = some cs → cs.size = xs.size := by
  intro vs
  induction vs with
  | nil => intro xs cs h; injection h with h; subst h; rfl
  | cons p vs ih =>
    intro xs cs h
    obtain ⟨i, v⟩ := p
    simp only [Instr.fill] at h
    split at h
    · cases h
    · split at h
      · cases h
      · rw [ih _ _ h]
        have key : ∀ (l : List (Value × Nat)) (off : Nat) (ys : Array Value), (l.foldl (fun cs (c : Value × Nat) => cs.setIfInBounds (off + c.2) c.1) ys).size = ys.size := by
          intro l
          induction l with
          | nil => intro off ys; rfl
          | cons c l ih => intro off ys; simp only [List.foldl_cons]; rw [ih]; simp
        rw [← Array.foldl_toList]
        exact key _ _ _
theorem or_buildSlice {t : TypeId} {n : Nat} {ps : Array (Nat × Operand)} (ho : o.op = .buildSlice t n ps)
    (h : ow (partsV S ps.toList) fun vs => ow (qSlice P t) fun q => ow (qZero P q.1) fun z => (z.length = q.2.1 ∧ n * q.2.1 ≤ 16777216) ∧ ow (Instr.fill (fun i => some (i * q.2.1, q.2.1)) (zrow z n).toArray vs) fun cs =>
      K (.slice (some ⟨S.M.length, 0, none⟩) n n) (S.M ++ [.live ⟨cs.toList, true, true, q.1, q.2.1⟩])) : OpRun P b o S K := by
  obtain ⟨vs, hvs, h⟩ := ow_iff.1 h
  obtain ⟨⟨e, sz, by_⟩, hq, h⟩ := ow_iff.1 h
  obtain ⟨z, hz, hc, h⟩ := ow_iff.1 h
  obtain ⟨cs, hf, hK⟩ := ow_iff.1 h
  obtain ⟨ht, i, h2, h3, h4, h5⟩ := qSlice_some hq
  obtain ⟨i', v, h2', hv, hvz, hp⟩ := qZero_some hz
  simp only at h2' hc hf hK
  subst h3
  rw [h2] at h2'
  injection h2' with h2'
  subst h2'
  intro μ a w hE hS
  obtain ⟨e1, e2⟩ := hE.parts hvs
  obtain ⟨r', hr', hrel⟩ := fill_rel (M := S.M) (μ := μ) vs (ps.toList.map fun p => (p.1, a.eval p.2)) _ (zrow z n).toArray cs e1 e2 (.plain (zrow_plain hp n)) hf
  have hsz : cs.size = n * i.size := by rw [fill_size vs _ cs hf, List.size_toArray, zrow_len, hc.1]
  have hsz' : r'.size = n * i.size := by have := hrel.1; simp at this; omega
  obtain ⟨h1, h6⟩ := hS.alloc (b := b) (xs := cs.toList) (cur := r') (elem := e) (esz := i.size) (tight := true) (by have := hrel.1; simpa using Nat.le_of_eq this) (fun _ => by have := hrel.1; simpa using this)
    (fun j c hc => by obtain ⟨d, hd, hh⟩ := hrel.at_ hc; exact ⟨d, by simpa using hd, hh⟩)
  refine ⟨.value (.slice (some ⟨w.heap.size, 0, none⟩) n n), _, _, _, _, _, ?_, .inl rfl, hK, ?_, h1, h6⟩
  · have hns : ¬ (n * i.size > 2 ^ 24) := by have := hc.2; omega
    have hvs2 : v.cells.size = i.size := by rw [← hc.1, ← hvz]; simp
    have hlaid : ((Array.range (n * i.size)).map fun j => v.cells[j % v.cells.size]!) = (zrow z n).toArray := by rw [← hvz, ← zrow_laid, hvs2]
    by_cases h0 : n * i.size = 0
    · have hn : n = 0 := by
        rcases Nat.mul_eq_zero.1 h0 with h | h
        · exact h
        · omega
      subst hn
      have hr2 : Instr.fill (fun j => some (j * i.size, i.size)) #[] (ps.toList.map fun p => (p.1, a.eval p.2)) = some r' := hr'
      have hr3 : ∀ f : Nat → Value, Instr.fill (fun j => some (j * i.size, i.size)) ((Array.range 0).map f) (ps.toList.map fun p => (p.1, a.eval p.2)) = some r' := fun f => by
        have e0 : (Array.range 0).map f = #[] := by simp
        rw [e0]; exact hr2
      simp [execOp, ho, Instr.buildSlice, run_underlying ht, sizeOf, typeInfo, h2, hr3, newRow]
    · simp only [execOp, ho, Instr.buildSlice, Sem.run_bind, run_underlying ht, Result.andThen_ok, sizeOf, typeInfo, Go.program, Sem.run, h2, Sem.run_pure, if_neg hns, if_neg h0, zeroValue, hv, hlaid, Sem.run_ite]
      simp [hr', newRow]
  · refine .sl getElem?_snoc_eq rfl (Nat.le_refl _) ?_ fun r hr => ?_
    · unfold maxLen
      have := hc.2
      have : n * 1 ≤ n * i.size := Nat.mul_le_mul_left _ h5
      omega
    · injection hr with hr
      subst hr
      exact ⟨.inr (by rw [Map.set_at, Addr.add_lit]), fun _ => by rw [Map.set_room, hsz']; simp⟩

def makeK (P : Program) (S : St) (K : Value → Mem → Prop) (t : TypeId) (x y : Value) : Prop :=
  match x, y with
  | .int _ n, .int _ m => ow (qSlice P t) fun q => ow (qZero P q.1) fun z => (z.length = q.2.1 ∧ m = n ∧ 0 ≤ n ∧ n * q.2.2 ≤ 281474976710656 ∧ n ≤ 9223372036854775807) ∧ K (.slice (some ⟨S.M.length, 0, none⟩) n.toNat n.toNat) (S.M ++ [.live ⟨zrow z n.toNat, true, true, q.1, q.2.1⟩])
  | _, _ => False
theorem makeK_inv {t : TypeId} {x y : Value} (h : makeK P S K t x y) : ∃ k k' n e sz by_ z, x = .int k n ∧ y = .int k' n ∧ qSlice P t = some (e, sz, by_) ∧ qZero P e = some z ∧ z.length = sz ∧ 0 ≤ n ∧ n * by_ ≤ 281474976710656 ∧ n ≤ 9223372036854775807 ∧
    K (.slice (some ⟨S.M.length, 0, none⟩) n.toNat n.toNat) (S.M ++ [.live ⟨zrow z n.toNat, true, true, e, sz⟩]) := by
  unfold makeK at h
  split at h
  · obtain ⟨⟨e, sz, by_⟩, hq, hA⟩ := ow_iff.1 h
    obtain ⟨z, hz, ⟨c1, c2, c3, c4, c5⟩, hK⟩ := ow_iff.1 hA
    subst c2
    exact ⟨_, _, _, e, sz, by_, z, rfl, rfl, hq, hz, c1, c3, c4, c5, hK⟩
  · exact h.elim
theorem or_make {t : TypeId} {x y : Operand} (ho : o.op = .makeSlice t x y) (h : ow (S.ev x) fun u => ow (S.ev y) fun v => makeK P S K t u v) : OpRun P b o S K := by
  obtain ⟨u, hu, h⟩ := ow_iff.1 h
  obtain ⟨v, hv, h⟩ := ow_iff.1 h
  obtain ⟨k, k', n, e, sz, by_, z, rfl, rfl, hq, hz, c1, c3, c4, c5, hK⟩ := makeK_inv h
  obtain ⟨ht, i, h2, h3, h4, h5⟩ := qSlice_some hq
  obtain ⟨i', zv, h2', hzv, hvz, hp⟩ := qZero_some hz
  rw [h2] at h2'
  injection h2' with h2'
  subst h2'
  subst h3
  subst h4
  intro μ a w hE hS
  obtain ⟨m, rfl⟩ : ∃ m : Nat, n = m := ⟨n.toNat, by omega⟩
  simp only [Int.toNat_natCast] at hK
  have hl : (zrow z m).length = m * i.size := by rw [zrow_len, c1]
  obtain ⟨h1, h6⟩ := hS.alloc (b := b) (xs := zrow z m) (cur := (zrow z m).toArray) (elem := e) (esz := i.size) (tight := true) (by simp) (fun _ => by simp)
    (fun j c hc => ⟨c, by simpa using hc, .plain (List.all_eq_true.1 (zrow_plain hp m) c (List.mem_of_getElem? hc))⟩)
  refine ⟨.value (.slice (some ⟨w.heap.size, 0, none⟩) m m), _, _, _, _, _, ?_, .inl rfl, hK, ?_, h1, h6⟩
  · have hx := (hE.ev hu).int
    have hy := (hE.ev hv).int
    have hvs2 : zv.cells.size = i.size := by rw [← c1, ← hvz]; simp
    have hr := run_make (P := P) w t e i zv ht h2 hzv k k' (m : Int) (m : Int) c3 (Int.le_refl _) (by rw [Int.mul_comm]; exact c4) c5
    simp only [Int.toNat_natCast] at hr
    have hlaid : madeCells zv.cells (m * i.size) = (zrow z m).toArray := by rw [← hvz, ← zrow_laid, hvs2]; simp only [madeCells, hvs2]
    simp [execOp, ho, hx, hy, hr, hlaid]
  · refine .sl getElem?_snoc_eq rfl (Nat.le_refl _) (by unfold maxLen; omega) fun r hr => ?_
    injection hr with hr
    subst hr
    exact ⟨.inr (by rw [Map.set_at, Addr.add_lit]), fun _ => by rw [Map.set_room, List.size_toArray, hl]; simp⟩

/-- Bytes to a string. -/
def byteV (v : Value) : Option UInt8 :=
  match v with
  | .int .u8 n => some (UInt8.ofNat n.toNat)
  | _ => none
def b2sK (P : Program) (S : St) (K : Value → Mem → Prop) (src dst : TypeId) (x : Value) : Prop :=
  P.underlying dst = some .string ∧ ow (qSlice P src) fun q => P.underlying q.1 = some (.int .u8) ∧ q.2.1 = 1 ∧
    match x with
    | .slice none n c => (n = 0 ∧ c = 0) ∧ K (.string .empty) S.M
    | .slice (some ⟨id, off, none⟩) n _ => ow (cellsAt S.M id off n) fun cs => ow (cs.mapM byteV) fun bs => K (.string ⟨bs.toArray⟩) S.M
    | _ => False
theorem or_b2s {src dst : TypeId} {x : Operand} (ho : o.op = .convert src dst x) (h : ow (S.ev x) fun u => b2sK P S K src dst u) : OpRun P b o S K := by
  obtain ⟨u, hu, h⟩ := ow_iff.1 h
  unfold b2sK at h
  obtain ⟨hd, h⟩ := h
  obtain ⟨⟨e, sz, by_⟩, hq, he, h1, h⟩ := ow_iff.1 h
  simp only at he h1
  obtain ⟨ht, i, h2, h3, h4, h5⟩ := qSlice_some hq
  split at h
  · obtain ⟨⟨hn, hc⟩, hK⟩ := h
    subst hn
    subst hc
    refine .pure (fun μ a w hE hS => ⟨_, ?_, .plain rfl⟩) hK
    have hx : a.eval x = .slice none 0 0 := (hE.ev hu).of_plain rfl
    simp [execOp, ho, hx, convert, run_underlying ht, run_underlying hd, run_underlying he, Conv.bytesToString]
  · obtain ⟨cs, hcs, hA⟩ := ow_iff.1 h
    obtain ⟨bs, hbs, hK⟩ := ow_iff.1 hA
    refine .pure (fun μ a w hE hS => ⟨_, ?_, .plain rfl⟩) hK
    obtain ⟨-, ad, cp, s, hx, hs, hkn, hn, hm, hat⟩ := (hE.ev hu).sl_inv
    obtain ⟨r, hr, hlen, ds, hrel, hcell⟩ := hS.cells hcs
    rw [hr] at hs
    injection hs with hs
    obtain ⟨h6, -⟩ := hat r hs.symm
    have hload := run_loadCells (P := P) (w := w) ad ds (fun j u hj => by
      rcases h6 with ⟨h6, -⟩ | h6
      · have := (List.getElem?_eq_some_iff.1 hj).1
        have := hrel.1
        omega
      · rw [h6, add_add_]; exact hcell j u hj)
    rw [← hrel.1, hlen] at hload
    have hds : ds = cs := by
      have key : ∀ (cs ds : List Value) (bs : List UInt8), cs.mapM byteV = some bs → LRel S.M μ cs ds → ds = cs := by
        intro cs
        induction cs with
        | nil => intro ds bs _ h; exact List.eq_nil_of_length_eq_zero h.1.symm
        | cons c cs ih =>
          intro ds bs hb h
          match ds, h with
          | [], h => exact absurd h.1 (by simp)
          | d :: ds, h =>
            simp only [List.mapM_cons] at hb
            obtain ⟨b1, hb1, hb⟩ := Option.bind_eq_some_iff.1 hb
            obtain ⟨b2, hb2, hb⟩ := Option.bind_eq_some_iff.1 hb
            have e1 : d = c := by
              have := h.2 0 c d rfl rfl
              unfold byteV at hb1
              split at hb1
              · exact this.int
              · cases hb1
            rw [e1, ih ds b2 hb2 ⟨by simpa using h.1, fun i x y hx hy => h.2 (i + 1) x y (by simpa using hx) (by simpa using hy)⟩]
      exact key cs ds bs hbs hrel
    rw [hds] at hload
    have hfold : ∀ (f : Value → ByteArray → Sem (ForInStep ByteArray)), (∀ n s, f (.int .u8 n) s = pure (ForInStep.yield (s.push (UInt8.ofNat n.toNat)))) → ∀ (cs : List Value) (bs : List UInt8) (acc : ByteArray), cs.mapM byteV = some bs → (forIn cs acc f).run P w = .ok ⟨acc.data ++ bs.toArray⟩ w := by
      intro f hf
      intro cs
      induction cs with
      | nil => intro bs acc hb; injection hb with hb; subst hb; simp
      | cons c cs ih =>
        intro bs acc hb
        simp only [List.mapM_cons] at hb
        obtain ⟨b1, hb1, hb⟩ := Option.bind_eq_some_iff.1 hb
        obtain ⟨b2, hb2, hb⟩ := Option.bind_eq_some_iff.1 hb
        injection hb with hb
        subst hb
        unfold byteV at hb1
        split at hb1
        · injection hb1 with hb1
          subst hb1
          simp only [List.forIn_cons, hf, Sem.run_bind, Sem.run_pure, Result.andThen_ok]
          rw [ih b2 _ hb2]
          simp [ByteArray.push]
        · cases hb1
    have he2 : (ByteArray.empty.data ++ bs.toArray) = bs.toArray := by
      apply Array.ext'
      rw [Array.toList_append]
      rfl
    simp only [execOp, ho, hx, convert, Sem.run_bind, run_underlying ht, run_underlying hd, run_underlying he, Result.andThen_ok, Conv.bytesToString, hload, Array.forIn_toList.symm, List.toList_toArray]
    rw [hfold _ (fun _ _ => rfl) cs bs .empty hbs, he2]
    rfl
  · exact h.elim
/-- A string as bytes of its own. -/
def s2K (P : Program) (S : St) (K : Value → Mem → Prop) (src dst : TypeId) (s : ByteArray) : Prop :=
  match P.underlying dst with
  | some (.slice e) => (P.underlying src = some .string ∧ P.underlying e = some (.int .u8) ∧ s.size ≤ 1099511627776) ∧ K (.slice (some ⟨S.M.length, 0, none⟩) s.size s.size) (S.M ++ [.live ⟨byteCells s, true, false, e, 1⟩])
  | _ => ow (convV P src dst (.string s)) fun r => K r S.M
theorem byteCells_len (s : ByteArray) : (byteCells s).length = s.size := by unfold byteCells; rw [List.length_map]; rfl
theorem or_s2 {src dst : TypeId} {x : Operand} {s : ByteArray} (ho : o.op = .convert src dst x) (hu : S.ev x = some (.string s)) (h : s2K P S K src dst s) : OpRun P b o S K := by
  unfold s2K at h
  split at h
  · rename_i e hd
    obtain ⟨⟨hs, he, hm⟩, hK⟩ := h
    intro μ a w hE hS
    have hx : a.eval x = .string s := (hE.ev hu).string
    have hge := grownCap_ge w s.size 0 e
    have hle := grownCap_le_maxLen w s.size 0 e (by unfold maxLen; omega)
    have hr := run_bytes_of_string (P := P) w src dst e s hs hd he
    generalize hcp : grownCap w s.size 0 e = cp at hr hge hle
    have hrow : (bytesRow s cp).size = cp := by
      unfold bytesRow
      simp only [Array.size_append, Array.size_map, Array.size_replicate]
      have : s.data.size = s.size := rfl
      omega
    obtain ⟨g1, g2⟩ := (hS.heap (w' := w.drew) rfl).allocF (b := b) (xs := byteCells s) (cur := bytesRow s cp) (elem := e) (esz := 1) (tight := false) (fr := ((bytesRow s cp).size, (bytesRow s cp).size + 1)) (fun j hj => by simp; omega) (by rw [byteCells_len, hrow]; exact hge) (fun h => by cases h)
      (fun j c hc => by
        refine ⟨c, ?_, .plain ?_⟩
        · have hj := (List.getElem?_eq_some_iff.1 hc).1
          rw [byteCells_len] at hj
          unfold bytesRow
          rw [Array.getElem?_append_left (by simp only [Array.size_map]; exact hj), ← hc]
          simp [byteCells]
        · have hm := List.mem_of_getElem? hc
          unfold byteCells at hm
          obtain ⟨z, -, rfl⟩ := List.mem_map.1 hm
          rfl)
    refine ⟨.value (.slice (some ⟨w.heap.size, 0, none⟩) s.size cp), _, _, _, _, _, ?_, .inl rfl, hK, ?_, g1, Step.trans (Step.heap (b := b) (M := S.M) (μ := μ) (w := w) (w' := w.drew) rfl rfl rfl rfl) g2⟩
    · simp [execOp, ho, hx, hr]
    · exact .sl getElem?_snoc_eq rfl hge hle fun r hr => by
        injection hr with hr
        subst hr
        exact ⟨.inr (by rw [Map.set_at, Addr.add_lit]; rfl), fun _ => by rw [Map.set_room, hrow]; simp⟩
  · exact or_conv ho (ow_iff.2 ⟨_, hu, h⟩)
end
end Go.Proofs.Ytffbocbjmhkikaa
