/- Slices, lengths, builds over abstract states. No conditions. -/
import Derived.Test.YtffbocbjmhkikaaAw6
namespace Go.Proofs.Ytffbocbjmhkikaa
open Go.RowKit
set_option linter.unusedVariables false
set_option linter.unusedSimpArgs false

def bndV (x : Option Value) (d : Int) : Option Int :=
  match x with
  | none => some d
  | some (.int _ n) => some n
  | _ => none
def evo (S : St) (x : Option Operand) : Option (Option Value) :=
  match x with
  | none => some none
  | some x => (S.ev x).map some
def rowEsz (M : Mem) (id : Nat) : Option Nat :=
  match M[id]? with
  | some (.live r) => some r.esz
  | _ => none
def sliceK (P : Program) (S : St) (K : Value → Mem → Prop) (t : TypeId) (x : Value) (lo hi : Option Value) : Prop :=
  match x with
  | .string s => P.underlying t = some .string ∧ ow (bndV lo 0) fun l => ow (bndV hi s.size) fun h => (0 ≤ l ∧ l ≤ h ∧ h ≤ (s.size : Int)) ∧ K (.string (s.extract l.toNat h.toNat)) S.M
  | .slice none n c => (n = 0 ∧ c = 0) ∧ ow (qSlice P t) fun _ => ow (bndV lo 0) fun l => ow (bndV hi 0) fun h => (0 ≤ l ∧ l ≤ h ∧ h ≤ 0) ∧ K (.slice none 0 0) S.M
  | .slice (some ⟨id, off, none⟩) n _ => ow (qSlice P t) fun q => ow (bndV lo 0) fun l => ow (bndV hi n) fun h => (0 ≤ l ∧ l ≤ h ∧ h ≤ (n : Int)) ∧ rowEsz S.M id = some q.2.1 ∧ K (.slice (some ⟨id, off + l.toNat * q.2.1, none⟩) (h.toNat - l.toNat) (h.toNat - l.toNat)) S.M
  | _ => False

section
variable {P : Program} {b : Nat} {o : Oper} {S : St} {K : Value → Mem → Prop}
theorem Env.evo {μ : Map} {a : Act} (h : Env S μ a) {x : Option Operand} {v : Option Value} (hx : evo S x = some v) {d l : Int} (hb : bndV v d = some l) : bndV (x.map a.eval) d = some l := by
  cases x with
  | none => simp only [Go.Proofs.Ytffbocbjmhkikaa.evo] at hx; injection hx with hx; subst hx; exact hb
  | some x =>
    simp only [Go.Proofs.Ytffbocbjmhkikaa.evo] at hx
    obtain ⟨u, hu, rfl⟩ := Option.map_eq_some_iff.1 hx
    unfold bndV at hb
    cases u <;> simp at hb
    subst hb
    rw [Option.map_some, (h.ev hu).int]
    rfl
theorem run_bounds {isSl : Bool} {len cap : Nat} {lo hi : Option Value} {l h : Int} (hl : bndV lo 0 = some l) (hh : bndV hi (len : Int) = some h) (h0 : 0 ≤ l) (h1 : l ≤ h) (h2 : h ≤ (cap : Int)) (w : World) :
    (Instr.sliceBounds isSl len cap lo hi none).run P w = .ok (l.toNat, h.toNat, cap) w := by
  have bnd : ∀ (k : IntKind) (n : Int) (y : Nat) code, 0 ≤ n → n ≤ (y : Int) → (Instr.sliceBound (.int k n) y code).run P w = .ok n.toNat w := by
    intro k n y code a1 a2
    simp [Instr.sliceBound, asIntOf, a1, a2]
  have hi' : ∃ u : World, True := ⟨w, trivial⟩
  cases lo with
  | none =>
    injection hl with hl
    subst hl
    cases hi with
    | none =>
      injection hh with hh
      subst hh
      simp [Instr.sliceBounds]
    | some v =>
      cases v <;> simp [bndV] at hh
      subst hh
      simp [Instr.sliceBounds, bnd _ _ cap _ (by omega) h2]
  | some u =>
    cases u <;> simp [bndV] at hl
    subst hl
    cases hi with
    | none =>
      injection hh with hh
      subst hh
      simp only [Instr.sliceBounds]
      simp [bnd _ _ len _ h0 h1]
    | some v =>
      cases v <;> simp [bndV] at hh
      subst hh
      simp only [Instr.sliceBounds]
      simp [bnd _ _ cap _ (by omega) h2]
      rw [bnd _ _ _ _ h0 (by omega)]
      simp
theorem sliceAt_eq {t : TypeId} {x : Value} {lo hi mx : Option Value} {d : TypeDesc} (ht : P.underlying t = some d) (hn : ∀ n e, d ≠ .array n e) (w : World) : (Instr.sliceAt t x lo hi mx).run P w = (Instr.slice t x lo hi mx).run P w := by
  unfold Instr.sliceAt
  simp only [Sem.run_bind, run_underlying ht, Result.andThen_ok]
theorem or_slice {t : TypeId} {x : Operand} {lo hi : Option Operand} (ho : o.op = .slice t x lo hi none) (h : ow (S.ev x) fun u => ow (evo S lo) fun l => ow (evo S hi) fun h => sliceK P S K t u l h) : OpRun P b o S K := by
  obtain ⟨u, hu, h⟩ := ow_iff.1 h
  obtain ⟨lv, hlv, h⟩ := ow_iff.1 h
  obtain ⟨hv, hhv, h⟩ := ow_iff.1 h
  unfold sliceK at h
  split at h
  · rename_i s _ _
    obtain ⟨ht, h⟩ := h
    obtain ⟨l, hl, h⟩ := ow_iff.1 h
    obtain ⟨g, hg, h⟩ := ow_iff.1 h
    obtain ⟨⟨c1, c2, c3⟩, hK⟩ := h
    refine .pure (fun μ a w hE hS => ⟨_, ?_, .plain rfl⟩) hK
    simp only [execOp, ho, Sem.run_bind, Option.map_none]
    rw [sliceAt_eq ht (by simp)]
    have := run_bounds (P := P) (isSl := false) (cap := s.size) (hE.evo hlv hl) (hE.evo hhv hg) c1 c2 c3 w
    simp [(hE.ev hu).string, Instr.slice, run_underlying ht, this]
  · obtain ⟨⟨hn0, hc0⟩, hA⟩ := h
    subst hn0
    subst hc0
    obtain ⟨⟨e, sz, by_⟩, hq, hB⟩ := ow_iff.1 hA
    obtain ⟨l, hl, hC⟩ := ow_iff.1 hB
    obtain ⟨g, hg, hD⟩ := ow_iff.1 hC
    obtain ⟨⟨c1, c2, c3⟩, hK⟩ := hD
    obtain ⟨ht, i, h2, h3, h4, h5⟩ := qSlice_some hq
    refine .pure (fun μ a w hE hS => ⟨.slice none 0 0, ?_, .plain rfl⟩) hK
    simp only [execOp, ho, Sem.run_bind, Option.map_none]
    rw [sliceAt_eq ht (by simp)]
    have := run_bounds (P := P) (isSl := true) (len := 0) (cap := 0) (hE.evo hlv hl) (hE.evo hhv hg) c1 c2 c3 w
    have hx : a.eval x = .slice none 0 0 := (hE.ev hu).of_plain rfl
    simp [hx, Instr.slice, run_underlying ht, this, sizeOf, typeInfo, h2]
    omega
  · rename_i id off n c _ _
    obtain ⟨⟨e, sz, by_⟩, hq, h⟩ := ow_iff.1 h
    obtain ⟨l, hl, h⟩ := ow_iff.1 h
    obtain ⟨g, hg, h⟩ := ow_iff.1 h
    obtain ⟨⟨c1, c2, c3⟩, hrow, hK⟩ := h
    obtain ⟨ht, i, h2, h3, h4, h5⟩ := qSlice_some hq
    refine .pure (fun μ a w hE hS => ?_) hK
    obtain ⟨-, ad, cp, s, he, hs, hkn, hn, hm, hat⟩ := (hE.ev hu).sl_inv
    have := run_bounds (P := P) (isSl := true) (len := n) (cap := cp) (hE.evo hlv hl) (hE.evo hhv hg) c1 c2 (by omega) w
    refine ⟨.slice (some (if cp = l.toNat then ad else ad.add (l.toNat * sz))) (g.toNat - l.toNat) (cp - l.toNat), ?_, ?_⟩
    · simp only [execOp, ho, Sem.run_bind, Option.map_none]
      rw [sliceAt_eq ht (by simp)]
      simp [he, Instr.slice, run_underlying ht, this, sizeOf, typeInfo, h2, h3]
      split <;> rfl
    · have hrow' : ∀ r, s = .live r → r.esz = sz := by
        rintro r rfl
        unfold rowEsz at hrow
        rw [hs] at hrow
        simpa using hrow
      refine .sl hs hkn (by omega) (by omega) fun r hr => ?_
      obtain ⟨h6, h7⟩ := hat r hr
      have he2 := hrow' r hr
      simp only
      refine ⟨?_, fun ho => ?_⟩
      · by_cases hc : cp = l.toNat
        · rw [if_pos hc]
          by_cases hl0 : l.toNat = 0
          · rcases h6 with ⟨h6, h8⟩ | h6
            · exact .inl ⟨by omega, by omega⟩
            · right; rw [h6, hl0, Nat.zero_mul, Nat.add_zero]
          · have : 0 < l.toNat * sz := Nat.mul_pos (by omega) h5
            exact .inl ⟨by omega, by omega⟩
        · rw [if_neg hc]
          rcases h6 with ⟨h6, h8⟩ | h6
          · omega
          · right; rw [h6, add_add_]
      · have := h7 ho
        rw [he2] at this ⊢
        have e1 : (cp - l.toNat) * sz = cp * sz - l.toNat * sz := Nat.sub_mul _ _ _
        have e2 : l.toNat * sz ≤ cp * sz := Nat.mul_le_mul_right _ (by omega)
        omega
  · exact h.elim

def lenK (P : Program) (S : St) (K : Value → Mem → Prop) (t : TypeId) (x : Value) : Prop :=
  match P.underlying t, x with
  | some .string, .string s => K (.int .i64 (s.size : Int)) S.M
  | some (.slice _), .slice _ n _ => K (.int .i64 (n : Int)) S.M
  | _, _ => False
theorem lenK_inv {t : TypeId} {x : Value} (h : lenK P S K t x) : (∃ s, P.underlying t = some .string ∧ x = .string s ∧ K (.int .i64 (s.size : Int)) S.M) ∨ (∃ e q n c, P.underlying t = some (.slice e) ∧ x = .slice q n c ∧ K (.int .i64 (n : Int)) S.M) := by
  unfold lenK at h
  split at h
  · exact .inl ⟨_, by assumption, rfl, h⟩
  · exact .inr ⟨_, _, _, _, by assumption, rfl, h⟩
  · exact h.elim
theorem VRel.sl_shape {M : Mem} {μ : Map} {q : Option Addr} {n c : Nat} {v : Value} (h : VRel M μ (.slice q n c) v) : ∃ q' c', v = .slice q' n c' := by
  cases h with
  | plain _ => exact ⟨_, _, rfl⟩
  | sl => exact ⟨_, _, rfl⟩
theorem or_len {c : Call} {x : Operand} {t : TypeId} (ho : o.op = .call c) (hc : c.callee = .builtin .len) (ha : c.args = #[x]) (ht : c.argTypes = #[t]) (h : ow (S.ev x) fun u => lenK P S K t u) : OpRun P b o S K := by
  obtain ⟨u, hu, h⟩ := ow_iff.1 h
  rcases lenK_inv h with ⟨s, h1, rfl, hK⟩ | ⟨e, q, n, cc, h1, rfl, hK⟩
  · refine .pure (fun μ a w hE hS => ⟨_, ?_, .plain rfl⟩) hK
    simp [execOp, ho, resolve, hc, ha, ht, invoke, builtin, (hE.ev hu).string, Builtin.len_, run_underlying h1, goInt]
  · refine .pure (fun μ a w hE hS => ⟨_, ?_, .plain rfl⟩) hK
    obtain ⟨q', c', he⟩ := (hE.ev hu).sl_shape
    simp [execOp, ho, resolve, hc, ha, ht, invoke, builtin, he, Builtin.len_, run_underlying h1, goInt]

def minV (x y : Value) : Option Value :=
  match x, y with
  | .int k a, .int _ c => some (.int k (if c < a then c else a))
  | _, _ => none
def maxV (x y : Value) : Option Value :=
  match x, y with
  | .int k a, .int _ c => some (.int k (if c > a then c else a))
  | _, _ => none
theorem or_min2 {c : Call} {x y : Operand} (ho : o.op = .call c) (hc : c.callee = .builtin .min) (ha : c.args = #[x, y]) (h : ow (S.ev x) fun u => ow (S.ev y) fun v => ow (minV u v) fun r => K r S.M) : OpRun P b o S K := by
  obtain ⟨u, hu, h⟩ := ow_iff.1 h
  obtain ⟨v, hv, h⟩ := ow_iff.1 h
  obtain ⟨r, hr, hK⟩ := ow_iff.1 h
  cases u <;> try cases hr
  cases v <;> try cases hr
  refine .pure (fun μ a w hE hS => ⟨_, ?_, .plain rfl⟩) hK
  simp [execOp, ho, resolve, hc, ha, invoke, builtin, (hE.ev hu).int, (hE.ev hv).int, Builtin.min_, Builtin.min2]
theorem or_max2 {c : Call} {x y : Operand} (ho : o.op = .call c) (hc : c.callee = .builtin .max) (ha : c.args = #[x, y]) (h : ow (S.ev x) fun u => ow (S.ev y) fun v => ow (maxV u v) fun r => K r S.M) : OpRun P b o S K := by
  obtain ⟨u, hu, h⟩ := ow_iff.1 h
  obtain ⟨v, hv, h⟩ := ow_iff.1 h
  obtain ⟨r, hr, hK⟩ := ow_iff.1 h
  cases u <;> try cases hr
  cases v <;> try cases hr
  refine .pure (fun μ a w hE hS => ⟨_, ?_, .plain rfl⟩) hK
  simp [execOp, ho, resolve, hc, ha, invoke, builtin, (hE.ev hu).int, (hE.ev hv).int, Builtin.max_, Builtin.max2]

/-- What is built, part by part. -/
theorem LRel.foldl_set {M : Mem} {μ : Map} : ∀ (us vs : List Value) (xs ys : Array Value) (off k : Nat), LRel M μ us vs → LRel M μ xs.toList ys.toList →
    LRel M μ ((us.zipIdx k).foldl (fun cs (c : Value × Nat) => cs.setIfInBounds (off + c.2) c.1) xs).toList ((vs.zipIdx k).foldl (fun cs (c : Value × Nat) => cs.setIfInBounds (off + c.2) c.1) ys).toList := by
  intro us
  induction us with
  | nil =>
    intro vs xs ys off k h h'
    have : vs = [] := List.eq_nil_of_length_eq_zero h.1.symm
    subst this
    simpa using h'
  | cons u us ih =>
    intro vs xs ys off k h h'
    match vs, h with
    | [], h => exact absurd h.1 (by simp)
    | v :: vs, h =>
      simp only [List.zipIdx_cons, List.foldl_cons]
      refine ih vs _ _ off (k + 1) ⟨by simpa using h.1, fun i x y hx hy => h.2 (i + 1) x y (by simpa using hx) (by simpa using hy)⟩ ⟨by simpa using h'.1, fun i x y hx hy => ?_⟩
      simp only [Array.toList_setIfInBounds] at hx hy
      have hlen := h'.1
      rcases getElem?_set_inv hx with ⟨e1, rfl, -⟩ | ⟨e1, hx⟩ <;> rcases getElem?_set_inv hy with ⟨e2, rfl, -⟩ | ⟨e2, hy⟩
      · exact h.2 0 _ _ rfl rfl
      · exact absurd e1 e2
      · exact absurd e2 e1
      · exact h'.2 i x y hx hy
theorem fill_rel {M : Mem} {μ : Map} {place : Nat → Option (Nat × Nat)} : ∀ (ps qs : List (Nat × Value)) (xs ys r : Array Value), ps.map (·.1) = qs.map (·.1) → LRel M μ (ps.map (·.2)) (qs.map (·.2)) → LRel M μ xs.toList ys.toList → Instr.fill place xs ps = some r →
    ∃ r', Instr.fill place ys qs = some r' ∧ LRel M μ r.toList r'.toList := by
  intro ps
  induction ps with
  | nil =>
    intro qs xs ys r h1 h2 h3 h
    have : qs = [] := by cases qs <;> simp_all
    subst this
    injection h with h
    subst h
    exact ⟨ys, rfl, h3⟩
  | cons p ps ih =>
    intro qs xs ys r h1 h2 h3 h
    obtain ⟨i, v⟩ := p
    match qs, h1, h2 with
    | [], h1, h2 => cases h1
    | (j, c) :: qs, h1, h2 =>
      simp only [List.map_cons, List.cons.injEq] at h1
      obtain ⟨rfl, h1⟩ := h1
      have hv : VRel M μ v c := h2.2 0 v c rfl rfl
      have hsz : v.cells.size = c.cells.size := by have := hv.cells.1; simpa using this
      have hs2 : xs.size = ys.size := by have := h3.1; simpa using this
      simp only [Instr.fill] at h ⊢
      split at h
      · cases h
      · rename_i off size hp
        split at h
        · cases h
        · rename_i hc
          rw [hsz, hs2] at hc
          rw [if_neg hc]
          refine ih qs _ _ r h1 ⟨by have := h2.1; simpa using this, fun i x y hx hy => h2.2 (i + 1) x y (by simpa using hx) (by simpa using hy)⟩ ?_ h
          have := LRel.foldl_set v.cells.toList c.cells.toList xs ys off 0 hv.cells h3
          rw [← Array.foldl_toList, ← Array.foldl_toList, Array.toList_zipIdx, Array.toList_zipIdx]
          exact this
def partsV (S : St) (ps : List (Nat × Operand)) : Option (List (Nat × Value)) :=
  match ps with
  | [] => some []
  | (i, x) :: ps => match S.ev x, partsV S ps with
    | some v, some vs => some ((i, v) :: vs)
    | _, _ => none
theorem Env.parts {μ : Map} {a : Act} (h : Env S μ a) : ∀ {ps : List (Nat × Operand)} {vs : List (Nat × Value)}, partsV S ps = some vs →
    vs.map (·.1) = (ps.map fun p => (p.1, a.eval p.2)).map (·.1) ∧ LRel S.M μ (vs.map (·.2)) ((ps.map fun p => (p.1, a.eval p.2)).map (·.2)) := by
  intro ps
  induction ps with
  | nil => intro vs hv; injection hv with hv; subst hv; exact ⟨rfl, .nil⟩
  | cons p ps ih =>
    intro vs hv
    obtain ⟨i, x⟩ := p
    simp only [partsV] at hv
    split at hv
    · rename_i v us h1 h2
      injection hv with hv
      subst hv
      obtain ⟨h3, h4⟩ := ih h2
      exact ⟨by simp [h3], .cons (h.ev h1) h4⟩
    · cases hv
theorem LRel.plain {M : Mem} {μ : Map} {xs : List Value} (h : xs.all plainV = true) : LRel M μ xs xs :=
  ⟨rfl, fun i x y hx hy => by
    rw [hx] at hy
    injection hy with hy
    subst hy
    exact .plain (List.all_eq_true.1 h x (List.mem_of_getElem? hx))⟩
theorem or_build {t : TypeId} {ps : Array (Nat × Operand)} (ho : o.op = .build t ps) (h : ow (partsV S ps.toList) fun vs => ow (qBuild P t) fun q => ow (Instr.fill (q.2[·]?) q.1 vs) fun cs => K (.agg cs) S.M) : OpRun P b o S K := by
  obtain ⟨vs, hvs, h⟩ := ow_iff.1 h
  obtain ⟨⟨z, places⟩, hq, h⟩ := ow_iff.1 h
  obtain ⟨cs, hcs, hK⟩ := ow_iff.1 h
  unfold qBuild at hq
  split at hq
  · rename_i fs hfs
    split at hq
    · rename_i i hi
      split at hq
      · rename_i zz hz
        split at hq
        · rename_i hp
          injection hq with hq
          injection hq with h1 h2
          rw [Bool.and_eq_true] at hp
          refine .pure (fun μ a w hE hS => ?_) hK
          obtain ⟨e1, e2⟩ := hE.parts hvs
          obtain ⟨r', hr', hrel⟩ := fill_rel (M := S.M) (μ := μ) vs (ps.toList.map fun p => (p.1, a.eval p.2)) z z cs e1 e2 (.plain (by rw [← h1]; simpa using hp.1)) hcs
          refine ⟨.agg r', ?_, by have := VRel.mk_agg hrel; simpa using this⟩
          have hplaces : (fs.mapM fun f => (do pure (f.offset, ← sizeOf f.type) : Sem (Nat × Nat))).run P w = .ok (fs.map fun f => (f.offset, P.cellsOf f.type)) w := by
            have key : ∀ l : List Field, (l.all fun f => (P.info? f.type).isSome) = true → (l.mapM fun f => (do pure (f.offset, ← sizeOf f.type) : Sem (Nat × Nat))).run P w = .ok (l.map fun f => (f.offset, P.cellsOf f.type)) w := by
              intro l
              induction l with
              | nil => intro _; simp
              | cons f l ih =>
                intro hl
                simp only [List.all_cons, Bool.and_eq_true] at hl
                obtain ⟨i0, hi0⟩ := Option.isSome_iff_exists.1 hl.1
                have := ih hl.2
                have hs : (sizeOf f.type).run P w = .ok i0.size w := by simp [sizeOf, typeInfo, hi0]
                simp only [List.mapM_cons, Sem.run_bind, hs, Result.andThen_ok, Sem.run_pure, this]
                simp [hi0, Program.cellsOf]
            have h3 := key fs.toList (by simpa using hp.2)
            rw [Array.mapM_eq_mapM_toList, Sem.run_map, h3]
            rw [Result.andThen_ok]
            congr 1
            apply Array.ext'
            simp
          rw [← h2] at hr'
          simp only [execOp, ho, Instr.build, Sem.run_bind, zeroValue, typeInfo, hi, hz]
          simp only [Go.program, Sem.run, Result.andThen_ok, hi, Sem.run_pure, hz, run_underlying hfs, Sem.run_bind, hplaces, h1, Array.toList_map, hr']
        · cases hq
      · cases hq
    · cases hq
  · cases hq
end
end Go.Proofs.Ytffbocbjmhkikaa
