/- Arguments of laws that are nested lists and records. No conditions. -/
import Derived.Test.YtffbocbjmhkikaaN1
import Derived.Test.YtffbocbjmhkikaaLA
namespace Go.Proofs.Ytffbocbjmhkikaa
open Go.ChangeShapes Go.WideShapes Go.ChangeAt Go.RowKit Go.Deep
set_option linter.unusedVariables false
set_option linter.unusedSimpArgs false
set_option maxRecDepth 100000
/-- Cells of arguments: they have abstract forms. -/
def ArgC (w : World) (cs : List Value) (K : Mem → List Value → Prop) : Prop :=
  ∀ M μ, Ro M μ w → ∃ L μ' vs, Ro (M ++ L) μ' w ∧ LRel (M ++ L) μ' vs cs ∧ K (M ++ L) vs ∧ ∀ x y, VRel M μ x y → VRel (M ++ L) μ' x y
theorem ArgC.mono {w : World} {cs : List Value} {K K' : Mem → List Value → Prop} (h : ArgC w cs K) (hk : ∀ M vs, K M vs → K' M vs) : ArgC w cs K' := fun M μ hr => by
  obtain ⟨L, μ', vs, h1, h2, h3, h4⟩ := h M μ hr
  exact ⟨L, μ', vs, h1, h2, hk _ _ h3, h4⟩
theorem ArgC.nil {w : World} : ArgC w [] fun _ vs => vs = [] := fun M μ hr => ⟨[], μ, [], by simpa using hr, .nil, rfl, fun x y h => by simpa using h⟩
theorem ArgC.plain {w : World} {c : Value} (h : plainV c = true) : ArgC w [c] fun _ vs => vs = [c] :=
  fun M μ hr => ⟨[], μ, [c], by simpa using hr, .cons (.plain h) .nil, rfl, fun x y h => by simpa using h⟩
theorem ArgC.append {w : World} {cs ds : List Value} {K1 K2 : Mem → List Value → Prop} (h1 : ArgC w cs K1) (h2 : ArgC w ds K2) (hk : ∀ M vs L, K1 M vs → K1 (M ++ L) vs) :
    ArgC w (cs ++ ds) fun M vs => ∃ us ws, vs = us ++ ws ∧ K1 M us ∧ K2 M ws := fun M μ hr => by
  obtain ⟨L, μ1, us, a1, a2, a3, a4⟩ := h1 M μ hr
  obtain ⟨L', μ2, ws, b1, b2, b3, b4⟩ := h2 _ _ a1
  rw [List.append_assoc] at b1 b2 b3 b4
  refine ⟨L ++ L', μ2, us ++ ws, b1, LRel.append ⟨a2.1, fun i x y hx hy => b4 _ _ (a2.2 i x y hx hy)⟩ b2, ⟨us, ws, rfl, ?_, b3⟩, fun x y h => b4 _ _ (a4 x y h)⟩
  have := hk _ _ L' a3
  rwa [List.append_assoc] at this
theorem ArgC.one {w : World} {cs : List Value} {K : Mem → List Value → Prop} (h : ArgC w cs K) : Arg w (.agg cs.toArray) fun M v => ∃ vs, v = .agg vs.toArray ∧ K M vs := fun M μ hr => by
  obtain ⟨L, μ', vs, h1, h2, h3, h4⟩ := h M μ hr
  exact ⟨L, μ', _, h1, VRel.mk_agg h2, ⟨vs, rfl, h3⟩, h4⟩
theorem ArgC.cell {w : World} {c : Value} {K : Mem → List Value → Prop} (h : ArgC w [c] K) : Arg w c fun M v => K M [v] := fun M μ hr => by
  obtain ⟨L, μ', vs, h1, h2, h3, h4⟩ := h M μ hr
  obtain ⟨v, rfl⟩ : ∃ v, vs = [v] := by
    match vs, h2.1 with
    | [v], _ => exact ⟨v, rfl⟩
  exact ⟨L, μ', v, h1, h2.2 0 v c rfl rfl, h3, h4⟩
section
variable {α : Type} {k : Nat} [Inhabited α]
/-- A row of values, one behind the other. -/
theorem ArgC.rows {w : World} {P : RecP α k} {cs : Nat → List Value} : ∀ n, (∀ i, i < n → ArgC w (cs i) fun M vs => ∃ a, P.rd 0 M.length M a vs) →
    ArgC w ((List.range n).flatMap cs) fun M vs => ∃ l : List α, l.length = n ∧ vs.length = n * k ∧ ∀ i, i < n → ∃ us, P.rd 0 M.length M (el l i) us ∧ ∀ (j : Nat) x, us[j]? = some x → vs[i * k + j]? = some x
  | 0, _ => ArgC.nil.mono fun M vs h => ⟨[], rfl, by rw [h]; simp, fun i hi => by omega⟩
  | n + 1, h => by
    have h1 := ArgC.rows n fun i hi => h i (by omega)
    rw [List.range_succ, List.flatMap_append, List.flatMap_cons, List.flatMap_nil, List.append_nil]
    refine (h1.append (h n (by omega)) ?_).mono ?_
    · rintro M vs L ⟨l, e1, e2, e3⟩
      refine ⟨l, e1, e2, fun i hi => ?_⟩
      obtain ⟨us, a, b⟩ := e3 i hi
      exact ⟨us, P.wide (P.app a L) (Nat.le_refl _) (by simp), b⟩
    · rintro M vs ⟨us, ws, rfl, ⟨l, e1, e2, e3⟩, a, ha⟩
      have hw := P.len ha
      refine ⟨l ++ [a], by simp [e1], by rw [List.length_append, e2, hw, Nat.add_mul, Nat.one_mul], fun i hi => ?_⟩
      by_cases hin : i < n
      · obtain ⟨xs, c1, c2⟩ := e3 i hin
        refine ⟨xs, by rw [el_append_left (by omega)]; exact c1, fun j x hx => ?_⟩
        have := c2 j x hx
        rw [List.getElem?_append_left (List.getElem?_eq_some_iff.1 this).1]
        exact this
      · have hii : i = n := by omega
        subst hii
        refine ⟨ws, by rw [el_append_right (by omega), e1, Nat.sub_self]; exact ha, fun j x hx => ?_⟩
        rw [List.getElem?_append_right (by omega), e2, show i * k + j - i * k = j by omega]
        exact hx
theorem ArgC.slice {w : World} {P : RecP α k} {a : Addr} {n c : Nat} {cs : Nat → List Value} (hn : n ≤ 9223372036854775807) (hnc : n ≤ c) (hc : c ≤ maxLen) (hlt : 0 < n * k → a.block < w.heap.size) (hk : 0 < k)
    (hcell : ∀ (j : Nat) x, ((List.range n).flatMap cs)[j]? = some x → w.cell? (a.add j) = some x) (h : ∀ i, i < n → ArgC w (cs i) fun M vs => ∃ b, P.rd 0 M.length M b vs) :
    ArgC w [.slice (some a) n c] fun M vs => ∃ l : List α, (RecP.sl P).rd 0 M.length M l vs := fun M μ hr => by
  obtain ⟨L, μ1, vs, a1, a2, ⟨l, e1, e2, e3⟩, a4⟩ := ArgC.rows (P := P) n h M μ hr
  by_cases h0 : 0 < n
  · obtain ⟨g1, g2⟩ := a1.row (a := a) (cells := vs) (e := 0) (k := k) (hlt (Nat.mul_pos h0 hk)) fun j u hj => by
      obtain ⟨d, hd, hv⟩ := a2.at_ hj
      exact ⟨d, hcell j d hd, hv⟩
    refine ⟨L ++ [.live ⟨vs, false, false, 0, k⟩], μ1.set (M ++ L).length a 0, [.slice (some ⟨(M ++ L).length, 0, none⟩) n c], by rw [← List.append_assoc]; exact g1, ?_, ?_, fun x y h => by rw [← List.append_assoc]; exact g2 _ _ (a4 x y h)⟩
    · rw [← List.append_assoc]
      refine .cons (.sl getElem?_snoc_eq rfl hnc hc fun r hr => ?_) .nil
      injection hr with hr
      subst hr
      exact ⟨Or.inr (by simp [Map.set, Addr.add]), fun h => by cases h⟩
    · rw [← List.append_assoc]
      refine ⟨l, _, rfl, _, n, c, rfl, hn, (fun h => by cases h), e1, fun _ => ⟨(M ++ L).length, 0, rfl, Nat.zero_le _, by simp, by simp [rowEsz], fun i hi => ?_⟩⟩
      obtain ⟨us, b1, b2⟩ := e3 i hi
      refine ⟨us, P.wide (P.app b1 _) (Nat.le_refl _) (by simp), fun j x hx => ?_⟩
      simp [cellAt, b2 j x hx]
  · obtain ⟨g1, g2⟩ := a1.dead
    have hn0 : n = 0 := by omega
    subst hn0
    refine ⟨L ++ [.dead], μ1, [.slice (some ⟨(M ++ L).length, 0, none⟩) 0 c], by rw [← List.append_assoc]; exact g1, ?_, ?_, fun x y h => by rw [← List.append_assoc]; exact g2 _ _ (a4 x y h)⟩
    · rw [← List.append_assoc]
      exact .cons (.sl getElem?_snoc_eq rfl hnc hc fun r hr => by cases hr) .nil
    · exact ⟨l, _, rfl, _, 0, c, rfl, hn, (fun h => by cases h), e1, fun h => by omega⟩
end
section
variable {H : Type} {enc : TypeId × Value → H}
/-- Cells that a law is handed at a type have abstract forms. -/
def Good (enc : TypeId × Value → H) {α : Type} {k : Nat} (t : TypeId) (P : RecP α k) : Prop :=
  ∀ (W : World) (n : Nat) (cs : List Value) (d : DataW H) (p : List MemPlace), DataW.trod enc Try.prog W 0 (fun _ => true) true n t cs = some (d, p) → (∀ x ∈ p, x.block < W.heap.size) → ArgC W cs fun M vs => ∃ a, P.rd 0 M.length M a vs
theorem good_int {t : TypeId} (ht : Try.prog.underlying t = some (.int .i64)) : Good enc t intP := fun W n cs d p h hp => by
  obtain ⟨z, rfl, -, hw⟩ := DataW.trod_int ht h
  exact (ArgC.plain rfl).mono fun M vs h => ⟨z, h⟩
theorem good_sl {t e : TypeId} {α : Type} {k : Nat} [Inhabited α] {P : RecP α k} (ht : Try.prog.underlying t = some (.slice e)) (hk : Try.prog.cellsOf e = k) (hk0 : 0 < k) (hb : True) (h : Good enc e P) : Good enc t (RecP.sl P) := fun W m cs d p hf hp => by
  rcases open_slice ht hf with ⟨rfl, hx⟩ | ⟨a, len, cap, mm, n, D, Pl, rfl, hb, hl, hm, hmm, hx, hi⟩
  · exact (ArgC.plain rfl).mono fun M vs h => ⟨[], _, h, .nil⟩
  · simp only [if_pos] at hmm
    subst hmm
    rw [hk] at hx hi
    injection hx with _ hpp
    subst hpp
    have each : ∀ i, i < mm → ∃ cs' : List Value, cs'.length = k ∧ (∀ (j : Nat) x, cs'[j]? = some x → W.cell? (a.add (i * k + j)) = some x) ∧ ArgC W cs' fun M vs => ∃ b, P.rd 0 M.length M b vs := by
      intro i hil
      obtain ⟨cs', hc, ht'⟩ := hi i hil
      obtain ⟨_, hcl, hat⟩ := World.cells?_some hc
      refine ⟨cs', hcl, fun j x hx => ?_, h W _ _ _ _ ht' fun x hx => hp x (List.mem_append_right _ (List.mem_flatMap.2 ⟨i, List.mem_range.2 hil, hx⟩))⟩
      have hj := (List.getElem?_eq_some_iff.1 hx).1
      rw [← add_add', hat j (by omega), hx]
    obtain ⟨V, hV⟩ := choose_lt (α := List Value) (p := fun i cs' => cs'.length = k ∧ (∀ (j : Nat) x, cs'[j]? = some x → W.cell? (a.add (i * k + j)) = some x) ∧ ArgC W cs' fun M vs => ∃ b, P.rd 0 M.length M b vs) each
    have hflat : ∀ n', n' ≤ mm → ((List.range n').flatMap V).length = n' * k ∧ ∀ (j : Nat) x, ((List.range n').flatMap V)[j]? = some x → W.cell? (a.add j) = some x := by
      intro n'
      induction n' with
      | zero => exact fun _ => ⟨by simp, fun j x hx => by simp at hx⟩
      | succ n' ih =>
        intro hn'
        obtain ⟨i1, i2⟩ := ih (by omega)
        obtain ⟨v1, v2, -⟩ := hV n' (by omega)
        rw [List.range_succ, List.flatMap_append, List.flatMap_cons, List.flatMap_nil, List.append_nil]
        refine ⟨by rw [List.length_append, i1, v1, Nat.add_mul, Nat.one_mul], fun j x hx => ?_⟩
        by_cases hj : j < n' * k
        · rw [List.getElem?_append_left (by omega)] at hx
          exact i2 j x hx
        · rw [List.getElem?_append_right (by omega), i1] at hx
          have := v2 _ x hx
          rwa [show n' * k + (j - n' * k) = j by omega] at this
    refine ArgC.slice (P := P) (by unfold maxLen at hm; omega) hl hm (fun h0 => ?_) hk0 (hflat len hl).2 fun i hil => (hV i (by omega)).2.2
    have : MemPlace.cell a.block (a.off + 0) ∈ MemPlace.row a (mm * k) := by
      unfold MemPlace.row
      exact List.mem_map.2 ⟨0, by rw [List.mem_range]; exact Nat.lt_of_lt_of_le h0 (Nat.mul_le_mul_right k hl), rfl⟩
    exact hp _ (List.mem_append_left _ this)
/-- The fields of a struct, from an offset on. -/
inductive Fits (enc : TypeId × Value → H) : List Field → Nat → (α : Type) → (k : Nat) → RecP α k → Prop
  | nil {off : Nat} : Fits enc [] off Unit 0 RecP.unit
  | cons {f : Field} {fs : List Field} {off k m : Nat} {α β : Type} {P : RecP α k} {Q : RecP β m} : f.offset = off → Try.prog.cellsOf f.type = k → Good enc f.type P → Fits enc fs (off + k) β m Q → Fits enc (f :: fs) off (α × β) (k + m) (RecP.cat P Q)
theorem Fits.arg {W : World} {nn : Nat} {cs : List Value} {q : List MemPlace} (hq : ∀ x ∈ q, x.block < W.heap.size) : ∀ {fs : List Field} {off : Nat} {α : Type} {k : Nat} {P : RecP α k}, Fits enc fs off α k P → off + k = cs.length →
    (∀ f ∈ fs, ∃ (d : DataW H) (p : List MemPlace), DataW.trod enc Try.prog W 0 (fun _ => true) true nn f.type ((cs.drop f.offset).take (Try.prog.cellsOf f.type)) = some (d, p) ∧ ∀ x ∈ p, x ∈ q) → ArgC W (cs.drop off) fun M vs => ∃ a, P.rd 0 M.length M a vs := by
  intro fs off α k P h
  induction h with
  | nil =>
    intro hl _
    rw [List.drop_of_length_le (by omega)]
    exact ArgC.nil.mono fun M vs h => ⟨(), h⟩
  | @cons f fs off k m α β P Q h1 h2 h3 h4 ih =>
    intro hl hf
    obtain ⟨d, p, ht, hp⟩ := hf f (by simp)
    rw [h1, h2] at ht
    have a1 := h3 W nn _ d p ht fun x hx => hq x (hp x hx)
    have a2 := ih (by omega) fun g hg => hf g (by simp [hg])
    have e : cs.drop off = (cs.drop off).take k ++ cs.drop (off + k) := by
      rw [← List.drop_drop, List.take_append_drop]
    rw [e]
    refine (a1.append a2 ?_).mono ?_
    · rintro M vs L ⟨a, ha⟩
      exact ⟨a, P.wide (P.app ha L) (Nat.le_refl _) (by simp)⟩
    · rintro M vs ⟨us, ws, rfl, ⟨a, ha⟩, b, hb⟩
      exact ⟨(a, b), us, ws, rfl, ha, hb⟩
theorem good_struct {t : TypeId} {fs : Array Field} {α : Type} {k : Nat} {P : RecP α k} (ht : Try.prog.underlying t = some (.struct fs)) (hk : Try.prog.cellsOf t = k) (h : Fits enc fs.toList 0 α k P) : Good enc t P := fun W n cs d p hf hp => by
  obtain ⟨xs, m, -, hx, hlen, hxl, hi⟩ := DataW.trod_struct ht hf
  have := Fits.arg (nn := m) (cs := cs) (q := p) hp h (by omega) fun f hfm => by
    obtain ⟨i, hi', rfl⟩ := List.getElem_of_mem hfm
    have hi2 : i < fs.size := by simpa using hi'
    have hy := hi i fs.toList[i] (by simp [hi2])
    rw [List.getElem?_eq_getElem (by omega)] at hy
    refine ⟨_, _, hy, fun x hx' => ?_⟩
    injection hx with _ hx
    rw [hx]
    exact List.mem_flatMap.2 ⟨xs[i], List.getElem_mem _, hx'⟩
  simpa using this
theorem good_map {α β : Type} {k : Nat} {t : TypeId} {P : RecP α k} (f : β → α) (g : α → β) (hfg : ∀ a, f (g a) = a) (h : Good enc t P) : Good enc t (RecP.map f P) := fun W n cs d p hf hp =>
  (h W n cs d p hf hp).mono fun M vs ⟨a, ha⟩ => ⟨g a, by show P.rd _ _ _ (f (g a)) _; rw [hfg]; exact ha⟩
/-- An argument of a struct type. -/
theorem Good.arg {t : TypeId} {fs : Array Field} {α : Type} {k : Nat} {P : RecP α k} (h : Good enc t P) (ht : Try.prog.underlying t = some (.struct fs)) {W : World} {base : Nat} {v : Value} {d : DataW H} {p q : List MemPlace}
    (hlt : ∀ x ∈ q, x.block < W.heap.size) (hv : Value.okWide Try.prog W .any base t v) (hf : DataW.Trod enc Try.prog W 0 (fun _ => true) true t v d p) (hp : ∀ x ∈ p, x ∈ q) :
    Arg W v fun M v' => ∃ a vs, v' = .agg vs.toArray ∧ P.rd 0 M.length M a vs := by
  obtain ⟨cs, rfl, hsz⟩ := okWide_struct ht hv
  obtain ⟨fuel, hf⟩ := hf
  have := (h W fuel cs.toList d p hf fun x hx => hlt x (hp x hx)).one
  simp only [Array.toArray_toList] at this
  intro M μ hr
  obtain ⟨L, μ', v', h1, h2, ⟨vs, e, a, ha⟩, h4⟩ := this M μ hr
  exact ⟨L, μ', v', h1, h2, ⟨a, vs, e, ha⟩, h4⟩
/-- An argument of a slice type. -/
theorem Good.argS {t e : TypeId} {α : Type} {k : Nat} [Inhabited α] {P : RecP α k} (h : Good enc t (RecP.sl P)) (ht : Try.prog.underlying t = some (.slice e)) {W : World} {base : Nat} {v : Value} {d : DataW H} {p q : List MemPlace}
    (hlt : ∀ x ∈ q, x.block < W.heap.size) (hv : Value.okWide Try.prog W .any base t v) (hf : DataW.Trod enc Try.prog W 0 (fun _ => true) true t v d p) (hp : ∀ x ∈ p, x ∈ q) :
    Arg W v fun M v' => ∃ l, SlV P 0 M.length M v' l := by
  obtain ⟨a0, len, cap, rfl⟩ := okWide_slice ht hv
  obtain ⟨fuel, hf⟩ := hf
  have := (h W fuel _ d p hf fun x hx => hlt x (hp x hx)).cell
  intro M μ hr
  obtain ⟨L, μ', v', h1, h2, ⟨l, u, e, hu⟩, h4⟩ := this M μ hr
  injection e with e
  subst e
  exact ⟨L, μ', _, h1, h2, ⟨l, hu⟩, h4⟩
end
end Go.Proofs.Ytffbocbjmhkikaa
