/- From a law's walk over abstract states to the row. No conditions. -/
import Derived.Test.YtffbocbjmhkikaaL0
import Derived.ProofKit
import Derived.OpenShut
import Derived.Deep.Slices
import Derived.Deep.Fields
import Derived.WalkLawsBesides
namespace Go.Proofs.Ytffbocbjmhkikaa
open Go.ChangeShapes Go.WideShapes Go.ChangeAt Go.RowKit Go.Deep
set_option linter.unusedVariables false
set_option linter.unusedSimpArgs false
set_option maxRecDepth 100000

def ints (l : List Int) : List Value := l.map iv
def gi (l : List Int) (k : Nat) : Int := l.getD k 0
theorem ints_len (l : List Int) : (ints l).length = l.length := by simp [ints]
theorem ints_get {l : List Int} {k : Nat} (h : k < l.length) : (ints l)[k]? = some (iv (gi l k)) := by
  simp [ints, gi, h]
/-- The slice .slice A n c reads in w as the cells xs, s cells an element. -/
def Rd (w : World) (s : Nat) (A : Option Addr) (n c : Nat) (xs : List Value) : Prop :=
  xs.length = n * s ∧ n ≤ c ∧ c ≤ maxLen ∧ (0 < n → ∃ ad : Addr, A = some ad ∧ ad.block < w.heap.size ∧ ∀ j u, xs[j]? = some u → w.cell? (ad.add j) = some u)
theorem add_add' (a : Addr) (i j : Nat) : (a.add i).add j = a.add (i + j) := by
  unfold Addr.add
  by_cases hi : i = 0 <;> by_cases hj : j = 0 <;> simp [hi, hj, Nat.add_assoc]

theorem own_knob : ownKnob Try.prog.godebug = none := by kernel_rfl
theorem laid_out : laidOutB Try.prog = true := by kernel_rfl

section
variable {H : Type} {enc : TypeId × Value → H}
theorem trodAll_stays {W W' : World} {sp : Nat → Bool} (hb : Below W.heap.size W W') : ∀ (ts : List TypeId) (vs : List Value) (ds : List (DataW H)) (ps : List MemPlace),
    (∀ t ∈ ts, Try.prog.readableRec t = true ∧ t < Try.prog.types.size) → DataW.TrodAll enc Try.prog W 0 (fun _ => true) true ts vs ds ps → (∀ x ∈ ps, x.block < W.heap.size) → (∀ x ∈ ps, sp x.block = true) →
    DataW.TrodAll enc Try.prog W' 0 sp true ts vs ds ps
  | [], [], [], _, _, h, _, _ => h
  | t :: ts, v :: vs, d :: ds, ps, ht, h, hl, hs => by
    obtain ⟨p, q, h1, h2, rfl⟩ := h
    refine ⟨p, q, WideElems.Trod_stays laid_out (ht t (by simp)).1 (ht t (by simp)).2 h1 (fun x hx => hb.same (hl x (by simp [hx]))) (fun x hx => hs x (by simp [hx])), ?_, rfl⟩
    exact trodAll_stays hb ts vs ds q (fun t' h' => ht t' (by simp [h'])) h2 (fun x hx => hl x (by simp [hx])) (fun x hx => hs x (by simp [hx]))
  | [], [], _ :: _, _, _, h, _, _ => h.elim
  | [], _ :: _, _, _, _, h, _, _ => h.elim
  | _ :: _, [], _, _, _, h, _, _ => h.elim
  | _ :: _, _ :: _, [], _, _, h, _, _ => h.elim

/-- The row's post out of the walk's end, for a law: it returned true, and nothing old has turned. -/
theorem law_post {f : Func} {s : ChangeSpec} {W W' : World} {args : Array Value} {ds gs : List (DataW H)} {before : List MemPlace}
    (hvars : s.vars = []) (hres : f.resultTypes = #[4]) (hread0 : (f.params.toList.all fun t => Try.prog.readableRec t && decide (t < Try.prog.types.size)) = true)
    (hs : s.fn H ds = { results := [.lit (.bool true)], args := ds })
    (hW : DataW.Whole enc Try.prog f.params.toList s.vars false W args.toList ds gs before) (hb : Below W.heap.size W W') :
    s.post enc Try.prog f false true false false W args (.bool true) W' := by
  have hread : ∀ t ∈ f.params.toList, Try.prog.readableRec t = true ∧ t < Try.prog.types.size := fun t ht => by
    have := List.all_eq_true.1 hread0 t ht
    simpa using this
  have hlt : ∀ p ∈ before, p.block < W.heap.size := fun p hp => hW.lt p hp
  have hW0 := hW
  obtain ⟨p, q, hA, hV, rfl, hfz, hnd⟩ := hW
  rw [hvars] at hV
  obtain ⟨rfl, rfl⟩ := trodVars_none hV
  rw [List.append_nil] at hlt hW0
  have hargs : ∀ sp : Nat → Bool, (∀ x ∈ p, sp x.block = true) → DataW.TrodAll enc Try.prog W' 0 sp true f.params.toList args.toList ds p :=
    fun sp hsp => trodAll_stays hb _ _ _ _ hread hA hlt hsp
  have hr : ∀ (b : Nat) (sp : Nat → Bool) (hd : Bool), DataW.TrodAll enc Try.prog W' b sp hd f.resultTypes.toList ((Value.bool true).resultList f.resultTypes.size) [.lit (.bool true)] [] := by
    intro b sp hd
    rw [hres]
    exact trodAll_mk1 (shut_bool Try.underlying4 _)
  refine ⟨ds, [], p, [], p, [], hW0, ?_, ?_, ?_, World.keptBut_mono (fun x hx => ⟨hx, ?_⟩) (hb.frame (· ∈ p)), fun h => by cases h⟩
  · rw [List.append_nil, hs]; exact hr _ _ _
  · rw [List.append_nil, hs]; exact hargs _ (fun x hx => by simpa using hlt x hx)
  · rw [hvars]; simp only [hs, List.append_nil]; rfl
  · exact Or.inr (by simpa using hx)
/-- Is the type made of int64 alone (cells that its fields cover)? -/
noncomputable def flatB : Nat → TypeId → Bool
  | 0, _ => false
  | d + 1, t =>
    match Try.prog.underlying t with
    | some (.int .i64) => true
    | some (.struct fs) => (fs.toList.all fun f => flatB d f.type) && ((List.range (Try.prog.cellsOf t)).all fun j => fs.toList.any fun f => decide (f.offset ≤ j) && decide (j < f.offset + Try.prog.cellsOf f.type))
    | _ => false
theorem trod_flat : ∀ (d : Nat) (t : TypeId), flatB d t = true → ∀ {W : World} {base : Nat} {spare : Nat → Bool} {held : Bool} {n : Nat} {cs : List Value} {x : DataW H × List MemPlace},
    DataW.trod enc Try.prog W base spare held n t cs = some x → ∀ v ∈ cs, ∃ z : Int, v = iv z ∧ (Lit.int .i64 z).wf = true
  | 0, _, h => by simp [flatB] at h
  | d + 1, t, h => by
    rename_i W base spare held n cs x
    intro hx v hv
    unfold flatB at h
    split at h
    · rename_i ht
      obtain ⟨z, rfl, -, hw⟩ := DataW.trod_int ht hx
      simp only [List.mem_singleton] at hv
      exact ⟨z, hv, hw⟩
    · rename_i fs ht
      simp only [Bool.and_eq_true, List.all_eq_true, List.any_eq_true, decide_eq_true_eq] at h
      obtain ⟨h1, h2⟩ := h
      obtain ⟨xs, m, -, -, hlen, hxl, hf⟩ := DataW.trod_struct ht hx
      obtain ⟨j, hj, rfl⟩ := List.getElem_of_mem hv
      obtain ⟨f, hfm, hlo, hhi⟩ := h2 j (by rw [List.mem_range]; omega)
      obtain ⟨i, hi, rfl⟩ := List.getElem_of_mem hfm
      have hi' : i < fs.size := by simpa using hi
      have hfi : fs[i]? = some fs.toList[i] := by simp [hi']
      have hy := hf i _ hfi
      have hxi : xs[i]? = some xs[i] := List.getElem?_eq_getElem (by omega)
      rw [hxi] at hy
      refine trod_flat d _ (h1 _ hfm) hy _ ?_
      have hs : ((cs.drop fs.toList[i].offset).take (Try.prog.cellsOf fs.toList[i].type))[j - fs.toList[i].offset]? = some cs[j] := by
        rw [List.getElem?_take, if_pos (by omega), List.getElem?_drop, show fs.toList[i].offset + (j - fs.toList[i].offset) = j by omega, List.getElem?_eq_getElem hj]
      exact List.mem_of_getElem? hs
    · simp at h

theorem ints_of {cs : List Value} (h : ∀ v ∈ cs, ∃ z : Int, v = iv z ∧ (Lit.int .i64 z).wf = true) : ∃ zs : List Int, cs = ints zs ∧ ∀ z ∈ zs, (Lit.int .i64 z).wf = true := by
  induction cs with
  | nil => exact ⟨[], rfl, by simp⟩
  | cons v cs ih =>
    obtain ⟨z, rfl, hz⟩ := h _ (List.mem_cons_self)
    obtain ⟨zs, rfl, hzs⟩ := ih fun v hv => h v (List.mem_cons_of_mem _ hv)
    exact ⟨z :: zs, rfl, by simpa using ⟨hz, hzs⟩⟩

/-- An argument that is a struct of int64 alone. -/
theorem open_flat {W : World} {base : Nat} {t : TypeId} {fs : Array Field} {v : Value} {d : DataW H} {p : List MemPlace} (ht : Try.prog.underlying t = some (.struct fs)) (hB : flatB 5 t = true) (hv : Value.okWide Try.prog W .any base t v)
    (h : DataW.Trod enc Try.prog W 0 (fun _ => true) true t v d p) : ∃ zs : List Int, v = .agg (ints zs).toArray ∧ zs.length = Try.prog.cellsOf t ∧ ∀ z ∈ zs, (Lit.int .i64 z).wf = true := by
  obtain ⟨cs, rfl, hsz⟩ := okWide_struct ht hv
  obtain ⟨fuel, hf⟩ := h
  obtain ⟨zs, hz, hw⟩ := ints_of (trod_flat 5 t hB hf)
  refine ⟨zs, ?_, ?_, hw⟩
  · have : cs.toList = ints zs := hz
    rw [← this]
  · have := congrArg List.length hz
    rw [ints_len] at this
    rw [← this, ← hsz]
    rfl

/-- An argument that is a slice of structs of int64 alone. -/
theorem open_flats {W : World} {base : Nat} {t e : TypeId} {k : Nat} {v : Value} {d : DataW H} {p q : List MemPlace} (ht : Try.prog.underlying t = some (.slice e)) (hB : flatB 5 e = true) (hk : Try.prog.cellsOf e = k) (hk0 : 0 < k)
    (hlt : ∀ x ∈ q, x.block < W.heap.size) (hv : Value.okWide Try.prog W .any base t v)
    (h : DataW.Trod enc Try.prog W 0 (fun _ => true) true t v d p) (hp : ∀ x ∈ p, x ∈ q) : ∃ (A : Option Addr) (n c : Nat) (zs : List Int), v = .slice A n c ∧ Rd W k A n c (ints zs) ∧ (A = none → n = 0 ∧ c = 0) ∧ ∀ z ∈ zs, (Lit.int .i64 z).wf = true := by
  obtain ⟨a0, len, cap, rfl⟩ := okWide_slice ht hv
  obtain ⟨fuel, hf⟩ := h
  rcases open_slice ht hf with ⟨hcs, hx⟩ | ⟨a, len', cap', m, n, D, Pl, hcs, hb, hl, hm, hmm, hx, hi⟩
  · have hcs' : [Value.slice a0 len cap] = [.slice none 0 0] := hcs
    injection hcs' with hcs''
    injection hcs'' with h1 h2 h3
    subst h1; subst h2; subst h3
    exact ⟨_, _, _, [], rfl, ⟨by simp [ints], Nat.le_refl _, Nat.zero_le _, fun h => absurd h (by omega)⟩, fun _ => ⟨rfl, rfl⟩, by simp⟩
  · have hcs' : [Value.slice a0 len cap] = [.slice (some a) len' cap'] := hcs
    injection hcs' with hcs''
    injection hcs'' with h1 h2 h3
    subst h1; subst h2; subst h3
    simp only [if_pos] at hmm
    subst hmm
    rw [hk] at hx hi
    have each : ∀ i, i < len → ∃ zs : List Int, zs.length = k ∧ (∀ z ∈ zs, (Lit.int .i64 z).wf = true) ∧ ∀ j, j < k → W.cell? ((a.add (i * k)).add j) = some (iv (gi zs j)) := by
      intro i hil
      obtain ⟨cs', hc, ht'⟩ := hi i (by omega)
      obtain ⟨_, hcl, hat⟩ := World.cells?_some hc
      obtain ⟨zs, rfl, hw⟩ := ints_of (trod_flat 5 e hB ht')
      rw [ints_len] at hcl
      exact ⟨zs, hcl, hw, fun j hj => by rw [hat j hj, ints_get (by omega)]⟩
    have all : ∀ n', n' ≤ len → ∃ zs : List Int, zs.length = n' * k ∧ (∀ z ∈ zs, (Lit.int .i64 z).wf = true) ∧ ∀ j, j < n' * k → W.cell? (a.add j) = some (iv (gi zs j)) := by
      intro n'
      induction n' with
      | zero => exact fun _ => ⟨[], by simp, by simp, fun j hj => by omega⟩
      | succ n' ih =>
        intro hn'
        obtain ⟨zs, hz1, hz2, hz3⟩ := ih (by omega)
        obtain ⟨ys, hy1, hy2, hy3⟩ := each n' (by omega)
        refine ⟨zs ++ ys, by rw [List.length_append, hz1, hy1, Nat.add_mul, Nat.one_mul], fun z hz => ?_, fun j hj => ?_⟩
        · rcases List.mem_append.1 hz with h | h
          · exact hz2 z h
          · exact hy2 z h
        · rw [Nat.add_mul, Nat.one_mul] at hj
          by_cases hjl : j < n' * k
          · rw [hz3 j hjl]
            unfold gi
            simp only [List.getD_eq_getElem?_getD]
            rw [List.getElem?_append_left (by omega)]
          · have := hy3 (j - n' * k) (by omega)
            rw [add_add', show n' * k + (j - n' * k) = j by omega] at this
            rw [this]
            unfold gi
            simp only [List.getD_eq_getElem?_getD]
            rw [List.getElem?_append_right (by omega), hz1]
    obtain ⟨zs, hz1, hz2, hz3⟩ := all len (Nat.le_refl _)
    refine ⟨_, _, _, zs, rfl, ⟨by rw [ints_len, hz1], hl, hm, fun hn => ⟨a, rfl, ?_, fun j u hu => ?_⟩⟩, (fun h => nomatch h), hz2⟩
    · injection hx with _ hp'
      have hmem : ∃ x ∈ p, x.block = a.block := by
        refine ⟨.cell a.block (a.off + 0), ?_, rfl⟩
        rw [hp']
        refine List.mem_append_left _ ?_
        unfold MemPlace.row
        exact List.mem_map.2 ⟨0, by rw [List.mem_range]; exact Nat.mul_pos (by omega) hk0, rfl⟩
      obtain ⟨x, hx1, hx2⟩ := hmem
      rw [← hx2]
      exact hlt x (hp x hx1)
    · have hj : j < len * k := by
        have := (List.getElem?_eq_some_iff.1 hu).1
        rw [ints_len, hz1] at this
        exact this
      rw [hz3 j hj]
      rw [ints_get (by omega)] at hu
      exact hu
/-- An argument that is a slice of structs of int64 alone. -/
theorem open_flats_t {W : World} {t e : TypeId} {k : Nat} {v : Value} {d : DataW H} {p q : List MemPlace} (ht : Try.prog.underlying t = some (.slice e)) (hB : flatB 5 e = true) (hk : Try.prog.cellsOf e = k) (hk0 : 0 < k)
    (hlt : ∀ x ∈ q, x.block < W.heap.size) {fuel : Nat}
    (hf : DataW.trod enc Try.prog W 0 (fun _ => true) true fuel t [v] = some (d, p)) (hp : ∀ x ∈ p, x ∈ q) : ∃ (A : Option Addr) (n c : Nat) (zs : List Int), v = .slice A n c ∧ Rd W k A n c (ints zs) ∧ (A = none → n = 0 ∧ c = 0) ∧ ∀ z ∈ zs, (Lit.int .i64 z).wf = true := by
  obtain ⟨a0, len, cap, rfl⟩ : ∃ a0 len cap, v = .slice a0 len cap := by
    rcases open_slice ht hf with ⟨hcs, _⟩ | ⟨a, len', cap', m, n, D, Pl, hcs, _⟩
    · injection hcs with hcs
      exact ⟨_, _, _, hcs⟩
    · injection hcs with hcs
      exact ⟨_, _, _, hcs⟩
  rcases open_slice ht hf with ⟨hcs, hx⟩ | ⟨a, len', cap', m, n, D, Pl, hcs, hb, hl, hm, hmm, hx, hi⟩
  · have hcs' : [Value.slice a0 len cap] = [.slice none 0 0] := hcs
    injection hcs' with hcs''
    injection hcs'' with h1 h2 h3
    subst h1; subst h2; subst h3
    exact ⟨_, _, _, [], rfl, ⟨by simp [ints], Nat.le_refl _, Nat.zero_le _, fun h => absurd h (by omega)⟩, fun _ => ⟨rfl, rfl⟩, by simp⟩
  · have hcs' : [Value.slice a0 len cap] = [.slice (some a) len' cap'] := hcs
    injection hcs' with hcs''
    injection hcs'' with h1 h2 h3
    subst h1; subst h2; subst h3
    simp only [if_pos] at hmm
    subst hmm
    rw [hk] at hx hi
    have each : ∀ i, i < len → ∃ zs : List Int, zs.length = k ∧ (∀ z ∈ zs, (Lit.int .i64 z).wf = true) ∧ ∀ j, j < k → W.cell? ((a.add (i * k)).add j) = some (iv (gi zs j)) := by
      intro i hil
      obtain ⟨cs', hc, ht'⟩ := hi i (by omega)
      obtain ⟨_, hcl, hat⟩ := World.cells?_some hc
      obtain ⟨zs, rfl, hw⟩ := ints_of (trod_flat 5 e hB ht')
      rw [ints_len] at hcl
      exact ⟨zs, hcl, hw, fun j hj => by rw [hat j hj, ints_get (by omega)]⟩
    have all : ∀ n', n' ≤ len → ∃ zs : List Int, zs.length = n' * k ∧ (∀ z ∈ zs, (Lit.int .i64 z).wf = true) ∧ ∀ j, j < n' * k → W.cell? (a.add j) = some (iv (gi zs j)) := by
      intro n'
      induction n' with
      | zero => exact fun _ => ⟨[], by simp, by simp, fun j hj => by omega⟩
      | succ n' ih =>
        intro hn'
        obtain ⟨zs, hz1, hz2, hz3⟩ := ih (by omega)
        obtain ⟨ys, hy1, hy2, hy3⟩ := each n' (by omega)
        refine ⟨zs ++ ys, by rw [List.length_append, hz1, hy1, Nat.add_mul, Nat.one_mul], fun z hz => ?_, fun j hj => ?_⟩
        · rcases List.mem_append.1 hz with h | h
          · exact hz2 z h
          · exact hy2 z h
        · rw [Nat.add_mul, Nat.one_mul] at hj
          by_cases hjl : j < n' * k
          · rw [hz3 j hjl]
            unfold gi
            simp only [List.getD_eq_getElem?_getD]
            rw [List.getElem?_append_left (by omega)]
          · have := hy3 (j - n' * k) (by omega)
            rw [add_add', show n' * k + (j - n' * k) = j by omega] at this
            rw [this]
            unfold gi
            simp only [List.getD_eq_getElem?_getD]
            rw [List.getElem?_append_right (by omega), hz1]
    obtain ⟨zs, hz1, hz2, hz3⟩ := all len (Nat.le_refl _)
    refine ⟨_, _, _, zs, rfl, ⟨by rw [ints_len, hz1], hl, hm, fun hn => ⟨a, rfl, ?_, fun j u hu => ?_⟩⟩, (fun h => nomatch h), hz2⟩
    · injection hx with _ hp'
      have hmem : ∃ x ∈ p, x.block = a.block := by
        refine ⟨.cell a.block (a.off + 0), ?_, rfl⟩
        rw [hp']
        refine List.mem_append_left _ ?_
        unfold MemPlace.row
        exact List.mem_map.2 ⟨0, by rw [List.mem_range]; exact Nat.mul_pos (by omega) hk0, rfl⟩
      obtain ⟨x, hx1, hx2⟩ := hmem
      rw [← hx2]
      exact hlt x (hp x hx1)
    · have hj : j < len * k := by
        have := (List.getElem?_eq_some_iff.1 hu).1
        rw [ints_len, hz1] at this
        exact this
      rw [hz3 j hj]
      rw [ints_get (by omega)] at hu
      exact hu

end

/-- A memory of rows that are only read. -/
structure Ro (M : Mem) (μ : Map) (w : World) : Prop where
  sim : Sim M μ w
  ro : ∀ (i : Nat) r, M[i]? = some (.live r) → r.own = false
/-- Arguments so far: they have abstract forms. -/
structure AR (w : World) (M : Mem) (μ : Map) (vs cs : List Value) : Prop where
  ro : Ro M μ w
  rel : LRel M μ vs cs
def Arg (w : World) (c : Value) (K : Mem → Value → Prop) : Prop :=
  ∀ M μ, Ro M μ w → ∃ L μ' v, Ro (M ++ L) μ' w ∧ VRel (M ++ L) μ' v c ∧ K (M ++ L) v ∧ ∀ x y, VRel M μ x y → VRel (M ++ L) μ' x y
theorem AR.nil (w : World) : AR w [] ⟨fun _ => ⟨0, 0, none⟩, fun _ => 0⟩ [] [] := ⟨⟨⟨fun id r h => by simp at h, fun i j r s h => by simp at h⟩, fun i r h => by simp at h⟩, .nil⟩
theorem LRel.snoc {M : Mem} {μ : Map} {x y : Value} {xs ys : List Value} (h : LRel M μ xs ys) (h' : VRel M μ x y) : LRel M μ (xs ++ [x]) (ys ++ [y]) := by
  refine ⟨by simp [h.1], fun i u v hu hv => ?_⟩
  rcases getElem?_snoc_inv hu with ⟨hi, hu⟩ | ⟨rfl, rfl⟩
  · rw [getElem?_snoc_lt (by rw [← h.1]; exact hi)] at hv
    exact h.2 i u v hu hv
  · rw [h.1, getElem?_snoc_eq] at hv
    injection hv with hv
    subst hv
    exact h'
theorem AR.next {w : World} {M : Mem} {μ : Map} {vs cs : List Value} {c : Value} {K : Mem → Value → Prop} (h : AR w M μ vs cs) (ha : Arg w c K) :
    ∃ L μ' v, AR w (M ++ L) μ' (vs ++ [v]) (cs ++ [c]) ∧ K (M ++ L) v := by
  obtain ⟨L, μ', v, h1, h2, h3, h4⟩ := ha M μ h.ro
  exact ⟨L, μ', v, ⟨h1, LRel.snoc ⟨h.rel.1, fun i x y hx hy => h4 _ _ (h.rel.2 i x y hx hy)⟩ h2⟩, h3⟩
theorem Arg.plain {w : World} {c : Value} (h : plainV c = true) : Arg w c fun _ v => v = c :=
  fun M μ hr => ⟨[], μ, c, by simpa using hr, .plain h, rfl, fun x y h => by simpa using h⟩
theorem VRel.self_plain {M : Mem} {μ : Map} {cs : List Value} (h : ∀ v ∈ cs, plainV v = true) : LRel M μ cs cs := ⟨rfl, fun i x y hx hy => by
  rw [hx] at hy; injection hy with hy; subst hy
  exact .plain (h _ (List.mem_of_getElem? hx))⟩
theorem Arg.agg {w : World} {cs : List Value} (h : ∀ v ∈ cs, plainV v = true) : Arg w (.agg cs.toArray) fun _ v => v = .agg cs.toArray :=
  fun M μ hr => ⟨[], μ, _, by simpa using hr, VRel.mk_agg (VRel.self_plain h), rfl, fun x y h => by simpa using h⟩
/-- One more row that is only read. -/
theorem Ro.row {M : Mem} {μ : Map} {w : World} (h : Ro M μ w) {a : Addr} {cells : List Value} {e : TypeId} {k : Nat} (hlt : a.block < w.heap.size)
    (hc : ∀ (j : Nat) c, cells[j]? = some c → ∃ d, w.cell? (a.add j) = some d ∧ VRel M μ c d) :
    Ro (M ++ [.live ⟨cells, false, false, e, k⟩]) (μ.set M.length a 0) w ∧ ∀ x y, VRel M μ x y → VRel (M ++ [.live ⟨cells, false, false, e, k⟩]) (μ.set M.length a 0) x y := by
  have hv : ∀ x y, VRel M μ x y → VRel (M ++ [.live ⟨cells, false, false, e, k⟩]) (μ.set M.length a 0) x y := fun x y hx => hx.same fun i s hs _ => by
    have hi := (List.getElem?_eq_some_iff.1 hs).1
    exact ⟨by rw [getElem?_snoc_lt hi]; exact hs, Map.set_at_ne (by omega), Map.set_room_ne (by omega)⟩
  have hro : ∀ (i : Nat) r, (M ++ [.live ⟨cells, false, false, e, k⟩])[i]? = some (.live r) → r.own = false := fun i r hr => by
    rcases getElem?_snoc_inv hr with ⟨hi, hr⟩ | ⟨rfl, he⟩
    · exact h.ro i r hr
    · injection he with he; subst he; rfl
  refine ⟨⟨⟨fun id r hr => ?_, fun i j r s hr _ _ ho => ?_⟩, hro⟩, hv⟩
  · rcases getElem?_snoc_inv hr with ⟨hi, hr⟩ | ⟨rfl, he⟩
    · have hR := h.sim.row id r hr
      have hat : (μ.set M.length a 0).at_ id = μ.at_ id := Map.set_at_ne (by omega)
      have ho := h.ro id r hr
      refine ⟨by rw [hat]; exact hR.lt, fun j c hj => ?_, fun ho' => by rw [ho] at ho'; cases ho'⟩
      obtain ⟨d, h1, h2⟩ := hR.cell j c hj
      rw [hat]
      exact ⟨d, h1, hv _ _ h2⟩
    · injection he with he
      subst he
      have hat : (μ.set M.length a 0).at_ M.length = a := by simp [Map.set]
      refine ⟨by rw [hat]; exact hlt, fun j c hj => ?_, fun ho' => by cases ho'⟩
      obtain ⟨d, h1, h2⟩ := hc j c hj
      rw [hat]
      exact ⟨d, h1, hv _ _ h2⟩
  · rw [hro i r hr] at ho; cases ho
/-- One more slot without a row. -/
theorem Ro.dead {M : Mem} {μ : Map} {w : World} (h : Ro M μ w) : Ro (M ++ [.dead]) μ w ∧ ∀ x y, VRel M μ x y → VRel (M ++ [.dead]) μ x y := by
  have hv : ∀ x y, VRel M μ x y → VRel (M ++ [.dead]) μ x y := fun x y hx => hx.same fun i s hs _ => by
    have hi := (List.getElem?_eq_some_iff.1 hs).1
    exact ⟨by rw [getElem?_snoc_lt hi]; exact hs, rfl, rfl⟩
  have hro : ∀ (i : Nat) r, (M ++ [Slot.dead])[i]? = some (.live r) → M[i]? = some (.live r) := fun i r hr => by
    rcases getElem?_snoc_inv hr with ⟨hi, hr⟩ | ⟨_, he⟩
    · exact hr
    · cases he
  refine ⟨⟨⟨fun id r hr => ?_, fun i j r s hr hs => h.sim.inj i j r s (hro i r hr) (hro j s hs)⟩, fun i r hr => h.ro i r (hro i r hr)⟩, hv⟩
  have hR := h.sim.row id r (hro id r hr)
  exact ⟨hR.lt, fun j c hj => (hR.cell j c hj).imp fun d hd => ⟨hd.1, hv _ _ hd.2⟩, fun ho => by rw [h.ro id r (hro id r hr)] at ho; cases ho⟩
/-- An argument that is a slice of plain cells. -/
theorem Arg.slice {α : Type} {k : Nat} {R : RecV α k} {w : World} {A : Option Addr} {n c : Nat} {l : List α} (h : Rd w k A n c (cellsL R l)) (hl : l.length = n) (hp : ∀ v ∈ cellsL R l, plainV v = true)
    (hnil : A = none → n = 0 ∧ c = 0) : Arg w (.slice A n c) fun M v => ∃ B, v = .slice B n c ∧ n ≤ maxLen ∧ Sl R M B n l := by
  intro M μ hr
  obtain ⟨_, h1, h2, h3⟩ := h
  cases A with
  | none =>
    obtain ⟨rfl, rfl⟩ := hnil rfl
    exact ⟨[], μ, .slice none 0 0, by simpa using hr, .plain rfl, ⟨none, rfl, by omega, hl, fun h => absurd h (by omega)⟩, fun x y h => by simpa using h⟩
  | some a =>
    by_cases hn : 0 < n
    · obtain ⟨_, e, hlt, hc⟩ := h3 hn
      injection e with e
      subst e
      obtain ⟨g1, g2⟩ := hr.row (a := a) (cells := cellsL R l) (e := 0) (k := k) hlt fun j u hj => ⟨u, hc j u hj, .plain (hp u (List.mem_of_getElem? hj))⟩
      refine ⟨_, _, .slice (some ⟨M.length, 0, none⟩) n c, g1, .sl getElem?_snoc_eq rfl h1 h2 (fun r hr => ?_), ⟨_, rfl, by omega, hl, fun _ => ⟨M.length, 0, rfl, ?_, fun j x hx => ?_⟩⟩, g2⟩
      · injection hr with hr
        subst hr
        exact ⟨Or.inr (by simp [Map.set, Addr.add]), fun h => by cases h⟩
      · simp [rowEsz]
      · simp [cellAt, hx]
    · obtain ⟨g1, g2⟩ := hr.dead
      refine ⟨_, _, .slice (some ⟨M.length, 0, none⟩) n c, g1, .sl getElem?_snoc_eq rfl h1 h2 (fun r hr => by cases hr), ⟨_, rfl, by omega, hl, fun h => absurd h hn⟩, g2⟩
/-- The law's end. -/
theorem law_end {f : FuncId} {w : World} {M : Mem} {μ : Map} {vs cs : List Value} (h : AR w M μ vs cs) (hd : Det Try.prog M.length f vs M (.bool true) M) :
    Calls Try.prog f cs.toArray w fun e w' => e = .returned (.bool true) ∧ Below w.heap.size w w' := by
  refine (hd.run μ w cs h.rel h.ro.sim).mono ?_
  rintro e w' ⟨c, μ', rfl, hv, _, hs⟩
  rw [hv.bool]
  refine ⟨rfl, hs.os, hs.tape, hs.output, hs.size, fun k hk => hs.block k hk fun i r hi hr _ => ?_⟩
  have := (List.getElem?_eq_some_iff.1 hr).1
  omega
/-- Records of numbers. -/
structure Ints {α : Type} {k : Nat} (R : RecV α k) where
  of : List Int → α
  row : ∀ zs, zs.length = k → R.row (of zs) = ints zs
theorem Ints.chunk {α : Type} {k : Nat} {R : RecV α k} (I : Ints R) : ∀ (n : Nat) (zs : List Int), zs.length = n * k → (∀ z ∈ zs, (Lit.int .i64 z).wf = true) →
    ∃ l : List α, l.length = n ∧ cellsL R l = ints zs ∧ ∀ a ∈ l, ∃ ys : List Int, a = I.of ys ∧ ys.length = k ∧ ∀ z ∈ ys, (Lit.int .i64 z).wf = true
  | 0, zs, h, _ => ⟨[], rfl, by obtain rfl := List.eq_nil_of_length_eq_zero (by omega : zs.length = 0); rfl, by simp⟩
  | n + 1, zs, h, hw => by
    rw [Nat.add_mul, Nat.one_mul] at h
    obtain ⟨l, h1, h2, h3⟩ := I.chunk n (zs.drop k) (by rw [List.length_drop]; omega) fun z hz => hw z (List.mem_of_mem_drop hz)
    refine ⟨I.of (zs.take k) :: l, by simp [h1], ?_, fun a ha => ?_⟩
    · rw [cellsL_cons, I.row _ (by rw [List.length_take]; omega), h2]
      unfold ints
      rw [← List.map_append, List.take_append_drop]
    · rcases List.mem_cons.1 ha with rfl | ha
      · exact ⟨_, rfl, by rw [List.length_take]; omega, fun z hz => hw z (List.mem_of_mem_take hz)⟩
      · exact h3 a ha
theorem plain_ints {zs : List Int} : ∀ v ∈ ints zs, plainV v = true := fun v hv => by
  obtain ⟨z, -, rfl⟩ := List.mem_map.1 hv
  rfl
/-- An argument that is a slice of structs of int64 alone. -/
theorem Arg.flats {H : Type} {enc : TypeId × Value → H} {α : Type} {k : Nat} {R : RecV α k} (I : Ints R) {W : World} {base : Nat} {t e : TypeId} {v : Value} {d : DataW H} {p q : List MemPlace} (ht : Try.prog.underlying t = some (.slice e)) (hB : flatB 5 e = true) (hk : Try.prog.cellsOf e = k) (hk0 : 0 < k)
    (hlt : ∀ x ∈ q, x.block < W.heap.size) (hv : Value.okWide Try.prog W .any base t v)
    (h : DataW.Trod enc Try.prog W 0 (fun _ => true) true t v d p) (hp : ∀ x ∈ p, x ∈ q) :
    Arg W v fun M v' => ∃ B n c l, v' = .slice B n c ∧ n ≤ maxLen ∧ Sl R M B n l ∧ ∀ a ∈ l, ∃ ys : List Int, a = I.of ys ∧ ys.length = k ∧ ∀ z ∈ ys, (Lit.int .i64 z).wf = true := by
  obtain ⟨A, n, c, zs, rfl, h1, h2, h3⟩ := open_flats ht hB hk hk0 hlt hv h hp
  have hz := h1.1
  rw [ints_len] at hz
  obtain ⟨l, g1, g2, g3⟩ := I.chunk n zs hz h3
  rw [← g2] at h1
  intro M μ hr
  obtain ⟨L, μ', v, a1, a2, ⟨B, a3, a4, a5⟩, a6⟩ := Arg.slice h1 g1 (by rw [g2]; exact plain_ints) h2 M μ hr
  exact ⟨L, μ', v, a1, a2, ⟨B, n, c, l, a3, a4, a5, g3⟩, a6⟩
theorem Arg.agg1 {w : World} {c : Value} {K : Mem → Value → Prop} (h : Arg w c K) : Arg w (.agg #[c]) fun M v => ∃ x, v = .agg #[x] ∧ K M x := fun M μ hr => by
  obtain ⟨L, μ', v, h1, h2, h3, h4⟩ := h M μ hr
  exact ⟨L, μ', .agg #[v], h1, VRel.mk_agg (.cons h2 .nil), ⟨v, rfl, h3⟩, h4⟩
/-- An argument that is a struct with one field, a slice of structs of int64 alone. -/
theorem Arg.wrap {H : Type} {enc : TypeId × Value → H} {α : Type} {k : Nat} {R : RecV α k} (I : Ints R) {W : World} {base : Nat} {t s e : TypeId} {f0 : Field} {v : Value} {d : DataW H} {p q : List MemPlace} (hst : Try.prog.underlying t = some (.struct #[f0])) (hf0 : f0.type = s ∧ f0.offset = 0) (hc1 : Try.prog.cellsOf t = 1) (hc2 : Try.prog.cellsOf s = 1)
    (ht : Try.prog.underlying s = some (.slice e)) (hB : flatB 5 e = true) (hk : Try.prog.cellsOf e = k) (hk0 : 0 < k)
    (hlt : ∀ x ∈ q, x.block < W.heap.size) (hv : Value.okWide Try.prog W .any base t v)
    (h : DataW.Trod enc Try.prog W 0 (fun _ => true) true t v d p) (hp : ∀ x ∈ p, x ∈ q) :
    Arg W v fun M v' => ∃ u, v' = .agg #[u] ∧ ∃ B n c l, u = .slice B n c ∧ n ≤ maxLen ∧ Sl R M B n l ∧ ∀ a ∈ l, ∃ ys : List Int, a = I.of ys ∧ ys.length = k ∧ ∀ z ∈ ys, (Lit.int .i64 z).wf = true := by
  obtain ⟨cs, rfl, hsz⟩ := okWide_struct hst hv
  obtain ⟨fuel, hf⟩ := h
  obtain ⟨xs, m, -, hx, hlen, hxl, hi⟩ := DataW.trod_struct hst hf
  rw [hc1] at hsz
  obtain ⟨l0, rfl⟩ : ∃ u, cs = #[u] := by
    obtain ⟨l⟩ := cs
    match l, hsz with
    | [u], _ => exact ⟨u, rfl⟩
  have h0 := hi 0 f0 rfl
  obtain ⟨hf1, hf2⟩ := hf0
  rw [hf1, hf2, hc2] at h0
  obtain ⟨⟨d0, p0⟩, rfl⟩ : ∃ x, xs = [x] := by
    match xs, hxl with
    | [x], _ => exact ⟨x, rfl⟩
  have h0' : DataW.trod enc Try.prog W 0 (fun _ => true) true m s [l0] = some (d0, p0) := h0
  have hpp : ∀ x ∈ p0, x ∈ q := fun x hx' => hp x (by injection hx with _ hx; rw [hx]; simpa using hx')
  obtain ⟨A, n, c, zs, rfl, h1, h2, h3⟩ := open_flats_t ht hB hk hk0 hlt h0' hpp
  have hz := h1.1
  rw [ints_len] at hz
  obtain ⟨l, g1, g2, g3⟩ := I.chunk n zs hz h3
  rw [← g2] at h1
  refine Arg.agg1 (fun M μ hr => ?_)
  obtain ⟨L, μ', v, a1, a2, ⟨B, a3, a4, a5⟩, a6⟩ := Arg.slice h1 g1 (by rw [g2]; exact plain_ints) h2 M μ hr
  exact ⟨L, μ', v, a1, a2, ⟨B, n, c, l, a3, a4, a5, g3⟩, a6⟩
end Go.Proofs.Ytffbocbjmhkikaa
