/- Parts of the proof, together: From a law's walk over abstract states to the row. Clip: records in memory, and the laws' helpers on them. Lists that grow by append. Clip: a list is cloned. No conditions. -/
import Derived.Test.YtimijeeihicohaaZzAc7
import Derived.ProofKit
import Derived.OpenShut
import Derived.Deep.Slices
import Derived.Deep.Fields
import Derived.WalkLawsBesides
import Derived.Laws.StructEq
namespace Go.Proofs.Ytimijeeihicohaa
open Go.ChangeShapes Go.WideShapes Go.ChangeAt Go.RowKit Go.Deep
set_option linter.unusedVariables false
set_option linter.unusedSimpArgs false
set_option maxRecDepth 100000

def ints (l : List Int) : List Value := l.map iv
def gi (l : List Int) (k : Nat) : Int := l.getD k 0
theorem ints_len (l : List Int) : (ints l).length = l.length := by simp [ints]
theorem ints_get {l : List Int} {k : Nat} (h : k < l.length) : (ints l)[k]? = some (iv (gi l k)) := by
  simp [ints, gi, h]
/-- The slice .slice A n c reads in w as the cells xs, s cells an element. -/
def Rd (w : World) (s : Nat) (A : Option Addr) (n c : Nat) (xs : List Value) : Prop :=
  xs.length = n * s ∧ n ≤ c ∧ c ≤ maxLen ∧ (0 < n → ∃ ad : Addr, A = some ad ∧ ad.block < w.heap.size ∧ ∀ j u, xs[j]? = some u → w.cell? (ad.add j) = some u)
theorem add_add' (a : Addr) (i j : Nat) : (a.add i).add j = a.add (i + j) := by
  unfold Addr.add
  by_cases hi : i = 0 <;> by_cases hj : j = 0 <;> simp [hi, hj, Nat.add_assoc]

theorem own_knob : ownKnob Try.prog.godebug = none := by kernel_rfl
theorem laid_out : laidOutB Try.prog = true := by kernel_rfl

section
variable {H : Type} {enc : TypeId × Value → H}
theorem trodAll_stays {W W' : World} {sp : Nat → Bool} (hb : Below W.heap.size W W') : ∀ (ts : List TypeId) (vs : List Value) (ds : List (DataW H)) (ps : List MemPlace),
    (∀ t ∈ ts, Try.prog.readableRec t = true ∧ t < Try.prog.types.size) → DataW.TrodAll enc Try.prog W 0 (fun _ => true) true ts vs ds ps → (∀ x ∈ ps, x.block < W.heap.size) → (∀ x ∈ ps, sp x.block = true) →
    DataW.TrodAll enc Try.prog W' 0 sp true ts vs ds ps
  | [], [], [], _, _, h, _, _ => h
  | t :: ts, v :: vs, d :: ds, ps, ht, h, hl, hs => by
    obtain ⟨p, q, h1, h2, rfl⟩ := h
    refine ⟨p, q, WideElems.Trod_stays laid_out (ht t (by simp)).1 (ht t (by simp)).2 h1 (fun x hx => hb.same (hl x (by simp [hx]))) (fun x hx => hs x (by simp [hx])), ?_, rfl⟩
    exact trodAll_stays hb ts vs ds q (fun t' h' => ht t' (by simp [h'])) h2 (fun x hx => hl x (by simp [hx])) (fun x hx => hs x (by simp [hx]))
  | [], [], _ :: _, _, _, h, _, _ => h.elim
  | [], _ :: _, _, _, _, h, _, _ => h.elim
  | _ :: _, [], _, _, _, h, _, _ => h.elim
  | _ :: _, _ :: _, [], _, _, h, _, _ => h.elim

/-- The row's post out of the walk's end, for a law: it returned true, and nothing old has turned. -/
theorem law_post {f : Func} {s : ChangeSpec} {W W' : World} {args : Array Value} {ds gs : List (DataW H)} {before : List MemPlace}
    (hvars : s.vars = []) (hres : f.resultTypes = #[4]) (hread0 : (f.params.toList.all fun t => Try.prog.readableRec t && decide (t < Try.prog.types.size)) = true)
    (hs : s.fn H ds = { results := [.lit (.bool true)], args := ds })
    (hW : DataW.Whole enc Try.prog f.params.toList s.vars false W args.toList ds gs before) (hb : Below W.heap.size W W') :
    s.post enc Try.prog f false true false false W args (.bool true) W' := by
  have hread : ∀ t ∈ f.params.toList, Try.prog.readableRec t = true ∧ t < Try.prog.types.size := fun t ht => by
    have := List.all_eq_true.1 hread0 t ht
    simpa using this
  have hlt : ∀ p ∈ before, p.block < W.heap.size := fun p hp => hW.lt p hp
  have hW0 := hW
  obtain ⟨p, q, hA, hV, rfl, hfz, hnd⟩ := hW
  rw [hvars] at hV
  obtain ⟨rfl, rfl⟩ := trodVars_none hV
  rw [List.append_nil] at hlt hW0
  have hargs : ∀ sp : Nat → Bool, (∀ x ∈ p, sp x.block = true) → DataW.TrodAll enc Try.prog W' 0 sp true f.params.toList args.toList ds p :=
    fun sp hsp => trodAll_stays hb _ _ _ _ hread hA hlt hsp
  have hr : ∀ (b : Nat) (sp : Nat → Bool) (hd : Bool), DataW.TrodAll enc Try.prog W' b sp hd f.resultTypes.toList ((Value.bool true).resultList f.resultTypes.size) [.lit (.bool true)] [] := by
    intro b sp hd
    rw [hres]
    exact trodAll_mk1 (shut_bool Try.underlying4 _)
  refine ⟨ds, [], p, [], p, [], hW0, ?_, ?_, ?_, World.keptBut_mono (fun x hx => ⟨hx, ?_⟩) (hb.frame (· ∈ p)), fun h => by cases h⟩
  · rw [List.append_nil, hs]; exact hr _ _ _
  · rw [List.append_nil, hs]; exact hargs _ (fun x hx => by simpa using hlt x hx)
  · rw [hvars]; simp only [hs, List.append_nil]; rfl
  · exact Or.inr (by simpa using hx)
/-- Is the type made of int64 alone (cells that its fields cover)? -/
noncomputable def flatB : Nat → TypeId → Bool
  | 0, _ => false
  | d + 1, t =>
    match Try.prog.underlying t with
    | some (.int .i64) => true
    | some (.struct fs) => (fs.toList.all fun f => flatB d f.type) && ((List.range (Try.prog.cellsOf t)).all fun j => fs.toList.any fun f => decide (f.offset ≤ j) && decide (j < f.offset + Try.prog.cellsOf f.type))
    | _ => false
theorem trod_flat : ∀ (d : Nat) (t : TypeId), flatB d t = true → ∀ {W : World} {base : Nat} {spare : Nat → Bool} {held : Bool} {n : Nat} {cs : List Value} {x : DataW H × List MemPlace},
    DataW.trod enc Try.prog W base spare held n t cs = some x → ∀ v ∈ cs, ∃ z : Int, v = iv z ∧ (Lit.int .i64 z).wf = true
  | 0, _, h => by simp [flatB] at h
  | d + 1, t, h => by
    rename_i W base spare held n cs x
    intro hx v hv
    unfold flatB at h
    split at h
    · rename_i ht
      obtain ⟨z, rfl, -, hw⟩ := DataW.trod_int ht hx
      simp only [List.mem_singleton] at hv
      exact ⟨z, hv, hw⟩
    · rename_i fs ht
      simp only [Bool.and_eq_true, List.all_eq_true, List.any_eq_true, decide_eq_true_eq] at h
      obtain ⟨h1, h2⟩ := h
      obtain ⟨xs, m, -, -, hlen, hxl, hf⟩ := DataW.trod_struct ht hx
      obtain ⟨j, hj, rfl⟩ := List.getElem_of_mem hv
      obtain ⟨f, hfm, hlo, hhi⟩ := h2 j (by rw [List.mem_range]; omega)
      obtain ⟨i, hi, rfl⟩ := List.getElem_of_mem hfm
      have hi' : i < fs.size := by simpa using hi
      have hfi : fs[i]? = some fs.toList[i] := by simp [hi']
      have hy := hf i _ hfi
      have hxi : xs[i]? = some xs[i] := List.getElem?_eq_getElem (by omega)
      rw [hxi] at hy
      refine trod_flat d _ (h1 _ hfm) hy _ ?_
      have hs : ((cs.drop fs.toList[i].offset).take (Try.prog.cellsOf fs.toList[i].type))[j - fs.toList[i].offset]? = some cs[j] := by
        rw [List.getElem?_take, if_pos (by omega), List.getElem?_drop, show fs.toList[i].offset + (j - fs.toList[i].offset) = j by omega, List.getElem?_eq_getElem hj]
      exact List.mem_of_getElem? hs
    · simp at h

theorem ints_of {cs : List Value} (h : ∀ v ∈ cs, ∃ z : Int, v = iv z ∧ (Lit.int .i64 z).wf = true) : ∃ zs : List Int, cs = ints zs ∧ ∀ z ∈ zs, (Lit.int .i64 z).wf = true := by
  induction cs with
  | nil => exact ⟨[], rfl, by simp⟩
  | cons v cs ih =>
    obtain ⟨z, rfl, hz⟩ := h _ (List.mem_cons_self)
    obtain ⟨zs, rfl, hzs⟩ := ih fun v hv => h v (List.mem_cons_of_mem _ hv)
    exact ⟨z :: zs, rfl, by simpa using ⟨hz, hzs⟩⟩

/-- An argument that is a struct of int64 alone. -/
theorem open_flat {W : World} {base : Nat} {t : TypeId} {fs : Array Field} {v : Value} {d : DataW H} {p : List MemPlace} (ht : Try.prog.underlying t = some (.struct fs)) (hB : flatB 5 t = true) (hv : Value.okWide Try.prog W .any base t v)
    (h : DataW.Trod enc Try.prog W 0 (fun _ => true) true t v d p) : ∃ zs : List Int, v = .agg (ints zs).toArray ∧ zs.length = Try.prog.cellsOf t ∧ ∀ z ∈ zs, (Lit.int .i64 z).wf = true := by
  obtain ⟨cs, rfl, hsz⟩ := okWide_struct ht hv
  obtain ⟨fuel, hf⟩ := h
  obtain ⟨zs, hz, hw⟩ := ints_of (trod_flat 5 t hB hf)
  refine ⟨zs, ?_, ?_, hw⟩
  · have : cs.toList = ints zs := hz
    rw [← this]
  · have := congrArg List.length hz
    rw [ints_len] at this
    rw [← this, ← hsz]
    rfl

/-- An argument that is a slice of structs of int64 alone. -/
theorem open_flats {W : World} {base : Nat} {t e : TypeId} {k : Nat} {v : Value} {d : DataW H} {p q : List MemPlace} (ht : Try.prog.underlying t = some (.slice e)) (hB : flatB 5 e = true) (hk : Try.prog.cellsOf e = k) (hk0 : 0 < k)
    (hlt : ∀ x ∈ q, x.block < W.heap.size) (hv : Value.okWide Try.prog W .any base t v)
    (h : DataW.Trod enc Try.prog W 0 (fun _ => true) true t v d p) (hp : ∀ x ∈ p, x ∈ q) : ∃ (A : Option Addr) (n c : Nat) (zs : List Int), v = .slice A n c ∧ Rd W k A n c (ints zs) ∧ (A = none → n = 0 ∧ c = 0) ∧ ∀ z ∈ zs, (Lit.int .i64 z).wf = true := by
  obtain ⟨a0, len, cap, rfl⟩ := okWide_slice ht hv
  obtain ⟨fuel, hf⟩ := h
  rcases open_slice ht hf with ⟨hcs, hx⟩ | ⟨a, len', cap', m, n, D, Pl, hcs, hb, hl, hm, hmm, hx, hi⟩
  · have hcs' : [Value.slice a0 len cap] = [.slice none 0 0] := hcs
    injection hcs' with hcs''
    injection hcs'' with h1 h2 h3
    subst h1; subst h2; subst h3
    exact ⟨_, _, _, [], rfl, ⟨by simp [ints], Nat.le_refl _, Nat.zero_le _, fun h => absurd h (by omega)⟩, fun _ => ⟨rfl, rfl⟩, by simp⟩
  · have hcs' : [Value.slice a0 len cap] = [.slice (some a) len' cap'] := hcs
    injection hcs' with hcs''
    injection hcs'' with h1 h2 h3
    subst h1; subst h2; subst h3
    simp only [if_pos] at hmm
    subst hmm
    rw [hk] at hx hi
    have each : ∀ i, i < len → ∃ zs : List Int, zs.length = k ∧ (∀ z ∈ zs, (Lit.int .i64 z).wf = true) ∧ ∀ j, j < k → W.cell? ((a.add (i * k)).add j) = some (iv (gi zs j)) := by
      intro i hil
      obtain ⟨cs', hc, ht'⟩ := hi i (by omega)
      obtain ⟨_, hcl, hat⟩ := World.cells?_some hc
      obtain ⟨zs, rfl, hw⟩ := ints_of (trod_flat 5 e hB ht')
      rw [ints_len] at hcl
      exact ⟨zs, hcl, hw, fun j hj => by rw [hat j hj, ints_get (by omega)]⟩
    have all : ∀ n', n' ≤ len → ∃ zs : List Int, zs.length = n' * k ∧ (∀ z ∈ zs, (Lit.int .i64 z).wf = true) ∧ ∀ j, j < n' * k → W.cell? (a.add j) = some (iv (gi zs j)) := by
      intro n'
      induction n' with
      | zero => exact fun _ => ⟨[], by simp, by simp, fun j hj => by omega⟩
      | succ n' ih =>
        intro hn'
        obtain ⟨zs, hz1, hz2, hz3⟩ := ih (by omega)
        obtain ⟨ys, hy1, hy2, hy3⟩ := each n' (by omega)
        refine ⟨zs ++ ys, by rw [List.length_append, hz1, hy1, Nat.add_mul, Nat.one_mul], fun z hz => ?_, fun j hj => ?_⟩
        · rcases List.mem_append.1 hz with h | h
          · exact hz2 z h
          · exact hy2 z h
        · rw [Nat.add_mul, Nat.one_mul] at hj
          by_cases hjl : j < n' * k
          · rw [hz3 j hjl]
            unfold gi
            simp only [List.getD_eq_getElem?_getD]
            rw [List.getElem?_append_left (by omega)]
          · have := hy3 (j - n' * k) (by omega)
            rw [add_add', show n' * k + (j - n' * k) = j by omega] at this
            rw [this]
            unfold gi
            simp only [List.getD_eq_getElem?_getD]
            rw [List.getElem?_append_right (by omega), hz1]
    obtain ⟨zs, hz1, hz2, hz3⟩ := all len (Nat.le_refl _)
    refine ⟨_, _, _, zs, rfl, ⟨by rw [ints_len, hz1], hl, hm, fun hn => ⟨a, rfl, ?_, fun j u hu => ?_⟩⟩, (fun h => nomatch h), hz2⟩
    · injection hx with _ hp'
      have hmem : ∃ x ∈ p, x.block = a.block := by
        refine ⟨.cell a.block (a.off + 0), ?_, rfl⟩
        rw [hp']
        refine List.mem_append_left _ ?_
        unfold MemPlace.row
        exact List.mem_map.2 ⟨0, by rw [List.mem_range]; exact Nat.mul_pos (by omega) hk0, rfl⟩
      obtain ⟨x, hx1, hx2⟩ := hmem
      rw [← hx2]
      exact hlt x (hp x hx1)
    · have hj : j < len * k := by
        have := (List.getElem?_eq_some_iff.1 hu).1
        rw [ints_len, hz1] at this
        exact this
      rw [hz3 j hj]
      rw [ints_get (by omega)] at hu
      exact hu
/-- An argument that is a slice of structs of int64 alone. -/
theorem open_flats_t {W : World} {t e : TypeId} {k : Nat} {v : Value} {d : DataW H} {p q : List MemPlace} (ht : Try.prog.underlying t = some (.slice e)) (hB : flatB 5 e = true) (hk : Try.prog.cellsOf e = k) (hk0 : 0 < k)
    (hlt : ∀ x ∈ q, x.block < W.heap.size) {fuel : Nat}
    (hf : DataW.trod enc Try.prog W 0 (fun _ => true) true fuel t [v] = some (d, p)) (hp : ∀ x ∈ p, x ∈ q) : ∃ (A : Option Addr) (n c : Nat) (zs : List Int), v = .slice A n c ∧ Rd W k A n c (ints zs) ∧ (A = none → n = 0 ∧ c = 0) ∧ ∀ z ∈ zs, (Lit.int .i64 z).wf = true := by
  obtain ⟨a0, len, cap, rfl⟩ : ∃ a0 len cap, v = .slice a0 len cap := by
    rcases open_slice ht hf with ⟨hcs, _⟩ | ⟨a, len', cap', m, n, D, Pl, hcs, _⟩
    · injection hcs with hcs
      exact ⟨_, _, _, hcs⟩
    · injection hcs with hcs
      exact ⟨_, _, _, hcs⟩
  rcases open_slice ht hf with ⟨hcs, hx⟩ | ⟨a, len', cap', m, n, D, Pl, hcs, hb, hl, hm, hmm, hx, hi⟩
  · have hcs' : [Value.slice a0 len cap] = [.slice none 0 0] := hcs
    injection hcs' with hcs''
    injection hcs'' with h1 h2 h3
    subst h1; subst h2; subst h3
    exact ⟨_, _, _, [], rfl, ⟨by simp [ints], Nat.le_refl _, Nat.zero_le _, fun h => absurd h (by omega)⟩, fun _ => ⟨rfl, rfl⟩, by simp⟩
  · have hcs' : [Value.slice a0 len cap] = [.slice (some a) len' cap'] := hcs
    injection hcs' with hcs''
    injection hcs'' with h1 h2 h3
    subst h1; subst h2; subst h3
    simp only [if_pos] at hmm
    subst hmm
    rw [hk] at hx hi
    have each : ∀ i, i < len → ∃ zs : List Int, zs.length = k ∧ (∀ z ∈ zs, (Lit.int .i64 z).wf = true) ∧ ∀ j, j < k → W.cell? ((a.add (i * k)).add j) = some (iv (gi zs j)) := by
      intro i hil
      obtain ⟨cs', hc, ht'⟩ := hi i (by omega)
      obtain ⟨_, hcl, hat⟩ := World.cells?_some hc
      obtain ⟨zs, rfl, hw⟩ := ints_of (trod_flat 5 e hB ht')
      rw [ints_len] at hcl
      exact ⟨zs, hcl, hw, fun j hj => by rw [hat j hj, ints_get (by omega)]⟩
    have all : ∀ n', n' ≤ len → ∃ zs : List Int, zs.length = n' * k ∧ (∀ z ∈ zs, (Lit.int .i64 z).wf = true) ∧ ∀ j, j < n' * k → W.cell? (a.add j) = some (iv (gi zs j)) := by
      intro n'
      induction n' with
      | zero => exact fun _ => ⟨[], by simp, by simp, fun j hj => by omega⟩
      | succ n' ih =>
        intro hn'
        obtain ⟨zs, hz1, hz2, hz3⟩ := ih (by omega)
        obtain ⟨ys, hy1, hy2, hy3⟩ := each n' (by omega)
        refine ⟨zs ++ ys, by rw [List.length_append, hz1, hy1, Nat.add_mul, Nat.one_mul], fun z hz => ?_, fun j hj => ?_⟩
        · rcases List.mem_append.1 hz with h | h
          · exact hz2 z h
          · exact hy2 z h
        · rw [Nat.add_mul, Nat.one_mul] at hj
          by_cases hjl : j < n' * k
          · rw [hz3 j hjl]
            unfold gi
            simp only [List.getD_eq_getElem?_getD]
            rw [List.getElem?_append_left (by omega)]
          · have := hy3 (j - n' * k) (by omega)
            rw [add_add', show n' * k + (j - n' * k) = j by omega] at this
            rw [this]
            unfold gi
            simp only [List.getD_eq_getElem?_getD]
            rw [List.getElem?_append_right (by omega), hz1]
    obtain ⟨zs, hz1, hz2, hz3⟩ := all len (Nat.le_refl _)
    refine ⟨_, _, _, zs, rfl, ⟨by rw [ints_len, hz1], hl, hm, fun hn => ⟨a, rfl, ?_, fun j u hu => ?_⟩⟩, (fun h => nomatch h), hz2⟩
    · injection hx with _ hp'
      have hmem : ∃ x ∈ p, x.block = a.block := by
        refine ⟨.cell a.block (a.off + 0), ?_, rfl⟩
        rw [hp']
        refine List.mem_append_left _ ?_
        unfold MemPlace.row
        exact List.mem_map.2 ⟨0, by rw [List.mem_range]; exact Nat.mul_pos (by omega) hk0, rfl⟩
      obtain ⟨x, hx1, hx2⟩ := hmem
      rw [← hx2]
      exact hlt x (hp x hx1)
    · have hj : j < len * k := by
        have := (List.getElem?_eq_some_iff.1 hu).1
        rw [ints_len, hz1] at this
        exact this
      rw [hz3 j hj]
      rw [ints_get (by omega)] at hu
      exact hu

end

/-- A memory of rows that are only read. -/
structure Ro (M : Mem) (μ : Map) (w : World) : Prop where
  sim : Sim M μ w
  ro : ∀ (i : Nat) r, M[i]? = some (.live r) → r.own = false
/-- Arguments so far: they have abstract forms. -/
structure AR (w : World) (M : Mem) (μ : Map) (vs cs : List Value) : Prop where
  ro : Ro M μ w
  rel : LRel M μ vs cs
def Arg (w : World) (c : Value) (K : Mem → Value → Prop) : Prop :=
  ∀ M μ, Ro M μ w → ∃ L μ' v, Ro (M ++ L) μ' w ∧ VRel (M ++ L) μ' v c ∧ K (M ++ L) v ∧ ∀ x y, VRel M μ x y → VRel (M ++ L) μ' x y
theorem AR.nil (w : World) : AR w [] ⟨fun _ => ⟨0, 0, none⟩, fun _ => 0⟩ [] [] := ⟨⟨⟨fun id r h => by simp at h, fun i j r s h => by simp at h⟩, fun i r h => by simp at h⟩, .nil⟩
theorem LRel.snoc {M : Mem} {μ : Map} {x y : Value} {xs ys : List Value} (h : LRel M μ xs ys) (h' : VRel M μ x y) : LRel M μ (xs ++ [x]) (ys ++ [y]) := by
  refine ⟨by simp [h.1], fun i u v hu hv => ?_⟩
  rcases getElem?_snoc_inv hu with ⟨hi, hu⟩ | ⟨rfl, rfl⟩
  · rw [getElem?_snoc_lt (by rw [← h.1]; exact hi)] at hv
    exact h.2 i u v hu hv
  · rw [h.1, getElem?_snoc_eq] at hv
    injection hv with hv
    subst hv
    exact h'
theorem AR.next {w : World} {M : Mem} {μ : Map} {vs cs : List Value} {c : Value} {K : Mem → Value → Prop} (h : AR w M μ vs cs) (ha : Arg w c K) :
    ∃ L μ' v, AR w (M ++ L) μ' (vs ++ [v]) (cs ++ [c]) ∧ K (M ++ L) v := by
  obtain ⟨L, μ', v, h1, h2, h3, h4⟩ := ha M μ h.ro
  exact ⟨L, μ', v, ⟨h1, LRel.snoc ⟨h.rel.1, fun i x y hx hy => h4 _ _ (h.rel.2 i x y hx hy)⟩ h2⟩, h3⟩
theorem Arg.plain {w : World} {c : Value} (h : plainV c = true) : Arg w c fun _ v => v = c :=
  fun M μ hr => ⟨[], μ, c, by simpa using hr, .plain h, rfl, fun x y h => by simpa using h⟩
theorem VRel.self_plain {M : Mem} {μ : Map} {cs : List Value} (h : ∀ v ∈ cs, plainV v = true) : LRel M μ cs cs := ⟨rfl, fun i x y hx hy => by
  rw [hx] at hy; injection hy with hy; subst hy
  exact .plain (h _ (List.mem_of_getElem? hx))⟩
theorem Arg.agg {w : World} {cs : List Value} (h : ∀ v ∈ cs, plainV v = true) : Arg w (.agg cs.toArray) fun _ v => v = .agg cs.toArray :=
  fun M μ hr => ⟨[], μ, _, by simpa using hr, VRel.mk_agg (VRel.self_plain h), rfl, fun x y h => by simpa using h⟩
/-- One more row that is only read. -/
theorem Ro.row {M : Mem} {μ : Map} {w : World} (h : Ro M μ w) {a : Addr} {cells : List Value} {e : TypeId} {k : Nat} (hlt : a.block < w.heap.size)
    (hc : ∀ (j : Nat) c, cells[j]? = some c → ∃ d, w.cell? (a.add j) = some d ∧ VRel M μ c d) :
    Ro (M ++ [.live ⟨cells, false, false, e, k⟩]) (μ.set M.length a 0) w ∧ ∀ x y, VRel M μ x y → VRel (M ++ [.live ⟨cells, false, false, e, k⟩]) (μ.set M.length a 0) x y := by
  have hv : ∀ x y, VRel M μ x y → VRel (M ++ [.live ⟨cells, false, false, e, k⟩]) (μ.set M.length a 0) x y := fun x y hx => hx.same fun i s hs _ => by
    have hi := (List.getElem?_eq_some_iff.1 hs).1
    exact ⟨by rw [getElem?_snoc_lt hi]; exact hs, Map.set_at_ne (by omega), Map.set_room_ne (by omega)⟩
  have hro : ∀ (i : Nat) r, (M ++ [.live ⟨cells, false, false, e, k⟩])[i]? = some (.live r) → r.own = false := fun i r hr => by
    rcases getElem?_snoc_inv hr with ⟨hi, hr⟩ | ⟨rfl, he⟩
    · exact h.ro i r hr
    · injection he with he; subst he; rfl
  refine ⟨⟨⟨fun id r hr => ?_, fun i j r s hr _ _ ho => ?_⟩, hro⟩, hv⟩
  · rcases getElem?_snoc_inv hr with ⟨hi, hr⟩ | ⟨rfl, he⟩
    · have hR := h.sim.row id r hr
      have hat : (μ.set M.length a 0).at_ id = μ.at_ id := Map.set_at_ne (by omega)
      have ho := h.ro id r hr
      refine ⟨by rw [hat]; exact hR.lt, fun j c hj => ?_, fun ho' => by rw [ho] at ho'; cases ho'⟩
      obtain ⟨d, h1, h2⟩ := hR.cell j c hj
      rw [hat]
      exact ⟨d, h1, hv _ _ h2⟩
    · injection he with he
      subst he
      have hat : (μ.set M.length a 0).at_ M.length = a := by simp [Map.set]
      refine ⟨by rw [hat]; exact hlt, fun j c hj => ?_, fun ho' => by cases ho'⟩
      obtain ⟨d, h1, h2⟩ := hc j c hj
      rw [hat]
      exact ⟨d, h1, hv _ _ h2⟩
  · rw [hro i r hr] at ho; cases ho
/-- One more slot without a row. -/
theorem Ro.dead {M : Mem} {μ : Map} {w : World} (h : Ro M μ w) : Ro (M ++ [.dead]) μ w ∧ ∀ x y, VRel M μ x y → VRel (M ++ [.dead]) μ x y := by
  have hv : ∀ x y, VRel M μ x y → VRel (M ++ [.dead]) μ x y := fun x y hx => hx.same fun i s hs _ => by
    have hi := (List.getElem?_eq_some_iff.1 hs).1
    exact ⟨by rw [getElem?_snoc_lt hi]; exact hs, rfl, rfl⟩
  have hro : ∀ (i : Nat) r, (M ++ [Slot.dead])[i]? = some (.live r) → M[i]? = some (.live r) := fun i r hr => by
    rcases getElem?_snoc_inv hr with ⟨hi, hr⟩ | ⟨_, he⟩
    · exact hr
    · cases he
  refine ⟨⟨⟨fun id r hr => ?_, fun i j r s hr hs => h.sim.inj i j r s (hro i r hr) (hro j s hs)⟩, fun i r hr => h.ro i r (hro i r hr)⟩, hv⟩
  have hR := h.sim.row id r (hro id r hr)
  exact ⟨hR.lt, fun j c hj => (hR.cell j c hj).imp fun d hd => ⟨hd.1, hv _ _ hd.2⟩, fun ho => by rw [h.ro id r (hro id r hr)] at ho; cases ho⟩
/-- An argument that is a slice of plain cells. -/
theorem Arg.slice {α : Type} {k : Nat} {R : RecV α k} {w : World} {A : Option Addr} {n c : Nat} {l : List α} (h : Rd w k A n c (cellsL R l)) (hl : l.length = n) (hp : ∀ v ∈ cellsL R l, plainV v = true)
    (hnil : A = none → n = 0 ∧ c = 0) : Arg w (.slice A n c) fun M v => ∃ B, v = .slice B n c ∧ n ≤ maxLen ∧ Sl R M B n l := by
  intro M μ hr
  obtain ⟨_, h1, h2, h3⟩ := h
  cases A with
  | none =>
    obtain ⟨rfl, rfl⟩ := hnil rfl
    exact ⟨[], μ, .slice none 0 0, by simpa using hr, .plain rfl, ⟨none, rfl, by omega, hl, fun h => absurd h (by omega)⟩, fun x y h => by simpa using h⟩
  | some a =>
    by_cases hn : 0 < n
    · obtain ⟨_, e, hlt, hc⟩ := h3 hn
      injection e with e
      subst e
      obtain ⟨g1, g2⟩ := hr.row (a := a) (cells := cellsL R l) (e := 0) (k := k) hlt fun j u hj => ⟨u, hc j u hj, .plain (hp u (List.mem_of_getElem? hj))⟩
      refine ⟨_, _, .slice (some ⟨M.length, 0, none⟩) n c, g1, .sl getElem?_snoc_eq rfl h1 h2 (fun r hr => ?_), ⟨_, rfl, by omega, hl, fun _ => ⟨M.length, 0, rfl, ?_, fun j x hx => ?_⟩⟩, g2⟩
      · injection hr with hr
        subst hr
        exact ⟨Or.inr (by simp [Map.set, Addr.add]), fun h => by cases h⟩
      · simp [rowEsz]
      · simp [cellAt, hx]
    · obtain ⟨g1, g2⟩ := hr.dead
      refine ⟨_, _, .slice (some ⟨M.length, 0, none⟩) n c, g1, .sl getElem?_snoc_eq rfl h1 h2 (fun r hr => by cases hr), ⟨_, rfl, by omega, hl, fun h => absurd h hn⟩, g2⟩
/-- The law's end. -/
theorem law_end {f : FuncId} {w : World} {M : Mem} {μ : Map} {vs cs : List Value} (h : AR w M μ vs cs) (hd : Det Try.prog M.length f vs M (.bool true) M) :
    Calls Try.prog f cs.toArray w fun e w' => e = .returned (.bool true) ∧ Below w.heap.size w w' := by
  refine (hd.run μ w cs h.rel h.ro.sim).mono ?_
  rintro e w' ⟨c, μ', rfl, hv, _, hs⟩
  rw [hv.bool]
  refine ⟨rfl, hs.os, hs.tape, hs.output, hs.size, fun k hk => hs.block k hk fun i r hi hr _ => ?_⟩
  have := (List.getElem?_eq_some_iff.1 hr).1
  omega
/-- Records of numbers. -/
structure Ints {α : Type} {k : Nat} (R : RecV α k) where
  of : List Int → α
  row : ∀ zs, zs.length = k → R.row (of zs) = ints zs
theorem Ints.chunk {α : Type} {k : Nat} {R : RecV α k} (I : Ints R) : ∀ (n : Nat) (zs : List Int), zs.length = n * k → (∀ z ∈ zs, (Lit.int .i64 z).wf = true) →
    ∃ l : List α, l.length = n ∧ cellsL R l = ints zs ∧ ∀ a ∈ l, ∃ ys : List Int, a = I.of ys ∧ ys.length = k ∧ ∀ z ∈ ys, (Lit.int .i64 z).wf = true
  | 0, zs, h, _ => ⟨[], rfl, by obtain rfl := List.eq_nil_of_length_eq_zero (by omega : zs.length = 0); rfl, by simp⟩
  | n + 1, zs, h, hw => by
    rw [Nat.add_mul, Nat.one_mul] at h
    obtain ⟨l, h1, h2, h3⟩ := I.chunk n (zs.drop k) (by rw [List.length_drop]; omega) fun z hz => hw z (List.mem_of_mem_drop hz)
    refine ⟨I.of (zs.take k) :: l, by simp [h1], ?_, fun a ha => ?_⟩
    · rw [cellsL_cons, I.row _ (by rw [List.length_take]; omega), h2]
      unfold ints
      rw [← List.map_append, List.take_append_drop]
    · rcases List.mem_cons.1 ha with rfl | ha
      · exact ⟨_, rfl, by rw [List.length_take]; omega, fun z hz => hw z (List.mem_of_mem_take hz)⟩
      · exact h3 a ha
theorem plain_ints {zs : List Int} : ∀ v ∈ ints zs, plainV v = true := fun v hv => by
  obtain ⟨z, -, rfl⟩ := List.mem_map.1 hv
  rfl
/-- An argument that is a slice of structs of int64 alone. -/
theorem Arg.flats {H : Type} {enc : TypeId × Value → H} {α : Type} {k : Nat} {R : RecV α k} (I : Ints R) {W : World} {base : Nat} {t e : TypeId} {v : Value} {d : DataW H} {p q : List MemPlace} (ht : Try.prog.underlying t = some (.slice e)) (hB : flatB 5 e = true) (hk : Try.prog.cellsOf e = k) (hk0 : 0 < k)
    (hlt : ∀ x ∈ q, x.block < W.heap.size) (hv : Value.okWide Try.prog W .any base t v)
    (h : DataW.Trod enc Try.prog W 0 (fun _ => true) true t v d p) (hp : ∀ x ∈ p, x ∈ q) :
    Arg W v fun M v' => ∃ B n c l, v' = .slice B n c ∧ n ≤ maxLen ∧ Sl R M B n l ∧ ∀ a ∈ l, ∃ ys : List Int, a = I.of ys ∧ ys.length = k ∧ ∀ z ∈ ys, (Lit.int .i64 z).wf = true := by
  obtain ⟨A, n, c, zs, rfl, h1, h2, h3⟩ := open_flats ht hB hk hk0 hlt hv h hp
  have hz := h1.1
  rw [ints_len] at hz
  obtain ⟨l, g1, g2, g3⟩ := I.chunk n zs hz h3
  rw [← g2] at h1
  intro M μ hr
  obtain ⟨L, μ', v, a1, a2, ⟨B, a3, a4, a5⟩, a6⟩ := Arg.slice h1 g1 (by rw [g2]; exact plain_ints) h2 M μ hr
  exact ⟨L, μ', v, a1, a2, ⟨B, n, c, l, a3, a4, a5, g3⟩, a6⟩
theorem Arg.agg1 {w : World} {c : Value} {K : Mem → Value → Prop} (h : Arg w c K) : Arg w (.agg #[c]) fun M v => ∃ x, v = .agg #[x] ∧ K M x := fun M μ hr => by
  obtain ⟨L, μ', v, h1, h2, h3, h4⟩ := h M μ hr
  exact ⟨L, μ', .agg #[v], h1, VRel.mk_agg (.cons h2 .nil), ⟨v, rfl, h3⟩, h4⟩
/-- An argument that is a struct with one field, a slice of structs of int64 alone. -/
theorem Arg.wrap {H : Type} {enc : TypeId × Value → H} {α : Type} {k : Nat} {R : RecV α k} (I : Ints R) {W : World} {base : Nat} {t s e : TypeId} {f0 : Field} {v : Value} {d : DataW H} {p q : List MemPlace} (hst : Try.prog.underlying t = some (.struct #[f0])) (hf0 : f0.type = s ∧ f0.offset = 0) (hc1 : Try.prog.cellsOf t = 1) (hc2 : Try.prog.cellsOf s = 1)
    (ht : Try.prog.underlying s = some (.slice e)) (hB : flatB 5 e = true) (hk : Try.prog.cellsOf e = k) (hk0 : 0 < k)
    (hlt : ∀ x ∈ q, x.block < W.heap.size) (hv : Value.okWide Try.prog W .any base t v)
    (h : DataW.Trod enc Try.prog W 0 (fun _ => true) true t v d p) (hp : ∀ x ∈ p, x ∈ q) :
    Arg W v fun M v' => ∃ u, v' = .agg #[u] ∧ ∃ B n c l, u = .slice B n c ∧ n ≤ maxLen ∧ Sl R M B n l ∧ ∀ a ∈ l, ∃ ys : List Int, a = I.of ys ∧ ys.length = k ∧ ∀ z ∈ ys, (Lit.int .i64 z).wf = true := by
  obtain ⟨cs, rfl, hsz⟩ := okWide_struct hst hv
  obtain ⟨fuel, hf⟩ := h
  obtain ⟨xs, m, -, hx, hlen, hxl, hi⟩ := DataW.trod_struct hst hf
  rw [hc1] at hsz
  obtain ⟨l0, rfl⟩ : ∃ u, cs = #[u] := by
    obtain ⟨l⟩ := cs
    match l, hsz with
    | [u], _ => exact ⟨u, rfl⟩
  have h0 := hi 0 f0 rfl
  obtain ⟨hf1, hf2⟩ := hf0
  rw [hf1, hf2, hc2] at h0
  obtain ⟨⟨d0, p0⟩, rfl⟩ : ∃ x, xs = [x] := by
    match xs, hxl with
    | [x], _ => exact ⟨x, rfl⟩
  have h0' : DataW.trod enc Try.prog W 0 (fun _ => true) true m s [l0] = some (d0, p0) := h0
  have hpp : ∀ x ∈ p0, x ∈ q := fun x hx' => hp x (by injection hx with _ hx; rw [hx]; simpa using hx')
  obtain ⟨A, n, c, zs, rfl, h1, h2, h3⟩ := open_flats_t ht hB hk hk0 hlt h0' hpp
  have hz := h1.1
  rw [ints_len] at hz
  obtain ⟨l, g1, g2, g3⟩ := I.chunk n zs hz h3
  rw [← g2] at h1
  refine Arg.agg1 (fun M μ hr => ?_)
  obtain ⟨L, μ', v, a1, a2, ⟨B, a3, a4, a5⟩, a6⟩ := Arg.slice h1 g1 (by rw [g2]; exact plain_ints) h2 M μ hr
  exact ⟨L, μ', v, a1, a2, ⟨B, n, c, l, a3, a4, a5, g3⟩, a6⟩
end Go.Proofs.Ytimijeeihicohaa

namespace Go.Proofs.Ytimijeeihicohaa
open Go.RowKit
set_option linter.unusedVariables false
set_option linter.unusedSimpArgs false
set_option maxRecDepth 100000
attribute [local simp] List.getElem?_cons_zero
attribute [local irreducible] awCond awCall awLoop awDraw ow retQ retC resQ Keeps
structure Clip where
  (src fr len at_ gain : Int)
deriving Inhabited, DecidableEq
def Clip.row (c : Clip) : List Value := [iv c.src, iv c.fr, iv c.len, iv c.at_, iv c.gain]
def clipR : RecV Clip 5 := ⟨Clip.row, fun _ => rfl⟩
abbrev Clip.v (c : Clip) : Value := .agg #[iv c.src, iv c.fr, iv c.len, iv c.at_, iv c.gain]
theorem clip_cells {M : Mem} {id off : Nat} {g : Clip} (h : Cl M id off g.row) : cellAt M id off = some (iv g.src) ∧ cellAt M id (off + 1) = some (iv g.fr) ∧ cellAt M id (off + 2) = some (iv g.len) ∧ cellAt M id (off + 3) = some (iv g.at_) ∧ cellAt M id (off + 4) = some (iv g.gain) :=
  ⟨h 0 _ rfl, h 1 _ rfl, h 2 _ rfl, h 3 _ rfl, h 4 _ rfl⟩
theorem clip_load {M : Mem} {id off : Nat} {g : Clip} (h : Cl M id off g.row) : cellsAt M id off 5 = some [iv g.src, iv g.fr, iv g.len, iv g.at_, iv g.gain] := cellsAt_of h rfl (by omega)
theorem clip_eq {a b : Clip} : a = b ↔ a.src = b.src ∧ a.fr = b.fr ∧ a.len = b.len ∧ a.at_ = b.at_ ∧ a.gain = b.gain := by
  cases a; cases b; simp
def clipI : Ints clipR := ⟨fun zs => ⟨gi zs 0, gi zs 1, gi zs 2, gi zs 3, gi zs 4⟩, fun zs h => by
  obtain ⟨x0, x1, x2, x3, x4, rfl⟩ : ∃ x0 x1 x2 x3 x4, zs = [x0, x1, x2, x3, x4] := by
    match zs, h with
    | [x0, x1, x2, x3, x4], _ => exact ⟨x0, x1, x2, x3, x4, rfl⟩
  rfl⟩

/-- Equality of records, as the language has it. -/
theorem clip_same (a b : Clip) : aggEq Try.prog 34 #[iv a.src, iv a.fr, iv a.len, iv a.at_, iv a.gain] #[iv b.src, iv b.fr, iv b.len, iv b.at_, iv b.gain] = some (decide (a = b)) := by
  refine aggEq_of (by kernel_rfl) rfl rfl fun w => ?_
  unfold Op.equal
  rw [show Op.maxDepth = 9999 + 1 from rfl]
  rw [run_equalIn_agg _ _ _ _ _ Try.underlying34 (by kernel_rfl)]
  simp [go_sem]
  repeat' split
  all_goals simp_all [clip_eq]
theorem clip_eql (a b : Clip) : binV Try.prog .eql 34 (.agg #[iv a.src, iv a.fr, iv a.len, iv a.at_, iv a.gain]) (.agg #[iv b.src, iv b.fr, iv b.len, iv b.at_, iv b.gain]) = some (.bool (decide (a = b))) := by
  simp only [binV, eqV, Try.underlying34, clip_same, Option.map_some]
theorem clip_neq (a b : Clip) : binV Try.prog .neq 34 (.agg #[iv a.src, iv a.fr, iv a.len, iv a.at_, iv a.gain]) (.agg #[iv b.src, iv b.fr, iv b.len, iv b.at_, iv b.gain]) = some (.bool (!decide (a = b))) := by
  simp only [binV, eqV, Try.underlying34, clip_same, Option.map_some]
@[simp] theorem clip_fill (x0 x1 x2 x3 x4 : Int) : Instr.fill (fun i => some (i * 5, 5)) (zrow [iv 0, iv 0, iv 0, iv 0, iv 0] 1).toArray [(0, .agg #[iv x0, iv x1, iv x2, iv x3, iv x4])] = some #[iv x0, iv x1, iv x2, iv x3, iv x4] := fill_agg (by omega) rfl rfl
theorem toClip_a {M : Mem} (g : Clip) : Det Try.prog M.length 10 [g.v] M g.v M := by
  first | (refine det_fn Try.func10 rfl Try.ntmps10 Try.results10 rfl rfl rfl (by simp) ?_) | (refine det_fnC Try.func10 rfl Try.ntmps10 Try.results10 rfl rfl (by simp) ?_)
  simp [keeps_app]
theorem eqClip_a {M : Mem} (a b : Clip) : Det Try.prog M.length 66 [a.v, b.v] M (.bool (decide (a = b))) M := by
  first | (refine det_fn Try.func66 rfl Try.ntmps66 Try.results66 rfl rfl rfl (by simp) ?_) | (refine det_fnC Try.func66 rfl Try.ntmps66 Try.results66 rfl rfl (by simp) ?_)
  simp
  repeat' (first | (refine awCond_split ?_ ?_ <;> intro _) | (simp [keeps_app]))
  all_goals (simp_all [clip_eq])
theorem szClipS_a {M : Mem} {A : Option Addr} {n c : Nat} (z : Int) (hz : 0 ≤ z) (hz1 : z ≤ 1048576) (hn : n ≤ maxLen) : Det Try.prog M.length 30 [.slice A n c, iv z] M (iv (if z - n < 0 then -1 else z - n)) M := by
  unfold maxLen at hn
  first | (refine det_fn Try.func30 rfl Try.ntmps30 Try.results30 rfl rfl rfl (by simp) ?_) | (refine det_fnC Try.func30 rfl Try.ntmps30 Try.results30 rfl rfl (by simp) ?_)
  simp (disch := omega) [wrap_in]
  refine awCond_split ?_ ?_ <;> intro h
  · simp at h
    simp [h, Keeps.refl]
    try omega
  · simp at h
    simp [h, Keeps.refl]
    try omega
theorem toClipS_d {M : Mem} {A : Option Addr} {n c : Nat} {l : List Clip} (h : Sl clipR M A n l) (hn : n ≤ 1099511627776) : Det Try.prog M.length 34 [.slice A n c] M (.slice (some ⟨M.length, 0, none⟩) n n) (M ++ [.live ⟨cellsL clipR l, true, true, 34, 5⟩]) := by
  have hl := h.1
  refine Ctr.det ?_
  first | (refine ctr_fn Try.func34 rfl Try.ntmps34 Try.results34 rfl rfl (by simp) ?_) | (refine ctr_fnC Try.func34 rfl Try.ntmps34 Try.results34 rfl (by simp) ?_)
  simp
  refine ⟨by omega, ?_⟩
  refine awLoop_T (fun m T M' => ∃ k : Nat, k + m = n ∧ M' = M ++ [.live ⟨cellsL clipR (l.take k) ++ zrow [iv 0, iv 0, iv 0, iv 0, iv 0] m, true, true, 34, 5⟩] ∧ look T 4 = some (iv k) ∧ look T 0 = some (.slice A n c) ∧ look T 3 = some (.slice (some ⟨M.length, 0, none⟩) n n)) n ⟨0, by omega, by simp [cellsL_nil], by simp, by simp, by simp⟩ ?_
  rintro m T M' ⟨k, hm, rfl, h4, h0, h3⟩
  by_cases hlt : k < n
  · obtain ⟨id, off, rfl, he, hc⟩ := h.at_ hlt
    have hc' := hc.app [.live ⟨cellsL clipR (l.take k) ++ zrow [iv 0, iv 0, iv 0, iv 0, iv 0] m, true, true, 34, 5⟩]
    simp (disch := omega) [h3, h4, h0, hlt, wrap_in, clip_load hc']
    obtain ⟨m, rfl⟩ : ∃ m', m = m' + 1 := ⟨m - 1, by omega⟩
    refine awCall_det' ((toClip_a (el l k))) (by simp) ⟨by simp, ow_iff.2 ⟨_, putCells_rec clipR (a := el l k) (Nat.le_refl _) rfl (List.length_take_of_le (by omega)) rfl, ?_⟩⟩
    refine lpI m (by omega) ?_
    refine ⟨k + 1, by omega, by rw [take_el (by omega)], by simp, by simp [h0], by simp [h3]⟩
  · obtain rfl : k = n := by omega
    obtain rfl : m = 0 := by omega
    simp [h3, h4, h0, List.take_of_length_le (Nat.le_of_eq hl)]
theorem toClipS_a {M : Mem} {A : Option Addr} {n c : Nat} {l : List Clip} (h : Sl clipR M A n l) (hn : n ≤ 1099511627776) : Ctr Try.prog M.length 34 [.slice A n c] M fun v M' => Fresh clipR M v M' l :=
  (toClipS_d h hn).ctr (Fresh.new h.1 (by omega))
theorem eqClipS_a {M : Mem} {A B : Option Addr} {n c m d : Nat} {x y : List Clip} (hx : Sl clipR M A n x) (hy : Sl clipR M B m y) (hn : n ≤ 1099511627776) : Det Try.prog M.length 38 [.slice A n c, .slice B m d] M (.bool (decide (x = y))) M := by
  have hlx := hx.1
  have hly := hy.1
  first | (refine det_fn Try.func38 rfl Try.ntmps38 Try.results38 rfl rfl rfl (by simp) ?_) | (refine det_fnC Try.func38 rfl Try.ntmps38 Try.results38 rfl rfl (by simp) ?_)
  simp
  refine awCond_split ?_ ?_ <;> intro hnm
  · simp at hnm
    simp
    exact ⟨fun e => by subst e; omega, Keeps.refl _⟩
  · simp at hnm
    obtain rfl : n = m := by omega
    simp
    refine awLoop_T (fun m T M' => ∃ k : Nat, k + m = n ∧ M' = M ∧ look T 5 = some (iv k) ∧ look T 0 = some (.slice A n c) ∧ look T 1 = some (.slice B n d) ∧ x.take k = y.take k) n ⟨0, by omega, rfl, by simp, by simp, by simp, by simp⟩ ?_
    rintro m T M' ⟨k, hm, rfl, h4, h0, h1, hk⟩
    by_cases hlt : k < n
    · obtain ⟨id, off, rfl, he, hc⟩ := hx.at_ hlt
      obtain ⟨id', off', rfl, he', hc'⟩ := hy.at_ hlt
      simp (disch := omega) [h4, h0, h1, hlt, wrap_in]
      refine awDraw_E 8 [[],[],[0,1],[2,0,1],[],[],[4,5],[6,4,5],[3,2,0,1,7,6,4,5],[8,3,2,0,1,7,6,4,5]] (by kernel_rfl) (by kernel_rfl) ?_
      simp (disch := omega) [h4, h0, h1, hlt, wrap_in, clip_load hc, clip_load hc']
      refine awCall_det' (eqClip_a (el x k) (el y k)) (Nat.le_refl _) ?_
      simp
      refine awCond_split ?_ ?_ <;> intro he
      · simp at he
        simp
        exact ⟨fun e => he (by rw [e]), Keeps.refl _⟩
      · simp at he
        simp (disch := omega) [h4, h0, h1, wrap_in]
        refine lpI (m - 1) (by omega) ?_
        exact ⟨k + 1, by omega, rfl, by simp, by simp [h0], by simp [h1], by rw [take_el (by omega), take_el (by omega), hk, he]⟩
    · obtain rfl : k = n := by omega
      rw [List.take_of_length_le (by omega), List.take_of_length_le (by omega)] at hk
      simp [h4, h0, h1, hk, Keeps.refl]
def markClip (z : Int) (i : Nat) : Clip := ⟨z + i * 5, z + i * 5 + 1, z + i * 5 + 1 + 1, z + i * 5 + 1 + 1 + 1, z + i * 5 + 1 + 1 + 1 + 1⟩
def markClipL (z : Int) (n : Nat) : List Clip := (List.range n).map (markClip z)
theorem markClipL_succ (z : Int) (n : Nat) : markClipL z (n + 1) = markClipL z n ++ [markClip z n] := by simp [markClipL, List.range_succ]
theorem markClipS_a {M : Mem} {b : Nat} {A : Option Addr} {n c : Nat} {x : List Clip} (z : Int) (hx : Sl clipR M A n x) (ho : Ownd M A n) (hb : ∀ a, A = some a → 0 < n → b ≤ a.block) (hn : n ≤ 1099511627776) (hz0 : 0 ≤ z) (hz : z ≤ 1152921504606846976) :
    Ctr Try.prog b 39 [.slice A n c, iv z] M fun v M' => v = iv (z + n * 5) ∧ Sl clipR M' A n (markClipL z n) ∧ Ownd M' A n ∧ Turned A n M M' := by
  have hlx := hx.1
  rcases Nat.eq_zero_or_pos n with rfl | hp
  · first | (refine ctr_fn Try.func39 rfl Try.ntmps39 Try.results39 rfl rfl (by simp) ?_) | (refine ctr_fnC Try.func39 rfl Try.ntmps39 Try.results39 rfl (by simp) ?_)
    simp
    refine awLoop_T (fun m T M' => M' = M ∧ look T 1 = some (iv z) ∧ look T 5 = some (iv 0) ∧ look T 0 = some (.slice A 0 c)) 0 ⟨rfl, by simp, by simp, by simp⟩ ?_
    rintro m T M' ⟨rfl, h1, h3, h0⟩
    simp [h1, h3, h0]
    obtain rfl := List.eq_nil_of_length_eq_zero hlx
    exact ⟨hx, ho, rfl, fun i s hs _ => hs⟩
  · obtain ⟨id, off, r, rfl, hr, ho⟩ := ho hp
    have hid := (List.getElem?_eq_some_iff.1 hr).1
    obtain ⟨hz5, hlen⟩ := hx.cells hr hp (by omega)
    have hb' : b ≤ id := hb _ rfl hp
    obtain ⟨cs, own, t, e, esz⟩ := r
    simp only at hz5 hlen ho
    subst hz5 ho
    have hM : M = M.set id (.live ⟨cs.take off ++ cellsL clipR (markClipL z 0) ++ cs.drop (off + 0 * 5), true, t, e, 5⟩) := by
      rw [set_self]
      simp [markClipL, cellsL_nil, hr]
    first | (refine ctr_fn Try.func39 rfl Try.ntmps39 Try.results39 rfl rfl (by simp) ?_) | (refine ctr_fnC Try.func39 rfl Try.ntmps39 Try.results39 rfl (by simp) ?_)
    simp
    refine awLoop_T (fun m T M' => ∃ j : Nat, j + m = n ∧ M' = M.set id (.live ⟨cs.take off ++ cellsL clipR (markClipL z j) ++ cs.drop (off + j * 5), true, t, e, 5⟩) ∧ look T 5 = some (iv j) ∧ look T 1 = some (iv (z + j * 5)) ∧ look T 0 = some (.slice (some ⟨id, off, none⟩) n c)) n ⟨0, by omega, hM, by simp, by simp, by simp⟩ ?_
    rintro m T M' ⟨j, hm, rfl, h5, h1, h0⟩
    have hlm : (markClipL z j).length = j := by simp [markClipL]
    by_cases hlt : j < n
    · have hsp := splice_mid clipR (cs := cs) (off := off) (a := markClip z j) hlm (by omega)
      have hlc : (cs.take off ++ cellsL clipR (markClipL z j) ++ cs.drop (off + j * 5)).length = cs.length := by
        simp only [List.length_append, List.length_take, List.length_drop, cellsL_len, hlm]; omega
      generalize cs.take off ++ cellsL clipR (markClipL z j) ++ cs.drop (off + j * 5) = Cs at hsp hlc ⊢
      simp (disch := first | omega | (simp <;> omega)) [h5, h1, h0, hlt, wrap_in, rowEsz_set hid, put_set hid hb']
      refine lpI (m - 1) (by omega) ?_
      refine ⟨j + 1, by omega, ?_, by simp, by simp; omega, by simp [h0]⟩
      rw [markClipL_succ, ← hsp]
      rfl
    · obtain rfl : j = n := by omega
      have hS := Sl.set (R := clipR) (M := M) (pre := cs.take off) (post := cs.drop (off + j * 5)) (o := true) (t := t) (e := e) hid (List.length_take_of_le (by omega)) hlm
      have hO : Ownd (M.set id (.live ⟨cs.take off ++ cellsL clipR (markClipL z j) ++ cs.drop (off + j * 5), true, t, e, 5⟩)) (some ⟨id, off, none⟩) j := fun _ => ⟨_, _, _, rfl, List.getElem?_set_self hid, rfl⟩
      have hT : Turned (some ⟨id, off, none⟩) j M (M.set id (.live ⟨cs.take off ++ cellsL clipR (markClipL z j) ++ cs.drop (off + j * 5), true, t, e, 5⟩)) := set_turned hp
      generalize M.set id (.live ⟨cs.take off ++ cellsL clipR (markClipL z j) ++ cs.drop (off + j * 5), true, t, e, 5⟩) = M' at hS hO hT ⊢
      simp [h5, h1, h0]
      exact ⟨hS, hO, hT⟩
theorem heldClipS_a {M : Mem} {A : Option Addr} {n c : Nat} (z : Int) (hx : Sl clipR M A n (markClipL z n)) (hn : n ≤ 1099511627776) (hz0 : 0 ≤ z) (hz : z ≤ 1152921504606846976) :
    Det Try.prog M.length 40 [.slice A n c, iv z] M (iv (z + n * 5)) M := by
  first | (refine det_fn Try.func40 rfl Try.ntmps40 Try.results40 rfl rfl rfl (by simp) ?_) | (refine det_fnC Try.func40 rfl Try.ntmps40 Try.results40 rfl rfl (by simp) ?_)
  simp
  refine awLoop_T (fun m T M' => ∃ j : Nat, j + m = n ∧ M' = M ∧ look T 5 = some (iv j) ∧ look T 1 = some (iv (z + j * 5)) ∧ look T 0 = some (.slice A n c)) n ⟨0, by omega, rfl, by simp, by simp, by simp⟩ ?_
  rintro m T M' ⟨j, hm, rfl, h5, h1, h0⟩
  by_cases hlt : j < n
  · obtain ⟨id, off, rfl, he, hc⟩ := hx.at_ hlt
    rw [show el (markClipL z n) j = markClip z j by simp [markClipL, el, hlt]] at hc
    obtain ⟨c0, c1, c2, c3, c4⟩ := clip_cells hc
    simp (disch := omega) [h5, h1, h0, hlt, wrap_in, c0, c1, c2, c3, c4, markClip]
    refine lpI (m - 1) (by omega) ?_
    exact ⟨j + 1, by omega, rfl, by simp, by simp; omega, by simp [h0]⟩
  · obtain rfl : j = n := by omega
    simp [h5, h1, h0, Keeps.refl]
/-! The same, as the laws use them. -/
theorem sz_ClipS_over {M : Mem} {v : Value} {lo hi : Nat} {l : List Clip} {z : Int} (h : RdL clipR lo hi M v l) (hz : 0 ≤ z) (hz1 : z ≤ 1048576) (hl : z < l.length) : Det Try.prog M.length 30 [v, iv z] M (iv (-1)) M := by
  obtain ⟨A, n, c, rfl, hn, hS, _⟩ := h
  have := szClipS_a (M := M) (A := A) (n := n) (c := c) z hz hz1 (by unfold maxLen; omega)
  rwa [if_pos (by have := hS.1; omega)] at this
theorem sz_ClipS {M : Mem} {v : Value} {lo hi : Nat} {l : List Clip} {z : Int} (h : RdL clipR lo hi M v l) (hz : 0 ≤ z) (hz1 : z ≤ 1048576) (hl : l.length ≤ z) : Det Try.prog M.length 30 [v, iv z] M (iv (z - l.length)) M := by
  obtain ⟨A, n, c, rfl, hn, hS, _⟩ := h
  have := szClipS_a (M := M) (A := A) (n := n) (c := c) z hz hz1 (by unfold maxLen; omega)
  rw [if_neg (by have := hS.1; omega)] at this
  rwa [hS.1]
theorem to_ClipS {M : Mem} {v : Value} {lo hi : Nat} {l : List Clip} (h : RdL clipR lo hi M v l) (hl : l.length ≤ 1048576) : Ctr Try.prog M.length 34 [v] M fun v' M' => OwL clipR M.length M'.length M' v' l ∧ Keeps M M' := by
  obtain ⟨A, n, c, rfl, hn, hS, _⟩ := h
  exact (toClipS_a hS (by have := hS.1; omega)).mono fun v' M' h => h.ow
theorem eq_ClipS {M : Mem} {v w : Value} {lo hi lo' hi' : Nat} {x y : List Clip} (hx : OwL clipR lo hi M v x) (hy : RdL clipR lo' hi' M w y) : Det Try.prog M.length 38 [v, w] M (.bool (decide (x = y))) M := by
  obtain ⟨A, n, c, rfl, hn, hS, _⟩ := hx
  obtain ⟨B, m, d, rfl, hm, hT, _⟩ := hy
  exact eqClipS_a hS hT hn
theorem mark_ClipS {M : Mem} {b : Nat} {v : Value} {lo hi : Nat} {l : List Clip} {z : Int} (h : OwL clipR lo hi M v l) (hb : b ≤ lo) (hz : 0 ≤ z) (hz1 : z ≤ 1152921504606846976) :
    Ctr Try.prog b 39 [v, iv z] M fun r M' => r = iv (z + l.length * 5) ∧ OwL clipR lo hi M' v (markClipL z l.length) ∧ Turn lo hi M M' := by
  obtain ⟨A, n, c, rfl, hn, hS, hi', ho⟩ := h
  exact (markClipS_a z hS ho (fun a e hp => by have := hi' a e hp; omega) hn hz hz1).mono fun r M' ⟨h1, h2, h3, h4⟩ => ⟨by rw [h1, hS.1], ⟨A, n, c, rfl, hn, by rw [hS.1]; exact h2, hi', h3⟩, Nat.le_of_eq h4.1.symm, fun i s hs hd => h4.2 i s hs fun a e hp => by have := hi' a e hp; omega⟩
theorem held_ClipS {M : Mem} {v : Value} {lo hi m : Nat} {z : Int} (h : OwL clipR lo hi M v (markClipL z m)) (hz : 0 ≤ z) (hz1 : z ≤ 1152921504606846976) : Det Try.prog M.length 40 [v, iv z] M (iv (z + m * 5)) M := by
  obtain ⟨A, n, c, rfl, hn, hS, _⟩ := h
  have hm : m = n := by have := hS.1; simpa [markClipL] using this
  subst hm
  exact heldClipS_a z hS hn hz hz1
end Go.Proofs.Ytimijeeihicohaa

namespace Go.Proofs.Ytimijeeihicohaa
open Go.RowKit
set_option linter.unusedVariables false
set_option linter.unusedSimpArgs false
set_option maxRecDepth 100000
attribute [local simp] List.getElem?_cons_zero
attribute [local irreducible] awCond awCall awLoop awDraw ow retQ retC resQ Keeps
section
variable {α : Type} {k : Nat}
/-- The value v is a list in a row of one's own, from id B on, that append can grow. -/
def Acc (R : RecV α k) (e : TypeId) (B : Nat) (M : Mem) (v : Value) (l : List α) : Prop :=
  ∃ A n c, v = .slice A n c ∧ l.length = n ∧ ((A = none ∧ n = 0 ∧ c = 0) ∨ ∃ id t, A = some ⟨id, 0, none⟩ ∧ B ≤ id ∧ M[id]? = some (.live ⟨cellsL R l, true, t, e, k⟩))
/-- Below B nothing has turned. -/
def Same (B : Nat) (M M' : Mem) : Prop := M.length ≤ M'.length ∧ ∀ (i : Nat) s, i < B → M[i]? = some s → M'[i]? = some s
theorem Same.keeps {B : Nat} {M0 M M' : Mem} (h : Same B M M') (hk : Keeps M0 M) (hb : M0.length ≤ B) : Keeps M0 M' := by
  unfold Keeps
  exact fun i s hs => h.2 i s (by have := (List.getElem?_eq_some_iff.1 hs).1; omega) (hk.get hs)
theorem Acc.keeps {R : RecV α k} {e : TypeId} {B : Nat} {M M' : Mem} {v : Value} {l : List α} (h : Acc R e B M v l) (hk : Keeps M M') : Acc R e B M' v l := by
  obtain ⟨A, n, c, h1, h2, h3⟩ := h
  refine ⟨A, n, c, h1, h2, ?_⟩
  rcases h3 with h3 | ⟨id, t, h4, h5, h6⟩
  · exact .inl h3
  · exact .inr ⟨id, t, h4, h5, hk.get h6⟩
theorem Acc.src {P : Program} {R : RecV α k} {e tx : TypeId} {B : Nat} {M : Mem} {v : Value} {l : List α} (h : Acc R e B M v l) (ht : ∃ e', P.underlying tx = some (.slice e')) : srcOf P M k tx v = some (l.length, cellsL R l) := by
  obtain ⟨e', ht⟩ := ht
  obtain ⟨A, n, c, rfl, hl, hA⟩ := h
  subst hl
  rcases hA with ⟨rfl, h0, rfl⟩ | ⟨id, t, rfl, hid, hr⟩
  · obtain rfl := List.eq_nil_of_length_eq_zero h0
    simp [srcOf, ht, cellsL]
  · have e : cellsAt M id 0 (l.length * k) = some (cellsL R l) := by
      unfold cellsAt
      rw [hr]
      simp only
      rw [if_pos (by rw [cellsL_len]; omega), List.drop_zero, List.take_of_length_le (by rw [cellsL_len]; omega)]
    rcases l with _ | ⟨x, l⟩
    · simp [srcOf, ht, cellsL]
    · simp at e
      simp [srcOf, ht, e]
theorem Sl.src {P : Program} {R : RecV α k} {tx : TypeId} {M : Mem} {ad : Addr} {n c : Nat} {l : List α} (h : Sl R M (some ad) n l) (hk : 0 < k) (ht : ∃ e', P.underlying tx = some (.slice e')) : srcOf P M k tx (.slice (some ad) n c) = some (l.length, cellsL R l) := by
  obtain ⟨e', ht⟩ := ht
  have hl := h.1
  by_cases h0 : n = 0
  · subst h0
    obtain rfl := List.eq_nil_of_length_eq_zero hl
    simp [srcOf, ht, cellsL]
  · obtain ⟨id, off, e, he, hc⟩ := h.2 (by omega)
    injection e with e
    subst e
    have e := cellsAt_of hc (by rw [cellsL_len, hl]) (Nat.mul_pos (by omega) hk)
    simp [srcOf, ht, e, h0, hl]
theorem nil_eq {P : Program} {t e : TypeId} {q : Option Addr} {n c : Nat} (h : P.underlying t = some (.slice e)) : binV P .eql t (.slice q n c) (.slice none 0 0) = some (.bool q.isNone) := by
  cases q <;> simp [binV, eqV, h, slNil, eqNil]
theorem Acc.set_ne {R : RecV α k} {e : TypeId} {B : Nat} {M : Mem} {v : Value} {l : List α} {i : Nat} {s : Slot} (h : Acc R e B M v l) (hi : i < B) : Acc R e B (M.set i s) v l := by
  obtain ⟨A, n, c, h1, h2, h3⟩ := h
  refine ⟨A, n, c, h1, h2, ?_⟩
  rcases h3 with h3 | ⟨id, t, h4, h5, h6⟩
  · exact .inl h3
  · exact .inr ⟨id, t, h4, h5, by rw [List.getElem?_set_ne (by omega)]; exact h6⟩
theorem Acc.low {R : RecV α k} {e : TypeId} {B B' : Nat} {M : Mem} {v : Value} {l : List α} (h : Acc R e B M v l) (hb : B' ≤ B) : Acc R e B' M v l := by
  obtain ⟨A, n, c, h1, h2, h3⟩ := h
  refine ⟨A, n, c, h1, h2, ?_⟩
  rcases h3 with h3 | ⟨id, t, h4, h5, h6⟩
  · exact .inl h3
  · exact .inr ⟨id, t, h4, by omega, h6⟩
theorem Acc.sl {R : RecV α k} {e : TypeId} {B : Nat} {M : Mem} {v : Value} {l : List α} (h : Acc R e B M v l) : ∃ A n c, v = .slice A n c ∧ l.length = n ∧ Sl R M A n l ∧ oneV v = true := by
  obtain ⟨A, n, c, rfl, hl, hA⟩ := h
  refine ⟨A, n, c, rfl, hl, ?_, rfl⟩
  rcases hA with ⟨rfl, rfl, rfl⟩ | ⟨id, t, rfl, hid, hr⟩
  · exact ⟨hl, fun h => by omega⟩
  · exact ⟨hl, fun _ => ⟨id, 0, rfl, by simp [rowEsz, hr], fun j x hx => by simp [cellAt, hr, hx]⟩⟩
theorem Acc.nil {R : RecV α k} {e : TypeId} {B : Nat} {M : Mem} : Acc R e B M (.slice none 0 0) [] := ⟨none, 0, 0, rfl, rfl, .inl ⟨rfl, rfl, rfl⟩⟩
theorem Acc.append {P : Program} {R : RecV α k} {e t tx : TypeId} {B b by_ : Nat} {S : St} {v x : Value} {l : List α} {a : α} {K : Value → Mem → Prop} (h : Acc R e B S.M v l) (hb : b ≤ B) (hB : B ≤ S.M.length) (hk : 0 < k) (hq : qSlice P t = some (e, k, by_))
    (hz : (P.info? e).any (fun i => i.zero.any fun z => z.cells.size == k) = true) (hs : srcOf P S.M k tx x = some (1, R.row a)) (h1 : (R.row a).all (fun u => u.oneCell') = true) (hn : (l.length + 1) * by_ ≤ 140737488355328) (hm : l.length + 1 ≤ maxLen)
    (hK : ∀ v' M', Acc R e B M' v' (l ++ [a]) → Same B S.M M' → K v' M') : appendK P b S K t tx v x := by
  obtain ⟨A, n, c, rfl, hl, hA⟩ := h
  subst hl
  unfold appendK
  rw [hq]
  simp only [ow_some]
  rw [hs]
  simp only [ow_some]
  refine ⟨hz, h1, ?_⟩
  rcases hA with ⟨rfl, h0, rfl⟩ | ⟨id, tt, rfl, hid, hr⟩
  · obtain rfl := List.eq_nil_of_length_eq_zero h0
    refine ⟨⟨rfl, rfl⟩, by simpa using hn, by simpa using hm, fun h => by omega, fun _ => hK _ _ ⟨_, _, _, rfl, rfl, .inr ⟨S.M.length, false, rfl, hB, ?_⟩⟩ ⟨by simp, fun i s _ hs => ?_⟩⟩
    · rw [getElem?_snoc_eq]; simp [cellsL]
    · rw [List.getElem?_append_left (List.getElem?_eq_some_iff.1 hs).1]; exact hs
  · have hlt := (List.getElem?_eq_some_iff.1 hr).1
    simp only [hr]
    refine ⟨⟨trivial, by rw [cellsL_len], trivial, trivial⟩, hn, hm, fun h => by omega, fun _ => ?_⟩
    split
    · refine hK _ _ ⟨_, _, _, rfl, by simp, .inr ⟨S.M.length, false, rfl, hB, ?_⟩⟩ ⟨by simp, fun i s _ hs => ?_⟩
      · rw [getElem?_snoc_eq, cellsL_snoc]
      · rw [List.getElem?_append_left (List.getElem?_eq_some_iff.1 hs).1]; exact hs
    · refine ⟨by omega, hK _ _ ⟨_, _, _, rfl, by simp, .inr ⟨S.M.length, false, rfl, hB, ?_⟩⟩ ⟨by simp, fun i s hi hs => ?_⟩⟩
      · rw [List.getElem?_append_right (by simp), List.length_set, Nat.sub_self, cellsL_snoc]; rfl
      · rw [List.getElem?_append_left (by simpa using (List.getElem?_eq_some_iff.1 hs).1), List.getElem?_set_ne (by omega)]; exact hs
theorem Same.refl (B : Nat) (M : Mem) : Same B M M := ⟨Nat.le_refl _, fun _ _ _ h => h⟩
/-- The value does not lie in row i. -/
def Apart (v : Value) (i : Nat) : Prop := ∀ (A : Option Addr) (n c : Nat) (a : Addr), v = .slice A n c → A = some a → i ≠ a.block
theorem apart_new {M : Mem} {i : Nat} {s : Slot} {n c : Nat} (h : M[i]? = some s) : Apart (.slice (some ⟨M.length, 0, none⟩) n c) i := by
  intro A n' c' a e ea
  injection e with e1
  subst e1
  injection ea with ea
  subst ea
  have := (List.getElem?_eq_some_iff.1 h).1
  show i ≠ M.length
  omega
theorem Acc.apart {R : RecV α k} {e : TypeId} {B : Nat} {M : Mem} {v : Value} {l : List α} (h : Acc R e B M v l) {i : Nat} (hi : M.length ≤ i) : Apart v i := by
  obtain ⟨A, n, c, rfl, hl, hA⟩ := h
  intro A' n' c' a e ea
  injection e with e1
  subst e1
  rcases hA with ⟨rfl, _⟩ | ⟨id, t, rfl, hid, hr⟩
  · cases ea
  · injection ea with ea
    subst ea
    have := (List.getElem?_eq_some_iff.1 hr).1
    show i ≠ id
    omega
theorem Acc.extend2 {P : Program} {R : RecV α k} {e t tx : TypeId} {B b by_ : Nat} {S : St} {v x : Value} {l ls : List α} {K : Value → Mem → Prop} (h : Acc R e B S.M v l) (hb : b ≤ B) (hB : B ≤ S.M.length) (hq : qSlice P t = some (e, k, by_))
    (hz : (P.info? e).any (fun i => i.zero.any fun z => z.cells.size == k) = true) (hs : srcOf P S.M k tx x = some (ls.length, cellsL R ls)) (h1 : (cellsL R ls).all (fun u => u.oneCell') = true) (hn : (l.length + ls.length) * by_ ≤ 140737488355328) (hm : l.length + ls.length ≤ maxLen)
    (hK : ∀ v' M', Acc R e B M' v' (l ++ ls) → Same B S.M M' → (∀ (i : Nat) s, Apart v i → S.M[i]? = some s → M'[i]? = some s ∧ Apart v' i) → K v' M') : appendK P b S K t tx v x := by
  obtain ⟨A, n, c, rfl, hl, hA⟩ := h
  subst hl
  unfold appendK
  rw [hq]
  simp only [ow_some]
  rw [hs]
  simp only [ow_some]
  refine ⟨hz, h1, ?_⟩
  rcases hA with ⟨rfl, h0, rfl⟩ | ⟨id, tt, rfl, hid, hr⟩
  · obtain rfl := List.eq_nil_of_length_eq_zero h0
    refine ⟨⟨rfl, rfl⟩, by simpa using hn, by simpa using hm, fun h => ?_, fun _ => hK _ _ ⟨_, _, _, rfl, by simp, .inr ⟨S.M.length, false, rfl, hB, ?_⟩⟩ ⟨by simp, fun i s _ hs => ?_⟩ fun i s ha hs => ⟨?_, apart_new hs⟩⟩
    · obtain rfl := List.eq_nil_of_length_eq_zero h
      exact hK _ _ .nil (.refl _ _) fun i s ha hs => ⟨hs, ha⟩
    · rw [getElem?_snoc_eq]; simp
    · rw [List.getElem?_append_left (List.getElem?_eq_some_iff.1 hs).1]; exact hs
    · rw [List.getElem?_append_left (List.getElem?_eq_some_iff.1 hs).1]; exact hs
  · have hlt := (List.getElem?_eq_some_iff.1 hr).1
    simp only [hr]
    refine ⟨⟨trivial, by rw [cellsL_len], trivial, trivial⟩, hn, hm, fun h => ?_, fun _ => ?_⟩
    · obtain rfl := List.eq_nil_of_length_eq_zero h
      exact hK _ _ ⟨_, _, _, rfl, by simp, .inr ⟨id, tt, rfl, hid, by simpa using hr⟩⟩ (.refl _ _) fun i s ha hs => ⟨hs, ha⟩
    split
    · refine hK _ _ ⟨_, _, _, rfl, by simp, .inr ⟨S.M.length, false, rfl, hB, ?_⟩⟩ ⟨by simp, fun i s _ hs => ?_⟩ fun i s ha hs => ⟨?_, apart_new hs⟩
      · rw [getElem?_snoc_eq, cellsL_append]
      · rw [List.getElem?_append_left (List.getElem?_eq_some_iff.1 hs).1]; exact hs
      · rw [List.getElem?_append_left (List.getElem?_eq_some_iff.1 hs).1]; exact hs
    · refine ⟨by omega, hK _ _ ⟨_, _, _, rfl, by simp, .inr ⟨S.M.length, false, rfl, hB, ?_⟩⟩ ⟨by simp, fun i s hi hs => ?_⟩ fun i s ha hs => ⟨?_, apart_new hs⟩⟩
      · rw [List.getElem?_append_right (by simp), List.length_set, Nat.sub_self, cellsL_append]; rfl
      · rw [List.getElem?_append_left (by simpa using (List.getElem?_eq_some_iff.1 hs).1), List.getElem?_set_ne (by omega)]; exact hs
      · have := ha _ _ _ _ rfl rfl
        rw [List.getElem?_append_left (by simpa using (List.getElem?_eq_some_iff.1 hs).1), List.getElem?_set_ne (Ne.symm (by simpa using this))]; exact hs
theorem Acc.extend {P : Program} {R : RecV α k} {e t tx : TypeId} {B b by_ : Nat} {S : St} {v x : Value} {l ls : List α} {K : Value → Mem → Prop} (h : Acc R e B S.M v l) (hb : b ≤ B) (hB : B ≤ S.M.length) (hq : qSlice P t = some (e, k, by_))
    (hz : (P.info? e).any (fun i => i.zero.any fun z => z.cells.size == k) = true) (hs : srcOf P S.M k tx x = some (ls.length, cellsL R ls)) (h1 : (cellsL R ls).all (fun u => u.oneCell') = true) (hn : (l.length + ls.length) * by_ ≤ 140737488355328) (hm : l.length + ls.length ≤ maxLen)
    (hK : ∀ v' M', Acc R e B M' v' (l ++ ls) → Same B S.M M' → K v' M') : appendK P b S K t tx v x := h.extend2 hb hB hq hz hs h1 hn hm fun v' M' a b _ => hK v' M' a b
theorem Acc.append2 {P : Program} {R : RecV α k} {e t tx : TypeId} {B b by_ : Nat} {S : St} {v x : Value} {l : List α} {a : α} {K : Value → Mem → Prop} (h : Acc R e B S.M v l) (hb : b ≤ B) (hB : B ≤ S.M.length) (_hk : 0 < k) (hq : qSlice P t = some (e, k, by_))
    (hz : (P.info? e).any (fun i => i.zero.any fun z => z.cells.size == k) = true) (hs : srcOf P S.M k tx x = some (1, R.row a)) (h1 : (R.row a).all (fun u => u.oneCell') = true) (hn : (l.length + 1) * by_ ≤ 140737488355328) (hm : l.length + 1 ≤ maxLen)
    (hK : ∀ v' M', Acc R e B M' v' (l ++ [a]) → Same B S.M M' → (∀ (i : Nat) s, Apart v i → S.M[i]? = some s → M'[i]? = some s ∧ Apart v' i) → K v' M') : appendK P b S K t tx v x :=
  h.extend2 (ls := [a]) hb hB hq hz (by rw [hs]; simp [cellsL]) (by simpa [cellsL] using h1) (by simpa using hn) (by simpa using hm) hK
theorem cloneX {P : Program} {R : RecV α k} {e t : TypeId} {B b by_ : Nat} {S : St} {ad : Addr} {n c : Nat} {l : List α} {K : Value → Mem → Prop} (h : Sl R S.M (some ad) n l) (hk : 0 < k) (hA : Acc R e B S.M (.slice (some ⟨B, 0, none⟩) 0 0) []) (hb : b ≤ B) (hB : B ≤ S.M.length) (hq : qSlice P t = some (e, k, by_)) (ht : ∃ e', P.underlying t = some (.slice e'))
    (hz : (P.info? e).any (fun i => i.zero.any fun z => z.cells.size == k) = true) (h1 : (cellsL R l).all (fun u => u.oneCell') = true) (hn : n * by_ ≤ 140737488355328) (hm : n ≤ maxLen) (hK : ∀ v' M', Acc R e B M' v' l → Same B S.M M' → K v' M') : appendK P b S K t t (.slice (some ⟨B, 0, none⟩) 0 0) (.slice (some ad) n c) := by
  have hl := h.1
  refine hA.extend (ls := l) hb hB hq hz (h.src hk ht) h1 (by simpa [hl] using hn) (by simpa [hl] using hm) ?_
  intro v' M' a b
  exact hK v' M' (by simpa using a) b
theorem Acc.fresh {R : RecV α k} {e : TypeId} {M M' : Mem} {v : Value} {l : List α} (h : Acc R e M.length M' v l) (hn : l.length ≤ 1099511627776) (hk : Keeps M M') : Fresh R M v M' l := by
  obtain ⟨A, n, c, rfl, hl, hA⟩ := h
  refine ⟨A, n, c, rfl, by omega, ?_⟩
  rcases hA with ⟨rfl, rfl, rfl⟩ | ⟨id, t, rfl, hid, hr⟩
  · exact ⟨⟨hl, fun h => by omega⟩, by simp, fun h => by omega, hk⟩
  · exact ⟨⟨hl, fun _ => ⟨id, 0, rfl, by simp [rowEsz, hr], fun j x hx => by simp [cellAt, hr, hx]⟩⟩, fun a e => by injection e with e; subst e; exact hid, fun _ => ⟨_, _, _, rfl, hr, rfl⟩, hk⟩
theorem OwL.nil {R : RecV α k} {lo hi : Nat} {M : Mem} : OwL R lo hi M (.slice none 0 0) [] := by
  refine ⟨none, 0, 0, rfl, by omega, ⟨rfl, fun h => by omega⟩, ?_, ?_⟩
  · intro a h; cases h
  · intro h; omega
end
end Go.Proofs.Ytimijeeihicohaa

namespace Go.Proofs.Ytimijeeihicohaa
open Go.RowKit
set_option linter.unusedVariables false
set_option linter.unusedSimpArgs false
set_option maxRecDepth 100000
attribute [local simp] List.getElem?_cons_zero
attribute [local irreducible] awCond awCall awLoop awDraw ow retQ retC resQ Keeps
theorem clip_one (l : List Clip) : (cellsL clipR l).all (fun u => u.oneCell') = true := by
  induction l with
  | nil => rfl
  | cons a l ih => rw [cellsL_cons, List.all_append, ih]; rfl
theorem CloneClip_a {M : Mem} {A : Option Addr} {n c : Nat} {l : List Clip} (h : Sl clipR M A n l) (hn : n ≤ 1048576) : Ctr Try.prog M.length 43 [.slice A n c] M fun r M' => Acc clipR 34 M.length M' r l ∧ Keeps M M' := by
  have hl := h.1
  first | (refine ctr_fn Try.func43 rfl Try.ntmps43 Try.results43 rfl rfl (by simp) ?_) | (refine ctr_fnC Try.func43 rfl Try.ntmps43 Try.results43 rfl (by simp) ?_)
  rcases A with _ | ad
  · have h0 : l = [] := by
      apply List.eq_nil_of_length_eq_zero
      rcases Nat.eq_zero_or_pos n with e | e
      · omega
      · obtain ⟨_, _, e', _⟩ := h.2 e
        cases e'
    simp [nil_eq Try.underlying28]
    exact ⟨h0 ▸ .nil, Keeps.refl _⟩
  · simp [nil_eq Try.underlying28]
    refine cloneX (R := clipR) (e := 34) (by_ := 40) (l := l) (by exact h.keeps (keeps_app _)) (by omega) ⟨_, 0, 0, rfl, rfl, .inr ⟨M.length, true, rfl, Nat.le_refl _, by simp [cellsL]⟩⟩ (Nat.le_refl _) (by simp) (by simp) ⟨_, Try.underlying28⟩ (by kernel_rfl) (clip_one _) (by omega) (by unfold maxLen; omega) ?_
    intro v' M2 hA hS
    try simp
    exact ⟨hA, hS.keeps (keeps_app _) (Nat.le_refl _)⟩
end Go.Proofs.Ytimijeeihicohaa
