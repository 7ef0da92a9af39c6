/- Parts of the proof, together: From a law's walk over abstract states to the row. Gate: records in memory, and the laws' helpers on them. Gates: contracts of the functions on one gate. The text of gates. No conditions. -/
import Derived.Test.YtbpaeonfebmomaaDoorZzD7
import Derived.ProofKit
import Derived.OpenShut
import Derived.Deep.Slices
import Derived.Deep.Fields
import Derived.WalkLawsBesides
import Derived.Laws.StructEq
namespace Go.Proofs.YtbpaeonfebmomaaDoor
open Go.ChangeShapes Go.WideShapes Go.ChangeAt Go.RowKit Go.Deep
set_option linter.unusedVariables false
set_option linter.unusedSimpArgs false
set_option maxRecDepth 100000

def ints (l : List Int) : List Value := l.map iv
def gi (l : List Int) (k : Nat) : Int := l.getD k 0
theorem ints_len (l : List Int) : (ints l).length = l.length := by simp [ints]
theorem ints_get {l : List Int} {k : Nat} (h : k < l.length) : (ints l)[k]? = some (iv (gi l k)) := by
  simp [ints, gi, h]
/-- The slice .slice A n c reads in w as the cells xs, s cells an element. -/
def Rd (w : World) (s : Nat) (A : Option Addr) (n c : Nat) (xs : List Value) : Prop :=
  xs.length = n * s ∧ n ≤ c ∧ c ≤ maxLen ∧ (0 < n → ∃ ad : Addr, A = some ad ∧ ad.block < w.heap.size ∧ ∀ j u, xs[j]? = some u → w.cell? (ad.add j) = some u)
theorem add_add' (a : Addr) (i j : Nat) : (a.add i).add j = a.add (i + j) := by
  unfold Addr.add
  by_cases hi : i = 0 <;> by_cases hj : j = 0 <;> simp [hi, hj, Nat.add_assoc]

theorem own_knob : ownKnob Tryd.prog.godebug = none := by kernel_rfl
theorem laid_out : laidOutB Tryd.prog = true := by kernel_rfl

section
variable {H : Type} {enc : TypeId × Value → H}
theorem trodAll_stays {W W' : World} {sp : Nat → Bool} (hb : Below W.heap.size W W') : ∀ (ts : List TypeId) (vs : List Value) (ds : List (DataW H)) (ps : List MemPlace),
    (∀ t ∈ ts, Tryd.prog.readableRec t = true ∧ t < Tryd.prog.types.size) → DataW.TrodAll enc Tryd.prog W 0 (fun _ => true) true ts vs ds ps → (∀ x ∈ ps, x.block < W.heap.size) → (∀ x ∈ ps, sp x.block = true) →
    DataW.TrodAll enc Tryd.prog W' 0 sp true ts vs ds ps
  | [], [], [], _, _, h, _, _ => h
  | t :: ts, v :: vs, d :: ds, ps, ht, h, hl, hs => by
    obtain ⟨p, q, h1, h2, rfl⟩ := h
    refine ⟨p, q, WideElems.Trod_stays laid_out (ht t (by simp)).1 (ht t (by simp)).2 h1 (fun x hx => hb.same (hl x (by simp [hx]))) (fun x hx => hs x (by simp [hx])), ?_, rfl⟩
    exact trodAll_stays hb ts vs ds q (fun t' h' => ht t' (by simp [h'])) h2 (fun x hx => hl x (by simp [hx])) (fun x hx => hs x (by simp [hx]))
  | [], [], _ :: _, _, _, h, _, _ => h.elim
  | [], _ :: _, _, _, _, h, _, _ => h.elim
  | _ :: _, [], _, _, _, h, _, _ => h.elim
  | _ :: _, _ :: _, [], _, _, h, _, _ => h.elim

/-- The row's post out of the walk's end, for a law: it returned true, and nothing old has turned. -/
theorem law_post {f : Func} {s : ChangeSpec} {W W' : World} {args : Array Value} {ds gs : List (DataW H)} {before : List MemPlace}
    (hvars : s.vars = []) (hres : f.resultTypes = #[4]) (hread0 : (f.params.toList.all fun t => Tryd.prog.readableRec t && decide (t < Tryd.prog.types.size)) = true)
    (hs : s.fn H ds = { results := [.lit (.bool true)], args := ds })
    (hW : DataW.Whole enc Tryd.prog f.params.toList s.vars false W args.toList ds gs before) (hb : Below W.heap.size W W') :
    s.post enc Tryd.prog f false true false false W args (.bool true) W' := by
  have hread : ∀ t ∈ f.params.toList, Tryd.prog.readableRec t = true ∧ t < Tryd.prog.types.size := fun t ht => by
    have := List.all_eq_true.1 hread0 t ht
    simpa using this
  have hlt : ∀ p ∈ before, p.block < W.heap.size := fun p hp => hW.lt p hp
  have hW0 := hW
  obtain ⟨p, q, hA, hV, rfl, hfz, hnd⟩ := hW
  rw [hvars] at hV
  obtain ⟨rfl, rfl⟩ := trodVars_none hV
  rw [List.append_nil] at hlt hW0
  have hargs : ∀ sp : Nat → Bool, (∀ x ∈ p, sp x.block = true) → DataW.TrodAll enc Tryd.prog W' 0 sp true f.params.toList args.toList ds p :=
    fun sp hsp => trodAll_stays hb _ _ _ _ hread hA hlt hsp
  have hr : ∀ (b : Nat) (sp : Nat → Bool) (hd : Bool), DataW.TrodAll enc Tryd.prog W' b sp hd f.resultTypes.toList ((Value.bool true).resultList f.resultTypes.size) [.lit (.bool true)] [] := by
    intro b sp hd
    rw [hres]
    exact trodAll_mk1 (shut_bool Tryd.underlying4 _)
  refine ⟨ds, [], p, [], p, [], hW0, ?_, ?_, ?_, World.keptBut_mono (fun x hx => ⟨hx, ?_⟩) (hb.frame (· ∈ p)), fun h => by cases h⟩
  · rw [List.append_nil, hs]; exact hr _ _ _
  · rw [List.append_nil, hs]; exact hargs _ (fun x hx => by simpa using hlt x hx)
  · rw [hvars]; simp only [hs, List.append_nil]; rfl
  · exact Or.inr (by simpa using hx)
/-- Is the type made of int64 alone (cells that its fields cover)? -/
noncomputable def flatB : Nat → TypeId → Bool
  | 0, _ => false
  | d + 1, t =>
    match Tryd.prog.underlying t with
    | some (.int .i64) => true
    | some (.struct fs) => (fs.toList.all fun f => flatB d f.type) && ((List.range (Tryd.prog.cellsOf t)).all fun j => fs.toList.any fun f => decide (f.offset ≤ j) && decide (j < f.offset + Tryd.prog.cellsOf f.type))
    | _ => false
theorem trod_flat : ∀ (d : Nat) (t : TypeId), flatB d t = true → ∀ {W : World} {base : Nat} {spare : Nat → Bool} {held : Bool} {n : Nat} {cs : List Value} {x : DataW H × List MemPlace},
    DataW.trod enc Tryd.prog W base spare held n t cs = some x → ∀ v ∈ cs, ∃ z : Int, v = iv z ∧ (Lit.int .i64 z).wf = true
  | 0, _, h => by simp [flatB] at h
  | d + 1, t, h => by
    rename_i W base spare held n cs x
    intro hx v hv
    unfold flatB at h
    split at h
    · rename_i ht
      obtain ⟨z, rfl, -, hw⟩ := DataW.trod_int ht hx
      simp only [List.mem_singleton] at hv
      exact ⟨z, hv, hw⟩
    · rename_i fs ht
      simp only [Bool.and_eq_true, List.all_eq_true, List.any_eq_true, decide_eq_true_eq] at h
      obtain ⟨h1, h2⟩ := h
      obtain ⟨xs, m, -, -, hlen, hxl, hf⟩ := DataW.trod_struct ht hx
      obtain ⟨j, hj, rfl⟩ := List.getElem_of_mem hv
      obtain ⟨f, hfm, hlo, hhi⟩ := h2 j (by rw [List.mem_range]; omega)
      obtain ⟨i, hi, rfl⟩ := List.getElem_of_mem hfm
      have hi' : i < fs.size := by simpa using hi
      have hfi : fs[i]? = some fs.toList[i] := by simp [hi']
      have hy := hf i _ hfi
      have hxi : xs[i]? = some xs[i] := List.getElem?_eq_getElem (by omega)
      rw [hxi] at hy
      refine trod_flat d _ (h1 _ hfm) hy _ ?_
      have hs : ((cs.drop fs.toList[i].offset).take (Tryd.prog.cellsOf fs.toList[i].type))[j - fs.toList[i].offset]? = some cs[j] := by
        rw [List.getElem?_take, if_pos (by omega), List.getElem?_drop, show fs.toList[i].offset + (j - fs.toList[i].offset) = j by omega, List.getElem?_eq_getElem hj]
      exact List.mem_of_getElem? hs
    · simp at h

theorem ints_of {cs : List Value} (h : ∀ v ∈ cs, ∃ z : Int, v = iv z ∧ (Lit.int .i64 z).wf = true) : ∃ zs : List Int, cs = ints zs ∧ ∀ z ∈ zs, (Lit.int .i64 z).wf = true := by
  induction cs with
  | nil => exact ⟨[], rfl, by simp⟩
  | cons v cs ih =>
    obtain ⟨z, rfl, hz⟩ := h _ (List.mem_cons_self)
    obtain ⟨zs, rfl, hzs⟩ := ih fun v hv => h v (List.mem_cons_of_mem _ hv)
    exact ⟨z :: zs, rfl, by simpa using ⟨hz, hzs⟩⟩

/-- An argument that is a struct of int64 alone. -/
theorem open_flat {W : World} {base : Nat} {t : TypeId} {fs : Array Field} {v : Value} {d : DataW H} {p : List MemPlace} (ht : Tryd.prog.underlying t = some (.struct fs)) (hB : flatB 5 t = true) (hv : Value.okWide Tryd.prog W .any base t v)
    (h : DataW.Trod enc Tryd.prog W 0 (fun _ => true) true t v d p) : ∃ zs : List Int, v = .agg (ints zs).toArray ∧ zs.length = Tryd.prog.cellsOf t ∧ ∀ z ∈ zs, (Lit.int .i64 z).wf = true := by
  obtain ⟨cs, rfl, hsz⟩ := okWide_struct ht hv
  obtain ⟨fuel, hf⟩ := h
  obtain ⟨zs, hz, hw⟩ := ints_of (trod_flat 5 t hB hf)
  refine ⟨zs, ?_, ?_, hw⟩
  · have : cs.toList = ints zs := hz
    rw [← this]
  · have := congrArg List.length hz
    rw [ints_len] at this
    rw [← this, ← hsz]
    rfl

/-- An argument that is a slice of structs of int64 alone. -/
theorem open_flats {W : World} {base : Nat} {t e : TypeId} {k : Nat} {v : Value} {d : DataW H} {p q : List MemPlace} (ht : Tryd.prog.underlying t = some (.slice e)) (hB : flatB 5 e = true) (hk : Tryd.prog.cellsOf e = k) (hk0 : 0 < k)
    (hlt : ∀ x ∈ q, x.block < W.heap.size) (hv : Value.okWide Tryd.prog W .any base t v)
    (h : DataW.Trod enc Tryd.prog W 0 (fun _ => true) true t v d p) (hp : ∀ x ∈ p, x ∈ q) : ∃ (A : Option Addr) (n c : Nat) (zs : List Int), v = .slice A n c ∧ Rd W k A n c (ints zs) ∧ (A = none → n = 0 ∧ c = 0) ∧ ∀ z ∈ zs, (Lit.int .i64 z).wf = true := by
  obtain ⟨a0, len, cap, rfl⟩ := okWide_slice ht hv
  obtain ⟨fuel, hf⟩ := h
  rcases open_slice ht hf with ⟨hcs, hx⟩ | ⟨a, len', cap', m, n, D, Pl, hcs, hb, hl, hm, hmm, hx, hi⟩
  · have hcs' : [Value.slice a0 len cap] = [.slice none 0 0] := hcs
    injection hcs' with hcs''
    injection hcs'' with h1 h2 h3
    subst h1; subst h2; subst h3
    exact ⟨_, _, _, [], rfl, ⟨by simp [ints], Nat.le_refl _, Nat.zero_le _, fun h => absurd h (by omega)⟩, fun _ => ⟨rfl, rfl⟩, by simp⟩
  · have hcs' : [Value.slice a0 len cap] = [.slice (some a) len' cap'] := hcs
    injection hcs' with hcs''
    injection hcs'' with h1 h2 h3
    subst h1; subst h2; subst h3
    simp only [if_pos] at hmm
    subst hmm
    rw [hk] at hx hi
    have each : ∀ i, i < len → ∃ zs : List Int, zs.length = k ∧ (∀ z ∈ zs, (Lit.int .i64 z).wf = true) ∧ ∀ j, j < k → W.cell? ((a.add (i * k)).add j) = some (iv (gi zs j)) := by
      intro i hil
      obtain ⟨cs', hc, ht'⟩ := hi i (by omega)
      obtain ⟨_, hcl, hat⟩ := World.cells?_some hc
      obtain ⟨zs, rfl, hw⟩ := ints_of (trod_flat 5 e hB ht')
      rw [ints_len] at hcl
      exact ⟨zs, hcl, hw, fun j hj => by rw [hat j hj, ints_get (by omega)]⟩
    have all : ∀ n', n' ≤ len → ∃ zs : List Int, zs.length = n' * k ∧ (∀ z ∈ zs, (Lit.int .i64 z).wf = true) ∧ ∀ j, j < n' * k → W.cell? (a.add j) = some (iv (gi zs j)) := by
      intro n'
      induction n' with
      | zero => exact fun _ => ⟨[], by simp, by simp, fun j hj => by omega⟩
      | succ n' ih =>
        intro hn'
        obtain ⟨zs, hz1, hz2, hz3⟩ := ih (by omega)
        obtain ⟨ys, hy1, hy2, hy3⟩ := each n' (by omega)
        refine ⟨zs ++ ys, by rw [List.length_append, hz1, hy1, Nat.add_mul, Nat.one_mul], fun z hz => ?_, fun j hj => ?_⟩
        · rcases List.mem_append.1 hz with h | h
          · exact hz2 z h
          · exact hy2 z h
        · rw [Nat.add_mul, Nat.one_mul] at hj
          by_cases hjl : j < n' * k
          · rw [hz3 j hjl]
            unfold gi
            simp only [List.getD_eq_getElem?_getD]
            rw [List.getElem?_append_left (by omega)]
          · have := hy3 (j - n' * k) (by omega)
            rw [add_add', show n' * k + (j - n' * k) = j by omega] at this
            rw [this]
            unfold gi
            simp only [List.getD_eq_getElem?_getD]
            rw [List.getElem?_append_right (by omega), hz1]
    obtain ⟨zs, hz1, hz2, hz3⟩ := all len (Nat.le_refl _)
    refine ⟨_, _, _, zs, rfl, ⟨by rw [ints_len, hz1], hl, hm, fun hn => ⟨a, rfl, ?_, fun j u hu => ?_⟩⟩, (fun h => nomatch h), hz2⟩
    · injection hx with _ hp'
      have hmem : ∃ x ∈ p, x.block = a.block := by
        refine ⟨.cell a.block (a.off + 0), ?_, rfl⟩
        rw [hp']
        refine List.mem_append_left _ ?_
        unfold MemPlace.row
        exact List.mem_map.2 ⟨0, by rw [List.mem_range]; exact Nat.mul_pos (by omega) hk0, rfl⟩
      obtain ⟨x, hx1, hx2⟩ := hmem
      rw [← hx2]
      exact hlt x (hp x hx1)
    · have hj : j < len * k := by
        have := (List.getElem?_eq_some_iff.1 hu).1
        rw [ints_len, hz1] at this
        exact this
      rw [hz3 j hj]
      rw [ints_get (by omega)] at hu
      exact hu
/-- An argument that is a slice of structs of int64 alone. -/
theorem open_flats_t {W : World} {t e : TypeId} {k : Nat} {v : Value} {d : DataW H} {p q : List MemPlace} (ht : Tryd.prog.underlying t = some (.slice e)) (hB : flatB 5 e = true) (hk : Tryd.prog.cellsOf e = k) (hk0 : 0 < k)
    (hlt : ∀ x ∈ q, x.block < W.heap.size) {fuel : Nat}
    (hf : DataW.trod enc Tryd.prog W 0 (fun _ => true) true fuel t [v] = some (d, p)) (hp : ∀ x ∈ p, x ∈ q) : ∃ (A : Option Addr) (n c : Nat) (zs : List Int), v = .slice A n c ∧ Rd W k A n c (ints zs) ∧ (A = none → n = 0 ∧ c = 0) ∧ ∀ z ∈ zs, (Lit.int .i64 z).wf = true := by
  obtain ⟨a0, len, cap, rfl⟩ : ∃ a0 len cap, v = .slice a0 len cap := by
    rcases open_slice ht hf with ⟨hcs, _⟩ | ⟨a, len', cap', m, n, D, Pl, hcs, _⟩
    · injection hcs with hcs
      exact ⟨_, _, _, hcs⟩
    · injection hcs with hcs
      exact ⟨_, _, _, hcs⟩
  rcases open_slice ht hf with ⟨hcs, hx⟩ | ⟨a, len', cap', m, n, D, Pl, hcs, hb, hl, hm, hmm, hx, hi⟩
  · have hcs' : [Value.slice a0 len cap] = [.slice none 0 0] := hcs
    injection hcs' with hcs''
    injection hcs'' with h1 h2 h3
    subst h1; subst h2; subst h3
    exact ⟨_, _, _, [], rfl, ⟨by simp [ints], Nat.le_refl _, Nat.zero_le _, fun h => absurd h (by omega)⟩, fun _ => ⟨rfl, rfl⟩, by simp⟩
  · have hcs' : [Value.slice a0 len cap] = [.slice (some a) len' cap'] := hcs
    injection hcs' with hcs''
    injection hcs'' with h1 h2 h3
    subst h1; subst h2; subst h3
    simp only [if_pos] at hmm
    subst hmm
    rw [hk] at hx hi
    have each : ∀ i, i < len → ∃ zs : List Int, zs.length = k ∧ (∀ z ∈ zs, (Lit.int .i64 z).wf = true) ∧ ∀ j, j < k → W.cell? ((a.add (i * k)).add j) = some (iv (gi zs j)) := by
      intro i hil
      obtain ⟨cs', hc, ht'⟩ := hi i (by omega)
      obtain ⟨_, hcl, hat⟩ := World.cells?_some hc
      obtain ⟨zs, rfl, hw⟩ := ints_of (trod_flat 5 e hB ht')
      rw [ints_len] at hcl
      exact ⟨zs, hcl, hw, fun j hj => by rw [hat j hj, ints_get (by omega)]⟩
    have all : ∀ n', n' ≤ len → ∃ zs : List Int, zs.length = n' * k ∧ (∀ z ∈ zs, (Lit.int .i64 z).wf = true) ∧ ∀ j, j < n' * k → W.cell? (a.add j) = some (iv (gi zs j)) := by
      intro n'
      induction n' with
      | zero => exact fun _ => ⟨[], by simp, by simp, fun j hj => by omega⟩
      | succ n' ih =>
        intro hn'
        obtain ⟨zs, hz1, hz2, hz3⟩ := ih (by omega)
        obtain ⟨ys, hy1, hy2, hy3⟩ := each n' (by omega)
        refine ⟨zs ++ ys, by rw [List.length_append, hz1, hy1, Nat.add_mul, Nat.one_mul], fun z hz => ?_, fun j hj => ?_⟩
        · rcases List.mem_append.1 hz with h | h
          · exact hz2 z h
          · exact hy2 z h
        · rw [Nat.add_mul, Nat.one_mul] at hj
          by_cases hjl : j < n' * k
          · rw [hz3 j hjl]
            unfold gi
            simp only [List.getD_eq_getElem?_getD]
            rw [List.getElem?_append_left (by omega)]
          · have := hy3 (j - n' * k) (by omega)
            rw [add_add', show n' * k + (j - n' * k) = j by omega] at this
            rw [this]
            unfold gi
            simp only [List.getD_eq_getElem?_getD]
            rw [List.getElem?_append_right (by omega), hz1]
    obtain ⟨zs, hz1, hz2, hz3⟩ := all len (Nat.le_refl _)
    refine ⟨_, _, _, zs, rfl, ⟨by rw [ints_len, hz1], hl, hm, fun hn => ⟨a, rfl, ?_, fun j u hu => ?_⟩⟩, (fun h => nomatch h), hz2⟩
    · injection hx with _ hp'
      have hmem : ∃ x ∈ p, x.block = a.block := by
        refine ⟨.cell a.block (a.off + 0), ?_, rfl⟩
        rw [hp']
        refine List.mem_append_left _ ?_
        unfold MemPlace.row
        exact List.mem_map.2 ⟨0, by rw [List.mem_range]; exact Nat.mul_pos (by omega) hk0, rfl⟩
      obtain ⟨x, hx1, hx2⟩ := hmem
      rw [← hx2]
      exact hlt x (hp x hx1)
    · have hj : j < len * k := by
        have := (List.getElem?_eq_some_iff.1 hu).1
        rw [ints_len, hz1] at this
        exact this
      rw [hz3 j hj]
      rw [ints_get (by omega)] at hu
      exact hu

end

/-- A memory of rows that are only read. -/
structure Ro (M : Mem) (μ : Map) (w : World) : Prop where
  sim : Sim M μ w
  ro : ∀ (i : Nat) r, M[i]? = some (.live r) → r.own = false
/-- Arguments so far: they have abstract forms. -/
structure AR (w : World) (M : Mem) (μ : Map) (vs cs : List Value) : Prop where
  ro : Ro M μ w
  rel : LRel M μ vs cs
def Arg (w : World) (c : Value) (K : Mem → Value → Prop) : Prop :=
  ∀ M μ, Ro M μ w → ∃ L μ' v, Ro (M ++ L) μ' w ∧ VRel (M ++ L) μ' v c ∧ K (M ++ L) v ∧ ∀ x y, VRel M μ x y → VRel (M ++ L) μ' x y
theorem AR.nil (w : World) (hG : gOn = true → GOk w.heap[gB]? ∧ gB < w.heap.size := by intro h; exact absurd h (by decide)) : AR w [] ⟨fun _ => ⟨0, 0, none⟩, fun _ => 0⟩ [] [] := ⟨⟨⟨fun id r h => by simp at h, fun i j r s h => by simp at h, fun hon => ⟨(hG hon).1, (hG hon).2, fun i r h => by simp at h⟩⟩, fun i r h => by simp at h⟩, .nil⟩
theorem LRel.snoc {M : Mem} {μ : Map} {x y : Value} {xs ys : List Value} (h : LRel M μ xs ys) (h' : VRel M μ x y) : LRel M μ (xs ++ [x]) (ys ++ [y]) := by
  refine ⟨by simp [h.1], fun i u v hu hv => ?_⟩
  rcases getElem?_snoc_inv hu with ⟨hi, hu⟩ | ⟨rfl, rfl⟩
  · rw [getElem?_snoc_lt (by rw [← h.1]; exact hi)] at hv
    exact h.2 i u v hu hv
  · rw [h.1, getElem?_snoc_eq] at hv
    injection hv with hv
    subst hv
    exact h'
theorem AR.next {w : World} {M : Mem} {μ : Map} {vs cs : List Value} {c : Value} {K : Mem → Value → Prop} (h : AR w M μ vs cs) (ha : Arg w c K) :
    ∃ L μ' v, AR w (M ++ L) μ' (vs ++ [v]) (cs ++ [c]) ∧ K (M ++ L) v := by
  obtain ⟨L, μ', v, h1, h2, h3, h4⟩ := ha M μ h.ro
  exact ⟨L, μ', v, ⟨h1, LRel.snoc ⟨h.rel.1, fun i x y hx hy => h4 _ _ (h.rel.2 i x y hx hy)⟩ h2⟩, h3⟩
theorem Arg.plain {w : World} {c : Value} (h : plainV c = true) : Arg w c fun _ v => v = c :=
  fun M μ hr => ⟨[], μ, c, by simpa using hr, .plain h, rfl, fun x y h => by simpa using h⟩
theorem VRel.self_plain {M : Mem} {μ : Map} {cs : List Value} (h : ∀ v ∈ cs, plainV v = true) : LRel M μ cs cs := ⟨rfl, fun i x y hx hy => by
  rw [hx] at hy; injection hy with hy; subst hy
  exact .plain (h _ (List.mem_of_getElem? hx))⟩
theorem Arg.agg {w : World} {cs : List Value} (h : ∀ v ∈ cs, plainV v = true) : Arg w (.agg cs.toArray) fun _ v => v = .agg cs.toArray :=
  fun M μ hr => ⟨[], μ, _, by simpa using hr, VRel.mk_agg (VRel.self_plain h), rfl, fun x y h => by simpa using h⟩
/-- One more row that is only read. -/
theorem Ro.row {M : Mem} {μ : Map} {w : World} (h : Ro M μ w) {a : Addr} {cells : List Value} {e : TypeId} {k : Nat} (hlt : a.block < w.heap.size)
    (hc : ∀ (j : Nat) c, cells[j]? = some c → ∃ d, w.cell? (a.add j) = some d ∧ VRel M μ c d) :
    Ro (M ++ [.live ⟨cells, false, false, e, k⟩]) (μ.set M.length a 0) w ∧ ∀ x y, VRel M μ x y → VRel (M ++ [.live ⟨cells, false, false, e, k⟩]) (μ.set M.length a 0) x y := by
  have hv : ∀ x y, VRel M μ x y → VRel (M ++ [.live ⟨cells, false, false, e, k⟩]) (μ.set M.length a 0) x y := fun x y hx => hx.same fun i s hs _ => by
    have hi := (List.getElem?_eq_some_iff.1 hs).1
    exact ⟨by rw [getElem?_snoc_lt hi]; exact hs, Map.set_at_ne (by omega), Map.set_room_ne (by omega)⟩
  have hro : ∀ (i : Nat) r, (M ++ [.live ⟨cells, false, false, e, k⟩])[i]? = some (.live r) → r.own = false := fun i r hr => by
    rcases getElem?_snoc_inv hr with ⟨hi, hr⟩ | ⟨rfl, he⟩
    · exact h.ro i r hr
    · injection he with he; subst he; rfl
  refine ⟨⟨⟨fun id r hr => ?_, fun i j r s hr _ _ ho => ?_, fun hon => ⟨(h.sim.glob hon).1, (h.sim.glob hon).2.1, fun i r hr ho => by rw [hro i r hr] at ho; cases ho⟩⟩, hro⟩, hv⟩
  · rcases getElem?_snoc_inv hr with ⟨hi, hr⟩ | ⟨rfl, he⟩
    · have hR := h.sim.row id r hr
      have hat : (μ.set M.length a 0).at_ id = μ.at_ id := Map.set_at_ne (by omega)
      have ho := h.ro id r hr
      refine ⟨by rw [hat]; exact hR.lt, fun j c hj => ?_, fun ho' => by rw [ho] at ho'; cases ho'⟩
      obtain ⟨d, h1, h2⟩ := hR.cell j c hj
      rw [hat]
      exact ⟨d, h1, hv _ _ h2⟩
    · injection he with he
      subst he
      have hat : (μ.set M.length a 0).at_ M.length = a := by simp [Map.set]
      refine ⟨by rw [hat]; exact hlt, fun j c hj => ?_, fun ho' => by cases ho'⟩
      obtain ⟨d, h1, h2⟩ := hc j c hj
      rw [hat]
      exact ⟨d, h1, hv _ _ h2⟩
  · rw [hro i r hr] at ho; cases ho
/-- One more slot without a row. -/
theorem Ro.dead {M : Mem} {μ : Map} {w : World} (h : Ro M μ w) : Ro (M ++ [.dead]) μ w ∧ ∀ x y, VRel M μ x y → VRel (M ++ [.dead]) μ x y := by
  have hv : ∀ x y, VRel M μ x y → VRel (M ++ [.dead]) μ x y := fun x y hx => hx.same fun i s hs _ => by
    have hi := (List.getElem?_eq_some_iff.1 hs).1
    exact ⟨by rw [getElem?_snoc_lt hi]; exact hs, rfl, rfl⟩
  have hro : ∀ (i : Nat) r, (M ++ [Slot.dead])[i]? = some (.live r) → M[i]? = some (.live r) := fun i r hr => by
    rcases getElem?_snoc_inv hr with ⟨hi, hr⟩ | ⟨_, he⟩
    · exact hr
    · cases he
  refine ⟨⟨⟨fun id r hr => ?_, fun i j r s hr hs => h.sim.inj i j r s (hro i r hr) (hro j s hs), fun hon => ⟨(h.sim.glob hon).1, (h.sim.glob hon).2.1, fun i r hr ho => by rw [h.ro i r (hro i r hr)] at ho; cases ho⟩⟩, fun i r hr => h.ro i r (hro i r hr)⟩, hv⟩
  have hR := h.sim.row id r (hro id r hr)
  exact ⟨hR.lt, fun j c hj => (hR.cell j c hj).imp fun d hd => ⟨hd.1, hv _ _ hd.2⟩, fun ho => by rw [h.ro id r (hro id r hr)] at ho; cases ho⟩
/-- An argument that is a slice of plain cells. -/
theorem Arg.slice {α : Type} {k : Nat} {R : RecV α k} {w : World} {A : Option Addr} {n c : Nat} {l : List α} (h : Rd w k A n c (cellsL R l)) (hl : l.length = n) (hp : ∀ v ∈ cellsL R l, plainV v = true)
    (hnil : A = none → n = 0 ∧ c = 0) : Arg w (.slice A n c) fun M v => ∃ B, v = .slice B n c ∧ n ≤ maxLen ∧ Sl R M B n l := by
  intro M μ hr
  obtain ⟨_, h1, h2, h3⟩ := h
  cases A with
  | none =>
    obtain ⟨rfl, rfl⟩ := hnil rfl
    exact ⟨[], μ, .slice none 0 0, by simpa using hr, .plain rfl, ⟨none, rfl, by omega, hl, fun h => absurd h (by omega)⟩, fun x y h => by simpa using h⟩
  | some a =>
    by_cases hn : 0 < n
    · obtain ⟨_, e, hlt, hc⟩ := h3 hn
      injection e with e
      subst e
      obtain ⟨g1, g2⟩ := hr.row (a := a) (cells := cellsL R l) (e := 0) (k := k) hlt fun j u hj => ⟨u, hc j u hj, .plain (hp u (List.mem_of_getElem? hj))⟩
      refine ⟨_, _, .slice (some ⟨M.length, 0, none⟩) n c, g1, .sl getElem?_snoc_eq rfl h1 h2 (fun r hr => ?_), ⟨_, rfl, by omega, hl, fun _ => ⟨M.length, 0, rfl, ?_, fun j x hx => ?_⟩⟩, g2⟩
      · injection hr with hr
        subst hr
        exact ⟨Or.inr (by simp [Map.set, Addr.add]), fun h => by cases h⟩
      · simp [rowEsz]
      · simp [cellAt, hx]
    · obtain ⟨g1, g2⟩ := hr.dead
      refine ⟨_, _, .slice (some ⟨M.length, 0, none⟩) n c, g1, .sl getElem?_snoc_eq rfl h1 h2 (fun r hr => by cases hr), ⟨_, rfl, by omega, hl, fun h => absurd h hn⟩, g2⟩
/-- The law's end. -/
theorem law_end {f : FuncId} {w : World} {M : Mem} {μ : Map} {vs cs : List Value} (h : AR w M μ vs cs) (hd : Det Tryd.prog M.length f vs M (.bool true) M) :
    Calls Tryd.prog f cs.toArray w fun e w' => e = .returned (.bool true) ∧ Below w.heap.size w w' := by
  refine (hd.run μ w cs h.rel h.ro.sim).mono ?_
  rintro e w' ⟨c, μ', rfl, hv, _, hs⟩
  rw [hv.bool]
  refine ⟨rfl, hs.os, hs.tape, hs.output, hs.size, fun k hk => hs.block k hk fun i r hi hr _ => ?_⟩
  have := (List.getElem?_eq_some_iff.1 hr).1
  omega
/-- Records of numbers. -/
structure Ints {α : Type} {k : Nat} (R : RecV α k) where
  of : List Int → α
  row : ∀ zs, zs.length = k → R.row (of zs) = ints zs
theorem Ints.chunk {α : Type} {k : Nat} {R : RecV α k} (I : Ints R) : ∀ (n : Nat) (zs : List Int), zs.length = n * k → (∀ z ∈ zs, (Lit.int .i64 z).wf = true) →
    ∃ l : List α, l.length = n ∧ cellsL R l = ints zs ∧ ∀ a ∈ l, ∃ ys : List Int, a = I.of ys ∧ ys.length = k ∧ ∀ z ∈ ys, (Lit.int .i64 z).wf = true
  | 0, zs, h, _ => ⟨[], rfl, by obtain rfl := List.eq_nil_of_length_eq_zero (by omega : zs.length = 0); rfl, by simp⟩
  | n + 1, zs, h, hw => by
    rw [Nat.add_mul, Nat.one_mul] at h
    obtain ⟨l, h1, h2, h3⟩ := I.chunk n (zs.drop k) (by rw [List.length_drop]; omega) fun z hz => hw z (List.mem_of_mem_drop hz)
    refine ⟨I.of (zs.take k) :: l, by simp [h1], ?_, fun a ha => ?_⟩
    · rw [cellsL_cons, I.row _ (by rw [List.length_take]; omega), h2]
      unfold ints
      rw [← List.map_append, List.take_append_drop]
    · rcases List.mem_cons.1 ha with rfl | ha
      · exact ⟨_, rfl, by rw [List.length_take]; omega, fun z hz => hw z (List.mem_of_mem_take hz)⟩
      · exact h3 a ha
theorem plain_ints {zs : List Int} : ∀ v ∈ ints zs, plainV v = true := fun v hv => by
  obtain ⟨z, -, rfl⟩ := List.mem_map.1 hv
  rfl
/-- An argument that is a slice of structs of int64 alone. -/
theorem Arg.flats {H : Type} {enc : TypeId × Value → H} {α : Type} {k : Nat} {R : RecV α k} (I : Ints R) {W : World} {base : Nat} {t e : TypeId} {v : Value} {d : DataW H} {p q : List MemPlace} (ht : Tryd.prog.underlying t = some (.slice e)) (hB : flatB 5 e = true) (hk : Tryd.prog.cellsOf e = k) (hk0 : 0 < k)
    (hlt : ∀ x ∈ q, x.block < W.heap.size) (hv : Value.okWide Tryd.prog W .any base t v)
    (h : DataW.Trod enc Tryd.prog W 0 (fun _ => true) true t v d p) (hp : ∀ x ∈ p, x ∈ q) :
    Arg W v fun M v' => ∃ B n c l, v' = .slice B n c ∧ n ≤ maxLen ∧ Sl R M B n l ∧ ∀ a ∈ l, ∃ ys : List Int, a = I.of ys ∧ ys.length = k ∧ ∀ z ∈ ys, (Lit.int .i64 z).wf = true := by
  obtain ⟨A, n, c, zs, rfl, h1, h2, h3⟩ := open_flats ht hB hk hk0 hlt hv h hp
  have hz := h1.1
  rw [ints_len] at hz
  obtain ⟨l, g1, g2, g3⟩ := I.chunk n zs hz h3
  rw [← g2] at h1
  intro M μ hr
  obtain ⟨L, μ', v, a1, a2, ⟨B, a3, a4, a5⟩, a6⟩ := Arg.slice h1 g1 (by rw [g2]; exact plain_ints) h2 M μ hr
  exact ⟨L, μ', v, a1, a2, ⟨B, n, c, l, a3, a4, a5, g3⟩, a6⟩
theorem Arg.agg1 {w : World} {c : Value} {K : Mem → Value → Prop} (h : Arg w c K) : Arg w (.agg #[c]) fun M v => ∃ x, v = .agg #[x] ∧ K M x := fun M μ hr => by
  obtain ⟨L, μ', v, h1, h2, h3, h4⟩ := h M μ hr
  exact ⟨L, μ', .agg #[v], h1, VRel.mk_agg (.cons h2 .nil), ⟨v, rfl, h3⟩, h4⟩
/-- An argument that is a struct with one field, a slice of structs of int64 alone. -/
theorem Arg.wrap {H : Type} {enc : TypeId × Value → H} {α : Type} {k : Nat} {R : RecV α k} (I : Ints R) {W : World} {base : Nat} {t s e : TypeId} {f0 : Field} {v : Value} {d : DataW H} {p q : List MemPlace} (hst : Tryd.prog.underlying t = some (.struct #[f0])) (hf0 : f0.type = s ∧ f0.offset = 0) (hc1 : Tryd.prog.cellsOf t = 1) (hc2 : Tryd.prog.cellsOf s = 1)
    (ht : Tryd.prog.underlying s = some (.slice e)) (hB : flatB 5 e = true) (hk : Tryd.prog.cellsOf e = k) (hk0 : 0 < k)
    (hlt : ∀ x ∈ q, x.block < W.heap.size) (hv : Value.okWide Tryd.prog W .any base t v)
    (h : DataW.Trod enc Tryd.prog W 0 (fun _ => true) true t v d p) (hp : ∀ x ∈ p, x ∈ q) :
    Arg W v fun M v' => ∃ u, v' = .agg #[u] ∧ ∃ B n c l, u = .slice B n c ∧ n ≤ maxLen ∧ Sl R M B n l ∧ ∀ a ∈ l, ∃ ys : List Int, a = I.of ys ∧ ys.length = k ∧ ∀ z ∈ ys, (Lit.int .i64 z).wf = true := by
  obtain ⟨cs, rfl, hsz⟩ := okWide_struct hst hv
  obtain ⟨fuel, hf⟩ := h
  obtain ⟨xs, m, -, hx, hlen, hxl, hi⟩ := DataW.trod_struct hst hf
  rw [hc1] at hsz
  obtain ⟨l0, rfl⟩ : ∃ u, cs = #[u] := by
    obtain ⟨l⟩ := cs
    match l, hsz with
    | [u], _ => exact ⟨u, rfl⟩
  have h0 := hi 0 f0 rfl
  obtain ⟨hf1, hf2⟩ := hf0
  rw [hf1, hf2, hc2] at h0
  obtain ⟨⟨d0, p0⟩, rfl⟩ : ∃ x, xs = [x] := by
    match xs, hxl with
    | [x], _ => exact ⟨x, rfl⟩
  have h0' : DataW.trod enc Tryd.prog W 0 (fun _ => true) true m s [l0] = some (d0, p0) := h0
  have hpp : ∀ x ∈ p0, x ∈ q := fun x hx' => hp x (by injection hx with _ hx; rw [hx]; simpa using hx')
  obtain ⟨A, n, c, zs, rfl, h1, h2, h3⟩ := open_flats_t ht hB hk hk0 hlt h0' hpp
  have hz := h1.1
  rw [ints_len] at hz
  obtain ⟨l, g1, g2, g3⟩ := I.chunk n zs hz h3
  rw [← g2] at h1
  refine Arg.agg1 (fun M μ hr => ?_)
  obtain ⟨L, μ', v, a1, a2, ⟨B, a3, a4, a5⟩, a6⟩ := Arg.slice h1 g1 (by rw [g2]; exact plain_ints) h2 M μ hr
  exact ⟨L, μ', v, a1, a2, ⟨B, n, c, l, a3, a4, a5, g3⟩, a6⟩
end Go.Proofs.YtbpaeonfebmomaaDoor

namespace Go.Proofs.YtbpaeonfebmomaaDoor
open Go.RowKit
set_option linter.unusedVariables false
set_option linter.unusedSimpArgs false
set_option maxRecDepth 100000
attribute [local simp] List.getElem?_cons_zero
attribute [local irreducible] awCond awCall awLoop awDraw ow retQ retC resQ Keeps
structure Gate where
  (o s e k u : Int)
deriving Inhabited, DecidableEq
def Gate.row (c : Gate) : List Value := [iv c.o, iv c.s, iv c.e, iv c.k, iv c.u]
def gateR : RecV Gate 5 := ⟨Gate.row, fun _ => rfl⟩
abbrev Gate.v (c : Gate) : Value := .agg #[iv c.o, iv c.s, iv c.e, iv c.k, iv c.u]
theorem gate_cells {M : Mem} {id off : Nat} {g : Gate} (h : Cl M id off g.row) : cellAt M id off = some (iv g.o) ∧ cellAt M id (off + 1) = some (iv g.s) ∧ cellAt M id (off + 2) = some (iv g.e) ∧ cellAt M id (off + 3) = some (iv g.k) ∧ cellAt M id (off + 4) = some (iv g.u) :=
  ⟨h 0 _ rfl, h 1 _ rfl, h 2 _ rfl, h 3 _ rfl, h 4 _ rfl⟩
theorem gate_load {M : Mem} {id off : Nat} {g : Gate} (h : Cl M id off g.row) : cellsAt M id off 5 = some [iv g.o, iv g.s, iv g.e, iv g.k, iv g.u] := cellsAt_of h rfl (by omega)
theorem gate_eq {a b : Gate} : a = b ↔ a.o = b.o ∧ a.s = b.s ∧ a.e = b.e ∧ a.k = b.k ∧ a.u = b.u := by
  cases a; cases b; simp
def gateI : Ints gateR := ⟨fun zs => ⟨gi zs 0, gi zs 1, gi zs 2, gi zs 3, gi zs 4⟩, fun zs h => by
  obtain ⟨x0, x1, x2, x3, x4, rfl⟩ : ∃ x0 x1 x2 x3 x4, zs = [x0, x1, x2, x3, x4] := by
    match zs, h with
    | [x0, x1, x2, x3, x4], _ => exact ⟨x0, x1, x2, x3, x4, rfl⟩
  rfl⟩

/-- Equality of records, as the language has it. -/
theorem gate_same (a b : Gate) : aggEq Tryd.prog 32 #[iv a.o, iv a.s, iv a.e, iv a.k, iv a.u] #[iv b.o, iv b.s, iv b.e, iv b.k, iv b.u] = some (decide (a = b)) := by
  refine aggEq_of (by kernel_rfl) rfl rfl fun w => ?_
  unfold Op.equal
  rw [show Op.maxDepth = 9999 + 1 from rfl]
  rw [run_equalIn_agg _ _ _ _ _ Tryd.underlying32 (by kernel_rfl)]
  simp [go_sem]
  repeat' split
  all_goals simp_all [gate_eq]
theorem gate_eql (a b : Gate) : binV Tryd.prog .eql 32 (.agg #[iv a.o, iv a.s, iv a.e, iv a.k, iv a.u]) (.agg #[iv b.o, iv b.s, iv b.e, iv b.k, iv b.u]) = some (.bool (decide (a = b))) := by
  simp only [binV, eqV, Tryd.underlying32, gate_same, Option.map_some]
theorem gate_neq (a b : Gate) : binV Tryd.prog .neq 32 (.agg #[iv a.o, iv a.s, iv a.e, iv a.k, iv a.u]) (.agg #[iv b.o, iv b.s, iv b.e, iv b.k, iv b.u]) = some (.bool (!decide (a = b))) := by
  simp only [binV, eqV, Tryd.underlying32, gate_same, Option.map_some]
@[simp] theorem gate_fill (x0 x1 x2 x3 x4 : Int) : Instr.fill (fun i => some (i * 5, 5)) (zrow [iv 0, iv 0, iv 0, iv 0, iv 0] 1).toArray [(0, .agg #[iv x0, iv x1, iv x2, iv x3, iv x4])] = some #[iv x0, iv x1, iv x2, iv x3, iv x4] := fill_agg (by omega) rfl rfl
theorem toGate_a {M : Mem} (g : Gate) : Det Tryd.prog M.length 11 [g.v] M g.v M := by
  first | (refine det_fn Tryd.func11 rfl Tryd.ntmps11 Tryd.results11 rfl rfl rfl (by simp) ?_) | (refine det_fnC Tryd.func11 rfl Tryd.ntmps11 Tryd.results11 rfl rfl (by simp) ?_)
  simp [keeps_app]
theorem eqGate_a {M : Mem} (a b : Gate) : Det Tryd.prog M.length 14 [a.v, b.v] M (.bool (decide (a = b))) M := by
  first | (refine det_fn Tryd.func14 rfl Tryd.ntmps14 Tryd.results14 rfl rfl rfl (by simp) ?_) | (refine det_fnC Tryd.func14 rfl Tryd.ntmps14 Tryd.results14 rfl rfl (by simp) ?_)
  simp
  repeat' (first | (refine awCond_split ?_ ?_ <;> intro _) | (simp [keeps_app]))
  all_goals (simp_all [gate_eq])
theorem szGateS_a {M : Mem} {A : Option Addr} {n c : Nat} (z : Int) (hz : 0 ≤ z) (hz1 : z ≤ 1048576) (hn : n ≤ maxLen) : Det Tryd.prog M.length 4 [.slice A n c, iv z] M (iv (if z - n < 0 then -1 else z - n)) M := by
  unfold maxLen at hn
  first | (refine det_fn Tryd.func4 rfl Tryd.ntmps4 Tryd.results4 rfl rfl rfl (by simp) ?_) | (refine det_fnC Tryd.func4 rfl Tryd.ntmps4 Tryd.results4 rfl rfl (by simp) ?_)
  simp (disch := omega) [wrap_in]
  refine awCond_split ?_ ?_ <;> intro h
  · simp at h
    simp [h, Keeps.refl]
    try omega
  · simp at h
    simp [h, Keeps.refl]
    try omega
theorem toGateS_d {M : Mem} {A : Option Addr} {n c : Nat} {l : List Gate} (h : Sl gateR M A n l) (hn : n ≤ 1099511627776) : Det Tryd.prog M.length 6 [.slice A n c] M (.slice (some ⟨M.length, 0, none⟩) n n) (M ++ [.live ⟨cellsL gateR l, true, true, 32, 5⟩]) := by
  have hl := h.1
  refine Ctr.det ?_
  first | (refine ctr_fn Tryd.func6 rfl Tryd.ntmps6 Tryd.results6 rfl rfl (by simp) ?_) | (refine ctr_fnC Tryd.func6 rfl Tryd.ntmps6 Tryd.results6 rfl (by simp) ?_)
  simp
  refine ⟨by omega, ?_⟩
  refine awLoop_T (fun m T M' => ∃ k : Nat, k + m = n ∧ M' = M ++ [.live ⟨cellsL gateR (l.take k) ++ zrow [iv 0, iv 0, iv 0, iv 0, iv 0] m, true, true, 32, 5⟩] ∧ look T 4 = some (iv k) ∧ look T 0 = some (.slice A n c) ∧ look T 3 = some (.slice (some ⟨M.length, 0, none⟩) n n)) n ⟨0, by omega, by simp [cellsL_nil], by simp, by simp, by simp⟩ ?_
  rintro m T M' ⟨k, hm, rfl, h4, h0, h3⟩
  by_cases hlt : k < n
  · obtain ⟨id, off, rfl, he, hc⟩ := h.at_ hlt
    have hc' := hc.app [.live ⟨cellsL gateR (l.take k) ++ zrow [iv 0, iv 0, iv 0, iv 0, iv 0] m, true, true, 32, 5⟩]
    simp (disch := omega) [h3, h4, h0, hlt, wrap_in, gate_load hc']
    obtain ⟨m, rfl⟩ : ∃ m', m = m' + 1 := ⟨m - 1, by omega⟩
    refine awCall_det' ((toGate_a (el l k))) (by simp) ⟨by simp, ow_iff.2 ⟨_, putCells_rec gateR (a := el l k) (Nat.le_refl _) rfl (List.length_take_of_le (by omega)) rfl, ?_⟩⟩
    refine lpI m (by omega) ?_
    refine ⟨k + 1, by omega, by rw [take_el (by omega)], by simp, by simp [h0], by simp [h3]⟩
  · obtain rfl : k = n := by omega
    obtain rfl : m = 0 := by omega
    simp [h3, h4, h0, List.take_of_length_le (Nat.le_of_eq hl)]
theorem toGateS_a {M : Mem} {A : Option Addr} {n c : Nat} {l : List Gate} (h : Sl gateR M A n l) (hn : n ≤ 1099511627776) : Ctr Tryd.prog M.length 6 [.slice A n c] M fun v M' => Fresh gateR M v M' l :=
  (toGateS_d h hn).ctr (Fresh.new h.1 (by omega))
theorem eqGateS_a {M : Mem} {A B : Option Addr} {n c m d : Nat} {x y : List Gate} (hx : Sl gateR M A n x) (hy : Sl gateR M B m y) (hn : n ≤ 1099511627776) : Det Tryd.prog M.length 8 [.slice A n c, .slice B m d] M (.bool (decide (x = y))) M := by
  have hlx := hx.1
  have hly := hy.1
  first | (refine det_fn Tryd.func8 rfl Tryd.ntmps8 Tryd.results8 rfl rfl rfl (by simp) ?_) | (refine det_fnC Tryd.func8 rfl Tryd.ntmps8 Tryd.results8 rfl rfl (by simp) ?_)
  simp
  refine awCond_split ?_ ?_ <;> intro hnm
  · simp at hnm
    simp
    exact ⟨fun e => by subst e; omega, Keeps.refl _⟩
  · simp at hnm
    obtain rfl : n = m := by omega
    simp
    refine awLoop_T (fun m T M' => ∃ k : Nat, k + m = n ∧ M' = M ∧ look T 5 = some (iv k) ∧ look T 0 = some (.slice A n c) ∧ look T 1 = some (.slice B n d) ∧ x.take k = y.take k) n ⟨0, by omega, rfl, by simp, by simp, by simp, by simp⟩ ?_
    rintro m T M' ⟨k, hm, rfl, h4, h0, h1, hk⟩
    by_cases hlt : k < n
    · obtain ⟨id, off, rfl, he, hc⟩ := hx.at_ hlt
      obtain ⟨id', off', rfl, he', hc'⟩ := hy.at_ hlt
      simp (disch := omega) [h4, h0, h1, hlt, wrap_in]
      refine awDraw_E 8 [[],[],[0,1],[2,0,1],[],[],[4,5],[6,4,5],[3,2,0,1,7,6,4,5],[8,3,2,0,1,7,6,4,5]] (by kernel_rfl) (by kernel_rfl) ?_
      simp (disch := omega) [h4, h0, h1, hlt, wrap_in, gate_load hc, gate_load hc']
      refine awCall_det' (eqGate_a (el x k) (el y k)) (Nat.le_refl _) ?_
      simp
      refine awCond_split ?_ ?_ <;> intro he
      · simp at he
        simp
        exact ⟨fun e => he (by rw [e]), Keeps.refl _⟩
      · simp at he
        simp (disch := omega) [h4, h0, h1, wrap_in]
        refine lpI (m - 1) (by omega) ?_
        exact ⟨k + 1, by omega, rfl, by simp, by simp [h0], by simp [h1], by rw [take_el (by omega), take_el (by omega), hk, he]⟩
    · obtain rfl : k = n := by omega
      rw [List.take_of_length_le (by omega), List.take_of_length_le (by omega)] at hk
      simp [h4, h0, h1, hk, Keeps.refl]
def markGate (z : Int) (i : Nat) : Gate := ⟨z + i * 5, z + i * 5 + 1, z + i * 5 + 1 + 1, z + i * 5 + 1 + 1 + 1, z + i * 5 + 1 + 1 + 1 + 1⟩
def markGateL (z : Int) (n : Nat) : List Gate := (List.range n).map (markGate z)
theorem markGateL_succ (z : Int) (n : Nat) : markGateL z (n + 1) = markGateL z n ++ [markGate z n] := by simp [markGateL, List.range_succ]
/-! The same, as the laws use them. -/
theorem sz_GateS_over {M : Mem} {v : Value} {lo hi : Nat} {l : List Gate} {z : Int} (h : RdL gateR lo hi M v l) (hz : 0 ≤ z) (hz1 : z ≤ 1048576) (hl : z < l.length) : Det Tryd.prog M.length 4 [v, iv z] M (iv (-1)) M := by
  obtain ⟨A, n, c, rfl, hn, hS, _⟩ := h
  have := szGateS_a (M := M) (A := A) (n := n) (c := c) z hz hz1 (by unfold maxLen; omega)
  rwa [if_pos (by have := hS.1; omega)] at this
theorem sz_GateS {M : Mem} {v : Value} {lo hi : Nat} {l : List Gate} {z : Int} (h : RdL gateR lo hi M v l) (hz : 0 ≤ z) (hz1 : z ≤ 1048576) (hl : l.length ≤ z) : Det Tryd.prog M.length 4 [v, iv z] M (iv (z - l.length)) M := by
  obtain ⟨A, n, c, rfl, hn, hS, _⟩ := h
  have := szGateS_a (M := M) (A := A) (n := n) (c := c) z hz hz1 (by unfold maxLen; omega)
  rw [if_neg (by have := hS.1; omega)] at this
  rwa [hS.1]
theorem to_GateS {M : Mem} {v : Value} {lo hi : Nat} {l : List Gate} (h : RdL gateR lo hi M v l) (hl : l.length ≤ 1048576) : Ctr Tryd.prog M.length 6 [v] M fun v' M' => OwL gateR M.length M'.length M' v' l ∧ Keeps M M' := by
  obtain ⟨A, n, c, rfl, hn, hS, _⟩ := h
  exact (toGateS_a hS (by have := hS.1; omega)).mono fun v' M' h => h.ow
theorem eq_GateS {M : Mem} {v w : Value} {lo hi lo' hi' : Nat} {x y : List Gate} (hx : OwL gateR lo hi M v x) (hy : RdL gateR lo' hi' M w y) : Det Tryd.prog M.length 8 [v, w] M (.bool (decide (x = y))) M := by
  obtain ⟨A, n, c, rfl, hn, hS, _⟩ := hx
  obtain ⟨B, m, d, rfl, hm, hT, _⟩ := hy
  exact eqGateS_a hS hT hn
end Go.Proofs.YtbpaeonfebmomaaDoor

namespace Go.Proofs.YtbpaeonfebmomaaDoor
open Go.RowKit
set_option linter.unusedVariables false
set_option linter.unusedSimpArgs false
set_option maxRecDepth 100000
attribute [local simp] List.getElem?_cons_zero
attribute [local irreducible] awCond awCall awLoop awDraw ow retQ retC resQ Keeps
def gateB (g : Gate) : Bool := inB g.o 0 3 && decide (0 ≤ g.s) && decide (g.s < g.e) && decide (g.e ≤ 4000) && inB g.k 0 127 && inB g.u 1 127
theorem l21Gate_a {M : Mem} {id off : Nat} {g : Gate} (h : Cl M id off g.row) : Det Tryd.prog M.length 15 [.pointer (some ⟨id, off, none⟩)] M (.bool (gateB g)) M := by
  obtain ⟨h0, h1, h2, h3, h4⟩ := gate_cells h
  first | (refine det_fn Tryd.func15 rfl Tryd.ntmps15 Tryd.results15 rfl rfl rfl (by simp) ?_) | (refine det_fnC Tryd.func15 rfl Tryd.ntmps15 Tryd.results15 rfl rfl (by simp) ?_)
  simp
  refine awDraw_E 21 [[],[0],[1,0],[2,1,0],[3,2,1,0],[4,3,2,1,0],[5,4,3,2,1,0],[6,5,4,3,2,1,0],[7,6,5,4,3,2,1,0],[8,7,6,5,4,3,2,1,0],[9,8,7,6,5,4,3,2,1,0],[5,4,3,2,1,0,10,9,8,7,6],[11,5,4,3,2,1,0,10,9,8,7,6],[12,11,5,4,3,2,1,0,10,9,8,7,6],[13,12,11,5,4,3,2,1,0,10,9,8,7,6],[14,13,12,11,5,4,3,2,1,0,10,9,8,7,6],[15,14,13,12,11,5,4,3,2,1,0,10,9,8,7,6],[12,11,5,4,3,2,1,0,10,9,8,7,6],[17,12,11,5,4,3,2,1,0,10,9,8,7,6],[18,17,12,11,5,4,3,2,1,0,10,9,8,7,6],[19,18,17,12,11,5,4,3,2,1,0,10,9,8,7,6],[16,15,14,13,12,11,5,4,3,2,1,0,10,9,8,7,6,20,19,18,17],[12,11,5,4,3,2,1,0,10,9,8,7,6,21,16,15,14,13,20,19,18,17],[22,12,11,5,4,3,2,1,0,10,9,8,7,6,21,16,15,14,13,20,19,18,17],[23,22,12,11,5,4,3,2,1,0,10,9,8,7,6,21,16,15,14,13,20,19,18,17],[24,23,22,12,11,5,4,3,2,1,0,10,9,8,7,6,21,16,15,14,13,20,19,18,17],[25,24,23,22,12,11,5,4,3,2,1,0,10,9,8,7,6,21,16,15,14,13,20,19,18,17],[26,25,24,23,22,12,11,5,4,3,2,1,0,10,9,8,7,6,21,16,15,14,13,20,19,18,17],[27,26,25,24,23,22,12,11,5,4,3,2,1,0,10,9,8,7,6,21,16,15,14,13,20,19,18,17],[23,22,12,11,5,4,3,2,1,0,10,9,8,7,6,21,16,15,14,13,20,19,18,17,28,27,26,25,24],[29,23,22,12,11,5,4,3,2,1,0,10,9,8,7,6,21,16,15,14,13,20,19,18,17,28,27,26,25,24],[30,29,23,22,12,11,5,4,3,2,1,0,10,9,8,7,6,21,16,15,14,13,20,19,18,17,28,27,26,25,24],[31,30,29,23,22,12,11,5,4,3,2,1,0,10,9,8,7,6,21,16,15,14,13,20,19,18,17,28,27,26,25,24],[32,31,30,29,23,22,12,11,5,4,3,2,1,0,10,9,8,7,6,21,16,15,14,13,20,19,18,17,28,27,26,25,24],[33,32,31,30,29,23,22,12,11,5,4,3,2,1,0,10,9,8,7,6,21,16,15,14,13,20,19,18,17,28,27,26,25,24],[34,33,32,31,30,29,23,22,12,11,5,4,3,2,1,0,10,9,8,7,6,21,16,15,14,13,20,19,18,17,28,27,26,25,24],[30,29,23,22,12,11,5,4,3,2,1,0,10,9,8,7,6,21,16,15,14,13,20,19,18,17,28,27,26,25,24,35,34,33,32,31],[36,30,29,23,22,12,11,5,4,3,2,1,0,10,9,8,7,6,21,16,15,14,13,20,19,18,17,28,27,26,25,24,35,34,33,32,31],[37,36,30,29,23,22,12,11,5,4,3,2,1,0,10,9,8,7,6,21,16,15,14,13,20,19,18,17,28,27,26,25,24,35,34,33,32,31],[38,37,36,30,29,23,22,12,11,5,4,3,2,1,0,10,9,8,7,6,21,16,15,14,13,20,19,18,17,28,27,26,25,24,35,34,33,32,31],[39,38,37,36,30,29,23,22,12,11,5,4,3,2,1,0,10,9,8,7,6,21,16,15,14,13,20,19,18,17,28,27,26,25,24,35,34,33,32,31],[40,39,38,37,36,30,29,23,22,12,11,5,4,3,2,1,0,10,9,8,7,6,21,16,15,14,13,20,19,18,17,28,27,26,25,24,35,34,33,32,31],[41,40,39,38,37,36,30,29,23,22,12,11,5,4,3,2,1,0,10,9,8,7,6,21,16,15,14,13,20,19,18,17,28,27,26,25,24,35,34,33,32,31],[37,36,30,29,23,22,12,11,5,4,3,2,1,0,10,9,8,7,6,21,16,15,14,13,20,19,18,17,28,27,26,25,24,35,34,33,32,31,42,41,40,39,38],[43,37,36,30,29,23,22,12,11,5,4,3,2,1,0,10,9,8,7,6,21,16,15,14,13,20,19,18,17,28,27,26,25,24,35,34,33,32,31,42,41,40,39,38]] (by kernel_rfl) (by kernel_rfl) ?_
  simp [h0]
  refine awCall_det' (l00In_a _ _ _) (by simp) ?_
  simp
  repeat' (first | (refine guardV_split ?_ ?_ <;> intro _) | (refine awCall_det' (l00In_a _ _ _) (by simp) ?_) | (simp [*]))
  all_goals (simp_all [gateB, Keeps.refl] <;> omega)
theorem isGate_a {M : Mem} (g : Gate) : Det Tryd.prog M.length 16 [g.v] M (.bool (gateB g)) M := by
  first | (refine det_fn Tryd.func16 rfl Tryd.ntmps16 Tryd.results16 rfl rfl rfl (by simp) ?_) | (refine det_fnC Tryd.func16 rfl Tryd.ntmps16 Tryd.results16 rfl rfl (by simp) ?_)
  simp
  repeat' (first | (refine guardV_split ?_ ?_ <;> intro _) | (refine awCall_det' (isVoice_a _) (by simp) ?_) | (refine awCall_det' (isKey_a _) (by simp) ?_) | (refine awCall_det' (within_a _ _ _) (by simp) ?_) | (simp [*]))
  all_goals (simp_all [gateB, keeps_app] <;> omega)
def okG (l : List Gate) : Bool := decide (∀ i, i < l.length → gateB (el l i) = true ∧ (0 < i → (el l (i - 1)).s ≤ (el l i).s)) && decide (l.length ≤ 60)
theorem okG_of {l : List Gate} (h : ∀ i, i < l.length → gateB (el l i) = true ∧ (0 < i → (el l (i - 1)).s ≤ (el l i).s)) : okG l = decide (l.length ≤ 60) := by
  unfold okG; rw [decide_eq_true h, Bool.true_and]
theorem okG_not {l : List Gate} {i : Nat} (hi : i < l.length) (h : ¬ (gateB (el l i) = true ∧ (0 < i → (el l (i - 1)).s ≤ (el l i).s))) : okG l = false := by
  unfold okG; rw [decide_eq_false (fun h' => h (h' i hi)), Bool.false_and]
theorem l21Ok_a {M : Mem} {A : Option Addr} {n c : Nat} {l : List Gate} (h : Sl gateR M A n l) (hn : n ≤ 4611686018427387904) : Det Tryd.prog M.length 9 [.slice A n c] M (.bool (okG l)) M := by
  have hl := h.1
  first | (refine det_fn Tryd.func9 rfl Tryd.ntmps9 Tryd.results9 rfl rfl rfl (by simp) ?_) | (refine det_fnC Tryd.func9 rfl Tryd.ntmps9 Tryd.results9 rfl rfl (by simp) ?_)
  simp
  refine awLoop_T (fun m T M' => ∃ k : Nat, k + m = n ∧ M' = M ∧ look T 3 = some (iv k) ∧ look T 0 = some (.slice A n c) ∧ ∀ i, i < k → gateB (el l i) = true ∧ (0 < i → (el l (i - 1)).s ≤ (el l i).s)) n ⟨0, by omega, rfl, by simp, by simp, by omega⟩ ?_
  rintro m T M' ⟨k, hm, rfl, h3, h0, hk⟩
  by_cases hlt : k < n
  · obtain ⟨id, off, rfl, he, hc⟩ := h.at_ hlt
    obtain ⟨c0, c1, c2, c3, c4⟩ := gate_cells hc
    simp (disch := omega) [h3, h0, hlt, wrap_in]
    refine awDraw_E 20 [[],[],[0,1],[2,0,1],[3,2,0,1],[4,3,2,0,1],[5,4,3,2,0,1],[6,5,4,3,2,0,1],[7,6,5,4,3,2,0,1],[8,7,6,5,4,3,2,0,1],[8,7,6,5,4,3,2,0,1],[10,8,7,6,5,4,3,2,0,1],[9,8,7,6,5,4,3,2,0,1,11,10],[12,9,8,7,6,5,4,3,2,0,1,11,10],[13,12,9,8,7,6,5,4,3,2,0,1,11,10],[8,7,6,5,4,3,2,0,1],[8,7,6,5,4,3,2,0,1],[15,8,7,6,5,4,3,2,0,1,16],[17,15,8,7,6,5,4,3,2,0,1,16],[18,17,15,8,7,6,5,4,3,2,0,1,16],[14,13,12,9,8,7,6,5,4,3,2,0,1,11,10,19,18,17,15,16],[8,7,6,5,4,3,2,0,1,20,14,13,12,9,11,10,19,18,17,15,16],[5,4,3,2,0,1,21,8,7,6,20,14,13,12,9,11,10,19,18,17,15,16]] (by kernel_rfl) (by kernel_rfl) ?_
    simp (disch := omega) [h3, h0, hlt, wrap_in]
    refine awCall_det' (l21Gate_a hc) (by simp) ?_
    have hkl : k < l.length := by omega
    simp
    cases hg : gateB (el l k)
    · simp (disch := omega) [h3, hg]
      rw [okG_not hkl (by simp [hg])]
      simp [Keeps.refl]
    · simp (disch := omega) [h3, hg]
      rcases k with _ | j
      · simp (disch := omega) [h3, h0, wrap_in]
        refine lpI (m - 1) (by omega) ?_
        refine ⟨1, by omega, rfl, by simp, by simp [h0], ?_⟩
        intro i hi
        obtain rfl : i = 0 := by omega
        simp [hg]
      · obtain ⟨_, _, he', _, hc'⟩ := h.at_ (i := j) (by omega)
        cases he'
        obtain ⟨_, d1, _⟩ := gate_cells hc'
        simp (disch := omega) [h0, h3, wrap_in, c1, d1]
        refine ⟨by omega, by omega, ?_⟩
        refine awCond_split ?_ ?_ <;> intro hs
        · simp at hs
          simp
          rw [okG_not hkl (by simp; omega)]
          simp [Keeps.refl]
        · simp at hs
          simp (disch := omega) [h3, h0, wrap_in]
          refine lpI (m - 1) (by omega) ?_
          refine ⟨j + 1 + 1, by omega, rfl, by simp, by simp [h0], ?_⟩
          intro i hi
          by_cases hi' : i < j + 1
          · exact hk i hi'
          · obtain rfl : i = j + 1 := by omega
            simp [hg, hs]
  · obtain rfl : k = n := by omega
    simp [h3, h0]
    rw [okG_of (by rw [hl]; exact hk), hl]
    simp [Keeps.refl]
    omega
theorem areGates_a {M : Mem} {A : Option Addr} {n c : Nat} {l : List Gate} (h : Sl gateR M A n l) (hn : n ≤ 4611686018427387904) : Det Tryd.prog M.length 12 [.slice A n c] M (.bool (okG l)) M := by
  have hl := h.1
  first | (refine det_fn Tryd.func12 rfl Tryd.ntmps12 Tryd.results12 rfl rfl rfl (by simp) ?_) | (refine det_fnC Tryd.func12 rfl Tryd.ntmps12 Tryd.results12 rfl rfl (by simp) ?_)
  simp
  refine awLoop_T (fun m T M' => ∃ k : Nat, k + m = n ∧ Keeps M M' ∧ look T 7 = some (iv k) ∧ look T 6 = some (iv n) ∧ look T 5 = some (.slice A n c) ∧ look T 0 = some (.slice A n c) ∧ ∀ i, i < k → gateB (el l i) = true ∧ (0 < i → (el l (i - 1)).s ≤ (el l i).s)) n ⟨0, by omega, Keeps.refl _, by simp, by simp, by simp, by simp, by omega⟩ ?_
  rintro m T M' ⟨k, hm, hK, h7, h6, h5, h0, hk⟩
  by_cases hlt : k < n
  · have h' := h.keeps hK
    have hKl := hK.len
    obtain ⟨id, off, rfl, he, hc⟩ := h'.at_ hlt
    obtain ⟨c0, c1, c2, c3, c4⟩ := gate_cells hc
    have hkl : k < l.length := by omega
    simp (disch := omega) [h7, h6, h5, h0, hlt, wrap_in, gate_load hc]
    refine awDraw_E 15 [[],[0],[1,0],[2,1,0],[3,2,1,0],[4,3,2,1,0],[5,4,3,2,1,0],[6,5,4,3,2,1,0],[7,6,5,4,3,2,1,0],[6,5,4,3,2,1,0],[6,5,4,3,2,1,0],[10,6,5,4,3,2,1,0],[9,6,5,4,3,2,1,0,11,10],[12,9,6,5,4,3,2,1,0,11,10],[13,12,9,6,5,4,3,2,1,0,11,10],[8,7,6,5,4,3,2,1,0,14,13,12,9,11,10],[6,5,4,3,2,1,0,15,8,7,14,13,12,9,11,10],[3,2,1,0,16,6,5,4,15,8,7,14,13,12,9,11,10]] (by kernel_rfl) (by kernel_rfl) ?_
    simp (disch := omega) [h7, h6, h5, h0, hlt, wrap_in]
    refine awCall_det' (isGate_a (el l k)) (by simp <;> omega) ?_
    simp
    cases hg : gateB (el l k)
    · simp (disch := omega) [h0, h7, hg]
      rw [okG_not hkl (by simp [hg])]
      simp [hK.app]
    · simp (disch := omega) [h0, h7, hg]
      rcases k with _ | j
      · simp (disch := omega) [h7, h6, h5, h0, wrap_in]
        refine lpI (m - 1) (by omega) ?_
        refine ⟨1, by omega, hK.app _, by simp, by simp [h6], by simp [h5], by simp [h0], ?_⟩
        intro i hi
        obtain rfl : i = 0 := by omega
        simp [hg]
      · obtain ⟨_, _, he', _, hc'⟩ := h'.at_ (i := j) (by omega)
        cases he'
        obtain ⟨_, d1, _⟩ := gate_cells hc'
        simp (disch := omega) [h0, h7, wrap_in, cellAt_app c1, cellAt_app d1, rowEsz_keeps (keeps_app _) he]
        refine ⟨by omega, ?_⟩
        refine awCond_split ?_ ?_ <;> intro hs
        · simp at hs
          simp
          rw [okG_not hkl (by simp; omega)]
          simp [hK.app]
        · simp at hs
          simp (disch := omega) [h7, h6, h5, h0, wrap_in]
          refine lpI (m - 1) (by omega) ?_
          refine ⟨j + 1 + 1, by omega, hK.app _, by simp, by simp [h6], by simp [h5], by simp [h0], ?_⟩
          intro i hi
          by_cases hi' : i < j + 1
          · exact hk i hi'
          · obtain rfl : i = j + 1 := by omega
            simp [hg, hs]
  · obtain rfl : k = n := by omega
    simp [h7, h6, h5, h0]
    rw [okG_of (by rw [hl]; exact hk), hl]
    simp [hK]
    try omega
















end Go.Proofs.YtbpaeonfebmomaaDoor

namespace Go.Proofs.YtbpaeonfebmomaaDoor
open Go.RowKit
set_option linter.unusedVariables false
set_option linter.unusedSimpArgs false
set_option maxRecDepth 100000
attribute [local simp] List.getElem?_cons_zero
attribute [local irreducible] awCond awCall awLoop awDraw ow retQ retC resQ Keeps
def spB : ByteArray := ⟨#[32]⟩
def dashB : ByteArray := ⟨#[45]⟩
def keyB : ByteArray := ⟨#[32, 107, 101, 121, 32]⟩
def velB : ByteArray := ⟨#[32, 118, 101, 108, 111, 99, 105, 116, 121, 32]⟩
def nlB : ByteArray := ⟨#[10]⟩
theorem spB_lit : (⟨#[32]⟩ : ByteArray) = spB := rfl
theorem dashB_lit : (⟨#[45]⟩ : ByteArray) = dashB := rfl
theorem keyB_lit : (⟨#[32, 107, 101, 121, 32]⟩ : ByteArray) = keyB := rfl
theorem velB_lit : (⟨#[32, 118, 101, 108, 111, 99, 105, 116, 121, 32]⟩ : ByteArray) = velB := rfl
theorem nlB_lit : (⟨#[10]⟩ : ByteArray) = nlB := rfl
theorem spB_sz : spB.size = 1 := rfl
theorem dashB_sz : dashB.size = 1 := rfl
theorem keyB_sz : keyB.size = 5 := rfl
theorem velB_sz : velB.size = 10 := rfl
theorem nlB_sz : nlB.size = 1 := rfl
theorem str_add {x y : ByteArray} (h : x.size + y.size ≤ 9223372036854775807) : strV .add x y = some (.string (x ++ y)) := by
  have e : IntKind.i64.max = 9223372036854775807 := rfl
  simp only [strV, e]
  rw [if_neg (by omega)]
def lineS (g : Gate) : ByteArray := decS g.o ++ spB ++ decS g.s ++ dashB ++ decS g.e ++ keyB ++ decS g.k ++ velB ++ decS g.u ++ nlB
def textP (l : List Gate) : Nat → ByteArray
  | 0 => ⟨#[]⟩
  | k + 1 => textP l k ++ lineS (el l k)
def textG (l : List Gate) : ByteArray := if okG l = true then textP l l.length else ⟨#[]⟩
theorem okG_len {l : List Gate} (h : okG l = true) : l.length ≤ 60 := by
  unfold okG at h
  simp only [Bool.and_eq_true, decide_eq_true_eq] at h
  exact h.2
theorem okG_el {l : List Gate} (h : okG l = true) {i : Nat} (hi : i < l.length) : gateB (el l i) = true := by
  unfold okG at h
  simp only [Bool.and_eq_true, decide_eq_true_eq] at h
  exact (h.1 i hi).1
set_option maxHeartbeats 1600000 in
theorem GatesText_s {M : Mem} {A : Option Addr} {n c : Nat} {l : List Gate} (h : Sl gateR M A n l) (hn : n ≤ 4611686018427387904) : Det Tryd.prog M.length 5 [.slice A n c] M (.string (textG l)) M := by
  have hl := h.1
  first | (refine det_fn Tryd.func5 rfl Tryd.ntmps5 Tryd.results5 rfl rfl rfl (by simp) ?_) | (refine det_fnC Tryd.func5 rfl Tryd.ntmps5 Tryd.results5 rfl rfl (by simp) ?_)
  simp
  refine awCall_det' (l21Ok_a h hn) (by simp) ?_
  by_cases hok : okG l = true
  case neg =>
    simp at hok
    simp [hok, textG, Keeps.refl]
  simp [hok]
  have h60 := okG_len hok
  refine awLoop_T (fun m T M' => ∃ k : Nat, k + m = n ∧ M' = M ∧ (textP l k).size ≤ 200 * k ∧ look T 4 = some (iv k) ∧ look T 0 = some (.slice A n c) ∧ look T 3 = some (.string (textP l k))) n ⟨0, by omega, rfl, by simp [textP, ByteArray.size], by simp, by simp, by simp [textP]⟩ ?_
  rintro m T M' ⟨k, hm, rfl, hsz, h4, h0, h3⟩
  by_cases hlt : k < n
  · obtain ⟨id, off, rfl, he, hc⟩ := h.at_ hlt
    obtain ⟨c0, c1, c2, c3, c4⟩ := gate_cells hc
    have hg := okG_el hok (i := k) (by omega)
    simp only [gateB, Bool.and_eq_true, decide_eq_true_eq, inB_iff] at hg
    have z0 := decS_size (el l k).o (by omega) (by omega)
    have z1 := decS_size (el l k).s (by omega) (by omega)
    have z2 := decS_size (el l k).e (by omega) (by omega)
    have z3 := decS_size (el l k).k (by omega) (by omega)
    have z4 := decS_size (el l k).u (by omega) (by omega)
    have zl : (lineS (el l k)).size ≤ 200 := by unfold lineS; simp only [ByteArray.size_append, spB_sz, dashB_sz, keyB_sz, velB_sz, nlB_sz]; omega
    have zt : (textP l (k + 1)).size ≤ 200 * (k + 1) := by rw [textP, ByteArray.size_append]; omega
    simp (disch := omega) [h4, h3, h0, hlt, wrap_in, he]
    refine awDraw_E 35 [[],[],[1],[2,1],[3,2,1],[4,3,2,1],[5,4,3,2,1],[],[7],[8,7],[9,8,7],[10,9,8,7,5,4,3,2,1],[6,5,4,3,2,1,11,10,9,8,7],[12,6,5,4,3,2,1,11,10,9,8,7],[],[14],[15,14],[16,15,14],[17,16,15,14,11,10,9,8,7,5,4,3,2,1],[13,12,6,5,4,3,2,1,11,10,9,8,7,18,17,16,15,14],[19,13,12,6,5,4,3,2,1,11,10,9,8,7,18,17,16,15,14],[],[21],[22,21],[23,22,21],[24,23,22,21,18,17,16,15,14,11,10,9,8,7,5,4,3,2,1],[20,19,13,12,6,5,4,3,2,1,11,10,9,8,7,18,17,16,15,14,25,24,23,22,21],[26,20,19,13,12,6,5,4,3,2,1,11,10,9,8,7,18,17,16,15,14,25,24,23,22,21],[],[28],[29,28],[30,29,28],[31,30,29,28,25,24,23,22,21,18,17,16,15,14,11,10,9,8,7,5,4,3,2,1],[27,26,20,19,13,12,6,5,4,3,2,1,11,10,9,8,7,18,17,16,15,14,25,24,23,22,21,32,31,30,29,28],[33,27,26,20,19,13,12,6,5,4,3,2,1,11,10,9,8,7,18,17,16,15,14,25,24,23,22,21,32,31,30,29,28],[0,34,33,27,26,20,19,13,12,6,5,4,3,2,1,11,10,9,8,7,18,17,16,15,14,25,24,23,22,21,32,31,30,29,28],[35,0,34,33,27,26,20,19,13,12,6,5,4,3,2,1,11,10,9,8,7,18,17,16,15,14,25,24,23,22,21,32,31,30,29,28]] (by kernel_rfl) (by kernel_rfl) ?_
    simp (disch := omega) [h4, h3, h0, hlt, wrap_in, c0]
    refine awCall_det' (l01Dec_a _ (by omega) (by omega)) (Nat.le_refl _) ?_
    try simp (disch := first | omega | (simp only [ByteArray.size_append, spB_sz, dashB_sz, keyB_sz, velB_sz, nlB_sz]; omega)) [spB_lit, dashB_lit, keyB_lit, velB_lit, nlB_lit, str_add, h4, h3, h0, c0, c1, c2, c3, c4, wrap_in]
    refine awCall_det' (l01Dec_a _ (by omega) (by omega)) (Nat.le_refl _) ?_
    try simp (disch := first | omega | (simp only [ByteArray.size_append, spB_sz, dashB_sz, keyB_sz, velB_sz, nlB_sz]; omega)) [spB_lit, dashB_lit, keyB_lit, velB_lit, nlB_lit, str_add, h4, h3, h0, c0, c1, c2, c3, c4, wrap_in]
    refine awCall_det' (l01Dec_a _ (by omega) (by omega)) (Nat.le_refl _) ?_
    try simp (disch := first | omega | (simp only [ByteArray.size_append, spB_sz, dashB_sz, keyB_sz, velB_sz, nlB_sz]; omega)) [spB_lit, dashB_lit, keyB_lit, velB_lit, nlB_lit, str_add, h4, h3, h0, c0, c1, c2, c3, c4, wrap_in]
    refine awCall_det' (l01Dec_a _ (by omega) (by omega)) (Nat.le_refl _) ?_
    try simp (disch := first | omega | (simp only [ByteArray.size_append, spB_sz, dashB_sz, keyB_sz, velB_sz, nlB_sz]; omega)) [spB_lit, dashB_lit, keyB_lit, velB_lit, nlB_lit, str_add, h4, h3, h0, c0, c1, c2, c3, c4, wrap_in]
    refine awCall_det' (l01Dec_a _ (by omega) (by omega)) (Nat.le_refl _) ?_
    try simp (disch := first | omega | (simp only [ByteArray.size_append, spB_sz, dashB_sz, keyB_sz, velB_sz, nlB_sz]; omega)) [spB_lit, dashB_lit, keyB_lit, velB_lit, nlB_lit, str_add, h4, h3, h0, c0, c1, c2, c3, c4, wrap_in]
    refine lpI (m - 1) (by omega) ?_
    exact ⟨k + 1, by omega, rfl, zt, by simp, by simp [h0], by simp [textP, lineS]⟩
  · obtain rfl : k = n := by omega
    simp (disch := omega) [h4, h3, h0]
    simp [textG, hok, hl, Keeps.refl]
set_option maxHeartbeats 1600000 in
theorem GatesText_i {M : Mem} {A : Option Addr} {n c : Nat} {l : List Gate} (h : Sl gateR M A n l) (hn : n ≤ 4611686018427387904) : Det Tryd.prog M.length 7 [.slice A n c] M (.string (textG l)) M := by
  have hl := h.1
  first | (refine det_fn Tryd.func7 rfl Tryd.ntmps7 Tryd.results7 rfl rfl rfl (by simp) ?_) | (refine det_fnC Tryd.func7 rfl Tryd.ntmps7 Tryd.results7 rfl rfl (by simp) ?_)
  simp
  refine awCall_det' (areGates_a h hn) (by simp) ?_
  by_cases hok : okG l = true
  case neg =>
    simp at hok
    simp [hok, textG, Keeps.refl]
  simp [hok]
  have h60 := okG_len hok
  refine awLoop_T (fun m T M' => ∃ k : Nat, k + m = n ∧ Keeps M M' ∧ (textP l k).size ≤ 200 * k ∧ look T 11 = some (iv k) ∧ look T 10 = some (iv n) ∧ look T 9 = some (.slice A n c) ∧ look T 3 = some (.string (textP l k))) n ⟨0, by omega, Keeps.refl _, by simp [textP, ByteArray.size], by simp, by simp, by simp, by simp [textP]⟩ ?_
  rintro m T M' ⟨k, hm, hK, hsz, h11, h10, h9, h3⟩
  have hKl := hK.len
  by_cases hlt : k < n
  · obtain ⟨id, off, rfl, he, hc⟩ := h.at_ hlt
    have hc' := hc.keeps hK
    have hld := gate_load hc'
    have hg := okG_el hok (i := k) (by omega)
    simp only [gateB, Bool.and_eq_true, decide_eq_true_eq, inB_iff] at hg
    have z0 := decS_size (el l k).o (by omega) (by omega)
    have z1 := decS_size (el l k).s (by omega) (by omega)
    have z2 := decS_size (el l k).e (by omega) (by omega)
    have z3 := decS_size (el l k).k (by omega) (by omega)
    have z4 := decS_size (el l k).u (by omega) (by omega)
    have zl : (lineS (el l k)).size ≤ 200 := by unfold lineS; simp only [ByteArray.size_append, spB_sz, dashB_sz, keyB_sz, velB_sz, nlB_sz]; omega
    have zt : (textP l (k + 1)).size ≤ 200 * (k + 1) := by rw [textP, ByteArray.size_append]; omega
    simp (disch := omega) [h11, h10, h9, h3, hlt, wrap_in, rowEsz_keeps hK he, hld]
    refine awDraw_E 25 [[],[],[1],[2,1],[3,2,1],[],[5],[6,5,3,2,1],[4,3,2,1,7,6,5],[8,4,3,2,1,7,6,5],[],[10],[11,10,7,6,5,3,2,1],[9,8,4,3,2,1,7,6,5,12,11,10],[13,9,8,4,3,2,1,7,6,5,12,11,10],[],[15],[16,15,12,11,10,7,6,5,3,2,1],[14,13,9,8,4,3,2,1,7,6,5,12,11,10,17,16,15],[18,14,13,9,8,4,3,2,1,7,6,5,12,11,10,17,16,15],[],[20],[21,20,17,16,15,12,11,10,7,6,5,3,2,1],[19,18,14,13,9,8,4,3,2,1,7,6,5,12,11,10,17,16,15,22,21,20],[23,19,18,14,13,9,8,4,3,2,1,7,6,5,12,11,10,17,16,15,22,21,20],[0,24,23,19,18,14,13,9,8,4,3,2,1,7,6,5,12,11,10,17,16,15,22,21,20],[25,0,24,23,19,18,14,13,9,8,4,3,2,1,7,6,5,12,11,10,17,16,15,22,21,20]] (by kernel_rfl) (by kernel_rfl) ?_
    simp (disch := omega) [h11, h10, h9, h3, hlt, wrap_in]
    refine awCall_det' (Decimal_a _ (by omega) (by omega)) (by simp <;> omega) ?_
    try simp (disch := first | omega | (simp only [ByteArray.size_append, spB_sz, dashB_sz, keyB_sz, velB_sz, nlB_sz]; omega)) [spB_lit, dashB_lit, keyB_lit, velB_lit, nlB_lit, str_add, h11, h10, h9, h3, wrap_in]
    refine awCall_det' (Decimal_a _ (by omega) (by omega)) (by simp <;> omega) ?_
    try simp (disch := first | omega | (simp only [ByteArray.size_append, spB_sz, dashB_sz, keyB_sz, velB_sz, nlB_sz]; omega)) [spB_lit, dashB_lit, keyB_lit, velB_lit, nlB_lit, str_add, h11, h10, h9, h3, wrap_in]
    refine awCall_det' (Decimal_a _ (by omega) (by omega)) (by simp <;> omega) ?_
    try simp (disch := first | omega | (simp only [ByteArray.size_append, spB_sz, dashB_sz, keyB_sz, velB_sz, nlB_sz]; omega)) [spB_lit, dashB_lit, keyB_lit, velB_lit, nlB_lit, str_add, h11, h10, h9, h3, wrap_in]
    refine awCall_det' (Decimal_a _ (by omega) (by omega)) (by simp <;> omega) ?_
    try simp (disch := first | omega | (simp only [ByteArray.size_append, spB_sz, dashB_sz, keyB_sz, velB_sz, nlB_sz]; omega)) [spB_lit, dashB_lit, keyB_lit, velB_lit, nlB_lit, str_add, h11, h10, h9, h3, wrap_in]
    refine awCall_det' (Decimal_a _ (by omega) (by omega)) (by simp <;> omega) ?_
    try simp (disch := first | omega | (simp only [ByteArray.size_append, spB_sz, dashB_sz, keyB_sz, velB_sz, nlB_sz]; omega)) [spB_lit, dashB_lit, keyB_lit, velB_lit, nlB_lit, str_add, h11, h10, h9, h3, wrap_in]
    refine lpI (m - 1) (by omega) ?_
    exact ⟨k + 1, by omega, hK.app _, zt, by simp, by simp [h10], by simp [h9], by simp [textP, lineS]⟩
  · obtain rfl : k = n := by omega
    simp (disch := omega) [h11, h10, h3]
    simp [textG, hok, hl, hK]
theorem GatesText_sl {M : Mem} {v : Value} {lo hi : Nat} {l : List Gate} (h : RdL gateR lo hi M v l) (hl : l.length ≤ 1048576) : Det Tryd.prog M.length 5 [v] M (.string (textG l)) M := by
  obtain ⟨A, n, c, rfl, hn, hS, _⟩ := h
  exact GatesText_s hS (by have := hS.1; omega)
theorem GatesText_il {M : Mem} {v : Value} {lo hi : Nat} {l : List Gate} (h : RdL gateR lo hi M v l) (hl : l.length ≤ 1048576) : Det Tryd.prog M.length 7 [v] M (.string (textG l)) M := by
  obtain ⟨A, n, c, rfl, hn, hS, _⟩ := h
  exact GatesText_i hS (by have := hS.1; omega)
end Go.Proofs.YtbpaeonfebmomaaDoor
