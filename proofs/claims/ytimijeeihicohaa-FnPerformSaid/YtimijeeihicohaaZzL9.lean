/- Parts of the proof, together: From a law's walk over abstract states to the row. Arguments of laws that are nested lists and records. Contracts of the smallest functions, both packages. Lists of numbers, and lists of them: the laws' helpers. Slices of nested values are made anew, one element behind the other. Lists of lists of numbers: the laws' helpers. Segment: records in memory, and the laws' helpers on them. Nodes, patches No conditions. -/
import Derived.Test.YtimijeeihicohaaZzL7
import Derived.ProofKit
import Derived.OpenShut
import Derived.Deep.Slices
import Derived.Deep.Fields
import Derived.WalkLawsBesides
import Derived.Test.YtimijeeihicohaaZzL8
import Derived.Laws.StructEq
namespace Go.Proofs.Ytimijeeihicohaa
open Go.ChangeShapes Go.WideShapes Go.ChangeAt Go.RowKit Go.Deep
set_option linter.unusedVariables false
set_option linter.unusedSimpArgs false
set_option maxRecDepth 100000

def ints (l : List Int) : List Value := l.map iv
def gi (l : List Int) (k : Nat) : Int := l.getD k 0
theorem ints_len (l : List Int) : (ints l).length = l.length := by simp [ints]
theorem ints_get {l : List Int} {k : Nat} (h : k < l.length) : (ints l)[k]? = some (iv (gi l k)) := by
  simp [ints, gi, h]
/-- The slice .slice A n c reads in w as the cells xs, s cells an element. -/
def Rd (w : World) (s : Nat) (A : Option Addr) (n c : Nat) (xs : List Value) : Prop :=
  xs.length = n * s ∧ n ≤ c ∧ c ≤ maxLen ∧ (0 < n → ∃ ad : Addr, A = some ad ∧ ad.block < w.heap.size ∧ ∀ j u, xs[j]? = some u → w.cell? (ad.add j) = some u)
theorem add_add' (a : Addr) (i j : Nat) : (a.add i).add j = a.add (i + j) := by
  unfold Addr.add
  by_cases hi : i = 0 <;> by_cases hj : j = 0 <;> simp [hi, hj, Nat.add_assoc]

theorem own_knob : ownKnob Try.prog.godebug = none := by kernel_rfl
theorem laid_out : laidOutB Try.prog = true := by kernel_rfl

section
variable {H : Type} {enc : TypeId × Value → H}
theorem trodAll_stays {W W' : World} {sp : Nat → Bool} (hb : Below W.heap.size W W') : ∀ (ts : List TypeId) (vs : List Value) (ds : List (DataW H)) (ps : List MemPlace),
    (∀ t ∈ ts, Try.prog.readableRec t = true ∧ t < Try.prog.types.size) → DataW.TrodAll enc Try.prog W 0 (fun _ => true) true ts vs ds ps → (∀ x ∈ ps, x.block < W.heap.size) → (∀ x ∈ ps, sp x.block = true) →
    DataW.TrodAll enc Try.prog W' 0 sp true ts vs ds ps
  | [], [], [], _, _, h, _, _ => h
  | t :: ts, v :: vs, d :: ds, ps, ht, h, hl, hs => by
    obtain ⟨p, q, h1, h2, rfl⟩ := h
    refine ⟨p, q, WideElems.Trod_stays laid_out (ht t (by simp)).1 (ht t (by simp)).2 h1 (fun x hx => hb.same (hl x (by simp [hx]))) (fun x hx => hs x (by simp [hx])), ?_, rfl⟩
    exact trodAll_stays hb ts vs ds q (fun t' h' => ht t' (by simp [h'])) h2 (fun x hx => hl x (by simp [hx])) (fun x hx => hs x (by simp [hx]))
  | [], [], _ :: _, _, _, h, _, _ => h.elim
  | [], _ :: _, _, _, _, h, _, _ => h.elim
  | _ :: _, [], _, _, _, h, _, _ => h.elim
  | _ :: _, _ :: _, [], _, _, h, _, _ => h.elim

/-- The row's post out of the walk's end, for a law: it returned true, and nothing old has turned. -/
theorem law_post {f : Func} {s : ChangeSpec} {W W' : World} {args : Array Value} {ds gs : List (DataW H)} {before : List MemPlace}
    (hvars : s.vars = []) (hres : f.resultTypes = #[4]) (hread0 : (f.params.toList.all fun t => Try.prog.readableRec t && decide (t < Try.prog.types.size)) = true)
    (hs : s.fn H ds = { results := [.lit (.bool true)], args := ds })
    (hW : DataW.Whole enc Try.prog f.params.toList s.vars false W args.toList ds gs before) (hb : Below W.heap.size W W') :
    s.post enc Try.prog f false true false false W args (.bool true) W' := by
  have hread : ∀ t ∈ f.params.toList, Try.prog.readableRec t = true ∧ t < Try.prog.types.size := fun t ht => by
    have := List.all_eq_true.1 hread0 t ht
    simpa using this
  have hlt : ∀ p ∈ before, p.block < W.heap.size := fun p hp => hW.lt p hp
  have hW0 := hW
  obtain ⟨p, q, hA, hV, rfl, hfz, hnd⟩ := hW
  rw [hvars] at hV
  obtain ⟨rfl, rfl⟩ := trodVars_none hV
  rw [List.append_nil] at hlt hW0
  have hargs : ∀ sp : Nat → Bool, (∀ x ∈ p, sp x.block = true) → DataW.TrodAll enc Try.prog W' 0 sp true f.params.toList args.toList ds p :=
    fun sp hsp => trodAll_stays hb _ _ _ _ hread hA hlt hsp
  have hr : ∀ (b : Nat) (sp : Nat → Bool) (hd : Bool), DataW.TrodAll enc Try.prog W' b sp hd f.resultTypes.toList ((Value.bool true).resultList f.resultTypes.size) [.lit (.bool true)] [] := by
    intro b sp hd
    rw [hres]
    exact trodAll_mk1 (shut_bool Try.underlying4 _)
  refine ⟨ds, [], p, [], p, [], hW0, ?_, ?_, ?_, World.keptBut_mono (fun x hx => ⟨hx, ?_⟩) (hb.frame (· ∈ p)), fun h => by cases h⟩
  · rw [List.append_nil, hs]; exact hr _ _ _
  · rw [List.append_nil, hs]; exact hargs _ (fun x hx => by simpa using hlt x hx)
  · rw [hvars]; simp only [hs, List.append_nil]; rfl
  · exact Or.inr (by simpa using hx)
/-- Is the type made of int64 alone (cells that its fields cover)? -/
noncomputable def flatB : Nat → TypeId → Bool
  | 0, _ => false
  | d + 1, t =>
    match Try.prog.underlying t with
    | some (.int .i64) => true
    | some (.struct fs) => (fs.toList.all fun f => flatB d f.type) && ((List.range (Try.prog.cellsOf t)).all fun j => fs.toList.any fun f => decide (f.offset ≤ j) && decide (j < f.offset + Try.prog.cellsOf f.type))
    | _ => false
theorem trod_flat : ∀ (d : Nat) (t : TypeId), flatB d t = true → ∀ {W : World} {base : Nat} {spare : Nat → Bool} {held : Bool} {n : Nat} {cs : List Value} {x : DataW H × List MemPlace},
    DataW.trod enc Try.prog W base spare held n t cs = some x → ∀ v ∈ cs, ∃ z : Int, v = iv z ∧ (Lit.int .i64 z).wf = true
  | 0, _, h => by simp [flatB] at h
  | d + 1, t, h => by
    rename_i W base spare held n cs x
    intro hx v hv
    unfold flatB at h
    split at h
    · rename_i ht
      obtain ⟨z, rfl, -, hw⟩ := DataW.trod_int ht hx
      simp only [List.mem_singleton] at hv
      exact ⟨z, hv, hw⟩
    · rename_i fs ht
      simp only [Bool.and_eq_true, List.all_eq_true, List.any_eq_true, decide_eq_true_eq] at h
      obtain ⟨h1, h2⟩ := h
      obtain ⟨xs, m, -, -, hlen, hxl, hf⟩ := DataW.trod_struct ht hx
      obtain ⟨j, hj, rfl⟩ := List.getElem_of_mem hv
      obtain ⟨f, hfm, hlo, hhi⟩ := h2 j (by rw [List.mem_range]; omega)
      obtain ⟨i, hi, rfl⟩ := List.getElem_of_mem hfm
      have hi' : i < fs.size := by simpa using hi
      have hfi : fs[i]? = some fs.toList[i] := by simp [hi']
      have hy := hf i _ hfi
      have hxi : xs[i]? = some xs[i] := List.getElem?_eq_getElem (by omega)
      rw [hxi] at hy
      refine trod_flat d _ (h1 _ hfm) hy _ ?_
      have hs : ((cs.drop fs.toList[i].offset).take (Try.prog.cellsOf fs.toList[i].type))[j - fs.toList[i].offset]? = some cs[j] := by
        rw [List.getElem?_take, if_pos (by omega), List.getElem?_drop, show fs.toList[i].offset + (j - fs.toList[i].offset) = j by omega, List.getElem?_eq_getElem hj]
      exact List.mem_of_getElem? hs
    · simp at h

theorem ints_of {cs : List Value} (h : ∀ v ∈ cs, ∃ z : Int, v = iv z ∧ (Lit.int .i64 z).wf = true) : ∃ zs : List Int, cs = ints zs ∧ ∀ z ∈ zs, (Lit.int .i64 z).wf = true := by
  induction cs with
  | nil => exact ⟨[], rfl, by simp⟩
  | cons v cs ih =>
    obtain ⟨z, rfl, hz⟩ := h _ (List.mem_cons_self)
    obtain ⟨zs, rfl, hzs⟩ := ih fun v hv => h v (List.mem_cons_of_mem _ hv)
    exact ⟨z :: zs, rfl, by simpa using ⟨hz, hzs⟩⟩

/-- An argument that is a slice of structs of int64 alone. -/
theorem open_flats_t {W : World} {t e : TypeId} {k : Nat} {v : Value} {d : DataW H} {p q : List MemPlace} (ht : Try.prog.underlying t = some (.slice e)) (hB : flatB 5 e = true) (hk : Try.prog.cellsOf e = k) (hk0 : 0 < k)
    (hlt : ∀ x ∈ q, x.block < W.heap.size) {fuel : Nat}
    (hf : DataW.trod enc Try.prog W 0 (fun _ => true) true fuel t [v] = some (d, p)) (hp : ∀ x ∈ p, x ∈ q) : ∃ (A : Option Addr) (n c : Nat) (zs : List Int), v = .slice A n c ∧ Rd W k A n c (ints zs) ∧ (A = none → n = 0 ∧ c = 0) ∧ ∀ z ∈ zs, (Lit.int .i64 z).wf = true := by
  obtain ⟨a0, len, cap, rfl⟩ : ∃ a0 len cap, v = .slice a0 len cap := by
    rcases open_slice ht hf with ⟨hcs, _⟩ | ⟨a, len', cap', m, n, D, Pl, hcs, _⟩
    · injection hcs with hcs
      exact ⟨_, _, _, hcs⟩
    · injection hcs with hcs
      exact ⟨_, _, _, hcs⟩
  rcases open_slice ht hf with ⟨hcs, hx⟩ | ⟨a, len', cap', m, n, D, Pl, hcs, hb, hl, hm, hmm, hx, hi⟩
  · have hcs' : [Value.slice a0 len cap] = [.slice none 0 0] := hcs
    injection hcs' with hcs''
    injection hcs'' with h1 h2 h3
    subst h1; subst h2; subst h3
    exact ⟨_, _, _, [], rfl, ⟨by simp [ints], Nat.le_refl _, Nat.zero_le _, fun h => absurd h (by omega)⟩, fun _ => ⟨rfl, rfl⟩, by simp⟩
  · have hcs' : [Value.slice a0 len cap] = [.slice (some a) len' cap'] := hcs
    injection hcs' with hcs''
    injection hcs'' with h1 h2 h3
    subst h1; subst h2; subst h3
    simp only [if_pos] at hmm
    subst hmm
    rw [hk] at hx hi
    have each : ∀ i, i < len → ∃ zs : List Int, zs.length = k ∧ (∀ z ∈ zs, (Lit.int .i64 z).wf = true) ∧ ∀ j, j < k → W.cell? ((a.add (i * k)).add j) = some (iv (gi zs j)) := by
      intro i hil
      obtain ⟨cs', hc, ht'⟩ := hi i (by omega)
      obtain ⟨_, hcl, hat⟩ := World.cells?_some hc
      obtain ⟨zs, rfl, hw⟩ := ints_of (trod_flat 5 e hB ht')
      rw [ints_len] at hcl
      exact ⟨zs, hcl, hw, fun j hj => by rw [hat j hj, ints_get (by omega)]⟩
    have all : ∀ n', n' ≤ len → ∃ zs : List Int, zs.length = n' * k ∧ (∀ z ∈ zs, (Lit.int .i64 z).wf = true) ∧ ∀ j, j < n' * k → W.cell? (a.add j) = some (iv (gi zs j)) := by
      intro n'
      induction n' with
      | zero => exact fun _ => ⟨[], by simp, by simp, fun j hj => by omega⟩
      | succ n' ih =>
        intro hn'
        obtain ⟨zs, hz1, hz2, hz3⟩ := ih (by omega)
        obtain ⟨ys, hy1, hy2, hy3⟩ := each n' (by omega)
        refine ⟨zs ++ ys, by rw [List.length_append, hz1, hy1, Nat.add_mul, Nat.one_mul], fun z hz => ?_, fun j hj => ?_⟩
        · rcases List.mem_append.1 hz with h | h
          · exact hz2 z h
          · exact hy2 z h
        · rw [Nat.add_mul, Nat.one_mul] at hj
          by_cases hjl : j < n' * k
          · rw [hz3 j hjl]
            unfold gi
            simp only [List.getD_eq_getElem?_getD]
            rw [List.getElem?_append_left (by omega)]
          · have := hy3 (j - n' * k) (by omega)
            rw [add_add', show n' * k + (j - n' * k) = j by omega] at this
            rw [this]
            unfold gi
            simp only [List.getD_eq_getElem?_getD]
            rw [List.getElem?_append_right (by omega), hz1]
    obtain ⟨zs, hz1, hz2, hz3⟩ := all len (Nat.le_refl _)
    refine ⟨_, _, _, zs, rfl, ⟨by rw [ints_len, hz1], hl, hm, fun hn => ⟨a, rfl, ?_, fun j u hu => ?_⟩⟩, (fun h => nomatch h), hz2⟩
    · injection hx with _ hp'
      have hmem : ∃ x ∈ p, x.block = a.block := by
        refine ⟨.cell a.block (a.off + 0), ?_, rfl⟩
        rw [hp']
        refine List.mem_append_left _ ?_
        unfold MemPlace.row
        exact List.mem_map.2 ⟨0, by rw [List.mem_range]; exact Nat.mul_pos (by omega) hk0, rfl⟩
      obtain ⟨x, hx1, hx2⟩ := hmem
      rw [← hx2]
      exact hlt x (hp x hx1)
    · have hj : j < len * k := by
        have := (List.getElem?_eq_some_iff.1 hu).1
        rw [ints_len, hz1] at this
        exact this
      rw [hz3 j hj]
      rw [ints_get (by omega)] at hu
      exact hu

end

/-- A memory of rows that are only read. -/
structure Ro (M : Mem) (μ : Map) (w : World) : Prop where
  sim : Sim M μ w
  ro : ∀ (i : Nat) r, M[i]? = some (.live r) → r.own = false
/-- Arguments so far: they have abstract forms. -/
structure AR (w : World) (M : Mem) (μ : Map) (vs cs : List Value) : Prop where
  ro : Ro M μ w
  rel : LRel M μ vs cs
def Arg (w : World) (c : Value) (K : Mem → Value → Prop) : Prop :=
  ∀ M μ, Ro M μ w → ∃ L μ' v, Ro (M ++ L) μ' w ∧ VRel (M ++ L) μ' v c ∧ K (M ++ L) v ∧ ∀ x y, VRel M μ x y → VRel (M ++ L) μ' x y
theorem AR.nil (w : World) : AR w [] ⟨fun _ => ⟨0, 0, none⟩, fun _ => 0⟩ [] [] := ⟨⟨⟨fun id r h => by simp at h, fun i j r s h => by simp at h⟩, fun i r h => by simp at h⟩, .nil⟩
theorem LRel.snoc {M : Mem} {μ : Map} {x y : Value} {xs ys : List Value} (h : LRel M μ xs ys) (h' : VRel M μ x y) : LRel M μ (xs ++ [x]) (ys ++ [y]) := by
  refine ⟨by simp [h.1], fun i u v hu hv => ?_⟩
  rcases getElem?_snoc_inv hu with ⟨hi, hu⟩ | ⟨rfl, rfl⟩
  · rw [getElem?_snoc_lt (by rw [← h.1]; exact hi)] at hv
    exact h.2 i u v hu hv
  · rw [h.1, getElem?_snoc_eq] at hv
    injection hv with hv
    subst hv
    exact h'
theorem AR.next {w : World} {M : Mem} {μ : Map} {vs cs : List Value} {c : Value} {K : Mem → Value → Prop} (h : AR w M μ vs cs) (ha : Arg w c K) :
    ∃ L μ' v, AR w (M ++ L) μ' (vs ++ [v]) (cs ++ [c]) ∧ K (M ++ L) v := by
  obtain ⟨L, μ', v, h1, h2, h3, h4⟩ := ha M μ h.ro
  exact ⟨L, μ', v, ⟨h1, LRel.snoc ⟨h.rel.1, fun i x y hx hy => h4 _ _ (h.rel.2 i x y hx hy)⟩ h2⟩, h3⟩
theorem Arg.plain {w : World} {c : Value} (h : plainV c = true) : Arg w c fun _ v => v = c :=
  fun M μ hr => ⟨[], μ, c, by simpa using hr, .plain h, rfl, fun x y h => by simpa using h⟩
theorem VRel.self_plain {M : Mem} {μ : Map} {cs : List Value} (h : ∀ v ∈ cs, plainV v = true) : LRel M μ cs cs := ⟨rfl, fun i x y hx hy => by
  rw [hx] at hy; injection hy with hy; subst hy
  exact .plain (h _ (List.mem_of_getElem? hx))⟩
theorem Arg.agg {w : World} {cs : List Value} (h : ∀ v ∈ cs, plainV v = true) : Arg w (.agg cs.toArray) fun _ v => v = .agg cs.toArray :=
  fun M μ hr => ⟨[], μ, _, by simpa using hr, VRel.mk_agg (VRel.self_plain h), rfl, fun x y h => by simpa using h⟩
/-- One more row that is only read. -/
theorem Ro.row {M : Mem} {μ : Map} {w : World} (h : Ro M μ w) {a : Addr} {cells : List Value} {e : TypeId} {k : Nat} (hlt : a.block < w.heap.size)
    (hc : ∀ (j : Nat) c, cells[j]? = some c → ∃ d, w.cell? (a.add j) = some d ∧ VRel M μ c d) :
    Ro (M ++ [.live ⟨cells, false, false, e, k⟩]) (μ.set M.length a 0) w ∧ ∀ x y, VRel M μ x y → VRel (M ++ [.live ⟨cells, false, false, e, k⟩]) (μ.set M.length a 0) x y := by
  have hv : ∀ x y, VRel M μ x y → VRel (M ++ [.live ⟨cells, false, false, e, k⟩]) (μ.set M.length a 0) x y := fun x y hx => hx.same fun i s hs _ => by
    have hi := (List.getElem?_eq_some_iff.1 hs).1
    exact ⟨by rw [getElem?_snoc_lt hi]; exact hs, Map.set_at_ne (by omega), Map.set_room_ne (by omega)⟩
  have hro : ∀ (i : Nat) r, (M ++ [.live ⟨cells, false, false, e, k⟩])[i]? = some (.live r) → r.own = false := fun i r hr => by
    rcases getElem?_snoc_inv hr with ⟨hi, hr⟩ | ⟨rfl, he⟩
    · exact h.ro i r hr
    · injection he with he; subst he; rfl
  refine ⟨⟨⟨fun id r hr => ?_, fun i j r s hr _ _ ho => ?_⟩, hro⟩, hv⟩
  · rcases getElem?_snoc_inv hr with ⟨hi, hr⟩ | ⟨rfl, he⟩
    · have hR := h.sim.row id r hr
      have hat : (μ.set M.length a 0).at_ id = μ.at_ id := Map.set_at_ne (by omega)
      have ho := h.ro id r hr
      refine ⟨by rw [hat]; exact hR.lt, fun j c hj => ?_, fun ho' => by rw [ho] at ho'; cases ho'⟩
      obtain ⟨d, h1, h2⟩ := hR.cell j c hj
      rw [hat]
      exact ⟨d, h1, hv _ _ h2⟩
    · injection he with he
      subst he
      have hat : (μ.set M.length a 0).at_ M.length = a := by simp [Map.set]
      refine ⟨by rw [hat]; exact hlt, fun j c hj => ?_, fun ho' => by cases ho'⟩
      obtain ⟨d, h1, h2⟩ := hc j c hj
      rw [hat]
      exact ⟨d, h1, hv _ _ h2⟩
  · rw [hro i r hr] at ho; cases ho
/-- One more slot without a row. -/
theorem Ro.dead {M : Mem} {μ : Map} {w : World} (h : Ro M μ w) : Ro (M ++ [.dead]) μ w ∧ ∀ x y, VRel M μ x y → VRel (M ++ [.dead]) μ x y := by
  have hv : ∀ x y, VRel M μ x y → VRel (M ++ [.dead]) μ x y := fun x y hx => hx.same fun i s hs _ => by
    have hi := (List.getElem?_eq_some_iff.1 hs).1
    exact ⟨by rw [getElem?_snoc_lt hi]; exact hs, rfl, rfl⟩
  have hro : ∀ (i : Nat) r, (M ++ [Slot.dead])[i]? = some (.live r) → M[i]? = some (.live r) := fun i r hr => by
    rcases getElem?_snoc_inv hr with ⟨hi, hr⟩ | ⟨_, he⟩
    · exact hr
    · cases he
  refine ⟨⟨⟨fun id r hr => ?_, fun i j r s hr hs => h.sim.inj i j r s (hro i r hr) (hro j s hs)⟩, fun i r hr => h.ro i r (hro i r hr)⟩, hv⟩
  have hR := h.sim.row id r (hro id r hr)
  exact ⟨hR.lt, fun j c hj => (hR.cell j c hj).imp fun d hd => ⟨hd.1, hv _ _ hd.2⟩, fun ho => by rw [h.ro id r (hro id r hr)] at ho; cases ho⟩
/-- An argument that is a slice of plain cells. -/
theorem Arg.slice {α : Type} {k : Nat} {R : RecV α k} {w : World} {A : Option Addr} {n c : Nat} {l : List α} (h : Rd w k A n c (cellsL R l)) (hl : l.length = n) (hp : ∀ v ∈ cellsL R l, plainV v = true)
    (hnil : A = none → n = 0 ∧ c = 0) : Arg w (.slice A n c) fun M v => ∃ B, v = .slice B n c ∧ n ≤ maxLen ∧ Sl R M B n l := by
  intro M μ hr
  obtain ⟨_, h1, h2, h3⟩ := h
  cases A with
  | none =>
    obtain ⟨rfl, rfl⟩ := hnil rfl
    exact ⟨[], μ, .slice none 0 0, by simpa using hr, .plain rfl, ⟨none, rfl, by omega, hl, fun h => absurd h (by omega)⟩, fun x y h => by simpa using h⟩
  | some a =>
    by_cases hn : 0 < n
    · obtain ⟨_, e, hlt, hc⟩ := h3 hn
      injection e with e
      subst e
      obtain ⟨g1, g2⟩ := hr.row (a := a) (cells := cellsL R l) (e := 0) (k := k) hlt fun j u hj => ⟨u, hc j u hj, .plain (hp u (List.mem_of_getElem? hj))⟩
      refine ⟨_, _, .slice (some ⟨M.length, 0, none⟩) n c, g1, .sl getElem?_snoc_eq rfl h1 h2 (fun r hr => ?_), ⟨_, rfl, by omega, hl, fun _ => ⟨M.length, 0, rfl, ?_, fun j x hx => ?_⟩⟩, g2⟩
      · injection hr with hr
        subst hr
        exact ⟨Or.inr (by simp [Map.set, Addr.add]), fun h => by cases h⟩
      · simp [rowEsz]
      · simp [cellAt, hx]
    · obtain ⟨g1, g2⟩ := hr.dead
      refine ⟨_, _, .slice (some ⟨M.length, 0, none⟩) n c, g1, .sl getElem?_snoc_eq rfl h1 h2 (fun r hr => by cases hr), ⟨_, rfl, by omega, hl, fun h => absurd h hn⟩, g2⟩
/-- The law's end. -/
theorem law_end {f : FuncId} {w : World} {M : Mem} {μ : Map} {vs cs : List Value} (h : AR w M μ vs cs) (hd : Det Try.prog M.length f vs M (.bool true) M) :
    Calls Try.prog f cs.toArray w fun e w' => e = .returned (.bool true) ∧ Below w.heap.size w w' := by
  refine (hd.run μ w cs h.rel h.ro.sim).mono ?_
  rintro e w' ⟨c, μ', rfl, hv, _, hs⟩
  rw [hv.bool]
  refine ⟨rfl, hs.os, hs.tape, hs.output, hs.size, fun k hk => hs.block k hk fun i r hi hr _ => ?_⟩
  have := (List.getElem?_eq_some_iff.1 hr).1
  omega
/-- Records of numbers. -/
structure Ints {α : Type} {k : Nat} (R : RecV α k) where
  of : List Int → α
  row : ∀ zs, zs.length = k → R.row (of zs) = ints zs
theorem Ints.chunk {α : Type} {k : Nat} {R : RecV α k} (I : Ints R) : ∀ (n : Nat) (zs : List Int), zs.length = n * k → (∀ z ∈ zs, (Lit.int .i64 z).wf = true) →
    ∃ l : List α, l.length = n ∧ cellsL R l = ints zs ∧ ∀ a ∈ l, ∃ ys : List Int, a = I.of ys ∧ ys.length = k ∧ ∀ z ∈ ys, (Lit.int .i64 z).wf = true
  | 0, zs, h, _ => ⟨[], rfl, by obtain rfl := List.eq_nil_of_length_eq_zero (by omega : zs.length = 0); rfl, by simp⟩
  | n + 1, zs, h, hw => by
    rw [Nat.add_mul, Nat.one_mul] at h
    obtain ⟨l, h1, h2, h3⟩ := I.chunk n (zs.drop k) (by rw [List.length_drop]; omega) fun z hz => hw z (List.mem_of_mem_drop hz)
    refine ⟨I.of (zs.take k) :: l, by simp [h1], ?_, fun a ha => ?_⟩
    · rw [cellsL_cons, I.row _ (by rw [List.length_take]; omega), h2]
      unfold ints
      rw [← List.map_append, List.take_append_drop]
    · rcases List.mem_cons.1 ha with rfl | ha
      · exact ⟨_, rfl, by rw [List.length_take]; omega, fun z hz => hw z (List.mem_of_mem_take hz)⟩
      · exact h3 a ha
theorem plain_ints {zs : List Int} : ∀ v ∈ ints zs, plainV v = true := fun v hv => by
  obtain ⟨z, -, rfl⟩ := List.mem_map.1 hv
  rfl
theorem Arg.agg1 {w : World} {c : Value} {K : Mem → Value → Prop} (h : Arg w c K) : Arg w (.agg #[c]) fun M v => ∃ x, v = .agg #[x] ∧ K M x := fun M μ hr => by
  obtain ⟨L, μ', v, h1, h2, h3, h4⟩ := h M μ hr
  exact ⟨L, μ', .agg #[v], h1, VRel.mk_agg (.cons h2 .nil), ⟨v, rfl, h3⟩, h4⟩
/-- An argument that is a struct with one field, a slice of structs of int64 alone. -/
theorem Arg.wrap {H : Type} {enc : TypeId × Value → H} {α : Type} {k : Nat} {R : RecV α k} (I : Ints R) {W : World} {base : Nat} {t s e : TypeId} {f0 : Field} {v : Value} {d : DataW H} {p q : List MemPlace} (hst : Try.prog.underlying t = some (.struct #[f0])) (hf0 : f0.type = s ∧ f0.offset = 0) (hc1 : Try.prog.cellsOf t = 1) (hc2 : Try.prog.cellsOf s = 1)
    (ht : Try.prog.underlying s = some (.slice e)) (hB : flatB 5 e = true) (hk : Try.prog.cellsOf e = k) (hk0 : 0 < k)
    (hlt : ∀ x ∈ q, x.block < W.heap.size) (hv : Value.okWide Try.prog W .any base t v)
    (h : DataW.Trod enc Try.prog W 0 (fun _ => true) true t v d p) (hp : ∀ x ∈ p, x ∈ q) :
    Arg W v fun M v' => ∃ u, v' = .agg #[u] ∧ ∃ B n c l, u = .slice B n c ∧ n ≤ maxLen ∧ Sl R M B n l ∧ ∀ a ∈ l, ∃ ys : List Int, a = I.of ys ∧ ys.length = k ∧ ∀ z ∈ ys, (Lit.int .i64 z).wf = true := by
  obtain ⟨cs, rfl, hsz⟩ := okWide_struct hst hv
  obtain ⟨fuel, hf⟩ := h
  obtain ⟨xs, m, -, hx, hlen, hxl, hi⟩ := DataW.trod_struct hst hf
  rw [hc1] at hsz
  obtain ⟨l0, rfl⟩ : ∃ u, cs = #[u] := by
    obtain ⟨l⟩ := cs
    match l, hsz with
    | [u], _ => exact ⟨u, rfl⟩
  have h0 := hi 0 f0 rfl
  obtain ⟨hf1, hf2⟩ := hf0
  rw [hf1, hf2, hc2] at h0
  obtain ⟨⟨d0, p0⟩, rfl⟩ : ∃ x, xs = [x] := by
    match xs, hxl with
    | [x], _ => exact ⟨x, rfl⟩
  have h0' : DataW.trod enc Try.prog W 0 (fun _ => true) true m s [l0] = some (d0, p0) := h0
  have hpp : ∀ x ∈ p0, x ∈ q := fun x hx' => hp x (by injection hx with _ hx; rw [hx]; simpa using hx')
  obtain ⟨A, n, c, zs, rfl, h1, h2, h3⟩ := open_flats_t ht hB hk hk0 hlt h0' hpp
  have hz := h1.1
  rw [ints_len] at hz
  obtain ⟨l, g1, g2, g3⟩ := I.chunk n zs hz h3
  rw [← g2] at h1
  refine Arg.agg1 (fun M μ hr => ?_)
  obtain ⟨L, μ', v, a1, a2, ⟨B, a3, a4, a5⟩, a6⟩ := Arg.slice h1 g1 (by rw [g2]; exact plain_ints) h2 M μ hr
  exact ⟨L, μ', v, a1, a2, ⟨B, n, c, l, a3, a4, a5, g3⟩, a6⟩
end Go.Proofs.Ytimijeeihicohaa

namespace Go.Proofs.Ytimijeeihicohaa
open Go.ChangeShapes Go.WideShapes Go.ChangeAt Go.RowKit Go.Deep
set_option linter.unusedVariables false
set_option linter.unusedSimpArgs false
set_option maxRecDepth 100000
/-- Cells of arguments: they have abstract forms. -/
def ArgC (w : World) (cs : List Value) (K : Mem → List Value → Prop) : Prop :=
  ∀ M μ, Ro M μ w → ∃ L μ' vs, Ro (M ++ L) μ' w ∧ LRel (M ++ L) μ' vs cs ∧ K (M ++ L) vs ∧ ∀ x y, VRel M μ x y → VRel (M ++ L) μ' x y
theorem ArgC.mono {w : World} {cs : List Value} {K K' : Mem → List Value → Prop} (h : ArgC w cs K) (hk : ∀ M vs, K M vs → K' M vs) : ArgC w cs K' := fun M μ hr => by
  obtain ⟨L, μ', vs, h1, h2, h3, h4⟩ := h M μ hr
  exact ⟨L, μ', vs, h1, h2, hk _ _ h3, h4⟩
theorem ArgC.nil {w : World} : ArgC w [] fun _ vs => vs = [] := fun M μ hr => ⟨[], μ, [], by simpa using hr, .nil, rfl, fun x y h => by simpa using h⟩
theorem ArgC.plain {w : World} {c : Value} (h : plainV c = true) : ArgC w [c] fun _ vs => vs = [c] :=
  fun M μ hr => ⟨[], μ, [c], by simpa using hr, .cons (.plain h) .nil, rfl, fun x y h => by simpa using h⟩
theorem ArgC.append {w : World} {cs ds : List Value} {K1 K2 : Mem → List Value → Prop} (h1 : ArgC w cs K1) (h2 : ArgC w ds K2) (hk : ∀ M vs L, K1 M vs → K1 (M ++ L) vs) :
    ArgC w (cs ++ ds) fun M vs => ∃ us ws, vs = us ++ ws ∧ K1 M us ∧ K2 M ws := fun M μ hr => by
  obtain ⟨L, μ1, us, a1, a2, a3, a4⟩ := h1 M μ hr
  obtain ⟨L', μ2, ws, b1, b2, b3, b4⟩ := h2 _ _ a1
  rw [List.append_assoc] at b1 b2 b3 b4
  refine ⟨L ++ L', μ2, us ++ ws, b1, LRel.append ⟨a2.1, fun i x y hx hy => b4 _ _ (a2.2 i x y hx hy)⟩ b2, ⟨us, ws, rfl, ?_, b3⟩, fun x y h => b4 _ _ (a4 x y h)⟩
  have := hk _ _ L' a3
  rwa [List.append_assoc] at this
theorem ArgC.one {w : World} {cs : List Value} {K : Mem → List Value → Prop} (h : ArgC w cs K) : Arg w (.agg cs.toArray) fun M v => ∃ vs, v = .agg vs.toArray ∧ K M vs := fun M μ hr => by
  obtain ⟨L, μ', vs, h1, h2, h3, h4⟩ := h M μ hr
  exact ⟨L, μ', _, h1, VRel.mk_agg h2, ⟨vs, rfl, h3⟩, h4⟩
theorem ArgC.cell {w : World} {c : Value} {K : Mem → List Value → Prop} (h : ArgC w [c] K) : Arg w c fun M v => K M [v] := fun M μ hr => by
  obtain ⟨L, μ', vs, h1, h2, h3, h4⟩ := h M μ hr
  obtain ⟨v, rfl⟩ : ∃ v, vs = [v] := by
    match vs, h2.1 with
    | [v], _ => exact ⟨v, rfl⟩
  exact ⟨L, μ', v, h1, h2.2 0 v c rfl rfl, h3, h4⟩
section
variable {α : Type} {k : Nat} [Inhabited α]
/-- A row of values, one behind the other. -/
theorem ArgC.rows {w : World} {P : RecP α k} {cs : Nat → List Value} : ∀ n, (∀ i, i < n → ArgC w (cs i) fun M vs => ∃ a, P.rd 0 M.length M a vs) →
    ArgC w ((List.range n).flatMap cs) fun M vs => ∃ l : List α, l.length = n ∧ vs.length = n * k ∧ ∀ i, i < n → ∃ us, P.rd 0 M.length M (el l i) us ∧ ∀ (j : Nat) x, us[j]? = some x → vs[i * k + j]? = some x
  | 0, _ => ArgC.nil.mono fun M vs h => ⟨[], rfl, by rw [h]; simp, fun i hi => by omega⟩
  | n + 1, h => by
    have h1 := ArgC.rows n fun i hi => h i (by omega)
    rw [List.range_succ, List.flatMap_append, List.flatMap_cons, List.flatMap_nil, List.append_nil]
    refine (h1.append (h n (by omega)) ?_).mono ?_
    · rintro M vs L ⟨l, e1, e2, e3⟩
      refine ⟨l, e1, e2, fun i hi => ?_⟩
      obtain ⟨us, a, b⟩ := e3 i hi
      exact ⟨us, P.wide (P.app a L) (Nat.le_refl _) (by simp), b⟩
    · rintro M vs ⟨us, ws, rfl, ⟨l, e1, e2, e3⟩, a, ha⟩
      have hw := P.len ha
      refine ⟨l ++ [a], by simp [e1], by rw [List.length_append, e2, hw, Nat.add_mul, Nat.one_mul], fun i hi => ?_⟩
      by_cases hin : i < n
      · obtain ⟨xs, c1, c2⟩ := e3 i hin
        refine ⟨xs, by rw [el_append_left (by omega)]; exact c1, fun j x hx => ?_⟩
        have := c2 j x hx
        rw [List.getElem?_append_left (List.getElem?_eq_some_iff.1 this).1]
        exact this
      · have hii : i = n := by omega
        subst hii
        refine ⟨ws, by rw [el_append_right (by omega), e1, Nat.sub_self]; exact ha, fun j x hx => ?_⟩
        rw [List.getElem?_append_right (by omega), e2, show i * k + j - i * k = j by omega]
        exact hx
theorem ArgC.slice {w : World} {P : RecP α k} {a : Addr} {n c : Nat} {cs : Nat → List Value} (hn : n ≤ 9223372036854775807) (hnc : n ≤ c) (hc : c ≤ maxLen) (hlt : 0 < n * k → a.block < w.heap.size) (hk : 0 < k)
    (hcell : ∀ (j : Nat) x, ((List.range n).flatMap cs)[j]? = some x → w.cell? (a.add j) = some x) (h : ∀ i, i < n → ArgC w (cs i) fun M vs => ∃ b, P.rd 0 M.length M b vs) :
    ArgC w [.slice (some a) n c] fun M vs => ∃ l : List α, (RecP.sl P).rd 0 M.length M l vs := fun M μ hr => by
  obtain ⟨L, μ1, vs, a1, a2, ⟨l, e1, e2, e3⟩, a4⟩ := ArgC.rows (P := P) n h M μ hr
  by_cases h0 : 0 < n
  · obtain ⟨g1, g2⟩ := a1.row (a := a) (cells := vs) (e := 0) (k := k) (hlt (Nat.mul_pos h0 hk)) fun j u hj => by
      obtain ⟨d, hd, hv⟩ := a2.at_ hj
      exact ⟨d, hcell j d hd, hv⟩
    refine ⟨L ++ [.live ⟨vs, false, false, 0, k⟩], μ1.set (M ++ L).length a 0, [.slice (some ⟨(M ++ L).length, 0, none⟩) n c], by rw [← List.append_assoc]; exact g1, ?_, ?_, fun x y h => by rw [← List.append_assoc]; exact g2 _ _ (a4 x y h)⟩
    · rw [← List.append_assoc]
      refine .cons (.sl getElem?_snoc_eq rfl hnc hc fun r hr => ?_) .nil
      injection hr with hr
      subst hr
      exact ⟨Or.inr (by simp [Map.set, Addr.add]), fun h => by cases h⟩
    · rw [← List.append_assoc]
      refine ⟨l, _, rfl, _, n, c, rfl, hn, (fun h => by cases h), e1, fun _ => ⟨(M ++ L).length, 0, rfl, Nat.zero_le _, by simp, by simp [rowEsz], fun i hi => ?_⟩⟩
      obtain ⟨us, b1, b2⟩ := e3 i hi
      refine ⟨us, P.wide (P.app b1 _) (Nat.le_refl _) (by simp), fun j x hx => ?_⟩
      simp [cellAt, b2 j x hx]
  · obtain ⟨g1, g2⟩ := a1.dead
    have hn0 : n = 0 := by omega
    subst hn0
    refine ⟨L ++ [.dead], μ1, [.slice (some ⟨(M ++ L).length, 0, none⟩) 0 c], by rw [← List.append_assoc]; exact g1, ?_, ?_, fun x y h => by rw [← List.append_assoc]; exact g2 _ _ (a4 x y h)⟩
    · rw [← List.append_assoc]
      exact .cons (.sl getElem?_snoc_eq rfl hnc hc fun r hr => by cases hr) .nil
    · exact ⟨l, _, rfl, _, 0, c, rfl, hn, (fun h => by cases h), e1, fun h => by omega⟩
end
section
variable {H : Type} {enc : TypeId × Value → H}
/-- Cells that a law is handed at a type have abstract forms. -/
def Good (enc : TypeId × Value → H) {α : Type} {k : Nat} (t : TypeId) (P : RecP α k) : Prop :=
  ∀ (W : World) (n : Nat) (cs : List Value) (d : DataW H) (p : List MemPlace), DataW.trod enc Try.prog W 0 (fun _ => true) true n t cs = some (d, p) → (∀ x ∈ p, x.block < W.heap.size) → ArgC W cs fun M vs => ∃ a, P.rd 0 M.length M a vs
/-- The fields of a struct, from an offset on. -/
inductive Fits (enc : TypeId × Value → H) : List Field → Nat → (α : Type) → (k : Nat) → RecP α k → Prop
  | nil {off : Nat} : Fits enc [] off Unit 0 RecP.unit
  | cons {f : Field} {fs : List Field} {off k m : Nat} {α β : Type} {P : RecP α k} {Q : RecP β m} : f.offset = off → Try.prog.cellsOf f.type = k → Good enc f.type P → Fits enc fs (off + k) β m Q → Fits enc (f :: fs) off (α × β) (k + m) (RecP.cat P Q)
end
end Go.Proofs.Ytimijeeihicohaa

namespace Go.Proofs.Ytimijeeihicohaa
open Go.RowKit
set_option linter.unusedVariables false
set_option linter.unusedSimpArgs false
set_option maxRecDepth 100000
attribute [local simp] List.getElem?_cons_zero
attribute [local irreducible] awCond awCall awLoop awDraw ow retQ retC resQ Keeps
theorem within_a {M : Mem} (n lo hi : Int) : Det Try.prog M.length 63 [iv n, iv lo, iv hi] M (.bool (inB n lo hi)) M := by
  first | (refine det_fn Try.func63 rfl Try.ntmps63 Try.results63 rfl rfl rfl (by simp) ?_) | (refine det_fnC Try.func63 rfl Try.ntmps63 Try.results63 rfl rfl (by simp) ?_)
  simp
  repeat' (first | (refine guardV_split ?_ ?_ <;> intro _) | (simp [*]))
  all_goals (simp_all [inB, Keeps.refl] <;> omega)
theorem l00In_a {M : Mem} (n lo hi : Int) : Det Try.prog M.length 47 [iv n, iv lo, iv hi] M (.bool (inB n lo hi)) M := by
  first | (refine det_fn Try.func47 rfl Try.ntmps47 Try.results47 rfl rfl rfl (by simp) ?_) | (refine det_fnC Try.func47 rfl Try.ntmps47 Try.results47 rfl rfl (by simp) ?_)
  simp
  repeat' (first | (refine guardV_split ?_ ?_ <;> intro _) | (simp [*]))
  all_goals (simp_all [inB, Keeps.refl] <;> omega)
theorem isVoice_a {M : Mem} (n : Int) : Det Try.prog M.length 119 [iv n] M (.bool (inB n 0 3)) M := by
  first | (refine det_fn Try.func119 rfl Try.ntmps119 Try.results119 rfl rfl rfl (by simp) ?_) | (refine det_fnC Try.func119 rfl Try.ntmps119 Try.results119 rfl rfl (by simp) ?_)
  simp
  refine awCall_det' (within_a _ _ _) (by simp) ?_
  simp [Keeps.refl]
theorem isKey_a {M : Mem} (n : Int) : Det Try.prog M.length 53 [iv n] M (.bool (inB n 0 127)) M := by
  first | (refine det_fn Try.func53 rfl Try.ntmps53 Try.results53 rfl rfl rfl (by simp) ?_) | (refine det_fnC Try.func53 rfl Try.ntmps53 Try.results53 rfl rfl (by simp) ?_)
  simp
  refine awCall_det' (within_a _ _ _) (by simp) ?_
  simp [Keeps.refl]
theorem isCount_a {M : Mem} (n : Int) : Det Try.prog M.length 76 [iv n] M (.bool (inB n 0 4000)) M := by
  first | (refine det_fn Try.func76 rfl Try.ntmps76 Try.results76 rfl rfl rfl (by simp) ?_) | (refine det_fnC Try.func76 rfl Try.ntmps76 Try.results76 rfl rfl (by simp) ?_)
  simp
  refine awCall_det' (within_a _ _ _) (by simp) ?_
  simp [Keeps.refl]
theorem isSample_a {M : Mem} (n : Int) : Det Try.prog M.length 64 [iv n] M (.bool (inB n (-2147483648) 2147483647)) M := by
  first | (refine det_fn Try.func64 rfl Try.ntmps64 Try.results64 rfl rfl rfl (by simp) ?_) | (refine det_fnC Try.func64 rfl Try.ntmps64 Try.results64 rfl rfl (by simp) ?_)
  simp
  refine awCall_det' (within_a _ _ _) (by simp) ?_
  simp [Keeps.refl]
theorem l01Sample_a {M : Mem} (n : Int) : Det Try.prog M.length 62 [iv n] M (.bool (inB n (-2147483648) 2147483647)) M := by
  first | (refine det_fn Try.func62 rfl Try.ntmps62 Try.results62 rfl rfl rfl (by simp) ?_) | (refine det_fnC Try.func62 rfl Try.ntmps62 Try.results62 rfl rfl (by simp) ?_)
  simp
  refine awCall_det' (l00In_a _ _ _) (by simp) ?_
  simp [Keeps.refl]
end Go.Proofs.Ytimijeeihicohaa

namespace Go.Proofs.Ytimijeeihicohaa
open Go.RowKit
set_option linter.unusedVariables false
set_option linter.unusedSimpArgs false
set_option maxRecDepth 100000
attribute [local simp] List.getElem?_cons_zero
attribute [local irreducible] awCond awCall awLoop awDraw ow retQ retC resQ Keeps
theorem int_cell {M : Mem} {id off : Nat} {x : Int} (h : Cl M id off (intR.row x)) : cellAt M id off = some (iv x) := h 0 _ rfl
def one1 : List Value → Value
  | v :: _ => v
  | [] => undef
@[simp] theorem one1_cons {v : Value} {vs : List Value} : one1 (v :: vs) = v := (rfl)
end Go.Proofs.Ytimijeeihicohaa

namespace Go.Proofs.Ytimijeeihicohaa
open Go.RowKit
set_option linter.unusedVariables false
set_option linter.unusedSimpArgs false
set_option maxRecDepth 100000
attribute [local simp] List.getElem?_cons_zero
attribute [local irreducible] awCond awCall awLoop awDraw ow retQ retC resQ Keeps
section
variable {α : Type} {k : Nat} [Inhabited α]
theorem put_at_row {b : Nat} {M : Mem} {id p : Nat} {vs cs : List Value} {t : Bool} {e : TypeId} {z : Nat} (hr : M[id]? = some (.live ⟨cs, true, t, e, z⟩)) (hb : b ≤ id) (hp : p + vs.length ≤ cs.length) (h1 : vs.all oneV = true) :
    putCells b M id p vs = some (M.set id (.live ⟨splice cs p vs, true, t, e, z⟩)) := by
  unfold putCells
  rw [hr]
  simp only
  rw [if_pos ⟨hb, trivial, hp, h1⟩]
def PartS (P : RecP α k) (e : TypeId) (z : List Value) (l : List α) (b n j : Nat) (M1 : Mem) : Prop :=
  ∃ cells, M1[b]? = some (.live ⟨cells ++ zrow z (n - j), true, true, e, k⟩) ∧ cells.length = j * k ∧ ∀ i, i < j → ∃ us, P.rd (b + 1) M1.length M1 (el l i) us ∧ ∀ (t : Nat) x, us[t]? = some x → cells[i * k + t]? = some x
theorem PartS.step {P : RecP α k} {e : TypeId} {z : List Value} {l : List α} {b n j : Nat} {M1 N : Mem} {vs : List Value} (h : PartS P e z l b n j M1) (hj : j < n) (hz : z.length = k) (hv : P.rd M1.length (M1 ++ N).length (M1 ++ N) (el l j) vs) (h1 : vs.all oneV = true) (hb : b < M1.length) :
    ∃ M2, putCells b (M1 ++ N) b (j * k) vs = some M2 ∧ PartS P e z l b n (j + 1) M2 ∧ M2.length = (M1 ++ N).length ∧ ∀ (i : Nat) s, i ≠ b → (M1 ++ N)[i]? = some s → M2[i]? = some s := by
  obtain ⟨cells, hr, hl, hc⟩ := h
  have hvl := P.len hv
  have hr' : (M1 ++ N)[b]? = some (.live ⟨cells ++ zrow z (n - j), true, true, e, k⟩) := by rw [List.getElem?_append_left hb]; exact hr
  have hzr : zrow z (n - j) = z ++ zrow z (n - (j + 1)) := by rw [show n - j = n - (j + 1) + 1 by omega, zrow_succ]
  have hput := put_at_row (b := b) (p := j * k) (vs := vs) hr' (Nat.le_refl _) (by rw [hzr]; simp only [List.length_append]; omega) h1
  have hsp : splice (cells ++ zrow z (n - j)) (j * k) vs = cells ++ vs ++ zrow z (n - (j + 1)) := by
    rw [← hl, splice_app _ _ _ (by rw [hzr, List.length_append]; omega), hzr, hvl, List.drop_append_of_le_length (by omega), List.drop_of_length_le (by omega)]
    simp
  rw [hsp] at hput
  have hoth : ∀ (i : Nat) s, i ≠ b → (M1 ++ N)[i]? = some s → ((M1 ++ N).set b (.live ⟨cells ++ vs ++ zrow z (n - (j + 1)), true, true, e, k⟩))[i]? = some s := fun i s hi hs => by rw [List.getElem?_set_ne (Ne.symm hi)]; exact hs
  have hag : ∀ {hi : Nat}, Agree (b + 1) hi (M1 ++ N) ((M1 ++ N).set b (.live ⟨cells ++ vs ++ zrow z (n - (j + 1)), true, true, e, k⟩)) := fun {hi} i s h2 h3 hs => hoth i s (by omega) hs
  refine ⟨_, hput, ⟨cells ++ vs, List.getElem?_set_self (by simp; omega), by rw [List.length_append, hl, hvl, Nat.add_mul, Nat.one_mul], fun i hi => ?_⟩, by simp, hoth⟩
  by_cases hij : i < j
  · obtain ⟨us, h2, h3⟩ := hc i hij
    refine ⟨us, P.agree (P.wide (P.app h2 N) (Nat.le_refl _) (by simp)) hag, fun t x hx => ?_⟩
    have := h3 t x hx
    rw [List.getElem?_append_left (List.getElem?_eq_some_iff.1 this).1]
    exact this
  · have : i = j := by omega
    subst this
    refine ⟨vs, P.agree (P.wide hv (by omega) (by simp)) hag, fun t x hx => ?_⟩
    rw [List.getElem?_append_right (by omega), hl, show i * k + t - i * k = t by omega]
    exact hx
end
end Go.Proofs.Ytimijeeihicohaa

namespace Go.Proofs.Ytimijeeihicohaa
open Go.RowKit
set_option linter.unusedVariables false
set_option linter.unusedSimpArgs false
set_option maxRecDepth 100000
attribute [local simp] List.getElem?_cons_zero
attribute [local irreducible] awCond awCall awLoop awDraw ow retQ retC resQ Keeps
abbrev tabP : RecP (List Int) 1 := RecP.sl intP






end Go.Proofs.Ytimijeeihicohaa

namespace Go.Proofs.Ytimijeeihicohaa
open Go.RowKit
set_option linter.unusedVariables false
set_option linter.unusedSimpArgs false
set_option maxRecDepth 100000
attribute [local simp] List.getElem?_cons_zero
attribute [local irreducible] awCond awCall awLoop awDraw ow retQ retC resQ Keeps
structure Segment where
  (ln tg : Int)
deriving Inhabited, DecidableEq
def Segment.row (c : Segment) : List Value := [iv c.ln, iv c.tg]
def segmentR : RecV Segment 2 := ⟨Segment.row, fun _ => rfl⟩
abbrev Segment.v (c : Segment) : Value := .agg #[iv c.ln, iv c.tg]
theorem segment_load {M : Mem} {id off : Nat} {g : Segment} (h : Cl M id off g.row) : cellsAt M id off 2 = some [iv g.ln, iv g.tg] := cellsAt_of h rfl (by omega)
@[simp] theorem segment_fill (x0 x1 : Int) : Instr.fill (fun i => some (i * 2, 2)) (zrow [iv 0, iv 0] 1).toArray [(0, .agg #[iv x0, iv x1])] = some #[iv x0, iv x1] := fill_agg (by omega) rfl rfl
end Go.Proofs.Ytimijeeihicohaa

namespace Go.Proofs.Ytimijeeihicohaa
open Go.RowKit
set_option linter.unusedVariables false
set_option linter.unusedSimpArgs false
set_option maxRecDepth 100000
attribute [local simp] List.getElem?_cons_zero
attribute [local irreducible] awCond awCall awLoop awDraw ow retQ retC resQ Keeps
structure Node where
  (k a b : Int)
  from_ : List Int
deriving Inhabited, DecidableEq
structure Patch where
  inp : Int
  tabs : List (List Int)
  nodes : List Node
  outs : List Int
deriving Inhabited, DecidableEq
structure Envl where
  st : Int
  segs : List Segment
  rel : Int
deriving Inhabited, DecidableEq
structure Inst where
  pat : Patch
  env : Envl
  steps : List Int
deriving Inhabited, DecidableEq
def nodeP : RecP Node 4 where
  rd := fun lo hi M x vs => ∃ u, vs = [iv x.k, iv x.a, iv x.b, u] ∧ SlV intP lo hi M u x.from_
  len := fun ⟨u, h, _⟩ => by rw [h]; rfl
  agree := fun ⟨u, h1, h2⟩ hg => ⟨u, h1, h2.agree hg⟩
  wide := fun ⟨u, h1, h2⟩ a b => ⟨u, h1, h2.wide a b⟩
def patchP : RecP Patch 4 where
  rd := fun lo hi M x vs => ∃ u v w, vs = [iv x.inp, u, v, w] ∧ SlV tabP lo hi M u x.tabs ∧ SlV nodeP lo hi M v x.nodes ∧ SlV intP lo hi M w x.outs
  len := fun ⟨u, v, w, h, _⟩ => by rw [h]; rfl
  agree := fun ⟨u, v, w, h1, h2, h3, h4⟩ hg => ⟨u, v, w, h1, h2.agree hg, h3.agree hg, h4.agree hg⟩
  wide := fun ⟨u, v, w, h1, h2, h3, h4⟩ a b => ⟨u, v, w, h1, h2.wide a b, h3.wide a b, h4.wide a b⟩
abbrev segP : RecP Segment 2 := .flat segmentR
def envP : RecP Envl 3 where
  rd := fun lo hi M x vs => ∃ u, vs = [iv x.st, u, iv x.rel] ∧ SlV segP lo hi M u x.segs
  len := fun ⟨u, h, _⟩ => by rw [h]; rfl
  agree := fun ⟨u, h1, h2⟩ hg => ⟨u, h1, h2.agree hg⟩
  wide := fun ⟨u, h1, h2⟩ a b => ⟨u, h1, h2.wide a b⟩
def instP : RecP Inst 8 where
  rd := fun lo hi M x vs => ∃ ps es u, vs = ps ++ es ++ [u] ∧ patchP.rd lo hi M x.pat ps ∧ envP.rd lo hi M x.env es ∧ SlV intP lo hi M u x.steps
  len := fun ⟨ps, es, u, h, h1, h2, _⟩ => by rw [h, List.length_append, List.length_append, patchP.len h1, envP.len h2]; rfl
  agree := fun ⟨ps, es, u, h, h1, h2, h3⟩ hg => ⟨ps, es, u, h, patchP.agree h1 hg, envP.agree h2 hg, h3.agree hg⟩
  wide := fun ⟨ps, es, u, h, h1, h2, h3⟩ a b => ⟨ps, es, u, h, patchP.wide h1 a b, envP.wide h2 a b, h3.wide a b⟩
theorem Good.imp {H : Type} {enc : TypeId × Value → H} {α : Type} {k : Nat} {t : TypeId} {P Q : RecP α k} (h : Good enc t P) (hi : ∀ lo hi M a vs, P.rd lo hi M a vs → Q.rd lo hi M a vs) : Good enc t Q := fun W n cs d p hf hp => (h W n cs d p hf hp).mono fun M vs ⟨a, ha⟩ => ⟨a, hi _ _ _ _ _ ha⟩
section
variable {H : Type} {enc : TypeId × Value → H}
end
end Go.Proofs.Ytimijeeihicohaa

namespace Go.Proofs.Ytimijeeihicohaa
open Go.RowKit
set_option linter.unusedVariables false
set_option linter.unusedSimpArgs false
set_option maxRecDepth 100000
attribute [local simp] List.getElem?_cons_zero
attribute [local irreducible] awCond awCall awLoop awDraw ow retQ retC resQ Keeps
theorem SlV.isSl {α : Type} {k : Nat} [Inhabited α] {P : RecP α k} {lo hi : Nat} {M : Mem} {u : Value} {l : List α} (h : SlV P lo hi M u l) : ∃ A n c, u = .slice A n c := by
  obtain ⟨A, n, c, e, _⟩ := h
  exact ⟨A, n, c, e⟩
end Go.Proofs.Ytimijeeihicohaa

namespace Go.Proofs.Ytimijeeihicohaa
open Go.RowKit
set_option linter.unusedVariables false
set_option linter.unusedSimpArgs false
set_option maxRecDepth 100000
attribute [local simp] List.getElem?_cons_zero
attribute [local irreducible] awCond awCall awLoop awDraw ow retQ retC resQ Keeps
end Go.Proofs.Ytimijeeihicohaa

namespace Go.Proofs.Ytimijeeihicohaa
open Go.RowKit
set_option linter.unusedVariables false
set_option linter.unusedSimpArgs false
set_option maxRecDepth 100000
attribute [local simp] List.getElem?_cons_zero
attribute [local irreducible] awCond awCall awLoop awDraw ow retQ retC resQ Keeps
section
variable {α : Type} {k : Nat} [Inhabited α] {P : RecP α k}
omit [Inhabited α] in
end
/-- No list is long. -/
structure SmallP (p : Patch) : Prop where
  tabs : p.tabs.length ≤ 1048576
  tab : ∀ x, x ∈ p.tabs → x.length ≤ 1048576
  nodes : p.nodes.length ≤ 1048576
  node : ∀ x, x ∈ p.nodes → x.from_.length ≤ 1048576
  outs : p.outs.length ≤ 1048576
structure SmallI (i : Inst) : Prop where
  pat : SmallP i.pat
  segs : i.env.segs.length ≤ 1048576
  steps : i.steps.length ≤ 1048576
theorem patch_isV {lo hi : Nat} {M : Mem} {x : Patch} {vs : List Value} (h : patchP.rd lo hi M x vs) : ∃ A1 n1 c1 A2 n2 c2 A3 n3 c3, vs = [iv x.inp, .slice A1 n1 c1, .slice A2 n2 c2, .slice A3 n3 c3] := by
  obtain ⟨u, v, w, rfl, hu, hv, hw⟩ := h
  obtain ⟨A1, n1, c1, rfl⟩ := hu.isSl
  obtain ⟨A2, n2, c2, rfl⟩ := hv.isSl
  obtain ⟨A3, n3, c3, rfl⟩ := hw.isSl
  exact ⟨_, _, _, _, _, _, _, _, _, rfl⟩
theorem env_isV {lo hi : Nat} {M : Mem} {x : Envl} {vs : List Value} (h : envP.rd lo hi M x vs) : ∃ A1 n1 c1, vs = [iv x.st, .slice A1 n1 c1, iv x.rel] := by
  obtain ⟨u, rfl, hu⟩ := h
  obtain ⟨A1, n1, c1, rfl⟩ := hu.isSl
  exact ⟨_, _, _, rfl⟩
end Go.Proofs.Ytimijeeihicohaa

namespace Go.Proofs.Ytimijeeihicohaa
open Go.RowKit
set_option linter.unusedVariables false
set_option linter.unusedSimpArgs false
set_option maxRecDepth 100000
attribute [local simp] List.getElem?_cons_zero
attribute [local irreducible] awCond awCall awLoop awDraw ow retQ retC resQ Keeps
def sampleB (x : Int) : Bool := inB x (-2147483648) 2147483647
def areSB (l : List Int) : Bool := l.all sampleB
def idxB (n : Int) (l : List Int) : Bool := l.all fun x => inB x 0 (n - 1)
def tableB (t : List Int) : Bool := (decide (t.length = 2) || decide (t.length = 4) || decide (t.length = 8) || decide (t.length = 16)) && areSB t
def tablesB (ts : List (List Int)) : Bool := ts.all tableB && decide (ts.length ≤ 4)
def segB (s : Segment) : Bool := inB s.tg 0 65536 && inB s.ln 0 4000
def envB (e : Envl) : Bool := e.segs.all segB && inB e.st 0 65536 && inB e.rel 0 4000 && decide (e.segs.length ≤ 8)
theorem all_no {α : Type} [Inhabited α] {p : α → Bool} {l : List α} {k : Nat} (hk : k < l.length) (h : p (el l k) = false) : l.all p = false := by
  cases hh : l.all p with
  | false => rfl
  | true =>
    have := List.all_eq_true.1 hh _ (el_mem hk)
    rw [h] at this; cases this
theorem all_yes {α : Type} [Inhabited α] {p : α → Bool} {l : List α} (h : ∀ i, i < l.length → p (el l i) = true) : l.all p = true := by
  rw [List.all_eq_true]
  intro x hx
  obtain ⟨i, hi, rfl⟩ := List.getElem_of_mem hx
  rw [el_eq hi]
  exact h i hi
theorem areSamples_i {M : Mem} {lo hi : Nat} {u : Value} {l : List Int} (h : SlV intP lo hi M u l) : Det Try.prog M.length 82 [u] M (.bool (areSB l)) M := by
  obtain ⟨A, n, c, rfl, h1, h2, h3⟩ := h
  have hl := h3.1
  replace h3 := h3.sl
  first | (refine det_fn Try.func82 rfl Try.ntmps82 Try.results82 rfl rfl rfl (by simp) ?_) | (refine det_fnC Try.func82 rfl Try.ntmps82 Try.results82 rfl rfl (by simp) ?_)
  simp
  refine awLoop_T (fun m T M' => ∃ k : Nat, k + m = n ∧ M' = M ∧ look T 7 = some (iv k) ∧ look T 6 = some (iv n) ∧ look T 5 = some (.slice A n c) ∧ ∀ i, i < k → sampleB (el l i) = true) n ⟨0, by omega, rfl, by simp, by simp, by simp, fun i hi => by omega⟩ ?_
  rintro m T M' ⟨k, hm, rfl, t7, t6, t5, hk⟩
  by_cases hlt : k < n
  · obtain ⟨id, off, rfl, he, hc⟩ := h3.at_ hlt
    have c1 := int_cell hc
    simp only [Nat.mul_one] at c1
    simp (disch := omega) [t7, t6, t5, hlt, c1, he]
    refine awCall_det' (isSample_a (el l k)) (Nat.le_refl _) ?_
    by_cases hs : sampleB (el l k) = true
    · have hs' : inB (el l k) (-2147483648) 2147483647 = true := hs
      simp (disch := omega) [hs', t7, t6, t5, wrap_in]
      refine lpI (m - 1) (by omega) ⟨k + 1, by omega, rfl, by simp, by simp [t6], by simp [t5], fun i hi => ?_⟩
      by_cases e : i = k
      · rw [e]; exact hs
      · exact hk i (by omega)
    · rw [Bool.not_eq_true] at hs
      have hs' : inB (el l k) (-2147483648) 2147483647 = false := hs
      simp [hs']
      exact ⟨all_no (by omega) hs, Keeps.refl _⟩
  · obtain rfl : k = n := by omega
    simp [t7, t6, Keeps.refl]
    exact all_yes fun i hi => hk i (by omega)
theorem areIndices_i {M : Mem} {lo hi : Nat} {u : Value} {l : List Int} (q : Int) (hq : 0 ≤ q) (hq' : q ≤ 9223372036854775807) (h : SlV intP lo hi M u l) : Det Try.prog M.length 123 [u, iv q] M (.bool (idxB q l)) M := by
  obtain ⟨A, n, c, rfl, h1, h2, h3⟩ := h
  have hl := h3.1
  replace h3 := h3.sl
  first | (refine det_fn Try.func123 rfl Try.ntmps123 Try.results123 rfl rfl rfl (by simp) ?_) | (refine det_fnC Try.func123 rfl Try.ntmps123 Try.results123 rfl rfl (by simp) ?_)
  simp
  refine awLoop_T (fun m T M' => ∃ k : Nat, k + m = n ∧ M' = M ∧ look T 9 = some (iv k) ∧ look T 8 = some (iv n) ∧ look T 7 = some (.slice A n c) ∧ look T 1 = some (iv q) ∧ ∀ i, i < k → inB (el l i) 0 (q - 1) = true) n ⟨0, by omega, rfl, by simp, by simp, by simp, by simp, fun i hi => by omega⟩ ?_
  rintro m T M' ⟨k, hm, rfl, t7, t6, t5, t1, hk⟩
  by_cases hlt : k < n
  · obtain ⟨id, off, rfl, he, hc⟩ := h3.at_ hlt
    have c1 := int_cell hc
    simp only [Nat.mul_one] at c1
    simp (disch := omega) [t7, t6, t5, t1, hlt, c1, he, wrap_in]
    refine awCall_det' (within_a (el l k) 0 (q - 1)) (Nat.le_refl _) ?_
    by_cases hs : inB (el l k) 0 (q - 1) = true
    · simp (disch := omega) [hs, t7, t6, t5, t1, wrap_in]
      refine lpI (m - 1) (by omega) ⟨k + 1, by omega, rfl, by simp, by simp [t6], by simp [t5], by simp [t1], fun i hi => ?_⟩
      by_cases e : i = k
      · rw [e]; exact hs
      · exact hk i (by omega)
    · rw [Bool.not_eq_true] at hs
      simp [hs]
      exact ⟨all_no (by omega) hs, Keeps.refl _⟩
  · obtain rfl : k = n := by omega
    simp [t7, t6, Keeps.refl]
    exact all_yes fun i hi => hk i (by omega)
theorem areTables_i {M : Mem} {lo hi : Nat} {u : Value} {l : List (List Int)} (h : SlV tabP lo hi M u l) : Det Try.prog M.length 122 [u] M (.bool (tablesB l)) M := by
  obtain ⟨A, n, c, rfl, h1, h2, h3⟩ := h
  have hl := h3.1
  first | (refine det_fn Try.func122 rfl Try.ntmps122 Try.results122 rfl rfl rfl (by simp) ?_) | (refine det_fnC Try.func122 rfl Try.ntmps122 Try.results122 rfl rfl (by simp) ?_)
  simp
  refine awLoop_T (fun m T M' => ∃ k : Nat, k + m = n ∧ M' = M ∧ look T 8 = some (iv k) ∧ look T 7 = some (iv n) ∧ look T 6 = some (.slice A n c) ∧ look T 0 = some (.slice A n c) ∧ ∀ i, i < k → tableB (el l i) = true) n ⟨0, by omega, rfl, by simp, by simp, by simp, by simp, fun i hi => by omega⟩ ?_
  rintro m T M' ⟨k, hm, rfl, t8, t7, t6, t0, hk⟩
  by_cases hlt : k < n
  · obtain ⟨id, off, us, rfl, he, ⟨u, rfl, hu⟩, hc⟩ := h3.at_ hlt
    have c1 := (cl_cons.1 hc).1
    simp only [Nat.mul_one] at c1
    obtain ⟨A1, n1, c1', rfl, p1, p2, p3⟩ := (show SlV intP lo hi M' _ _ from hu)
    have hn1 := p3.1
    have no : tableB (el l k) = false → tablesB l = false := fun h => by unfold tablesB; rw [all_no (by omega) h]; rfl
    simp (disch := omega) [t8, t7, t6, t0, hlt, c1, he]
    have key : tableB (el l k) = ((decide (n1 = 2) || decide (n1 = 4) || decide (n1 = 8) || decide (n1 = 16)) && areSB (el l k)) := by unfold tableB; rw [hn1]
    by_cases hsz : n1 = 2 ∨ n1 = 4 ∨ n1 = 8 ∨ n1 = 16
    case neg =>
      have e2 : ¬ n1 = 2 := by omega
      have e4 : ¬ n1 = 4 := by omega
      have e8 : ¬ n1 = 8 := by omega
      have e16 : ¬ n1 = 16 := by omega
      have f2 : ¬ (n1 : Int) = 2 := by omega
      have f4 : ¬ (n1 : Int) = 4 := by omega
      have f8 : ¬ (n1 : Int) = 8 := by omega
      have f16 : ¬ (n1 : Int) = 16 := by omega
      simp [f2, f4, f8, f16]
      exact ⟨no (by rw [key]; simp [e2, e4, e8, e16]), Keeps.refl _⟩
    have hpos : (decide (n1 = 2) || decide (n1 = 4) || decide (n1 = 8) || decide (n1 = 16)) = true := by
      rcases hsz with h | h | h | h <;> simp [h]
    rw [hpos, Bool.true_and] at key
    rcases hsz with h | h | h | h
    all_goals
      subst h
      simp
      refine awCall_det' (areSamples_i hu) (Nat.le_refl _) ?_
      by_cases hs : areSB (el l k) = true
      · simp (disch := omega) [hs, t8, t7, t6, t0, wrap_in]
        refine lpI (m - 1) (by omega) ⟨k + 1, by omega, rfl, by simp, by simp [t7], by simp [t6], by simp [t0], fun i hi => ?_⟩
        by_cases e : i = k
        · rw [e, key]; exact hs
        · exact hk i (by omega)
      · rw [Bool.not_eq_true] at hs
        simp [hs]
        exact ⟨no (by rw [key]; exact hs), Keeps.refl _⟩
  · obtain rfl : k = n := by omega
    simp [t8, t7, t0, Keeps.refl]
    unfold tablesB
    rw [all_yes fun i hi => hk i (by omega), hl]
    by_cases h4 : k ≤ 4 <;> simp [h4] <;> omega
theorem isEnvelope_i {M : Mem} {lo hi : Nat} {us : List Value} {x : Envl} (h : envP.rd lo hi M x us) : Det Try.prog M.length 81 [.agg us.toArray] M (.bool (envB x)) M := by
  obtain ⟨u, rfl, hu⟩ := h
  obtain ⟨A, n, c, rfl, h1, h2, h3⟩ := hu
  have hl := h3.1
  replace h3 := h3.sl
  have lev : ∀ {M : Mem} (z : Int), Det Try.prog M.length 110 [iv z] M (.bool (inB z 0 65536)) M := fun {M} z => by
    first | (refine det_fn Try.func110 rfl Try.ntmps110 Try.results110 rfl rfl rfl (by simp) ?_) | (refine det_fnC Try.func110 rfl Try.ntmps110 Try.results110 rfl rfl (by simp) ?_)
    simp
    refine awCall_det' (within_a _ _ _) (by simp) ?_
    simp [Keeps.refl]
  first | (refine det_fn Try.func81 rfl Try.ntmps81 Try.results81 rfl rfl rfl (by simp) ?_) | (refine det_fnC Try.func81 rfl Try.ntmps81 Try.results81 rfl rfl (by simp) ?_)
  simp
  obtain ⟨M0, hM0⟩ : ∃ M0 : Mem, M0 = M ++ [Slot.live ⟨[iv x.st, .slice A n c, iv x.rel], true, true, 51, 3⟩] := ⟨_, rfl⟩
  have k0 : Keeps M M0 := by rw [hM0]; exact keeps_app _
  have b0 : cellAt M0 M.length 0 = some (iv x.st) := by rw [hM0]; simp
  have b1 : cellAt M0 M.length 1 = some (.slice A n c) := by rw [hM0]; simp
  have b2 : cellAt M0 M.length 2 = some (iv x.rel) := by rw [hM0]; simp
  have l0 := k0.len
  rw [← hM0]
  clear hM0
  refine awLoop_T (fun m T M' => ∃ k : Nat, k + m = n ∧ Keeps M0 M' ∧ look T 8 = some (iv k) ∧ look T 7 = some (iv n) ∧ look T 6 = some (.slice A n c) ∧ look T 1 = some (.pointer (some ⟨M.length, 0, none⟩)) ∧ ∀ i, i < k → segB (el x.segs i) = true) n ⟨0, by omega, Keeps.refl _, by simp, by simp, by simp, by simp, fun i hi => by omega⟩ ?_
  rintro m T M1 ⟨k, hm, k1, t8, t7, t6, t1, hk⟩
  have k01 := k0.trans k1
  have l1 := k1.len
  by_cases hlt : k < n
  · obtain ⟨id, off, rfl, he, hc⟩ := (h3.keeps k01).at_ hlt
    have no : segB (el x.segs k) = false → envB x = false := fun h => by unfold envB; rw [all_no (by omega) h]; rfl
    simp (disch := omega) [t8, t7, t6, t1, hlt, segment_load hc, he]
    refine awCall_det' (lev (el x.segs k).tg) (by simp; omega) ?_
    by_cases g1 : inB (el x.segs k).tg 0 65536 = true
    · simp (disch := omega) [g1]
      refine awCall_det' (isCount_a (el x.segs k).ln) (by simp; omega) ?_
      by_cases g2 : inB (el x.segs k).ln 0 4000 = true
      · simp (disch := omega) [g2, t8, t7, t6, t1, wrap_in]
        refine lpI (m - 1) (by omega) ⟨k + 1, by omega, k1.app _, by simp, by simp [t7], by simp [t6], by simp [t1], fun i hi => ?_⟩
        by_cases e : i = k
        · rw [e]; unfold segB; rw [g1, g2]; rfl
        · exact hk i (by omega)
      · rw [Bool.not_eq_true] at g2
        simp [g2]
        exact ⟨no (by unfold segB; rw [g2]; simp), k01.app _⟩
    · rw [Bool.not_eq_true] at g1
      simp [g1]
      exact ⟨no (by unfold segB; rw [g1]; rfl), k01.app _⟩
  · obtain rfl : k = n := by omega
    have ha : x.segs.all segB = true := all_yes fun i hi => hk i (by omega)
    simp (disch := omega) [t8, t7, t1, cellAt_keeps k1 b0]
    refine awCall_det' (lev x.st) (by omega) ?_
    by_cases g1 : inB x.st 0 65536 = true
    · simp (disch := omega) [g1, t1, cellAt_keeps k1 b2]
      refine awCall_det' (isCount_a x.rel) (by omega) ?_
      by_cases g2 : inB x.rel 0 4000 = true
      · by_cases g3 : k ≤ 8
        · simp (disch := omega) [g2, t1, cellAt_keeps k1 b1, g3]
          exact ⟨by unfold envB; rw [ha, g1, g2, hl]; simpa using by omega, k01⟩
        · have g3' : ¬ (k : Int) ≤ 8 := by omega
          simp (disch := omega) [g2, t1, cellAt_keeps k1 b1, g3']
          exact ⟨by unfold envB; rw [ha, g1, g2, hl]; simpa using by omega, k01⟩
      · rw [Bool.not_eq_true] at g2
        simp [g2]
        exact ⟨by unfold envB; rw [g2]; simp, k01⟩
    · rw [Bool.not_eq_true] at g1
      simp [g1]
      exact ⟨by unfold envB; rw [g1]; simp, k01⟩
end Go.Proofs.Ytimijeeihicohaa

namespace Go.Proofs.Ytimijeeihicohaa
open Go.RowKit
set_option linter.unusedVariables false
set_option linter.unusedSimpArgs false
set_option maxRecDepth 100000
attribute [local simp] List.getElem?_cons_zero
attribute [local irreducible] awCond awCall awLoop awDraw ow retQ retC resQ Keeps
structure Kd where
  name : ByteArray
  (inp lo hi : Int)
  (lin hasB : Bool)
instance : Inhabited Kd := ⟨⟨.empty, 0, 0, 0, false, false⟩⟩
def Kd.row (c : Kd) : List Value := [.string c.name, iv c.inp, iv c.lo, iv c.hi, .bool c.lin, .bool c.hasB]
def kdR : RecV Kd 6 := ⟨Kd.row, fun _ => rfl⟩
def kindsL : List Kd := [⟨{ data := #[105, 110, 112, 117, 116] }, 0, 0, 3, true, false⟩, ⟨{ data := #[99, 111, 110, 115, 116] }, 0, (-2147483648), 2147483647, false, false⟩, ⟨{ data := #[97, 100, 100] }, 2, 1, 0, true, false⟩, ⟨{ data := #[115, 117, 98] }, 2, 1, 0, true, false⟩, ⟨{ data := #[103, 97, 105, 110] }, 1, (-2147483648), 2147483647, true, false⟩, ⟨{ data := #[100, 101, 108, 97, 121] }, 1, 1, 16, true, false⟩, ⟨{ data := #[115, 117, 109] }, 1, 1, 0, true, false⟩, ⟨{ data := #[100, 105, 102, 102] }, 1, 1, 0, true, false⟩, ⟨{ data := #[109, 117, 108] }, 2, 1, 0, false, false⟩, ⟨{ data := #[115, 104, 105, 102, 116] }, 1, 0, 31, false, false⟩, ⟨{ data := #[99, 108, 105, 112] }, 1, 0, 2147483647, false, false⟩, ⟨{ data := #[112, 104, 97, 115, 101] }, 1, (-2147483648), 2147483647, false, false⟩, ⟨{ data := #[116, 97, 98, 108, 101] }, 1, 0, 3, false, false⟩, ⟨{ data := #[110, 111, 105, 115, 101] }, 0, (-2147483648), 2147483647, false, false⟩, ⟨{ data := #[115, 101, 108, 101, 99, 116] }, 3, 1, 0, false, false⟩, ⟨{ data := #[104, 111, 108, 100] }, 2, 1, 0, false, false⟩, ⟨{ data := #[99, 111, 109, 98] }, 1, (-2147483648), 2147483647, true, true⟩]
theorem fill_recs {α : Type} {k : Nat} (R : RecV α k) (l : List α) {n : Nat} {z : List Value} (hk : 0 < k) (hn : l.length = n) (hz : z.length = k) : Instr.fill (fun i => some (i * k, k)) (zrow z n).toArray (((l.map fun a => Value.agg (R.row a).toArray).zipIdx 0).map fun x => (x.2, x.1)) = some (cellsL R l).toArray := by
  have hzl : ∀ n, (zrow z n).length = n * k := by
    intro n
    induction n with
    | zero => simp [zrow_zero']
    | succ n ih => rw [zrow_succ, List.length_append, ih, hz, Nat.add_mul]; omega
  have h := Go.Great.fill_whole (s := k) hk (l.map fun a => Value.agg (R.row a).toArray) (zrow z n).toArray (fun v hv => by
    obtain ⟨x, -, rfl⟩ := List.mem_map.1 hv
    show (R.row x).toArray.size = k
    rw [List.size_toArray, R.len]) (by simp [hzl, hn])
  rw [h]
  congr 2
  clear h hn hzl
  induction l with
  | nil => rfl
  | cons a l ih => simp only [List.map_cons, List.flatMap_cons, ih, cellsL_cons]; rfl
theorem kd_build (s : ByteArray) (a b c : Int) (l h : Bool) : Instr.fill (fun x => [(0, 1), (1, 1), (2, 1), (3, 1), (4, 1), (5, 1)][x]?) #[.string .empty, iv 0, iv 0, iv 0, .bool false, .bool false] [(0, .string s), (1, iv a), (2, iv b), (3, iv c), (4, .bool l), (5, .bool h)] = some #[.string s, iv a, iv b, iv c, .bool l, .bool h] := by
  simp [Instr.fill, Value.cells]
theorem kinds_fill : Instr.fill (fun i => some (i * 6, 6)) (zrow [.string .empty, iv 0, iv 0, iv 0, .bool false, .bool false] 17).toArray [(0, .agg #[.string { data := #[105, 110, 112, 117, 116] }, iv 0, iv 0, iv 3, .bool true, .bool false]), (1, .agg #[.string { data := #[99, 111, 110, 115, 116] }, iv 0, iv (-2147483648), iv 2147483647, .bool false, .bool false]), (2, .agg #[.string { data := #[97, 100, 100] }, iv 2, iv 1, iv 0, .bool true, .bool false]), (3, .agg #[.string { data := #[115, 117, 98] }, iv 2, iv 1, iv 0, .bool true, .bool false]), (4, .agg #[.string { data := #[103, 97, 105, 110] }, iv 1, iv (-2147483648), iv 2147483647, .bool true, .bool false]), (5, .agg #[.string { data := #[100, 101, 108, 97, 121] }, iv 1, iv 1, iv 16, .bool true, .bool false]), (6, .agg #[.string { data := #[115, 117, 109] }, iv 1, iv 1, iv 0, .bool true, .bool false]), (7, .agg #[.string { data := #[100, 105, 102, 102] }, iv 1, iv 1, iv 0, .bool true, .bool false]), (8, .agg #[.string { data := #[109, 117, 108] }, iv 2, iv 1, iv 0, .bool false, .bool false]), (9, .agg #[.string { data := #[115, 104, 105, 102, 116] }, iv 1, iv 0, iv 31, .bool false, .bool false]), (10, .agg #[.string { data := #[99, 108, 105, 112] }, iv 1, iv 0, iv 2147483647, .bool false, .bool false]), (11, .agg #[.string { data := #[112, 104, 97, 115, 101] }, iv 1, iv (-2147483648), iv 2147483647, .bool false, .bool false]), (12, .agg #[.string { data := #[116, 97, 98, 108, 101] }, iv 1, iv 0, iv 3, .bool false, .bool false]), (13, .agg #[.string { data := #[110, 111, 105, 115, 101] }, iv 0, iv (-2147483648), iv 2147483647, .bool false, .bool false]), (14, .agg #[.string { data := #[115, 101, 108, 101, 99, 116] }, iv 3, iv 1, iv 0, .bool false, .bool false]), (15, .agg #[.string { data := #[104, 111, 108, 100] }, iv 2, iv 1, iv 0, .bool false, .bool false]), (16, .agg #[.string { data := #[99, 111, 109, 98] }, iv 1, iv (-2147483648), iv 2147483647, .bool true, .bool true])] = some (cellsL kdR kindsL).toArray := by
  have h := fill_recs kdR kindsL (n := 17) (z := [.string .empty, iv 0, iv 0, iv 0, .bool false, .bool false]) (by omega) rfl rfl
  generalize hX : (cellsL kdR kindsL).toArray = X at h ⊢
  clear hX
  simp only [kindsL, List.map_cons, List.map_nil, List.zipIdx_cons, List.zipIdx_nil, kdR, Kd.row, Nat.zero_add, Nat.reduceAdd] at h
  exact h
def hasAB (k : Kd) : Bool := decide (k.lo ≤ k.hi)
def kOf (x : Node) : Kd := el kindsL (x.k - 1).toNat
def numB (k : Kd) (x : Node) : Bool := !((hasAB k && !inB x.a k.lo k.hi) || (!hasAB k && decide (x.a ≠ 0)) || (k.hasB && !inB x.b 1 16) || (!k.hasB && decide (x.b ≠ 0)))
def endB (k : Kd) (x : Node) (t : Int) : Bool := decide ((x.from_.length : Int) = k.inp) && (decide (x.k ≠ 13) || decide (x.a < t))
def nodeB (x : Node) (t : Int) : Bool := inB x.k 1 17 && (numB (kOf x) x && (x.from_.all (fun f => inB f 0 23) && endB (kOf x) x t))
def arityL : List Int := [-1, 0, 0, 2, 2, 1, 1, 1, 1, 2, 1, 1, 1, 1, 0, 3, 2, 1]
def hasAL : List Int := [1, 2, 5, 6, 10, 11, 12, 13, 14, 17]
def aB (x : Node) (t : Int) : Bool := if x.k = 1 then inB x.a 0 3 else if x.k = 6 then inB x.a 1 16 else if x.k = 10 then inB x.a 0 31 else if x.k = 11 then inB x.a 0 2147483647 else if x.k = 13 then inB x.a 0 (min (max t 0) 4 - 1) else if x.k ∈ hasAL then sampleB x.a else decide (x.a = 0)
def nodeB2 (x : Node) (t : Int) : Bool := inB x.k 1 17 && (aB x t && (decide ((x.from_.length : Int) = el arityL x.k.toNat) && (x.from_.all (fun f => inB f 0 23) && if x.k = 17 then inB x.b 1 16 else decide (x.b = 0))))
theorem nodeB_eq (x : Node) (t : Int) : nodeB x t = nodeB2 x t := by
  by_cases hk : inB x.k 1 17 = true
  case neg => simp [nodeB, nodeB2, hk]
  have hr := inB_iff.1 hk
  unfold nodeB nodeB2
  rw [hk, Bool.true_and, Bool.true_and]
  generalize x.from_.all (fun f => inB f 0 23) = F
  obtain ⟨k, a, b, l⟩ := x
  simp only at hr hk ⊢
  have h17 : k = 1 ∨ k = 2 ∨ k = 3 ∨ k = 4 ∨ k = 5 ∨ k = 6 ∨ k = 7 ∨ k = 8 ∨ k = 9 ∨ k = 10 ∨ k = 11 ∨ k = 12 ∨ k = 13 ∨ k = 14 ∨ k = 15 ∨ k = 16 ∨ k = 17 := by omega
  clear hr hk
  cases F
  · simp
  rcases h17 with h | h | h | h | h | h | h | h | h | h | h | h | h | h | h | h | h
  all_goals
    subst h
    simp only [numB, endB, kOf, hasAB, aB, kindsL, arityL, hasAL, el, sampleB]
    generalize (l.length : Int) = n
    simp
    rw [Bool.eq_iff_iff]
    simp [inB_iff]
    try omega
theorem kinds_i {M : Mem} : Det Try.prog M.length 134 [] M (.slice (some ⟨M.length, 0, none⟩) 17 17) (M ++ [.live ⟨cellsL kdR kindsL, true, true, 165, 6⟩]) := by
  refine Ctr.det ?_
  first | (refine ctr_fn Try.func134 rfl Try.ntmps134 Try.results134 rfl rfl (by simp) ?_) | (refine ctr_fnC Try.func134 rfl Try.ntmps134 Try.results134 rfl (by simp) ?_)
  simp [kd_build]
  rw [kinds_fill, ow_some]
  simp
end Go.Proofs.Ytimijeeihicohaa
