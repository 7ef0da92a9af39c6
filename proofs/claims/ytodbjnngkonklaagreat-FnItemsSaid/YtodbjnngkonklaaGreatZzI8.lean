/- Parts of the proof, together: From a law's walk over abstract states to the row. Lists that grow by append. Nested lists and records in memory. Lists of numbers, and lists of them: the laws' helpers. Slices of nested values are made anew, one element behind the other. Arguments of laws that are nested lists and records. Pitch: records in memory, and the laws' helpers on them. Interval: records in memory, and the laws' helpers  No conditions. -/
import Derived.Test.YtodbjnngkonklaaGreatZzI7
import Derived.ProofKit
import Derived.OpenShut
import Derived.Deep.Slices
import Derived.Deep.Fields
import Derived.WalkLawsBesides
import Derived.Laws.StructEq
namespace Go.Proofs.YtodbjnngkonklaaGreat
open Go.ChangeShapes Go.WideShapes Go.ChangeAt Go.RowKit Go.Deep
set_option linter.unusedVariables false
set_option linter.unusedSimpArgs false
set_option maxRecDepth 100000

def ints (l : List Int) : List Value := l.map iv
def gi (l : List Int) (k : Nat) : Int := l.getD k 0
theorem ints_len (l : List Int) : (ints l).length = l.length := by simp [ints]
theorem ints_get {l : List Int} {k : Nat} (h : k < l.length) : (ints l)[k]? = some (iv (gi l k)) := by
  simp [ints, gi, h]
/-- The slice .slice A n c reads in w as the cells xs, s cells an element. -/
def Rd (w : World) (s : Nat) (A : Option Addr) (n c : Nat) (xs : List Value) : Prop :=
  xs.length = n * s ∧ n ≤ c ∧ c ≤ maxLen ∧ (0 < n → ∃ ad : Addr, A = some ad ∧ ad.block < w.heap.size ∧ ∀ j u, xs[j]? = some u → w.cell? (ad.add j) = some u)
theorem add_add' (a : Addr) (i j : Nat) : (a.add i).add j = a.add (i + j) := by
  unfold Addr.add
  by_cases hi : i = 0 <;> by_cases hj : j = 0 <;> simp [hi, hj, Nat.add_assoc]

theorem own_knob : ownKnob Tryz.prog.godebug = none := by kernel_rfl
theorem laid_out : laidOutB Tryz.prog = true := by kernel_rfl

section
variable {H : Type} {enc : TypeId × Value → H}
theorem trodAll_stays {W W' : World} {sp : Nat → Bool} (hb : Below W.heap.size W W') : ∀ (ts : List TypeId) (vs : List Value) (ds : List (DataW H)) (ps : List MemPlace),
    (∀ t ∈ ts, Tryz.prog.readableRec t = true ∧ t < Tryz.prog.types.size) → DataW.TrodAll enc Tryz.prog W 0 (fun _ => true) true ts vs ds ps → (∀ x ∈ ps, x.block < W.heap.size) → (∀ x ∈ ps, sp x.block = true) →
    DataW.TrodAll enc Tryz.prog W' 0 sp true ts vs ds ps
  | [], [], [], _, _, h, _, _ => h
  | t :: ts, v :: vs, d :: ds, ps, ht, h, hl, hs => by
    obtain ⟨p, q, h1, h2, rfl⟩ := h
    refine ⟨p, q, WideElems.Trod_stays laid_out (ht t (by simp)).1 (ht t (by simp)).2 h1 (fun x hx => hb.same (hl x (by simp [hx]))) (fun x hx => hs x (by simp [hx])), ?_, rfl⟩
    exact trodAll_stays hb ts vs ds q (fun t' h' => ht t' (by simp [h'])) h2 (fun x hx => hl x (by simp [hx])) (fun x hx => hs x (by simp [hx]))
  | [], [], _ :: _, _, _, h, _, _ => h.elim
  | [], _ :: _, _, _, _, h, _, _ => h.elim
  | _ :: _, [], _, _, _, h, _, _ => h.elim
  | _ :: _, _ :: _, [], _, _, h, _, _ => h.elim

/-- The row's post out of the walk's end, for a law: it returned true, and nothing old has turned. -/
theorem law_post {f : Func} {s : ChangeSpec} {W W' : World} {args : Array Value} {ds gs : List (DataW H)} {before : List MemPlace}
    (hvars : s.vars = []) (hres : f.resultTypes = #[4]) (hread0 : (f.params.toList.all fun t => Tryz.prog.readableRec t && decide (t < Tryz.prog.types.size)) = true)
    (hs : s.fn H ds = { results := [.lit (.bool true)], args := ds })
    (hW : DataW.Whole enc Tryz.prog f.params.toList s.vars false W args.toList ds gs before) (hb : Below W.heap.size W W') :
    s.post enc Tryz.prog f false true false false W args (.bool true) W' := by
  have hread : ∀ t ∈ f.params.toList, Tryz.prog.readableRec t = true ∧ t < Tryz.prog.types.size := fun t ht => by
    have := List.all_eq_true.1 hread0 t ht
    simpa using this
  have hlt : ∀ p ∈ before, p.block < W.heap.size := fun p hp => hW.lt p hp
  have hW0 := hW
  obtain ⟨p, q, hA, hV, rfl, hfz, hnd⟩ := hW
  rw [hvars] at hV
  obtain ⟨rfl, rfl⟩ := trodVars_none hV
  rw [List.append_nil] at hlt hW0
  have hargs : ∀ sp : Nat → Bool, (∀ x ∈ p, sp x.block = true) → DataW.TrodAll enc Tryz.prog W' 0 sp true f.params.toList args.toList ds p :=
    fun sp hsp => trodAll_stays hb _ _ _ _ hread hA hlt hsp
  have hr : ∀ (b : Nat) (sp : Nat → Bool) (hd : Bool), DataW.TrodAll enc Tryz.prog W' b sp hd f.resultTypes.toList ((Value.bool true).resultList f.resultTypes.size) [.lit (.bool true)] [] := by
    intro b sp hd
    rw [hres]
    exact trodAll_mk1 (shut_bool Tryz.underlying4 _)
  refine ⟨ds, [], p, [], p, [], hW0, ?_, ?_, ?_, World.keptBut_mono (fun x hx => ⟨hx, ?_⟩) (hb.frame (· ∈ p)), fun h => by cases h⟩
  · rw [List.append_nil, hs]; exact hr _ _ _
  · rw [List.append_nil, hs]; exact hargs _ (fun x hx => by simpa using hlt x hx)
  · rw [hvars]; simp only [hs, List.append_nil]; rfl
  · exact Or.inr (by simpa using hx)
/-- Is the type made of int64 alone (cells that its fields cover)? -/
noncomputable def flatB : Nat → TypeId → Bool
  | 0, _ => false
  | d + 1, t =>
    match Tryz.prog.underlying t with
    | some (.int .i64) => true
    | some (.struct fs) => (fs.toList.all fun f => flatB d f.type) && ((List.range (Tryz.prog.cellsOf t)).all fun j => fs.toList.any fun f => decide (f.offset ≤ j) && decide (j < f.offset + Tryz.prog.cellsOf f.type))
    | _ => false
theorem trod_flat : ∀ (d : Nat) (t : TypeId), flatB d t = true → ∀ {W : World} {base : Nat} {spare : Nat → Bool} {held : Bool} {n : Nat} {cs : List Value} {x : DataW H × List MemPlace},
    DataW.trod enc Tryz.prog W base spare held n t cs = some x → ∀ v ∈ cs, ∃ z : Int, v = iv z ∧ (Lit.int .i64 z).wf = true
  | 0, _, h => by simp [flatB] at h
  | d + 1, t, h => by
    rename_i W base spare held n cs x
    intro hx v hv
    unfold flatB at h
    split at h
    · rename_i ht
      obtain ⟨z, rfl, -, hw⟩ := DataW.trod_int ht hx
      simp only [List.mem_singleton] at hv
      exact ⟨z, hv, hw⟩
    · rename_i fs ht
      simp only [Bool.and_eq_true, List.all_eq_true, List.any_eq_true, decide_eq_true_eq] at h
      obtain ⟨h1, h2⟩ := h
      obtain ⟨xs, m, -, -, hlen, hxl, hf⟩ := DataW.trod_struct ht hx
      obtain ⟨j, hj, rfl⟩ := List.getElem_of_mem hv
      obtain ⟨f, hfm, hlo, hhi⟩ := h2 j (by rw [List.mem_range]; omega)
      obtain ⟨i, hi, rfl⟩ := List.getElem_of_mem hfm
      have hi' : i < fs.size := by simpa using hi
      have hfi : fs[i]? = some fs.toList[i] := by simp [hi']
      have hy := hf i _ hfi
      have hxi : xs[i]? = some xs[i] := List.getElem?_eq_getElem (by omega)
      rw [hxi] at hy
      refine trod_flat d _ (h1 _ hfm) hy _ ?_
      have hs : ((cs.drop fs.toList[i].offset).take (Tryz.prog.cellsOf fs.toList[i].type))[j - fs.toList[i].offset]? = some cs[j] := by
        rw [List.getElem?_take, if_pos (by omega), List.getElem?_drop, show fs.toList[i].offset + (j - fs.toList[i].offset) = j by omega, List.getElem?_eq_getElem hj]
      exact List.mem_of_getElem? hs
    · simp at h

theorem ints_of {cs : List Value} (h : ∀ v ∈ cs, ∃ z : Int, v = iv z ∧ (Lit.int .i64 z).wf = true) : ∃ zs : List Int, cs = ints zs ∧ ∀ z ∈ zs, (Lit.int .i64 z).wf = true := by
  induction cs with
  | nil => exact ⟨[], rfl, by simp⟩
  | cons v cs ih =>
    obtain ⟨z, rfl, hz⟩ := h _ (List.mem_cons_self)
    obtain ⟨zs, rfl, hzs⟩ := ih fun v hv => h v (List.mem_cons_of_mem _ hv)
    exact ⟨z :: zs, rfl, by simpa using ⟨hz, hzs⟩⟩

/-- An argument that is a slice of structs of int64 alone. -/
theorem open_flats_t {W : World} {t e : TypeId} {k : Nat} {v : Value} {d : DataW H} {p q : List MemPlace} (ht : Tryz.prog.underlying t = some (.slice e)) (hB : flatB 5 e = true) (hk : Tryz.prog.cellsOf e = k) (hk0 : 0 < k)
    (hlt : ∀ x ∈ q, x.block < W.heap.size) {fuel : Nat}
    (hf : DataW.trod enc Tryz.prog W 0 (fun _ => true) true fuel t [v] = some (d, p)) (hp : ∀ x ∈ p, x ∈ q) : ∃ (A : Option Addr) (n c : Nat) (zs : List Int), v = .slice A n c ∧ Rd W k A n c (ints zs) ∧ (A = none → n = 0 ∧ c = 0) ∧ ∀ z ∈ zs, (Lit.int .i64 z).wf = true := by
  obtain ⟨a0, len, cap, rfl⟩ : ∃ a0 len cap, v = .slice a0 len cap := by
    rcases open_slice ht hf with ⟨hcs, _⟩ | ⟨a, len', cap', m, n, D, Pl, hcs, _⟩
    · injection hcs with hcs
      exact ⟨_, _, _, hcs⟩
    · injection hcs with hcs
      exact ⟨_, _, _, hcs⟩
  rcases open_slice ht hf with ⟨hcs, hx⟩ | ⟨a, len', cap', m, n, D, Pl, hcs, hb, hl, hm, hmm, hx, hi⟩
  · have hcs' : [Value.slice a0 len cap] = [.slice none 0 0] := hcs
    injection hcs' with hcs''
    injection hcs'' with h1 h2 h3
    subst h1; subst h2; subst h3
    exact ⟨_, _, _, [], rfl, ⟨by simp [ints], Nat.le_refl _, Nat.zero_le _, fun h => absurd h (by omega)⟩, fun _ => ⟨rfl, rfl⟩, by simp⟩
  · have hcs' : [Value.slice a0 len cap] = [.slice (some a) len' cap'] := hcs
    injection hcs' with hcs''
    injection hcs'' with h1 h2 h3
    subst h1; subst h2; subst h3
    simp only [if_pos] at hmm
    subst hmm
    rw [hk] at hx hi
    have each : ∀ i, i < len → ∃ zs : List Int, zs.length = k ∧ (∀ z ∈ zs, (Lit.int .i64 z).wf = true) ∧ ∀ j, j < k → W.cell? ((a.add (i * k)).add j) = some (iv (gi zs j)) := by
      intro i hil
      obtain ⟨cs', hc, ht'⟩ := hi i (by omega)
      obtain ⟨_, hcl, hat⟩ := World.cells?_some hc
      obtain ⟨zs, rfl, hw⟩ := ints_of (trod_flat 5 e hB ht')
      rw [ints_len] at hcl
      exact ⟨zs, hcl, hw, fun j hj => by rw [hat j hj, ints_get (by omega)]⟩
    have all : ∀ n', n' ≤ len → ∃ zs : List Int, zs.length = n' * k ∧ (∀ z ∈ zs, (Lit.int .i64 z).wf = true) ∧ ∀ j, j < n' * k → W.cell? (a.add j) = some (iv (gi zs j)) := by
      intro n'
      induction n' with
      | zero => exact fun _ => ⟨[], by simp, by simp, fun j hj => by omega⟩
      | succ n' ih =>
        intro hn'
        obtain ⟨zs, hz1, hz2, hz3⟩ := ih (by omega)
        obtain ⟨ys, hy1, hy2, hy3⟩ := each n' (by omega)
        refine ⟨zs ++ ys, by rw [List.length_append, hz1, hy1, Nat.add_mul, Nat.one_mul], fun z hz => ?_, fun j hj => ?_⟩
        · rcases List.mem_append.1 hz with h | h
          · exact hz2 z h
          · exact hy2 z h
        · rw [Nat.add_mul, Nat.one_mul] at hj
          by_cases hjl : j < n' * k
          · rw [hz3 j hjl]
            unfold gi
            simp only [List.getD_eq_getElem?_getD]
            rw [List.getElem?_append_left (by omega)]
          · have := hy3 (j - n' * k) (by omega)
            rw [add_add', show n' * k + (j - n' * k) = j by omega] at this
            rw [this]
            unfold gi
            simp only [List.getD_eq_getElem?_getD]
            rw [List.getElem?_append_right (by omega), hz1]
    obtain ⟨zs, hz1, hz2, hz3⟩ := all len (Nat.le_refl _)
    refine ⟨_, _, _, zs, rfl, ⟨by rw [ints_len, hz1], hl, hm, fun hn => ⟨a, rfl, ?_, fun j u hu => ?_⟩⟩, (fun h => nomatch h), hz2⟩
    · injection hx with _ hp'
      have hmem : ∃ x ∈ p, x.block = a.block := by
        refine ⟨.cell a.block (a.off + 0), ?_, rfl⟩
        rw [hp']
        refine List.mem_append_left _ ?_
        unfold MemPlace.row
        exact List.mem_map.2 ⟨0, by rw [List.mem_range]; exact Nat.mul_pos (by omega) hk0, rfl⟩
      obtain ⟨x, hx1, hx2⟩ := hmem
      rw [← hx2]
      exact hlt x (hp x hx1)
    · have hj : j < len * k := by
        have := (List.getElem?_eq_some_iff.1 hu).1
        rw [ints_len, hz1] at this
        exact this
      rw [hz3 j hj]
      rw [ints_get (by omega)] at hu
      exact hu

end

/-- A memory of rows that are only read. -/
structure Ro (M : Mem) (μ : Map) (w : World) : Prop where
  sim : Sim M μ w
  ro : ∀ (i : Nat) r, M[i]? = some (.live r) → r.own = false
/-- Arguments so far: they have abstract forms. -/
structure AR (w : World) (M : Mem) (μ : Map) (vs cs : List Value) : Prop where
  ro : Ro M μ w
  rel : LRel M μ vs cs
def Arg (w : World) (c : Value) (K : Mem → Value → Prop) : Prop :=
  ∀ M μ, Ro M μ w → ∃ L μ' v, Ro (M ++ L) μ' w ∧ VRel (M ++ L) μ' v c ∧ K (M ++ L) v ∧ ∀ x y, VRel M μ x y → VRel (M ++ L) μ' x y
theorem AR.nil (w : World) (hG : gOn = true → GOk w.heap[gB]? ∧ gB < w.heap.size := by intro h; exact absurd h (by decide)) : AR w [] ⟨fun _ => ⟨0, 0, none⟩, fun _ => 0⟩ [] [] := ⟨⟨⟨fun id r h => by simp at h, fun i j r s h => by simp at h, fun hon => ⟨(hG hon).1, (hG hon).2, fun i r h => by simp at h⟩, fun id r es h => by simp at h, fun i j r es es' h => by simp at h⟩, fun i r h => by simp at h⟩, .nil⟩
theorem LRel.snoc {M : Mem} {μ : Map} {x y : Value} {xs ys : List Value} (h : LRel M μ xs ys) (h' : VRel M μ x y) : LRel M μ (xs ++ [x]) (ys ++ [y]) := by
  refine ⟨by simp [h.1], fun i u v hu hv => ?_⟩
  rcases getElem?_snoc_inv hu with ⟨hi, hu⟩ | ⟨rfl, rfl⟩
  · rw [getElem?_snoc_lt (by rw [← h.1]; exact hi)] at hv
    exact h.2 i u v hu hv
  · rw [h.1, getElem?_snoc_eq] at hv
    injection hv with hv
    subst hv
    exact h'
theorem AR.next {w : World} {M : Mem} {μ : Map} {vs cs : List Value} {c : Value} {K : Mem → Value → Prop} (h : AR w M μ vs cs) (ha : Arg w c K) :
    ∃ L μ' v, AR w (M ++ L) μ' (vs ++ [v]) (cs ++ [c]) ∧ K (M ++ L) v := by
  obtain ⟨L, μ', v, h1, h2, h3, h4⟩ := ha M μ h.ro
  exact ⟨L, μ', v, ⟨h1, LRel.snoc ⟨h.rel.1, fun i x y hx hy => h4 _ _ (h.rel.2 i x y hx hy)⟩ h2⟩, h3⟩
theorem Arg.plain {w : World} {c : Value} (h : plainV c = true) : Arg w c fun _ v => v = c :=
  fun M μ hr => ⟨[], μ, c, by simpa using hr, .plain h, rfl, fun x y h => by simpa using h⟩
theorem VRel.self_plain {M : Mem} {μ : Map} {cs : List Value} (h : ∀ v ∈ cs, plainV v = true) : LRel M μ cs cs := ⟨rfl, fun i x y hx hy => by
  rw [hx] at hy; injection hy with hy; subst hy
  exact .plain (h _ (List.mem_of_getElem? hx))⟩
theorem Arg.agg {w : World} {cs : List Value} (h : ∀ v ∈ cs, plainV v = true) : Arg w (.agg cs.toArray) fun _ v => v = .agg cs.toArray :=
  fun M μ hr => ⟨[], μ, _, by simpa using hr, VRel.mk_agg (VRel.self_plain h), rfl, fun x y h => by simpa using h⟩
/-- One more row that is only read. -/
theorem Ro.row {M : Mem} {μ : Map} {w : World} (h : Ro M μ w) {a : Addr} {cells : List Value} {e : TypeId} {k : Nat} (hlt : a.block < w.heap.size)
    (hc : ∀ (j : Nat) c, cells[j]? = some c → ∃ d, w.cell? (a.add j) = some d ∧ VRel M μ c d) :
    Ro (M ++ [.live ⟨cells, false, false, e, k⟩]) (μ.set M.length a 0) w ∧ ∀ x y, VRel M μ x y → VRel (M ++ [.live ⟨cells, false, false, e, k⟩]) (μ.set M.length a 0) x y := by
  have hv : ∀ x y, VRel M μ x y → VRel (M ++ [.live ⟨cells, false, false, e, k⟩]) (μ.set M.length a 0) x y := fun x y hx => hx.same fun i s hs _ => by
    have hi := (List.getElem?_eq_some_iff.1 hs).1
    exact ⟨by rw [getElem?_snoc_lt hi]; exact hs, Map.set_at_ne (by omega), Map.set_room_ne (by omega)⟩
  have hro : ∀ (i : Nat) r, (M ++ [.live ⟨cells, false, false, e, k⟩])[i]? = some (.live r) → r.own = false := fun i r hr => by
    rcases getElem?_snoc_inv hr with ⟨hi, hr⟩ | ⟨rfl, he⟩
    · exact h.ro i r hr
    · injection he with he; subst he; rfl
  refine ⟨⟨⟨fun id r hr => ?_, fun i j r s hr _ _ ho => ?_, fun hon => ⟨(h.sim.glob hon).1, (h.sim.glob hon).2.1, fun i r hr ho => by rw [hro i r hr] at ho; cases ho⟩, h.sim.mapsKeep (fun _ _ _ => rfl) (fun id r es hr => by
    rcases getElem?_snoc_inv hr with ⟨_, h1⟩ | ⟨_, h1⟩
    · exact h1
    · cases h1)⟩, hro⟩, hv⟩
  · rcases getElem?_snoc_inv hr with ⟨hi, hr⟩ | ⟨rfl, he⟩
    · have hR := h.sim.row id r hr
      have hat : (μ.set M.length a 0).at_ id = μ.at_ id := Map.set_at_ne (by omega)
      have ho := h.ro id r hr
      refine ⟨by rw [hat]; exact hR.lt, fun j c hj => ?_, fun ho' => by rw [ho] at ho'; cases ho'⟩
      obtain ⟨d, h1, h2⟩ := hR.cell j c hj
      rw [hat]
      exact ⟨d, h1, hv _ _ h2⟩
    · injection he with he
      subst he
      have hat : (μ.set M.length a 0).at_ M.length = a := by simp [Map.set]
      refine ⟨by rw [hat]; exact hlt, fun j c hj => ?_, fun ho' => by cases ho'⟩
      obtain ⟨d, h1, h2⟩ := hc j c hj
      rw [hat]
      exact ⟨d, h1, hv _ _ h2⟩
  · rw [hro i r hr] at ho; cases ho
/-- One more slot without a row. -/
theorem Ro.dead {M : Mem} {μ : Map} {w : World} (h : Ro M μ w) : Ro (M ++ [.dead]) μ w ∧ ∀ x y, VRel M μ x y → VRel (M ++ [.dead]) μ x y := by
  have hv : ∀ x y, VRel M μ x y → VRel (M ++ [.dead]) μ x y := fun x y hx => hx.same fun i s hs _ => by
    have hi := (List.getElem?_eq_some_iff.1 hs).1
    exact ⟨by rw [getElem?_snoc_lt hi]; exact hs, rfl, rfl⟩
  have hro : ∀ (i : Nat) r, (M ++ [Slot.dead])[i]? = some (.live r) → M[i]? = some (.live r) := fun i r hr => by
    rcases getElem?_snoc_inv hr with ⟨hi, hr⟩ | ⟨_, he⟩
    · exact hr
    · cases he
  refine ⟨⟨⟨fun id r hr => ?_, fun i j r s hr hs => h.sim.inj i j r s (hro i r hr) (hro j s hs), fun hon => ⟨(h.sim.glob hon).1, (h.sim.glob hon).2.1, fun i r hr ho => by rw [h.ro i r (hro i r hr)] at ho; cases ho⟩, h.sim.mapsKeep (fun _ _ _ => rfl) (fun id r es hr => by
    rcases getElem?_snoc_inv hr with ⟨_, h1⟩ | ⟨_, h1⟩
    · exact h1
    · cases h1)⟩, fun i r hr => h.ro i r (hro i r hr)⟩, hv⟩
  have hR := h.sim.row id r (hro id r hr)
  exact ⟨hR.lt, fun j c hj => (hR.cell j c hj).imp fun d hd => ⟨hd.1, hv _ _ hd.2⟩, fun ho => by rw [h.ro id r (hro id r hr)] at ho; cases ho⟩
/-- An argument that is a slice of plain cells. -/
theorem Arg.slice {α : Type} {k : Nat} {R : RecV α k} {w : World} {A : Option Addr} {n c : Nat} {l : List α} (h : Rd w k A n c (cellsL R l)) (hl : l.length = n) (hp : ∀ v ∈ cellsL R l, plainV v = true)
    (hnil : A = none → n = 0 ∧ c = 0) : Arg w (.slice A n c) fun M v => ∃ B, v = .slice B n c ∧ n ≤ maxLen ∧ Sl R M B n l := by
  intro M μ hr
  obtain ⟨_, h1, h2, h3⟩ := h
  cases A with
  | none =>
    obtain ⟨rfl, rfl⟩ := hnil rfl
    exact ⟨[], μ, .slice none 0 0, by simpa using hr, .plain rfl, ⟨none, rfl, by omega, hl, fun h => absurd h (by omega)⟩, fun x y h => by simpa using h⟩
  | some a =>
    by_cases hn : 0 < n
    · obtain ⟨_, e, hlt, hc⟩ := h3 hn
      injection e with e
      subst e
      obtain ⟨g1, g2⟩ := hr.row (a := a) (cells := cellsL R l) (e := 0) (k := k) hlt fun j u hj => ⟨u, hc j u hj, .plain (hp u (List.mem_of_getElem? hj))⟩
      refine ⟨_, _, .slice (some ⟨M.length, 0, none⟩) n c, g1, .sl getElem?_snoc_eq rfl h1 h2 (fun r hr => ?_), ⟨_, rfl, by omega, hl, fun _ => ⟨M.length, 0, rfl, ?_, fun j x hx => ?_⟩⟩, g2⟩
      · injection hr with hr
        subst hr
        exact ⟨Or.inr (by simp [Map.set, Addr.add]), fun h => by cases h⟩
      · simp [rowEsz]
      · simp [cellAt, hx]
    · obtain ⟨g1, g2⟩ := hr.dead
      refine ⟨_, _, .slice (some ⟨M.length, 0, none⟩) n c, g1, .sl getElem?_snoc_eq rfl h1 h2 (fun r hr => by cases hr), ⟨_, rfl, by omega, hl, fun h => absurd h hn⟩, g2⟩
/-- The law's end. -/
theorem law_end {f : FuncId} {w : World} {M : Mem} {μ : Map} {vs cs : List Value} (h : AR w M μ vs cs) (hd : Det Tryz.prog M.length f vs M (.bool true) M) :
    Calls Tryz.prog f cs.toArray w fun e w' => e = .returned (.bool true) ∧ Below w.heap.size w w' := by
  refine (hd.run μ w cs h.rel h.ro.sim).mono ?_
  rintro e w' ⟨c, μ', rfl, hv, _, hs⟩
  rw [hv.bool]
  refine ⟨rfl, hs.os, hs.tape, hs.output, hs.size, fun k hk => hs.block k hk (fun i r hi hr _ => ?_) (fun i r es hi hr => absurd (List.getElem?_eq_some_iff.1 hr).1 (by omega))⟩
  have := (List.getElem?_eq_some_iff.1 hr).1
  omega
/-- Records of numbers. -/
structure Ints {α : Type} {k : Nat} (R : RecV α k) where
  of : List Int → α
  row : ∀ zs, zs.length = k → R.row (of zs) = ints zs
theorem Ints.chunk {α : Type} {k : Nat} {R : RecV α k} (I : Ints R) : ∀ (n : Nat) (zs : List Int), zs.length = n * k → (∀ z ∈ zs, (Lit.int .i64 z).wf = true) →
    ∃ l : List α, l.length = n ∧ cellsL R l = ints zs ∧ ∀ a ∈ l, ∃ ys : List Int, a = I.of ys ∧ ys.length = k ∧ ∀ z ∈ ys, (Lit.int .i64 z).wf = true
  | 0, zs, h, _ => ⟨[], rfl, by obtain rfl := List.eq_nil_of_length_eq_zero (by omega : zs.length = 0); rfl, by simp⟩
  | n + 1, zs, h, hw => by
    rw [Nat.add_mul, Nat.one_mul] at h
    obtain ⟨l, h1, h2, h3⟩ := I.chunk n (zs.drop k) (by rw [List.length_drop]; omega) fun z hz => hw z (List.mem_of_mem_drop hz)
    refine ⟨I.of (zs.take k) :: l, by simp [h1], ?_, fun a ha => ?_⟩
    · rw [cellsL_cons, I.row _ (by rw [List.length_take]; omega), h2]
      unfold ints
      rw [← List.map_append, List.take_append_drop]
    · rcases List.mem_cons.1 ha with rfl | ha
      · exact ⟨_, rfl, by rw [List.length_take]; omega, fun z hz => hw z (List.mem_of_mem_take hz)⟩
      · exact h3 a ha
theorem plain_ints {zs : List Int} : ∀ v ∈ ints zs, plainV v = true := fun v hv => by
  obtain ⟨z, -, rfl⟩ := List.mem_map.1 hv
  rfl
theorem Arg.agg1 {w : World} {c : Value} {K : Mem → Value → Prop} (h : Arg w c K) : Arg w (.agg #[c]) fun M v => ∃ x, v = .agg #[x] ∧ K M x := fun M μ hr => by
  obtain ⟨L, μ', v, h1, h2, h3, h4⟩ := h M μ hr
  exact ⟨L, μ', .agg #[v], h1, VRel.mk_agg (.cons h2 .nil), ⟨v, rfl, h3⟩, h4⟩
/-- An argument that is a struct with one field, a slice of structs of int64 alone. -/
theorem Arg.wrap {H : Type} {enc : TypeId × Value → H} {α : Type} {k : Nat} {R : RecV α k} (I : Ints R) {W : World} {base : Nat} {t s e : TypeId} {f0 : Field} {v : Value} {d : DataW H} {p q : List MemPlace} (hst : Tryz.prog.underlying t = some (.struct #[f0])) (hf0 : f0.type = s ∧ f0.offset = 0) (hc1 : Tryz.prog.cellsOf t = 1) (hc2 : Tryz.prog.cellsOf s = 1)
    (ht : Tryz.prog.underlying s = some (.slice e)) (hB : flatB 5 e = true) (hk : Tryz.prog.cellsOf e = k) (hk0 : 0 < k)
    (hlt : ∀ x ∈ q, x.block < W.heap.size) (hv : Value.okWide Tryz.prog W .any base t v)
    (h : DataW.Trod enc Tryz.prog W 0 (fun _ => true) true t v d p) (hp : ∀ x ∈ p, x ∈ q) :
    Arg W v fun M v' => ∃ u, v' = .agg #[u] ∧ ∃ B n c l, u = .slice B n c ∧ n ≤ maxLen ∧ Sl R M B n l ∧ ∀ a ∈ l, ∃ ys : List Int, a = I.of ys ∧ ys.length = k ∧ ∀ z ∈ ys, (Lit.int .i64 z).wf = true := by
  obtain ⟨cs, rfl, hsz⟩ := okWide_struct hst hv
  obtain ⟨fuel, hf⟩ := h
  obtain ⟨xs, m, -, hx, hlen, hxl, hi⟩ := DataW.trod_struct hst hf
  rw [hc1] at hsz
  obtain ⟨l0, rfl⟩ : ∃ u, cs = #[u] := by
    obtain ⟨l⟩ := cs
    match l, hsz with
    | [u], _ => exact ⟨u, rfl⟩
  have h0 := hi 0 f0 rfl
  obtain ⟨hf1, hf2⟩ := hf0
  rw [hf1, hf2, hc2] at h0
  obtain ⟨⟨d0, p0⟩, rfl⟩ : ∃ x, xs = [x] := by
    match xs, hxl with
    | [x], _ => exact ⟨x, rfl⟩
  have h0' : DataW.trod enc Tryz.prog W 0 (fun _ => true) true m s [l0] = some (d0, p0) := h0
  have hpp : ∀ x ∈ p0, x ∈ q := fun x hx' => hp x (by injection hx with _ hx; rw [hx]; simpa using hx')
  obtain ⟨A, n, c, zs, rfl, h1, h2, h3⟩ := open_flats_t ht hB hk hk0 hlt h0' hpp
  have hz := h1.1
  rw [ints_len] at hz
  obtain ⟨l, g1, g2, g3⟩ := I.chunk n zs hz h3
  rw [← g2] at h1
  refine Arg.agg1 (fun M μ hr => ?_)
  obtain ⟨L, μ', v, a1, a2, ⟨B, a3, a4, a5⟩, a6⟩ := Arg.slice h1 g1 (by rw [g2]; exact plain_ints) h2 M μ hr
  exact ⟨L, μ', v, a1, a2, ⟨B, n, c, l, a3, a4, a5, g3⟩, a6⟩
end Go.Proofs.YtodbjnngkonklaaGreat

namespace Go.Proofs.YtodbjnngkonklaaGreat
open Go.RowKit
set_option linter.unusedVariables false
set_option linter.unusedSimpArgs false
set_option maxRecDepth 100000
attribute [local simp] List.getElem?_cons_zero
attribute [local irreducible] awCond awCall awLoop awDraw ow retQ retC resQ Keeps
section
variable {α : Type} {k : Nat}
/-- The value v is a list in a row of one's own, from id B on, that append can grow. -/
def Acc (R : RecV α k) (e : TypeId) (B : Nat) (M : Mem) (v : Value) (l : List α) : Prop :=
  ∃ A n c, v = .slice A n c ∧ l.length = n ∧ ((A = none ∧ n = 0 ∧ c = 0) ∨ ∃ id t, A = some ⟨id, 0, none⟩ ∧ B ≤ id ∧ M[id]? = some (.live ⟨cellsL R l, true, t, e, k⟩))
/-- Below B nothing has turned. -/
def Same (B : Nat) (M M' : Mem) : Prop := M.length ≤ M'.length ∧ ∀ (i : Nat) s, i < B → M[i]? = some s → M'[i]? = some s
theorem Same.keeps {B : Nat} {M0 M M' : Mem} (h : Same B M M') (hk : Keeps M0 M) (hb : M0.length ≤ B) : Keeps M0 M' := by
  unfold Keeps
  exact fun i s hs => h.2 i s (by have := (List.getElem?_eq_some_iff.1 hs).1; omega) (hk.get hs)
theorem Acc.keeps {R : RecV α k} {e : TypeId} {B : Nat} {M M' : Mem} {v : Value} {l : List α} (h : Acc R e B M v l) (hk : Keeps M M') : Acc R e B M' v l := by
  obtain ⟨A, n, c, h1, h2, h3⟩ := h
  refine ⟨A, n, c, h1, h2, ?_⟩
  rcases h3 with h3 | ⟨id, t, h4, h5, h6⟩
  · exact .inl h3
  · exact .inr ⟨id, t, h4, h5, hk.get h6⟩
theorem Acc.src {P : Program} {R : RecV α k} {e tx : TypeId} {B : Nat} {M : Mem} {v : Value} {l : List α} (h : Acc R e B M v l) (ht : ∃ e', P.underlying tx = some (.slice e')) : srcOf P M k tx v = some (l.length, cellsL R l) := by
  obtain ⟨e', ht⟩ := ht
  obtain ⟨A, n, c, rfl, hl, hA⟩ := h
  subst hl
  rcases hA with ⟨rfl, h0, rfl⟩ | ⟨id, t, rfl, hid, hr⟩
  · obtain rfl := List.eq_nil_of_length_eq_zero h0
    simp [srcOf, ht, cellsL]
  · have e : cellsAt M id 0 (l.length * k) = some (cellsL R l) := by
      unfold cellsAt
      rw [hr]
      simp only
      rw [if_pos (by rw [cellsL_len]; omega), List.drop_zero, List.take_of_length_le (by rw [cellsL_len]; omega)]
    rcases l with _ | ⟨x, l⟩
    · simp [srcOf, ht, cellsL]
    · simp at e
      simp [srcOf, ht, e]
theorem Sl.src {P : Program} {R : RecV α k} {tx : TypeId} {M : Mem} {ad : Addr} {n c : Nat} {l : List α} (h : Sl R M (some ad) n l) (hk : 0 < k) (ht : ∃ e', P.underlying tx = some (.slice e')) : srcOf P M k tx (.slice (some ad) n c) = some (l.length, cellsL R l) := by
  obtain ⟨e', ht⟩ := ht
  have hl := h.1
  by_cases h0 : n = 0
  · subst h0
    obtain rfl := List.eq_nil_of_length_eq_zero hl
    simp [srcOf, ht, cellsL]
  · obtain ⟨id, off, e, he, hc⟩ := h.2 (by omega)
    injection e with e
    subst e
    have e := cellsAt_of hc (by rw [cellsL_len, hl]) (Nat.mul_pos (by omega) hk)
    simp [srcOf, ht, e, h0, hl]
theorem nil_eq {P : Program} {t e : TypeId} {q : Option Addr} {n c : Nat} (h : P.underlying t = some (.slice e)) : binV P .eql t (.slice q n c) (.slice none 0 0) = some (.bool q.isNone) := by
  cases q <;> simp [binV, eqV, h, slNil, eqNil]
theorem Acc.set_ne {R : RecV α k} {e : TypeId} {B : Nat} {M : Mem} {v : Value} {l : List α} {i : Nat} {s : Slot} (h : Acc R e B M v l) (hi : i < B) : Acc R e B (M.set i s) v l := by
  obtain ⟨A, n, c, h1, h2, h3⟩ := h
  refine ⟨A, n, c, h1, h2, ?_⟩
  rcases h3 with h3 | ⟨id, t, h4, h5, h6⟩
  · exact .inl h3
  · exact .inr ⟨id, t, h4, h5, by rw [List.getElem?_set_ne (by omega)]; exact h6⟩
theorem Acc.low {R : RecV α k} {e : TypeId} {B B' : Nat} {M : Mem} {v : Value} {l : List α} (h : Acc R e B M v l) (hb : B' ≤ B) : Acc R e B' M v l := by
  obtain ⟨A, n, c, h1, h2, h3⟩ := h
  refine ⟨A, n, c, h1, h2, ?_⟩
  rcases h3 with h3 | ⟨id, t, h4, h5, h6⟩
  · exact .inl h3
  · exact .inr ⟨id, t, h4, by omega, h6⟩
theorem Acc.sl {R : RecV α k} {e : TypeId} {B : Nat} {M : Mem} {v : Value} {l : List α} (h : Acc R e B M v l) : ∃ A n c, v = .slice A n c ∧ l.length = n ∧ Sl R M A n l ∧ oneV v = true := by
  obtain ⟨A, n, c, rfl, hl, hA⟩ := h
  refine ⟨A, n, c, rfl, hl, ?_, rfl⟩
  rcases hA with ⟨rfl, rfl, rfl⟩ | ⟨id, t, rfl, hid, hr⟩
  · exact ⟨hl, fun h => by omega⟩
  · exact ⟨hl, fun _ => ⟨id, 0, rfl, by simp [rowEsz, hr], fun j x hx => by simp [cellAt, hr, hx]⟩⟩
theorem Acc.nil {R : RecV α k} {e : TypeId} {B : Nat} {M : Mem} : Acc R e B M (.slice none 0 0) [] := ⟨none, 0, 0, rfl, rfl, .inl ⟨rfl, rfl, rfl⟩⟩
theorem Acc.append {P : Program} {R : RecV α k} {e t tx : TypeId} {B b by_ : Nat} {S : St} {v x : Value} {l : List α} {a : α} {K : Value → Mem → Prop} (h : Acc R e B S.M v l) (hb : b ≤ B) (hB : B ≤ S.M.length) (hk : 0 < k) (hq : qSlice P t = some (e, k, by_))
    (hz : (P.info? e).any (fun i => i.zero.any fun z => z.cells.size == k) = true) (hs : srcOf P S.M k tx x = some (1, R.row a)) (h1 : (R.row a).all (fun u => u.oneCell') = true) (hn : (l.length + 1) * by_ ≤ 140737488355328) (hm : l.length + 1 ≤ maxLen)
    (hK : ∀ v' M', Acc R e B M' v' (l ++ [a]) → Same B S.M M' → K v' M') : appendK P b S K t tx v x := by
  obtain ⟨A, n, c, rfl, hl, hA⟩ := h
  subst hl
  unfold appendK
  rw [hq]
  simp only [ow_some]
  rw [hs]
  simp only [ow_some]
  refine ⟨hz, h1, ?_⟩
  rcases hA with ⟨rfl, h0, rfl⟩ | ⟨id, tt, rfl, hid, hr⟩
  · obtain rfl := List.eq_nil_of_length_eq_zero h0
    refine ⟨⟨rfl, rfl⟩, by simpa using hn, by simpa using hm, fun h => by omega, fun _ => hK _ _ ⟨_, _, _, rfl, rfl, .inr ⟨S.M.length, false, rfl, hB, ?_⟩⟩ ⟨by simp, fun i s _ hs => ?_⟩⟩
    · rw [getElem?_snoc_eq]; simp [cellsL]
    · rw [List.getElem?_append_left (List.getElem?_eq_some_iff.1 hs).1]; exact hs
  · have hlt := (List.getElem?_eq_some_iff.1 hr).1
    simp only [hr]
    refine ⟨⟨trivial, by rw [cellsL_len], trivial, trivial⟩, hn, hm, fun h => by omega, fun _ => ?_⟩
    split
    · refine hK _ _ ⟨_, _, _, rfl, by simp, .inr ⟨S.M.length, false, rfl, hB, ?_⟩⟩ ⟨by simp, fun i s _ hs => ?_⟩
      · rw [getElem?_snoc_eq, cellsL_snoc]
      · rw [List.getElem?_append_left (List.getElem?_eq_some_iff.1 hs).1]; exact hs
    · refine ⟨by omega, hK _ _ ⟨_, _, _, rfl, by simp, .inr ⟨S.M.length, false, rfl, hB, ?_⟩⟩ ⟨by simp, fun i s hi hs => ?_⟩⟩
      · rw [List.getElem?_append_right (by simp), List.length_set, Nat.sub_self, cellsL_snoc]; rfl
      · rw [List.getElem?_append_left (by simpa using (List.getElem?_eq_some_iff.1 hs).1), List.getElem?_set_ne (by omega)]; exact hs
theorem Same.refl (B : Nat) (M : Mem) : Same B M M := ⟨Nat.le_refl _, fun _ _ _ h => h⟩
/-- The value does not lie in row i. -/
def Apart (v : Value) (i : Nat) : Prop := ∀ (A : Option Addr) (n c : Nat) (a : Addr), v = .slice A n c → A = some a → i ≠ a.block
theorem apart_new {M : Mem} {i : Nat} {s : Slot} {n c : Nat} (h : M[i]? = some s) : Apart (.slice (some ⟨M.length, 0, none⟩) n c) i := by
  intro A n' c' a e ea
  injection e with e1
  subst e1
  injection ea with ea
  subst ea
  have := (List.getElem?_eq_some_iff.1 h).1
  show i ≠ M.length
  omega
theorem Acc.apart {R : RecV α k} {e : TypeId} {B : Nat} {M : Mem} {v : Value} {l : List α} (h : Acc R e B M v l) {i : Nat} (hi : M.length ≤ i) : Apart v i := by
  obtain ⟨A, n, c, rfl, hl, hA⟩ := h
  intro A' n' c' a e ea
  injection e with e1
  subst e1
  rcases hA with ⟨rfl, _⟩ | ⟨id, t, rfl, hid, hr⟩
  · cases ea
  · injection ea with ea
    subst ea
    have := (List.getElem?_eq_some_iff.1 hr).1
    show i ≠ id
    omega
theorem Acc.extend2 {P : Program} {R : RecV α k} {e t tx : TypeId} {B b by_ : Nat} {S : St} {v x : Value} {l ls : List α} {K : Value → Mem → Prop} (h : Acc R e B S.M v l) (hb : b ≤ B) (hB : B ≤ S.M.length) (hq : qSlice P t = some (e, k, by_))
    (hz : (P.info? e).any (fun i => i.zero.any fun z => z.cells.size == k) = true) (hs : srcOf P S.M k tx x = some (ls.length, cellsL R ls)) (h1 : (cellsL R ls).all (fun u => u.oneCell') = true) (hn : (l.length + ls.length) * by_ ≤ 140737488355328) (hm : l.length + ls.length ≤ maxLen)
    (hK : ∀ v' M', Acc R e B M' v' (l ++ ls) → Same B S.M M' → (∀ (i : Nat) s, Apart v i → S.M[i]? = some s → M'[i]? = some s ∧ Apart v' i) → K v' M') : appendK P b S K t tx v x := by
  obtain ⟨A, n, c, rfl, hl, hA⟩ := h
  subst hl
  unfold appendK
  rw [hq]
  simp only [ow_some]
  rw [hs]
  simp only [ow_some]
  refine ⟨hz, h1, ?_⟩
  rcases hA with ⟨rfl, h0, rfl⟩ | ⟨id, tt, rfl, hid, hr⟩
  · obtain rfl := List.eq_nil_of_length_eq_zero h0
    refine ⟨⟨rfl, rfl⟩, by simpa using hn, by simpa using hm, fun h => ?_, fun _ => hK _ _ ⟨_, _, _, rfl, by simp, .inr ⟨S.M.length, false, rfl, hB, ?_⟩⟩ ⟨by simp, fun i s _ hs => ?_⟩ fun i s ha hs => ⟨?_, apart_new hs⟩⟩
    · obtain rfl := List.eq_nil_of_length_eq_zero h
      exact hK _ _ .nil (.refl _ _) fun i s ha hs => ⟨hs, ha⟩
    · rw [getElem?_snoc_eq]; simp
    · rw [List.getElem?_append_left (List.getElem?_eq_some_iff.1 hs).1]; exact hs
    · rw [List.getElem?_append_left (List.getElem?_eq_some_iff.1 hs).1]; exact hs
  · have hlt := (List.getElem?_eq_some_iff.1 hr).1
    simp only [hr]
    refine ⟨⟨trivial, by rw [cellsL_len], trivial, trivial⟩, hn, hm, fun h => ?_, fun _ => ?_⟩
    · obtain rfl := List.eq_nil_of_length_eq_zero h
      exact hK _ _ ⟨_, _, _, rfl, by simp, .inr ⟨id, tt, rfl, hid, by simpa using hr⟩⟩ (.refl _ _) fun i s ha hs => ⟨hs, ha⟩
    split
    · refine hK _ _ ⟨_, _, _, rfl, by simp, .inr ⟨S.M.length, false, rfl, hB, ?_⟩⟩ ⟨by simp, fun i s _ hs => ?_⟩ fun i s ha hs => ⟨?_, apart_new hs⟩
      · rw [getElem?_snoc_eq, cellsL_append]
      · rw [List.getElem?_append_left (List.getElem?_eq_some_iff.1 hs).1]; exact hs
      · rw [List.getElem?_append_left (List.getElem?_eq_some_iff.1 hs).1]; exact hs
    · refine ⟨by omega, hK _ _ ⟨_, _, _, rfl, by simp, .inr ⟨S.M.length, false, rfl, hB, ?_⟩⟩ ⟨by simp, fun i s hi hs => ?_⟩ fun i s ha hs => ⟨?_, apart_new hs⟩⟩
      · rw [List.getElem?_append_right (by simp), List.length_set, Nat.sub_self, cellsL_append]; rfl
      · rw [List.getElem?_append_left (by simpa using (List.getElem?_eq_some_iff.1 hs).1), List.getElem?_set_ne (by omega)]; exact hs
      · have := ha _ _ _ _ rfl rfl
        rw [List.getElem?_append_left (by simpa using (List.getElem?_eq_some_iff.1 hs).1), List.getElem?_set_ne (Ne.symm (by simpa using this))]; exact hs
theorem Acc.extend {P : Program} {R : RecV α k} {e t tx : TypeId} {B b by_ : Nat} {S : St} {v x : Value} {l ls : List α} {K : Value → Mem → Prop} (h : Acc R e B S.M v l) (hb : b ≤ B) (hB : B ≤ S.M.length) (hq : qSlice P t = some (e, k, by_))
    (hz : (P.info? e).any (fun i => i.zero.any fun z => z.cells.size == k) = true) (hs : srcOf P S.M k tx x = some (ls.length, cellsL R ls)) (h1 : (cellsL R ls).all (fun u => u.oneCell') = true) (hn : (l.length + ls.length) * by_ ≤ 140737488355328) (hm : l.length + ls.length ≤ maxLen)
    (hK : ∀ v' M', Acc R e B M' v' (l ++ ls) → Same B S.M M' → K v' M') : appendK P b S K t tx v x := h.extend2 hb hB hq hz hs h1 hn hm fun v' M' a b _ => hK v' M' a b
theorem Acc.append2 {P : Program} {R : RecV α k} {e t tx : TypeId} {B b by_ : Nat} {S : St} {v x : Value} {l : List α} {a : α} {K : Value → Mem → Prop} (h : Acc R e B S.M v l) (hb : b ≤ B) (hB : B ≤ S.M.length) (_hk : 0 < k) (hq : qSlice P t = some (e, k, by_))
    (hz : (P.info? e).any (fun i => i.zero.any fun z => z.cells.size == k) = true) (hs : srcOf P S.M k tx x = some (1, R.row a)) (h1 : (R.row a).all (fun u => u.oneCell') = true) (hn : (l.length + 1) * by_ ≤ 140737488355328) (hm : l.length + 1 ≤ maxLen)
    (hK : ∀ v' M', Acc R e B M' v' (l ++ [a]) → Same B S.M M' → (∀ (i : Nat) s, Apart v i → S.M[i]? = some s → M'[i]? = some s ∧ Apart v' i) → K v' M') : appendK P b S K t tx v x :=
  h.extend2 (ls := [a]) hb hB hq hz (by rw [hs]; simp [cellsL]) (by simpa [cellsL] using h1) (by simpa using hn) (by simpa using hm) hK
theorem cloneX {P : Program} {R : RecV α k} {e t : TypeId} {B b by_ : Nat} {S : St} {ad : Addr} {n c : Nat} {l : List α} {K : Value → Mem → Prop} (h : Sl R S.M (some ad) n l) (hk : 0 < k) (hA : Acc R e B S.M (.slice (some ⟨B, 0, none⟩) 0 0) []) (hb : b ≤ B) (hB : B ≤ S.M.length) (hq : qSlice P t = some (e, k, by_)) (ht : ∃ e', P.underlying t = some (.slice e'))
    (hz : (P.info? e).any (fun i => i.zero.any fun z => z.cells.size == k) = true) (h1 : (cellsL R l).all (fun u => u.oneCell') = true) (hn : n * by_ ≤ 140737488355328) (hm : n ≤ maxLen) (hK : ∀ v' M', Acc R e B M' v' l → Same B S.M M' → K v' M') : appendK P b S K t t (.slice (some ⟨B, 0, none⟩) 0 0) (.slice (some ad) n c) := by
  have hl := h.1
  refine hA.extend (ls := l) hb hB hq hz (h.src hk ht) h1 (by simpa [hl] using hn) (by simpa [hl] using hm) ?_
  intro v' M' a b
  exact hK v' M' (by simpa using a) b
theorem Acc.fresh {R : RecV α k} {e : TypeId} {M M' : Mem} {v : Value} {l : List α} (h : Acc R e M.length M' v l) (hn : l.length ≤ 1099511627776) (hk : Keeps M M') : Fresh R M v M' l := by
  obtain ⟨A, n, c, rfl, hl, hA⟩ := h
  refine ⟨A, n, c, rfl, by omega, ?_⟩
  rcases hA with ⟨rfl, rfl, rfl⟩ | ⟨id, t, rfl, hid, hr⟩
  · exact ⟨⟨hl, fun h => by omega⟩, by simp, fun h => by omega, hk⟩
  · exact ⟨⟨hl, fun _ => ⟨id, 0, rfl, by simp [rowEsz, hr], fun j x hx => by simp [cellAt, hr, hx]⟩⟩, fun a e => by injection e with e; subst e; exact hid, fun _ => ⟨_, _, _, rfl, hr, rfl⟩, hk⟩
theorem OwL.nil {R : RecV α k} {lo hi : Nat} {M : Mem} : OwL R lo hi M (.slice none 0 0) [] := by
  refine ⟨none, 0, 0, rfl, by omega, ⟨rfl, fun h => by omega⟩, ?_, ?_⟩
  · intro a h; cases h
  · intro h; omega
end
end Go.Proofs.YtodbjnngkonklaaGreat

namespace Go.Proofs.YtodbjnngkonklaaGreat
open Go.RowKit
set_option linter.unusedVariables false
set_option linter.unusedSimpArgs false
set_option maxRecDepth 100000
attribute [local simp] List.getElem?_cons_zero
attribute [local irreducible] awCond awCall awLoop awDraw ow retQ retC resQ Keeps
/-- The rows with ids from lo up to hi are as they were. -/
def Agree (lo hi : Nat) (M M' : Mem) : Prop := ∀ (i : Nat) s, lo ≤ i → i < hi → M[i]? = some s → M'[i]? = some s
section
variable {M M' : Mem} {lo hi lo' hi' : Nat}
theorem Keeps.agree (h : Keeps M M') : Agree lo hi M M' := fun i s _ _ hs => h.get hs
theorem Turn.agree (h : Turn lo' hi' M M') (hd : hi ≤ lo' ∨ hi' ≤ lo) : Agree lo hi M M' := fun i s h1 h2 hs => h.2 i s hs (by omega)
theorem Same.agree {B : Nat} (h : Same B M M') (hb : hi ≤ B) : Agree lo hi M M' := fun i s _ h2 hs => h.2 i s (by omega) hs
theorem Agree.app (L : Mem) : Agree lo hi M (M ++ L) := (keeps_app L).agree
theorem Agree.trans {M2 : Mem} (h : Agree lo hi M M') (h' : Agree lo hi M' M2) : Agree lo hi M M2 := fun i s a b hs => h' i s a b (h i s a b hs)
theorem Agree.cell (h : Agree lo hi M M') {id off : Nat} {v : Value} (h1 : lo ≤ id) (h2 : id < hi) (hc : cellAt M id off = some v) : cellAt M' id off = some v := by
  unfold cellAt at hc ⊢
  cases hm : M[id]? with
  | none => rw [hm] at hc; cases hc
  | some s => rw [h id s h1 h2 hm]; rw [hm] at hc; exact hc
theorem Agree.cells (h : Agree lo hi M M') {id off n : Nat} {vs : List Value} (h1 : lo ≤ id) (h2 : id < hi) (hc : cellsAt M id off n = some vs) : cellsAt M' id off n = some vs := by
  unfold cellsAt at hc ⊢
  cases hm : M[id]? with
  | none => rw [hm] at hc; cases hc
  | some s => rw [h id s h1 h2 hm]; rw [hm] at hc; exact hc
theorem Agree.esz (h : Agree lo hi M M') {id k : Nat} (h1 : lo ≤ id) (h2 : id < hi) (hc : rowEsz M id = some k) : rowEsz M' id = some k := by
  unfold rowEsz at hc ⊢
  cases hm : M[id]? with
  | none => rw [hm] at hc; cases hc
  | some s => rw [h id s h1 h2 hm]; rw [hm] at hc; exact hc
theorem Agree.cl (h : Agree lo hi M M') {id off : Nat} {xs : List Value} (h1 : lo ≤ id) (h2 : id < hi) (hc : Cl M id off xs) : Cl M' id off xs := fun j x hx => h.cell h1 h2 (hc j x hx)
end
@[simp] theorem cl_nil {M : Mem} {id off : Nat} : Cl M id off [] := fun j x hx => by simp at hx
/-- What a value is in memory, its rows' ids from lo up to hi. -/
structure RecP (α : Type) (k : Nat) where
  rd : Nat → Nat → Mem → α → List Value → Prop
  len : ∀ {lo hi M a vs}, rd lo hi M a vs → vs.length = k
  agree : ∀ {lo hi M M' a vs}, rd lo hi M a vs → Agree lo hi M M' → rd lo hi M' a vs
  wide : ∀ {lo hi lo' hi' M a vs}, rd lo hi M a vs → lo' ≤ lo → hi ≤ hi' → rd lo' hi' M a vs
section
variable {α : Type} {k : Nat}
theorem RecP.keeps (P : RecP α k) {lo hi : Nat} {M M' : Mem} {a : α} {vs : List Value} (h : P.rd lo hi M a vs) (hk : Keeps M M') : P.rd lo hi M' a vs := P.agree h hk.agree
theorem RecP.app (P : RecP α k) {lo hi : Nat} {M : Mem} {a : α} {vs : List Value} (h : P.rd lo hi M a vs) (L : Mem) : P.rd lo hi (M ++ L) a vs := P.agree h (Agree.app L)
theorem RecP.up (P : RecP α k) {lo : Nat} {M : Mem} {a : α} {vs : List Value} (h : P.rd lo M.length M a vs) (L : Mem) : P.rd lo (M ++ L).length (M ++ L) a vs := P.wide (P.app h L) (Nat.le_refl _) (by simp)
def RecP.flat (R : RecV α k) : RecP α k where
  rd := fun _ _ _ a vs => vs = R.row a
  len := fun h => by rw [h, R.len]
  agree := fun h _ => h
  wide := fun h _ _ => h
/-- The slice .slice A n c reads as the values l. -/
def SlP (P : RecP α k) [Inhabited α] (lo hi : Nat) (M : Mem) (A : Option Addr) (n : Nat) (l : List α) : Prop :=
  l.length = n ∧ (0 < n → ∃ id off, A = some ⟨id, off, none⟩ ∧ lo ≤ id ∧ id < hi ∧ rowEsz M id = some k ∧ ∀ i, i < n → ∃ us, P.rd lo hi M (el l i) us ∧ Cl M id (off + i * k) us)
variable [Inhabited α] {P : RecP α k} {lo hi lo' hi' : Nat} {M M' : Mem} {A : Option Addr} {n : Nat} {l : List α}
theorem SlP.agree (h : SlP P lo hi M A n l) (hg : Agree lo hi M M') : SlP P lo hi M' A n l := ⟨h.1, fun hn => by
  obtain ⟨id, off, e, h1, h2, h3, h4⟩ := h.2 hn
  refine ⟨id, off, e, h1, h2, hg.esz h1 h2 h3, fun i hi => ?_⟩
  obtain ⟨us, a, b⟩ := h4 i hi
  exact ⟨us, P.agree a hg, hg.cl h1 h2 b⟩⟩
theorem SlP.wide (h : SlP P lo hi M A n l) (w1 : lo' ≤ lo) (w2 : hi ≤ hi') : SlP P lo' hi' M A n l := ⟨h.1, fun hn => by
  obtain ⟨id, off, e, h1, h2, h3, h4⟩ := h.2 hn
  refine ⟨id, off, e, by omega, by omega, h3, fun i hi => ?_⟩
  obtain ⟨us, a, b⟩ := h4 i hi
  exact ⟨us, P.wide a w1 w2, b⟩⟩
theorem SlP.keeps (h : SlP P lo hi M A n l) (hk : Keeps M M') : SlP P lo hi M' A n l := h.agree hk.agree
theorem SlP.app (h : SlP P lo hi M A n l) (L : Mem) : SlP P lo hi (M ++ L) A n l := h.agree (Agree.app L)
theorem SlP.at_ (h : SlP P lo hi M A n l) {i : Nat} (hi' : i < n) : ∃ id off us, A = some ⟨id, off, none⟩ ∧ rowEsz M id = some k ∧ P.rd lo hi M (el l i) us ∧ Cl M id (off + i * k) us := by
  obtain ⟨id, off, e, h1, h2, h3, h4⟩ := h.2 (by omega)
  obtain ⟨us, a, b⟩ := h4 i hi'
  exact ⟨id, off, us, e, h3, a, b⟩
theorem SlP.sl {R : RecV α k} (h : SlP (.flat R) lo hi M A n l) : Sl R M A n l := ⟨h.1, fun hn => by
  obtain ⟨id, off, e, h1, h2, h3, h4⟩ := h.2 hn
  refine ⟨id, off, e, h3, fun j x hx => ?_⟩
  have hj : j < l.length * k := by have := (List.getElem?_eq_some_iff.1 hx).1; rwa [cellsL_len] at this
  have hk : 0 < k := by
    rcases Nat.eq_zero_or_pos k with h0 | h0
    · subst h0; simp at hj
    · exact h0
  have hi' : j / k < l.length := Nat.div_lt_of_lt_mul (by rwa [Nat.mul_comm])
  obtain ⟨us, rfl, hc⟩ := h4 (j / k) (by rw [← h.1]; exact hi')
  have e : j = j / k * k + j % k := (by rw [Nat.mul_comm]; exact (Nat.div_add_mod j k).symm)
  rw [e, cellsL_get R hi' (Nat.mod_lt _ hk)] at hx
  have := hc (j % k) x hx
  rwa [show off + j / k * k + j % k = off + j by omega] at this⟩
theorem SlP.of_sl {R : RecV α k} (h : Sl R M A n l) (hr : ∀ a, A = some a → 0 < n → lo ≤ a.block ∧ a.block < hi) : SlP (.flat R) lo hi M A n l := ⟨h.1, fun hn => by
  obtain ⟨id, off, e, he, hc⟩ := h.2 hn
  obtain ⟨r1, r2⟩ := hr _ e hn
  refine ⟨id, off, e, r1, r2, he, fun i hi => ⟨_, rfl, fun j x hx => ?_⟩⟩
  have hj : j < k := by have := (List.getElem?_eq_some_iff.1 hx).1; rwa [R.len] at this
  rw [Nat.add_assoc]
  exact hc _ _ (by rw [cellsL_get R (by rw [h.1]; exact hi) hj]; exact hx)⟩
/-- A value that is a slice of such values. -/
def SlV (P : RecP α k) (lo hi : Nat) (M : Mem) (u : Value) (l : List α) : Prop := ∃ A n c, u = .slice A n c ∧ n ≤ 9223372036854775807 ∧ (A = none → c = 0) ∧ SlP P lo hi M A n l
theorem SlV.agree {u : Value} (h : SlV P lo hi M u l) (hg : Agree lo hi M M') : SlV P lo hi M' u l := by
  obtain ⟨A, n, c, h1, h2, h3, h4⟩ := h
  exact ⟨A, n, c, h1, h2, h3, h4.agree hg⟩
theorem SlV.keeps {u : Value} (h : SlV P lo hi M u l) (hk : Keeps M M') : SlV P lo hi M' u l := h.agree hk.agree
theorem SlV.app {u : Value} (h : SlV P lo hi M u l) (L : Mem) : SlV P lo hi (M ++ L) u l := h.agree (Agree.app L)
theorem SlV.wide {u : Value} (h : SlV P lo hi M u l) (w1 : lo' ≤ lo) (w2 : hi ≤ hi') : SlV P lo' hi' M u l := by
  obtain ⟨A, n, c, h1, h2, h3, h4⟩ := h
  exact ⟨A, n, c, h1, h2, h3, h4.wide w1 w2⟩
theorem SlV.up {u : Value} (h : SlV P lo M.length M u l) (L : Mem) : SlV P lo (M ++ L).length (M ++ L) u l := (h.app L).wide (Nat.le_refl _) (by simp)
theorem SlV.nil : SlV P lo hi M (.slice none 0 0) [] := ⟨none, 0, 0, rfl, by omega, fun _ => rfl, rfl, fun h => by omega⟩
theorem SlV.one {u : Value} (h : SlV P lo hi M u l) : oneV u = true := by
  obtain ⟨A, n, c, rfl, _⟩ := h
  rfl
def RecP.sl (P : RecP α k) : RecP (List α) 1 where
  rd := fun lo hi M l vs => ∃ u, vs = [u] ∧ SlV P lo hi M u l
  len := fun ⟨u, h, _⟩ => by rw [h]; rfl
  agree := fun ⟨u, h1, h2⟩ hg => ⟨u, h1, h2.agree hg⟩
  wide := fun ⟨u, h1, h2⟩ a b => ⟨u, h1, h2.wide a b⟩
theorem OwL.slv {R : RecV α k} {v : Value} (h : OwL R lo hi M v l) (hc : ∀ n c, v = .slice none n c → c = 0) : SlV (.flat R) lo hi M v l := by
  obtain ⟨A, n, c, rfl, h2, h3, h4, _⟩ := h
  exact ⟨A, n, c, rfl, by omega, fun e => hc n c (by rw [e]), SlP.of_sl h3 h4⟩
theorem Acc.slv {R : RecV α k} {e : TypeId} {B : Nat} {v : Value} (h : Acc R e B M v l) (hn : l.length ≤ 9223372036854775807) : SlV (.flat R) B M.length M v l := by
  obtain ⟨A, n, c, rfl, hl, hA⟩ := h
  rcases hA with ⟨rfl, rfl, rfl⟩ | ⟨id, t, rfl, hid, hr⟩
  · exact ⟨none, 0, 0, rfl, by omega, fun _ => rfl, hl, fun h => by omega⟩
  · refine ⟨_, n, c, rfl, by omega, (fun h => by cases h), SlP.of_sl ⟨hl, fun _ => ⟨id, 0, rfl, by simp [rowEsz, hr], fun j x hx => by simp [cellAt, hr, hx]⟩⟩ fun a e _ => ?_⟩
    injection e with e
    subst e
    exact ⟨hid, (List.getElem?_eq_some_iff.1 hr).1⟩
end
/-- Two values side by side. -/
def RecP.cat {α β : Type} {k m : Nat} (P : RecP α k) (Q : RecP β m) : RecP (α × β) (k + m) where
  rd := fun lo hi M a vs => ∃ us ws, vs = us ++ ws ∧ P.rd lo hi M a.1 us ∧ Q.rd lo hi M a.2 ws
  len := fun ⟨us, ws, h, h1, h2⟩ => by rw [h, List.length_append, P.len h1, Q.len h2]
  agree := fun ⟨us, ws, h, h1, h2⟩ hg => ⟨us, ws, h, P.agree h1 hg, Q.agree h2 hg⟩
  wide := fun ⟨us, ws, h, h1, h2⟩ a b => ⟨us, ws, h, P.wide h1 a b, Q.wide h2 a b⟩
def RecP.unit : RecP Unit 0 where
  rd := fun _ _ _ _ vs => vs = []
  len := fun h => by rw [h]; rfl
  agree := fun h _ => h
  wide := fun h _ _ => h
def RecP.map {α β : Type} {k : Nat} (f : β → α) (P : RecP α k) : RecP β k where
  rd := fun lo hi M a vs => P.rd lo hi M (f a) vs
  len := fun h => P.len h
  agree := fun h hg => P.agree h hg
  wide := fun h a b => P.wide h a b
end Go.Proofs.YtodbjnngkonklaaGreat

namespace Go.Proofs.YtodbjnngkonklaaGreat
open Go.RowKit
set_option linter.unusedVariables false
set_option linter.unusedSimpArgs false
set_option maxRecDepth 100000
attribute [local simp] List.getElem?_cons_zero
attribute [local irreducible] awCond awCall awLoop awDraw ow retQ retC resQ Keeps
def one1 : List Value → Value
  | v :: _ => v
  | [] => undef
@[simp] theorem one1_cons {v : Value} {vs : List Value} : one1 (v :: vs) = v := (rfl)
end Go.Proofs.YtodbjnngkonklaaGreat

namespace Go.Proofs.YtodbjnngkonklaaGreat
open Go.RowKit
set_option linter.unusedVariables false
set_option linter.unusedSimpArgs false
set_option maxRecDepth 100000
attribute [local simp] List.getElem?_cons_zero
attribute [local irreducible] awCond awCall awLoop awDraw ow retQ retC resQ Keeps
section
variable {α : Type} {k : Nat} [Inhabited α]
theorem put_at_row {b : Nat} {M : Mem} {id p : Nat} {vs cs : List Value} {t : Bool} {e : TypeId} {z : Nat} (hr : M[id]? = some (.live ⟨cs, true, t, e, z⟩)) (hb : b ≤ id) (hp : p + vs.length ≤ cs.length) (h1 : vs.all oneV = true) :
    putCells b M id p vs = some (M.set id (.live ⟨splice cs p vs, true, t, e, z⟩)) := by
  unfold putCells
  rw [hr]
  simp only
  rw [if_pos ⟨hb, trivial, hp, h1⟩]
def PartS (P : RecP α k) (e : TypeId) (z : List Value) (l : List α) (b n j : Nat) (M1 : Mem) : Prop :=
  ∃ cells, M1[b]? = some (.live ⟨cells ++ zrow z (n - j), true, true, e, k⟩) ∧ cells.length = j * k ∧ ∀ i, i < j → ∃ us, P.rd (b + 1) M1.length M1 (el l i) us ∧ ∀ (t : Nat) x, us[t]? = some x → cells[i * k + t]? = some x
theorem PartS.step {P : RecP α k} {e : TypeId} {z : List Value} {l : List α} {b n j : Nat} {M1 N : Mem} {vs : List Value} (h : PartS P e z l b n j M1) (hj : j < n) (hz : z.length = k) (hv : P.rd M1.length (M1 ++ N).length (M1 ++ N) (el l j) vs) (h1 : vs.all oneV = true) (hb : b < M1.length) :
    ∃ M2, putCells b (M1 ++ N) b (j * k) vs = some M2 ∧ PartS P e z l b n (j + 1) M2 ∧ M2.length = (M1 ++ N).length ∧ ∀ (i : Nat) s, i ≠ b → (M1 ++ N)[i]? = some s → M2[i]? = some s := by
  obtain ⟨cells, hr, hl, hc⟩ := h
  have hvl := P.len hv
  have hr' : (M1 ++ N)[b]? = some (.live ⟨cells ++ zrow z (n - j), true, true, e, k⟩) := by rw [List.getElem?_append_left hb]; exact hr
  have hzr : zrow z (n - j) = z ++ zrow z (n - (j + 1)) := by rw [show n - j = n - (j + 1) + 1 by omega, zrow_succ]
  have hput := put_at_row (b := b) (p := j * k) (vs := vs) hr' (Nat.le_refl _) (by rw [hzr]; simp only [List.length_append]; omega) h1
  have hsp : splice (cells ++ zrow z (n - j)) (j * k) vs = cells ++ vs ++ zrow z (n - (j + 1)) := by
    rw [← hl, splice_app _ _ _ (by rw [hzr, List.length_append]; omega), hzr, hvl, List.drop_append_of_le_length (by omega), List.drop_of_length_le (by omega)]
    simp
  rw [hsp] at hput
  have hoth : ∀ (i : Nat) s, i ≠ b → (M1 ++ N)[i]? = some s → ((M1 ++ N).set b (.live ⟨cells ++ vs ++ zrow z (n - (j + 1)), true, true, e, k⟩))[i]? = some s := fun i s hi hs => by rw [List.getElem?_set_ne (Ne.symm hi)]; exact hs
  have hag : ∀ {hi : Nat}, Agree (b + 1) hi (M1 ++ N) ((M1 ++ N).set b (.live ⟨cells ++ vs ++ zrow z (n - (j + 1)), true, true, e, k⟩)) := fun {hi} i s h2 h3 hs => hoth i s (by omega) hs
  refine ⟨_, hput, ⟨cells ++ vs, List.getElem?_set_self (by simp; omega), by rw [List.length_append, hl, hvl, Nat.add_mul, Nat.one_mul], fun i hi => ?_⟩, by simp, hoth⟩
  by_cases hij : i < j
  · obtain ⟨us, h2, h3⟩ := hc i hij
    refine ⟨us, P.agree (P.wide (P.app h2 N) (Nat.le_refl _) (by simp)) hag, fun t x hx => ?_⟩
    have := h3 t x hx
    rw [List.getElem?_append_left (List.getElem?_eq_some_iff.1 this).1]
    exact this
  · have : i = j := by omega
    subst this
    refine ⟨vs, P.agree (P.wide hv (by omega) (by simp)) hag, fun t x hx => ?_⟩
    rw [List.getElem?_append_right (by omega), hl, show i * k + t - i * k = t by omega]
    exact hx
end
end Go.Proofs.YtodbjnngkonklaaGreat

namespace Go.Proofs.YtodbjnngkonklaaGreat
open Go.ChangeShapes Go.WideShapes Go.ChangeAt Go.RowKit Go.Deep
set_option linter.unusedVariables false
set_option linter.unusedSimpArgs false
set_option maxRecDepth 100000
/-- Cells of arguments: they have abstract forms. -/
def ArgC (w : World) (cs : List Value) (K : Mem → List Value → Prop) : Prop :=
  ∀ M μ, Ro M μ w → ∃ L μ' vs, Ro (M ++ L) μ' w ∧ LRel (M ++ L) μ' vs cs ∧ K (M ++ L) vs ∧ ∀ x y, VRel M μ x y → VRel (M ++ L) μ' x y
theorem ArgC.mono {w : World} {cs : List Value} {K K' : Mem → List Value → Prop} (h : ArgC w cs K) (hk : ∀ M vs, K M vs → K' M vs) : ArgC w cs K' := fun M μ hr => by
  obtain ⟨L, μ', vs, h1, h2, h3, h4⟩ := h M μ hr
  exact ⟨L, μ', vs, h1, h2, hk _ _ h3, h4⟩
theorem ArgC.nil {w : World} : ArgC w [] fun _ vs => vs = [] := fun M μ hr => ⟨[], μ, [], by simpa using hr, .nil, rfl, fun x y h => by simpa using h⟩
theorem ArgC.plain {w : World} {c : Value} (h : plainV c = true) : ArgC w [c] fun _ vs => vs = [c] :=
  fun M μ hr => ⟨[], μ, [c], by simpa using hr, .cons (.plain h) .nil, rfl, fun x y h => by simpa using h⟩
theorem ArgC.append {w : World} {cs ds : List Value} {K1 K2 : Mem → List Value → Prop} (h1 : ArgC w cs K1) (h2 : ArgC w ds K2) (hk : ∀ M vs L, K1 M vs → K1 (M ++ L) vs) :
    ArgC w (cs ++ ds) fun M vs => ∃ us ws, vs = us ++ ws ∧ K1 M us ∧ K2 M ws := fun M μ hr => by
  obtain ⟨L, μ1, us, a1, a2, a3, a4⟩ := h1 M μ hr
  obtain ⟨L', μ2, ws, b1, b2, b3, b4⟩ := h2 _ _ a1
  rw [List.append_assoc] at b1 b2 b3 b4
  refine ⟨L ++ L', μ2, us ++ ws, b1, LRel.append ⟨a2.1, fun i x y hx hy => b4 _ _ (a2.2 i x y hx hy)⟩ b2, ⟨us, ws, rfl, ?_, b3⟩, fun x y h => b4 _ _ (a4 x y h)⟩
  have := hk _ _ L' a3
  rwa [List.append_assoc] at this
theorem ArgC.one {w : World} {cs : List Value} {K : Mem → List Value → Prop} (h : ArgC w cs K) : Arg w (.agg cs.toArray) fun M v => ∃ vs, v = .agg vs.toArray ∧ K M vs := fun M μ hr => by
  obtain ⟨L, μ', vs, h1, h2, h3, h4⟩ := h M μ hr
  exact ⟨L, μ', _, h1, VRel.mk_agg h2, ⟨vs, rfl, h3⟩, h4⟩
theorem ArgC.cell {w : World} {c : Value} {K : Mem → List Value → Prop} (h : ArgC w [c] K) : Arg w c fun M v => K M [v] := fun M μ hr => by
  obtain ⟨L, μ', vs, h1, h2, h3, h4⟩ := h M μ hr
  obtain ⟨v, rfl⟩ : ∃ v, vs = [v] := by
    match vs, h2.1 with
    | [v], _ => exact ⟨v, rfl⟩
  exact ⟨L, μ', v, h1, h2.2 0 v c rfl rfl, h3, h4⟩
section
variable {α : Type} {k : Nat} [Inhabited α]
/-- A row of values, one behind the other. -/
theorem ArgC.rows {w : World} {P : RecP α k} {cs : Nat → List Value} : ∀ n, (∀ i, i < n → ArgC w (cs i) fun M vs => ∃ a, P.rd 0 M.length M a vs) →
    ArgC w ((List.range n).flatMap cs) fun M vs => ∃ l : List α, l.length = n ∧ vs.length = n * k ∧ ∀ i, i < n → ∃ us, P.rd 0 M.length M (el l i) us ∧ ∀ (j : Nat) x, us[j]? = some x → vs[i * k + j]? = some x
  | 0, _ => ArgC.nil.mono fun M vs h => ⟨[], rfl, by rw [h]; simp, fun i hi => by omega⟩
  | n + 1, h => by
    have h1 := ArgC.rows n fun i hi => h i (by omega)
    rw [List.range_succ, List.flatMap_append, List.flatMap_cons, List.flatMap_nil, List.append_nil]
    refine (h1.append (h n (by omega)) ?_).mono ?_
    · rintro M vs L ⟨l, e1, e2, e3⟩
      refine ⟨l, e1, e2, fun i hi => ?_⟩
      obtain ⟨us, a, b⟩ := e3 i hi
      exact ⟨us, P.wide (P.app a L) (Nat.le_refl _) (by simp), b⟩
    · rintro M vs ⟨us, ws, rfl, ⟨l, e1, e2, e3⟩, a, ha⟩
      have hw := P.len ha
      refine ⟨l ++ [a], by simp [e1], by rw [List.length_append, e2, hw, Nat.add_mul, Nat.one_mul], fun i hi => ?_⟩
      by_cases hin : i < n
      · obtain ⟨xs, c1, c2⟩ := e3 i hin
        refine ⟨xs, by rw [el_append_left (by omega)]; exact c1, fun j x hx => ?_⟩
        have := c2 j x hx
        rw [List.getElem?_append_left (List.getElem?_eq_some_iff.1 this).1]
        exact this
      · have hii : i = n := by omega
        subst hii
        refine ⟨ws, by rw [el_append_right (by omega), e1, Nat.sub_self]; exact ha, fun j x hx => ?_⟩
        rw [List.getElem?_append_right (by omega), e2, show i * k + j - i * k = j by omega]
        exact hx
theorem ArgC.slice {w : World} {P : RecP α k} {a : Addr} {n c : Nat} {cs : Nat → List Value} (hn : n ≤ 9223372036854775807) (hnc : n ≤ c) (hc : c ≤ maxLen) (hlt : 0 < n * k → a.block < w.heap.size) (hk : 0 < k)
    (hcell : ∀ (j : Nat) x, ((List.range n).flatMap cs)[j]? = some x → w.cell? (a.add j) = some x) (h : ∀ i, i < n → ArgC w (cs i) fun M vs => ∃ b, P.rd 0 M.length M b vs) :
    ArgC w [.slice (some a) n c] fun M vs => ∃ l : List α, (RecP.sl P).rd 0 M.length M l vs := fun M μ hr => by
  obtain ⟨L, μ1, vs, a1, a2, ⟨l, e1, e2, e3⟩, a4⟩ := ArgC.rows (P := P) n h M μ hr
  by_cases h0 : 0 < n
  · obtain ⟨g1, g2⟩ := a1.row (a := a) (cells := vs) (e := 0) (k := k) (hlt (Nat.mul_pos h0 hk)) fun j u hj => by
      obtain ⟨d, hd, hv⟩ := a2.at_ hj
      exact ⟨d, hcell j d hd, hv⟩
    refine ⟨L ++ [.live ⟨vs, false, false, 0, k⟩], μ1.set (M ++ L).length a 0, [.slice (some ⟨(M ++ L).length, 0, none⟩) n c], by rw [← List.append_assoc]; exact g1, ?_, ?_, fun x y h => by rw [← List.append_assoc]; exact g2 _ _ (a4 x y h)⟩
    · rw [← List.append_assoc]
      refine .cons (.sl getElem?_snoc_eq rfl hnc hc fun r hr => ?_) .nil
      injection hr with hr
      subst hr
      exact ⟨Or.inr (by simp [Map.set, Addr.add]), fun h => by cases h⟩
    · rw [← List.append_assoc]
      refine ⟨l, _, rfl, _, n, c, rfl, hn, (fun h => by cases h), e1, fun _ => ⟨(M ++ L).length, 0, rfl, Nat.zero_le _, by simp, by simp [rowEsz], fun i hi => ?_⟩⟩
      obtain ⟨us, b1, b2⟩ := e3 i hi
      refine ⟨us, P.wide (P.app b1 _) (Nat.le_refl _) (by simp), fun j x hx => ?_⟩
      simp [cellAt, b2 j x hx]
  · obtain ⟨g1, g2⟩ := a1.dead
    have hn0 : n = 0 := by omega
    subst hn0
    refine ⟨L ++ [.dead], μ1, [.slice (some ⟨(M ++ L).length, 0, none⟩) 0 c], by rw [← List.append_assoc]; exact g1, ?_, ?_, fun x y h => by rw [← List.append_assoc]; exact g2 _ _ (a4 x y h)⟩
    · rw [← List.append_assoc]
      exact .cons (.sl getElem?_snoc_eq rfl hnc hc fun r hr => by cases hr) .nil
    · exact ⟨l, _, rfl, _, 0, c, rfl, hn, (fun h => by cases h), e1, fun h => by omega⟩
end
section
variable {H : Type} {enc : TypeId × Value → H}
/-- Cells that a law is handed at a type have abstract forms. -/
def Good (enc : TypeId × Value → H) {α : Type} {k : Nat} (t : TypeId) (P : RecP α k) : Prop :=
  ∀ (W : World) (n : Nat) (cs : List Value) (d : DataW H) (p : List MemPlace), DataW.trod enc Tryz.prog W 0 (fun _ => true) true n t cs = some (d, p) → (∀ x ∈ p, x.block < W.heap.size) → ArgC W cs fun M vs => ∃ a, P.rd 0 M.length M a vs
/-- The fields of a struct, from an offset on. -/
inductive Fits (enc : TypeId × Value → H) : List Field → Nat → (α : Type) → (k : Nat) → RecP α k → Prop
  | nil {off : Nat} : Fits enc [] off Unit 0 RecP.unit
  | cons {f : Field} {fs : List Field} {off k m : Nat} {α β : Type} {P : RecP α k} {Q : RecP β m} : f.offset = off → Tryz.prog.cellsOf f.type = k → Good enc f.type P → Fits enc fs (off + k) β m Q → Fits enc (f :: fs) off (α × β) (k + m) (RecP.cat P Q)
end
end Go.Proofs.YtodbjnngkonklaaGreat

namespace Go.Proofs.YtodbjnngkonklaaGreat
open Go.RowKit
set_option linter.unusedVariables false
set_option linter.unusedSimpArgs false
set_option maxRecDepth 100000
attribute [local simp] List.getElem?_cons_zero
attribute [local irreducible] awCond awCall awLoop awDraw ow retQ retC resQ Keeps
structure Pitch where
  (s a o : Int)
deriving Inhabited, DecidableEq
def Pitch.row (c : Pitch) : List Value := [iv c.s, iv c.a, iv c.o]
def pitchR : RecV Pitch 3 := ⟨Pitch.row, fun _ => rfl⟩
abbrev Pitch.v (c : Pitch) : Value := .agg #[iv c.s, iv c.a, iv c.o]
theorem pitch_load {M : Mem} {id off : Nat} {g : Pitch} (h : Cl M id off g.row) : cellsAt M id off 3 = some [iv g.s, iv g.a, iv g.o] := cellsAt_of h rfl (by omega)
theorem pitch_eq {a b : Pitch} : a = b ↔ a.s = b.s ∧ a.a = b.a ∧ a.o = b.o := by
  cases a; cases b; simp
/-- Equality of records, as the language has it. -/
theorem pitch_same (a b : Pitch) : aggEq Tryz.prog 62 #[iv a.s, iv a.a, iv a.o] #[iv b.s, iv b.a, iv b.o] = some (decide (a = b)) := by
  refine aggEq_of (by kernel_rfl) rfl rfl fun w => ?_
  unfold Op.equal
  rw [show Op.maxDepth = 9999 + 1 from rfl]
  rw [run_equalIn_agg _ _ _ _ _ Tryz.underlying62 (by kernel_rfl)]
  simp [go_sem]
  repeat' split
  all_goals simp_all [pitch_eq]
theorem pitch_neq (a b : Pitch) : binV Tryz.prog .neq 62 (.agg #[iv a.s, iv a.a, iv a.o]) (.agg #[iv b.s, iv b.a, iv b.o]) = some (.bool (!decide (a = b))) := by
  simp only [binV, eqV, Tryz.underlying62, pitch_same, Option.map_some]
@[simp] theorem pitch_fill (x0 x1 x2 : Int) : Instr.fill (fun i => some (i * 3, 3)) (zrow [iv 0, iv 0, iv 0] 1).toArray [(0, .agg #[iv x0, iv x1, iv x2])] = some #[iv x0, iv x1, iv x2] := fill_agg (by omega) rfl rfl
end Go.Proofs.YtodbjnngkonklaaGreat

namespace Go.Proofs.YtodbjnngkonklaaGreat
open Go.RowKit
set_option linter.unusedVariables false
set_option linter.unusedSimpArgs false
set_option maxRecDepth 100000
attribute [local simp] List.getElem?_cons_zero
attribute [local irreducible] awCond awCall awLoop awDraw ow retQ retC resQ Keeps
structure Interval where
  (t h : Int)
deriving Inhabited, DecidableEq
def Interval.row (c : Interval) : List Value := [iv c.t, iv c.h]
abbrev Interval.v (c : Interval) : Value := .agg #[iv c.t, iv c.h]
theorem interval_eq {a b : Interval} : a = b ↔ a.t = b.t ∧ a.h = b.h := by
  cases a; cases b; simp
/-- Equality of records, as the language has it. -/
theorem interval_same (a b : Interval) : aggEq Tryz.prog 58 #[iv a.t, iv a.h] #[iv b.t, iv b.h] = some (decide (a = b)) := by
  refine aggEq_of (by kernel_rfl) rfl rfl fun w => ?_
  unfold Op.equal
  rw [show Op.maxDepth = 9999 + 1 from rfl]
  rw [run_equalIn_agg _ _ _ _ _ Tryz.underlying58 (by kernel_rfl)]
  simp [go_sem]
  repeat' split
  all_goals simp_all [interval_eq]
theorem interval_eql (a b : Interval) : binV Tryz.prog .eql 58 (.agg #[iv a.t, iv a.h]) (.agg #[iv b.t, iv b.h]) = some (.bool (decide (a = b))) := by
  simp only [binV, eqV, Tryz.underlying58, interval_same, Option.map_some]
@[simp] theorem interval_fill (x0 x1 : Int) : Instr.fill (fun i => some (i * 2, 2)) (zrow [iv 0, iv 0] 1).toArray [(0, .agg #[iv x0, iv x1])] = some #[iv x0, iv x1] := fill_agg (by omega) rfl rfl
end Go.Proofs.YtodbjnngkonklaaGreat

namespace Go.Proofs.YtodbjnngkonklaaGreat
open Go.RowKit
set_option linter.unusedVariables false
set_option linter.unusedSimpArgs false
set_option maxRecDepth 100000
attribute [local simp] List.getElem?_cons_zero
attribute [local irreducible] awCond awCall awLoop awDraw ow retQ retC resQ Keeps
structure Frac where
  (n d : Int)
deriving Inhabited, DecidableEq
def Frac.row (c : Frac) : List Value := [iv c.n, iv c.d]
def fracR : RecV Frac 2 := ⟨Frac.row, fun _ => rfl⟩
abbrev Frac.v (c : Frac) : Value := .agg #[iv c.n, iv c.d]
theorem frac_load {M : Mem} {id off : Nat} {g : Frac} (h : Cl M id off g.row) : cellsAt M id off 2 = some [iv g.n, iv g.d] := cellsAt_of h rfl (by omega)
theorem frac_eq {a b : Frac} : a = b ↔ a.n = b.n ∧ a.d = b.d := by
  cases a; cases b; simp
/-- Equality of records, as the language has it. -/
theorem frac_same (a b : Frac) : aggEq Tryz.prog 34 #[iv a.n, iv a.d] #[iv b.n, iv b.d] = some (decide (a = b)) := by
  refine aggEq_of (by kernel_rfl) rfl rfl fun w => ?_
  unfold Op.equal
  rw [show Op.maxDepth = 9999 + 1 from rfl]
  rw [run_equalIn_agg _ _ _ _ _ Tryz.underlying34 (by kernel_rfl)]
  simp [go_sem]
  repeat' split
  all_goals simp_all [frac_eq]
theorem frac_eql (a b : Frac) : binV Tryz.prog .eql 34 (.agg #[iv a.n, iv a.d]) (.agg #[iv b.n, iv b.d]) = some (.bool (decide (a = b))) := by
  simp only [binV, eqV, Tryz.underlying34, frac_same, Option.map_some]
@[simp] theorem frac_fill (x0 x1 : Int) : Instr.fill (fun i => some (i * 2, 2)) (zrow [iv 0, iv 0] 1).toArray [(0, .agg #[iv x0, iv x1])] = some #[iv x0, iv x1] := fill_agg (by omega) rfl rfl
end Go.Proofs.YtodbjnngkonklaaGreat

namespace Go.Proofs.YtodbjnngkonklaaGreat
open Go.RowKit
set_option linter.unusedVariables false
set_option linter.unusedSimpArgs false
set_option maxRecDepth 100000
attribute [local simp] List.getElem?_cons_zero
attribute [local irreducible] awCond awCall awLoop awDraw ow retQ retC resQ Keeps
structure Item where
  j : Int
  ps : List Pitch
  ln : Int
  ld : Int
  x : Int
  mt : Int
  mh : Int
  z : Int
deriving Inhabited, DecidableEq
abbrev pitchP : RecP Pitch 3 := .flat pitchR
def Item.cs (x : Item) (u : Value) : List Value := [iv x.j, u, iv x.ln, iv x.ld, iv x.x, iv x.mt, iv x.mh, iv x.z]
def itemP : RecP Item 8 where
  rd := fun lo hi M x vs => ∃ u, vs = [iv x.j, u, iv x.ln, iv x.ld, iv x.x, iv x.mt, iv x.mh, iv x.z] ∧ SlV pitchP lo hi M u x.ps
  len := fun ⟨u, h, _⟩ => by rw [h]; rfl
  agree := fun ⟨u, h1, h2⟩ hg => ⟨u, h1, h2.agree hg⟩
  wide := fun ⟨u, h1, h2⟩ a b => ⟨u, h1, h2.wide a b⟩
section
variable {H : Type} {enc : TypeId × Value → H}
end
theorem SlV.isSl {α : Type} {k : Nat} [Inhabited α] {P : RecP α k} {lo hi : Nat} {M : Mem} {u : Value} {l : List α} (h : SlV P lo hi M u l) : ∃ A n c, u = .slice A n c := by
  obtain ⟨A, n, c, e, _⟩ := h
  exact ⟨A, n, c, e⟩
theorem agree_mid {M A B C : Mem} {lo hi : Nat} (h : B.length = A.length) (hm : M.length + A.length ≤ lo) : Agree lo hi (M ++ B ++ C) (M ++ (A ++ C)) := fun i s h1 h2 hs => by
  rw [List.append_assoc] at hs
  rw [List.getElem?_append_right (by omega), List.getElem?_append_right (by omega)] at hs ⊢
  rw [h] at hs
  exact hs
/-- Rows ahead of a value's own rows have turned. -/
theorem SlV.boxes {α : Type} {k : Nat} [Inhabited α] {P : RecP α k} {M A B C : Mem} {u : Value} {l : List α} (h : SlV P (M ++ B).length (M ++ B ++ C).length (M ++ B ++ C) u l) (hl : B.length = A.length) : SlV P M.length (M ++ (A ++ C)).length (M ++ (A ++ C)) u l :=
  (h.agree (agree_mid hl (by simp; omega))).wide (by simp) (by simp; omega)
theorem item_eq {a b : Item} : a = b ↔ a.j = b.j ∧ a.ps = b.ps ∧ a.ln = b.ln ∧ a.ld = b.ld ∧ a.x = b.x ∧ a.mt = b.mt ∧ a.mh = b.mh ∧ a.z = b.z := by
  cases a; cases b; simp
end Go.Proofs.YtodbjnngkonklaaGreat
