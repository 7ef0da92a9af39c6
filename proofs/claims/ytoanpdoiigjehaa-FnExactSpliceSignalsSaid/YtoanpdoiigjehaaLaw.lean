/- What every law's proof shares: from the walk of the law's function to the row's post. -/
import Derived.Test.YtoanpdoiigjehaaCore
import Derived.ProofKit
import Derived.OpenShut
import Derived.Deep.Slices
import Derived.Deep.Fields
namespace Go.Proofs.Ytoanpdoiigjehaa
open Go.ChangeShapes Go.WideShapes Go.ChangeAt Go.RowKit Go.Deep
set_option linter.unusedVariables false
set_option linter.unusedSimpArgs false

theorem own_knob : ownKnob Try.prog.godebug = none := by kernel_rfl
theorem laid_out : laidOutB Try.prog = true := by kernel_rfl

section
variable {H : Type} {enc : TypeId × Value → H}
theorem trodAll_stays {W W' : World} {sp : Nat → Bool} (hb : Below W.heap.size W W') : ∀ (ts : List TypeId) (vs : List Value) (ds : List (DataW H)) (ps : List MemPlace),
    (∀ t ∈ ts, Try.prog.readableRec t = true ∧ t < Try.prog.types.size) → DataW.TrodAll enc Try.prog W 0 (fun _ => true) true ts vs ds ps → (∀ x ∈ ps, x.block < W.heap.size) → (∀ x ∈ ps, sp x.block = true) →
    DataW.TrodAll enc Try.prog W' 0 sp true ts vs ds ps
  | [], [], [], _, _, h, _, _ => h
  | t :: ts, v :: vs, d :: ds, ps, ht, h, hl, hs => by
    obtain ⟨p, q, h1, h2, rfl⟩ := h
    refine ⟨p, q, WideElems.Trod_stays laid_out (ht t (by simp)).1 (ht t (by simp)).2 h1 (fun x hx => hb.same (hl x (by simp [hx]))) (fun x hx => hs x (by simp [hx])), ?_, rfl⟩
    exact trodAll_stays hb ts vs ds q (fun t' h' => ht t' (by simp [h'])) h2 (fun x hx => hl x (by simp [hx])) (fun x hx => hs x (by simp [hx]))
  | [], [], _ :: _, _, _, h, _, _ => h.elim
  | [], _ :: _, _, _, _, h, _, _ => h.elim
  | _ :: _, [], _, _, _, h, _, _ => h.elim
  | _ :: _, _ :: _, [], _, _, h, _, _ => h.elim

/-- The row's post out of the walk's end, for a law: it returned true, and nothing old has turned. -/
theorem law_post {f : Func} {s : ChangeSpec} {W W' : World} {args : Array Value} {ds gs : List (DataW H)} {before : List MemPlace}
    (hvars : s.vars = []) (hres : f.resultTypes = #[4]) (hread0 : (f.params.toList.all fun t => Try.prog.readableRec t && decide (t < Try.prog.types.size)) = true)
    (hs : s.fn H ds = { results := [.lit (.bool true)], args := ds })
    (hW : DataW.Whole enc Try.prog f.params.toList s.vars false W args.toList ds gs before) (hb : Below W.heap.size W W') :
    s.post enc Try.prog f false true false false W args (.bool true) W' := by
  have hread : ∀ t ∈ f.params.toList, Try.prog.readableRec t = true ∧ t < Try.prog.types.size := fun t ht => by
    have := List.all_eq_true.1 hread0 t ht
    simpa using this
  have hlt : ∀ p ∈ before, p.block < W.heap.size := fun p hp => hW.lt p hp
  have hW0 := hW
  obtain ⟨p, q, hA, hV, rfl, hfz, hnd⟩ := hW
  rw [hvars] at hV
  obtain ⟨rfl, rfl⟩ := trodVars_none hV
  rw [List.append_nil] at hlt hW0
  have hargs : ∀ sp : Nat → Bool, (∀ x ∈ p, sp x.block = true) → DataW.TrodAll enc Try.prog W' 0 sp true f.params.toList args.toList ds p :=
    fun sp hsp => trodAll_stays hb _ _ _ _ hread hA hlt hsp
  have hr : ∀ (b : Nat) (sp : Nat → Bool) (hd : Bool), DataW.TrodAll enc Try.prog W' b sp hd f.resultTypes.toList ((Value.bool true).resultList f.resultTypes.size) [.lit (.bool true)] [] := by
    intro b sp hd
    rw [hres]
    exact trodAll_mk1 (shut_bool Try.underlying4 _)
  refine ⟨ds, [], p, [], p, [], hW0, ?_, ?_, ?_, World.keptBut_mono (fun x hx => ⟨hx, ?_⟩) (hb.frame (· ∈ p)), fun h => by cases h⟩
  · rw [List.append_nil, hs]; exact hr _ _ _
  · rw [List.append_nil, hs]; exact hargs _ (fun x hx => by simpa using hlt x hx)
  · rw [hvars]; simp only [hs, List.append_nil]; rfl
  · exact Or.inr (by simpa using hx)
/-- An argument that is a slice of integers. -/
theorem open_I {W : World} {base : Nat} {v : Value} {d : DataW H} {p : List MemPlace} {q : List MemPlace} (hlt : ∀ x ∈ q, x.block < W.heap.size) (hv : Value.okWide Try.prog W .any base 22 v)
    (h : DataW.Trod enc Try.prog W 0 (fun _ => true) true 22 v d p) (hp : ∀ x ∈ p, x ∈ q) : ∃ l : List Int, RdI W v l := by
  obtain ⟨a0, len, cap, rfl⟩ := okWide_slice Try.underlying22 hv
  obtain ⟨fuel, hf⟩ := h
  rcases open_ints Try.underlying22 Try.underlying2 (by kernel_rfl) hf with ⟨hcs, hx⟩ | ⟨a, len', cap', zs, hcs, _, hl, hm, hz, hx, hcell, hwz⟩
  · refine ⟨[], _, _, _, rfl, ?_⟩
    have hcs' : [Value.slice a0 len cap] = [.slice none 0 0] := hcs
    injection hcs' with hcs''
    injection hcs'' with h1 h2 h3
    subst h1; subst h2; subst h3
    exact ⟨rfl, Nat.le_refl _, Nat.zero_le _, fun h => absurd h (by omega)⟩
  · have hcs' : [Value.slice a0 len cap] = [.slice (some a) len' cap'] := hcs
    injection hcs' with hcs''
    injection hcs'' with h1 h2 h3
    subst h1; subst h2; subst h3
    simp only [if_pos] at hz
    refine ⟨zs.take len, _, _, _, rfl, ?_, hl, hm, fun hn => ⟨a, rfl, ?_, ?_⟩⟩
    · simp [ints]; omega
    · injection hx with _ hp'
      have hmem : ∃ x ∈ p, x.block = a.block := by
        refine ⟨.cell a.block (a.off + 0), ?_, rfl⟩
        rw [hp']
        unfold MemPlace.row
        exact List.mem_map.2 ⟨0, by simp; omega, rfl⟩
      obtain ⟨x, hx1, hx2⟩ := hmem
      rw [← hx2]
      exact hlt x (hp x hx1)
    · intro j u hu
      have hj : j < len := by
        have := (List.getElem?_eq_some_iff.1 hu).1
        rw [ints_len, List.length_take] at this
        omega
      rw [hcell j (by omega)]
      rw [ints_get (by rw [List.length_take]; omega)] at hu
      rw [← hu]
      simp [gi, hj]

/-- Is the type made of int64 alone (cells that its fields cover)? -/
noncomputable def flatB : Nat → TypeId → Bool
  | 0, _ => false
  | d + 1, t =>
    match Try.prog.underlying t with
    | some (.int .i64) => true
    | some (.struct fs) => (fs.toList.all fun f => flatB d f.type) && ((List.range (Try.prog.cellsOf t)).all fun j => fs.toList.any fun f => decide (f.offset ≤ j) && decide (j < f.offset + Try.prog.cellsOf f.type))
    | _ => false
theorem trod_flat : ∀ (d : Nat) (t : TypeId), flatB d t = true → ∀ {W : World} {base : Nat} {spare : Nat → Bool} {held : Bool} {n : Nat} {cs : List Value} {x : DataW H × List MemPlace},
    DataW.trod enc Try.prog W base spare held n t cs = some x → ∀ v ∈ cs, ∃ z : Int, v = iv z ∧ (Lit.int .i64 z).wf = true
  | 0, _, h => by simp [flatB] at h
  | d + 1, t, h => by
    rename_i W base spare held n cs x
    intro hx v hv
    unfold flatB at h
    split at h
    · rename_i ht
      obtain ⟨z, rfl, -, hw⟩ := DataW.trod_int ht hx
      simp only [List.mem_singleton] at hv
      exact ⟨z, hv, hw⟩
    · rename_i fs ht
      simp only [Bool.and_eq_true, List.all_eq_true, List.any_eq_true, decide_eq_true_eq] at h
      obtain ⟨h1, h2⟩ := h
      obtain ⟨xs, m, -, -, hlen, hxl, hf⟩ := DataW.trod_struct ht hx
      obtain ⟨j, hj, rfl⟩ := List.getElem_of_mem hv
      obtain ⟨f, hfm, hlo, hhi⟩ := h2 j (by rw [List.mem_range]; omega)
      obtain ⟨i, hi, rfl⟩ := List.getElem_of_mem hfm
      have hi' : i < fs.size := by simpa using hi
      have hfi : fs[i]? = some fs.toList[i] := by simp [hi']
      have hy := hf i _ hfi
      have hxi : xs[i]? = some xs[i] := List.getElem?_eq_getElem (by omega)
      rw [hxi] at hy
      refine trod_flat d _ (h1 _ hfm) hy _ ?_
      have hs : ((cs.drop fs.toList[i].offset).take (Try.prog.cellsOf fs.toList[i].type))[j - fs.toList[i].offset]? = some cs[j] := by
        rw [List.getElem?_take, if_pos (by omega), List.getElem?_drop, show fs.toList[i].offset + (j - fs.toList[i].offset) = j by omega, List.getElem?_eq_getElem hj]
      exact List.mem_of_getElem? hs
    · simp at h

theorem ints_of {cs : List Value} (h : ∀ v ∈ cs, ∃ z : Int, v = iv z ∧ (Lit.int .i64 z).wf = true) : ∃ zs : List Int, cs = ints zs ∧ ∀ z ∈ zs, (Lit.int .i64 z).wf = true := by
  induction cs with
  | nil => exact ⟨[], rfl, by simp⟩
  | cons v cs ih =>
    obtain ⟨z, rfl, hz⟩ := h _ (List.mem_cons_self)
    obtain ⟨zs, rfl, hzs⟩ := ih fun v hv => h v (List.mem_cons_of_mem _ hv)
    exact ⟨z :: zs, rfl, by simpa using ⟨hz, hzs⟩⟩

/-- An argument that is a struct of int64 alone. -/
theorem open_flat {W : World} {base : Nat} {t : TypeId} {fs : Array Field} {v : Value} {d : DataW H} {p : List MemPlace} (ht : Try.prog.underlying t = some (.struct fs)) (hB : flatB 5 t = true) (hv : Value.okWide Try.prog W .any base t v)
    (h : DataW.Trod enc Try.prog W 0 (fun _ => true) true t v d p) : ∃ zs : List Int, v = .agg (ints zs).toArray ∧ zs.length = Try.prog.cellsOf t ∧ ∀ z ∈ zs, (Lit.int .i64 z).wf = true := by
  obtain ⟨cs, rfl, hsz⟩ := okWide_struct ht hv
  obtain ⟨fuel, hf⟩ := h
  obtain ⟨zs, hz, hw⟩ := ints_of (trod_flat 5 t hB hf)
  refine ⟨zs, ?_, ?_, hw⟩
  · have : cs.toList = ints zs := hz
    rw [← this]
  · have := congrArg List.length hz
    rw [ints_len] at this
    rw [← this, ← hsz]
    rfl

/-- An argument that is a slice of structs of int64 alone. -/
theorem open_flats {W : World} {base : Nat} {t e : TypeId} {k : Nat} {v : Value} {d : DataW H} {p q : List MemPlace} (ht : Try.prog.underlying t = some (.slice e)) (hB : flatB 5 e = true) (hk : Try.prog.cellsOf e = k) (hk0 : 0 < k)
    (hlt : ∀ x ∈ q, x.block < W.heap.size) (hv : Value.okWide Try.prog W .any base t v)
    (h : DataW.Trod enc Try.prog W 0 (fun _ => true) true t v d p) (hp : ∀ x ∈ p, x ∈ q) : ∃ (A : Option Addr) (n c : Nat) (zs : List Int), v = .slice A n c ∧ Rd W k A n c (ints zs) ∧ ∀ z ∈ zs, (Lit.int .i64 z).wf = true := by
  obtain ⟨a0, len, cap, rfl⟩ := okWide_slice ht hv
  obtain ⟨fuel, hf⟩ := h
  rcases open_slice ht hf with ⟨hcs, hx⟩ | ⟨a, len', cap', m, n, D, Pl, hcs, hb, hl, hm, hmm, hx, hi⟩
  · have hcs' : [Value.slice a0 len cap] = [.slice none 0 0] := hcs
    injection hcs' with hcs''
    injection hcs'' with h1 h2 h3
    subst h1; subst h2; subst h3
    exact ⟨_, _, _, [], rfl, ⟨by simp [ints], Nat.le_refl _, Nat.zero_le _, fun h => absurd h (by omega)⟩, by simp⟩
  · have hcs' : [Value.slice a0 len cap] = [.slice (some a) len' cap'] := hcs
    injection hcs' with hcs''
    injection hcs'' with h1 h2 h3
    subst h1; subst h2; subst h3
    simp only [if_pos] at hmm
    subst hmm
    rw [hk] at hx hi
    have each : ∀ i, i < len → ∃ zs : List Int, zs.length = k ∧ (∀ z ∈ zs, (Lit.int .i64 z).wf = true) ∧ ∀ j, j < k → W.cell? ((a.add (i * k)).add j) = some (iv (gi zs j)) := by
      intro i hil
      obtain ⟨cs', hc, ht'⟩ := hi i (by omega)
      obtain ⟨_, hcl, hat⟩ := World.cells?_some hc
      obtain ⟨zs, rfl, hw⟩ := ints_of (trod_flat 5 e hB ht')
      rw [ints_len] at hcl
      exact ⟨zs, hcl, hw, fun j hj => by rw [hat j hj, ints_get (by omega)]⟩
    have all : ∀ n', n' ≤ len → ∃ zs : List Int, zs.length = n' * k ∧ (∀ z ∈ zs, (Lit.int .i64 z).wf = true) ∧ ∀ j, j < n' * k → W.cell? (a.add j) = some (iv (gi zs j)) := by
      intro n'
      induction n' with
      | zero => exact fun _ => ⟨[], by simp, by simp, fun j hj => by omega⟩
      | succ n' ih =>
        intro hn'
        obtain ⟨zs, hz1, hz2, hz3⟩ := ih (by omega)
        obtain ⟨ys, hy1, hy2, hy3⟩ := each n' (by omega)
        refine ⟨zs ++ ys, by rw [List.length_append, hz1, hy1, Nat.add_mul, Nat.one_mul], fun z hz => ?_, fun j hj => ?_⟩
        · rcases List.mem_append.1 hz with h | h
          · exact hz2 z h
          · exact hy2 z h
        · rw [Nat.add_mul, Nat.one_mul] at hj
          by_cases hjl : j < n' * k
          · rw [hz3 j hjl]
            unfold gi
            simp only [List.getD_eq_getElem?_getD]
            rw [List.getElem?_append_left (by omega)]
          · have := hy3 (j - n' * k) (by omega)
            rw [add_add', show n' * k + (j - n' * k) = j by omega] at this
            rw [this]
            unfold gi
            simp only [List.getD_eq_getElem?_getD]
            rw [List.getElem?_append_right (by omega), hz1]
    obtain ⟨zs, hz1, hz2, hz3⟩ := all len (Nat.le_refl _)
    refine ⟨_, _, _, zs, rfl, ⟨by rw [ints_len, hz1], hl, hm, fun hn => ⟨a, rfl, ?_, fun j u hu => ?_⟩⟩, hz2⟩
    · injection hx with _ hp'
      have hmem : ∃ x ∈ p, x.block = a.block := by
        refine ⟨.cell a.block (a.off + 0), ?_, rfl⟩
        rw [hp']
        refine List.mem_append_left _ ?_
        unfold MemPlace.row
        exact List.mem_map.2 ⟨0, by rw [List.mem_range]; exact Nat.mul_pos (by omega) hk0, rfl⟩
      obtain ⟨x, hx1, hx2⟩ := hmem
      rw [← hx2]
      exact hlt x (hp x hx1)
    · have hj : j < len * k := by
        have := (List.getElem?_eq_some_iff.1 hu).1
        rw [ints_len, hz1] at this
        exact this
      rw [hz3 j hj]
      rw [ints_get (by omega)] at hu
      exact hu
end
end Go.Proofs.Ytoanpdoiigjehaa
