/- append over abstract states. No conditions. -/
import Derived.Test.YtffbocbjmhkikaaAw5
namespace Go.Proofs.Ytffbocbjmhkikaa
open Go.RowKit
set_option linter.unusedVariables false
set_option linter.unusedSimpArgs false

theorem setCells_heap {g : Nat} {e : TypeId} {fr : Nat × Nat} : ∀ (vs : List Value) (o : Nat) (w : World) (cur : Array Value), w.heap[g]? = some (.cells cur e fr) → o + vs.length ≤ cur.size →
    ∃ cur', (w.setCells g o vs).heap[g]? = some (.cells cur' e fr) ∧ cur'.size = cur.size ∧ (∀ j, (j < o ∨ o + vs.length ≤ j) → cur'[j]? = cur[j]?) ∧ (∀ j v, vs[j]? = some v → cur'[o + j]? = some v) ∧
      (w.setCells g o vs).os = w.os ∧ (w.setCells g o vs).tape = w.tape ∧ (w.setCells g o vs).output = w.output ∧ (w.setCells g o vs).heap.size = w.heap.size ∧ ∀ k, k ≠ g → (w.setCells g o vs).heap[k]? = w.heap[k]?
  | [], o, w, cur, h, _ => ⟨cur, h, rfl, fun _ _ => rfl, fun j v hv => by simp at hv, rfl, rfl, rfl, rfl, fun _ _ => rfl⟩
  | v :: vs, o, w, cur, h, hle => by
    simp only [List.length_cons] at hle
    have h1 : (w.setCell ⟨g, o, none⟩ v).heap[g]? = some (.cells (cur.setIfInBounds o v) e fr) := by simp [World.setCell, Array.getElem?_modify, h]
    obtain ⟨cur', a1, a2, a3, a4, a5, a6, a7, a8, a9⟩ := setCells_heap vs (o + 1) _ _ h1 (by simp; omega)
    refine ⟨cur', a1, by rw [a2]; simp, fun j hj => ?_, fun j u hu => ?_, a5, a6, a7, by simp only [World.setCells]; rw [a8]; simp [World.setCell], fun k hk => by simp only [World.setCells]; rw [a9 k hk, Below.heap_setCell _ _ _ _ hk]⟩
    · simp only [List.length_cons] at hj
      rw [a3 j (by omega), Array.getElem?_setIfInBounds_ne (by omega)]
    · cases j with
      | zero =>
        simp at hu
        subst hu
        rw [a3 (o + 0) (by omega), Nat.add_zero, Array.getElem?_setIfInBounds_self, if_pos (by omega)]
      | succ j =>
        have := a4 j u (by simpa using hu)
        rwa [show o + (j + 1) = o + 1 + j by omega]

def srcOf (P : Program) (M : Mem) (esz : Nat) (tx : TypeId) (x : Value) : Option (Nat × List Value) :=
  match x with
  | .slice none n c => (match P.underlying tx with | some (.slice _) => if n = 0 ∧ c = 0 then some (0, []) else none | _ => none)
  | .slice (some ⟨id, off, sp⟩) m _ => (match P.underlying tx with | some (.slice _) => if m = 0 then some (0, []) else if sp = none then (cellsAt M id off (m * esz)).map fun cs => (m, cs) else none | _ => none)
  | .string s => (match P.underlying tx with | some .string => if esz = 1 then some (s.size, byteCells s) else none | _ => none)
  | _ => none

section
variable {P : Program} {b : Nat} {o : Oper} {S : St} {K : Value → Mem → Prop}

theorem VRel.one {M : Mem} {μ : Map} {v c : Value} (h : VRel M μ v c) (h1 : v.oneCell' = true) : c.oneCell' = true := by
  cases h with
  | plain _ => exact h1
  | agg => cases h1
  | tup => cases h1
  | _ => rfl
/-- The source of an append, in the world. -/
theorem Sim.src {M : Mem} {μ : Map} {w : World} (hS : Sim M μ w) {esz : Nat} {tx : TypeId} {x x' : Value} {m : Nat} {news : List Value} (h : srcOf P M esz tx x = some (m, news)) (hx : VRel M μ x x') (h1 : news.all (fun u => u.oneCell') = true) :
    ∃ ds, LRel M μ news ds ∧ Src P esz tx x' m ds w := by
  unfold srcOf at h
  split at h
  · split at h
    · rename_i e ht
      split at h
      · rename_i hn
        injection h with h
        injection h with h2 h3
        subst h2; subst h3
        obtain ⟨rfl, rfl⟩ := hn
        have : x' = .slice none 0 0 := hx.of_plain rfl
        subst this
        exact ⟨[], .nil, Src.ofNil w ht 0⟩
      · cases h
    · cases h
  · split at h
    · rename_i e ht
      split at h
      · rename_i hm0
        subst hm0
        injection h with h
        injection h with h2 h3
        subst h2; subst h3
        obtain ⟨-, ad, cp, s, rfl, hs, hkn, hn, hm, hat⟩ := hx.sl_inv
        exact ⟨[], .nil, Src.ofSlice w ht ad _ _ [] (by simp) (fun j u hu => by simp at hu) fun u hu => by simp at hu⟩
      split at h
      case isFalse => cases h
      obtain ⟨cs, hcs, he⟩ := Option.map_eq_some_iff.1 h
      injection he with h2 h3
      subst h2; subst h3
      obtain ⟨-, ad, cp, s, rfl, hs, hkn, hn, hm, hat⟩ := hx.sl_inv
      obtain ⟨r, hr, hlen, ds, hrel, hcell⟩ := hS.cells hcs
      rw [hr] at hs
      injection hs with hs
      obtain ⟨h4, -⟩ := hat r hs.symm
      refine ⟨ds, hrel, Src.ofSlice w ht ad _ _ ds (by rw [← hrel.1, hlen]) (fun j u hu => ?_) fun u hu => ?_⟩
      · have hj : j < cs.length := by have := (List.getElem?_eq_some_iff.1 hu).1; rw [← hrel.1] at this; exact this
        rcases h4 with ⟨h4, -⟩ | h4
        · subst h4
          have : cs.length = 0 := by
            rw [hlen]
            have : (0 : Nat) * esz = 0 := Nat.zero_mul _
            rw [show _ = 0 from Nat.le_zero.1 hn]; exact this
          omega
        · rw [h4, add_add_]; exact hcell j u hu
      · obtain ⟨i, hi, rfl⟩ := List.getElem_of_mem hu
        have hx := hrel.2 i (cs[i]'(by rw [hrel.1]; exact hi)) _ (List.getElem?_eq_getElem _) (List.getElem?_eq_getElem hi)
        exact hx.one (List.all_eq_true.1 h1 _ (List.getElem_mem _))
    · cases h
  · split at h
    · rename_i ht
      split at h
      · rename_i he
        injection h with h
        injection h with h2 h3
        subst h2; subst h3; subst he
        have : x' = .string _ := hx.string
        subst this
        refine ⟨_, ⟨rfl, fun i u v hu hv => ?_⟩, Src.ofString w ht _⟩
        rw [hu] at hv
        injection hv with hv
        subst hv
        refine .plain ?_
        have hm := List.mem_of_getElem? hu
        unfold byteCells at hm
        obtain ⟨z, -, rfl⟩ := List.mem_map.1 hm
        rfl
      · cases h
    · cases h
  · cases h

def appendK (P : Program) (b : Nat) (S : St) (K : Value → Mem → Prop) (t tx : TypeId) (s x : Value) : Prop :=
  ow (qSlice P t) fun q => ow (srcOf P S.M q.2.1 tx x) fun mn => (P.info? q.1).any (fun i => i.zero.any fun z => z.cells.size == q.2.1) = true ∧ mn.2.all (fun u => u.oneCell') = true ∧
    match s with
    | .slice none n c => (n = 0 ∧ c = 0) ∧ mn.1 * q.2.2 ≤ 140737488355328 ∧ mn.1 ≤ maxLen ∧ (mn.1 = 0 → K (.slice none 0 0) S.M) ∧ (mn.1 ≠ 0 → K (.slice (some ⟨S.M.length, 0, none⟩) mn.1 mn.1) (S.M ++ [.live ⟨mn.2, true, false, q.1, q.2.1⟩]))
    | .slice (some ⟨id, 0, none⟩) n c => (match S.M[id]? with
      | some (.live r) => (r.own = true ∧ n * q.2.1 = r.cells.length ∧ r.esz = q.2.1 ∧ r.elem = q.1) ∧ (n + mn.1) * q.2.2 ≤ 140737488355328 ∧ n + mn.1 ≤ maxLen ∧ (mn.1 = 0 → K (.slice (some ⟨id, 0, none⟩) n c) S.M) ∧
        (mn.1 ≠ 0 → if r.tight = true then K (.slice (some ⟨S.M.length, 0, none⟩) (n + mn.1) (n + mn.1)) (S.M ++ [.live ⟨r.cells ++ mn.2, true, false, q.1, q.2.1⟩])
          else b ≤ id ∧ K (.slice (some ⟨S.M.length, 0, none⟩) (n + mn.1) (n + mn.1)) (S.M.set id .dead ++ [.live ⟨r.cells ++ mn.2, true, false, q.1, q.2.1⟩]))
      | _ => False)
    | _ => False

theorem or_append {c : Call} {s x : Operand} {t tx : TypeId} (ho : o.op = .call c) (hc : c.callee = .builtin .append) (ha : c.args = #[s, x]) (ht : c.argTypes = #[t, tx])
    (h : ow (S.ev s) fun u => ow (S.ev x) fun v => appendK P b S K t tx u v) : OpRun P b o S K := by
  obtain ⟨u, hu, h⟩ := ow_iff.1 h
  obtain ⟨v, hv, h⟩ := ow_iff.1 h
  unfold appendK at h
  obtain ⟨⟨e, sz, by_⟩, hq, h⟩ := ow_iff.1 h
  obtain ⟨⟨m, news⟩, hsrc, hz, hone, h⟩ := ow_iff.1 h
  obtain ⟨h1, i, h2, h3, h4, h5⟩ := qSlice_some hq
  simp only at hz hone h
  have hz' : ∃ z, i.zero = some z ∧ z.cells.size = sz := by
    rw [h2] at hz
    simp only [Option.any_some] at hz
    cases hz0 : i.zero with
    | none => rw [hz0] at hz; cases hz
    | some z => rw [hz0] at hz; exact ⟨z, rfl, by simpa using hz⟩
  obtain ⟨z, hz0, hzs⟩ := hz'
  subst h3
  subst h4
  intro μ a w hE hS
  have hrun : ∀ s' x', a.eval s = s' → a.eval x = x' → ∀ v' w', (Builtin.append_ #[t, tx] o.type #[s', x']).run P w = .ok v' w' → (execOp a.eval o).run P w = .ok (.value v') w' := by
    intro s' x' e1 e2 v' w' hr
    simp [execOp, ho, resolve, hc, ha, ht, invoke, builtin, e1, e2, hr]
  obtain ⟨ds, hrel, hSrc⟩ := hS.src (P := P) hsrc (hE.ev hv) hone
  have hrelM : ds.length = m * i.size := hSrc.newsLen
  -- a row of its own: what it is when it grows
  have grow : ∀ (base : Option Addr) (n cap : Nat) (xs olds : List Value), LRel S.M μ xs olds → xs.length = n * i.size →
      (Builtin.firstCells i.size n (.slice base n cap)).run P w.drew = .ok olds.toArray w.drew → cap < n + m → (n + m) * i.bytes ≤ 140737488355328 → n + m ≤ maxLen →
      ∃ cap' w', (Builtin.append_ #[t, tx] o.type #[.slice base n cap, a.eval x]).run P w = .ok (.slice (some ⟨w.heap.size, 0, none⟩) (n + m) cap') w' ∧ n + m ≤ cap' ∧ cap' ≤ maxLen ∧
        ∃ cur, w' = w.drew.alloc (.cells cur e) ∧ cur.size = cap' * i.size ∧ (xs ++ news).length ≤ cur.size ∧ ∀ (j : Nat) c, (xs ++ news)[j]? = some c → ∃ d, cur[j]? = some d ∧ VRel S.M μ c d := by
    intro base n cap xs olds hr hl hf hg hb hm
    have hlo : olds.length = n * i.size := by rw [← hr.1, hl]
    have hge := grownCap_ge w (n + m) cap e
    refine ⟨_, _, run_append_grow_src w t tx o.type e i z h1 h2 hz0 base n cap olds hf (a.eval x) m ds hSrc hg (by unfold maxLen at hm; omega) (growslice_fits hg hb), hge, grownCap_le_maxLen w (n + m) cap e hm, _, rfl, ?_, ?_, ?_⟩
    · simp only [Array.size_append, List.size_toArray, List.length_append, size_zeroCells, hzs, hlo, hrelM, ← Nat.add_mul]
      congr 1
      omega
    · simp only [Array.size_append, List.size_toArray, List.length_append, hlo, hl, hrelM, hrel.1]
      omega
    · intro j c hc
      obtain ⟨d, hd, hh⟩ := (hr.append hrel).at_ hc
      refine ⟨d, ?_, hh⟩
      have hj := (List.getElem?_eq_some_iff.1 hd).1
      rw [Array.getElem?_append_left (by simpa using hj)]
      simpa using hd
  split at h
  · rename_i n c _
    obtain ⟨⟨rfl, rfl⟩, hb, hm, hK0, hK1⟩ := h
    have hs : a.eval s = .slice none 0 0 := (hE.ev hu).of_plain rfl
    by_cases h0 : m = 0
    · subst h0
      have hd : ds = [] := List.eq_nil_of_length_eq_zero (by simpa using hrelM)
      subst hd
      refine ⟨_, w, _, .slice none 0 0, S.M, μ, hrun _ _ hs rfl _ _ ?_, .inl rfl, hK0 rfl, .plain rfl, hS, .refl⟩
      have hc := hSrc.cells
      have hl := hSrc.len w
      rcases hSrc.kind with ⟨e', hk⟩ | hk <;> simp [Builtin.append_, run_underlying h1, run_underlying hk, sizeOf, typeInfo, h2, hl, hc]
    · obtain ⟨cap', w', hr, k1, k2, cur, rfl, k3, k4, k5⟩ := grow none 0 0 [] [] .nil (by simp) (run_firstCells_none w.drew i.size 0 0 0) (by omega) (by simpa using hb) (by simpa using hm)
      obtain ⟨g1, g2⟩ := (hS.heap (w' := w.drew) rfl).alloc (b := b) (xs := news) (cur := cur) (elem := e) (esz := i.size) (tight := false) (by simpa using k4) (fun h => by cases h) (by simpa using k5)
      refine ⟨_, _, _, _, _, _, hrun _ _ hs rfl _ _ hr, .inl rfl, hK1 h0, ?_, g1, Step.trans (Step.heap (b := b) (M := S.M) (μ := μ) (w := w) (w' := w.drew) rfl rfl rfl rfl) g2⟩
      simp only [Nat.zero_add] at k1 ⊢
      exact .sl getElem?_snoc_eq rfl k1 k2 fun r hr => by
        injection hr with hr
        subst hr
        exact ⟨.inr (by rw [Map.set_at, Addr.add_lit]; rfl), fun _ => by rw [Map.set_room, k3]; simp⟩
  · rename_i id n c _ _ _
    split at h
    · rename_i r hr
      obtain ⟨⟨c1, c2, c3, c4⟩, hb, hm, hK0, hK1⟩ := h
      obtain ⟨-, ad, cp, sl, hs, hsl, hkn, hncp, hcm, hat⟩ := (hE.ev hu).sl_inv
      rw [hr] at hsl
      injection hsl with hsl
      obtain ⟨h6, h7⟩ := hat r hsl.symm
      have h7 := h7 c1
      have hrow := hS.row id r hr
      obtain ⟨g, cur, fr, e1, e2, ef, e3, e4, e5⟩ := hrow.own c1
      have h6 : ad = ⟨g, 0, none⟩ := by
        rcases h6 with ⟨-, h6⟩ | h6
        · exact absurd rfl h6
        · rw [h6, e1]; rfl
      subst h6
      rw [c3, Nat.zero_add, ← e3] at h7
      -- what the row holds
      have hx : ∃ olds, LRel S.M μ r.cells olds ∧ ∀ (j : Nat) d, olds[j]? = some d → cur[j]? = some d := by
        refine ⟨cur.toList.take r.cells.length, ⟨by simp; omega, fun j x y hx hy => ?_⟩, fun j d hd => ?_⟩
        · obtain ⟨d, hd, hh⟩ := hrow.cell j x hx
          have hj := (List.getElem?_eq_some_iff.1 hx).1
          rw [List.getElem?_take, if_pos hj] at hy
          rw [e1, Addr.add_lit] at hd
          simp only [Nat.zero_add] at hd
          rw [cell_of_row _ g j cur r.elem fr e2] at hd
          have : some y = some d := by rw [← hd, ← hy]; simp
          injection this with this
          rw [this]; exact hh
        · rw [List.getElem?_take] at hd
          split at hd
          · simpa using hd
          · cases hd
      obtain ⟨olds, ho1, ho2⟩ := hx
      by_cases h0 : m = 0
      · subst h0
        have hd : ds = [] := List.eq_nil_of_length_eq_zero (by simpa using hrelM)
        subst hd
        refine ⟨_, w, _, .slice (some ⟨g, 0, none⟩) n cp, S.M, μ, hrun _ _ hs rfl _ _ ?_, .inl rfl, hK0 rfl, ?_, hS, .refl⟩
        · have := run_append_room_src (P := P) w t tx o.type e i h1 h2 g 0 n cp (a.eval x) 0 [] hSrc (by omega) (fun j hj => by simp at hj) (fun j hj => by simp at hj)
          simpa [World.setCells] using this
        · have := hE.ev hu
          rw [hs] at this
          exact this
      · have hK1 := hK1 h0
        by_cases hroom : n + m ≤ cp
        · have hnt : r.tight ≠ true := by
            intro htt
            have h8 := e5 htt
            rw [← c2, ← h7] at h8
            have := Nat.eq_of_mul_eq_mul_right h5 h8
            omega
          rw [if_neg hnt] at hK1
          obtain ⟨hbid, hK1⟩ := hK1
          have hfit : 0 + n * i.size + ds.length ≤ cur.size := by rw [hrelM, ← h7, Nat.zero_add, ← Nat.add_mul]; exact Nat.mul_le_mul_right _ hroom
          have hcl : ∀ j, j < ds.length → (w.cell? ⟨g, 0 + n * i.size + j, none⟩).isSome = true := by
            intro j hj
            rw [cell_of_row _ g _ cur r.elem fr e2, Array.getElem?_eq_getElem (by omega)]
            rfl
          have hfz : ∀ j, j < ds.length → w.frozen? ⟨g, 0 + n * i.size + j, none⟩ = false := by
            intro j hj
            have := ef (0 + n * i.size + j) (by omega)
            simp only [World.frozen?, e2]
            simp
            omega
          have hr2 := run_append_room_src (P := P) w t tx o.type e i h1 h2 g 0 n cp (a.eval x) m ds hSrc hroom hcl hfz
          obtain ⟨cur', a1, a2, a3, a4, a5, a6, a7, a8, a9⟩ := setCells_heap ds (0 + n * i.size) w cur e2 hfit
          have hlen : r.cells.length + news.length ≤ cur'.size := by rw [a2, ← c2, hrel.1]; omega
          have hx2 : ∀ (j : Nat) c, (r.cells ++ news)[j]? = some c → ∃ d, cur'[j]? = some d ∧ VRel S.M μ c d := by
            intro j c hc
            obtain ⟨d, hd, hh⟩ := (ho1.append hrel).at_ hc
            refine ⟨d, ?_, hh⟩
            by_cases hj : j < olds.length
            · rw [List.getElem?_append_left hj] at hd
              rw [a3 j (by left; have := ho1.1; omega)]
              exact ho2 j d hd
            · rw [List.getElem?_append_right (by omega)] at hd
              have := a4 _ _ hd
              rwa [show 0 + n * i.size + (j - olds.length) = j by have := ho1.1; omega] at this
          obtain ⟨g1, g2⟩ := hS.renew (b := b) (w' := w.setCells g (0 + n * i.size) ds) (g := g) (xs := r.cells ++ news) (cur := cur') (esz := i.size) hr c1 hbid a5 a6 a7 (by omega) (fun k _ hk => a9 k (by rw [e1] at hk; exact hk)) a1 (fun j hj => ef j (by omega)) (.inl (by rw [e1])) (by simpa using hlen) hx2
          rw [c4] at g1 g2
          refine ⟨_, _, _, _, _, _, hrun _ _ hs rfl _ _ hr2, .inl rfl, hK1, ?_, g1, g2⟩
          have hl2 : (S.M.set id Slot.dead).length = S.M.length := by simp
          have hnew : (S.M.set id Slot.dead ++ [Slot.live ⟨r.cells ++ news, true, false, e, i.size⟩])[S.M.length]? = some (Slot.live ⟨r.cells ++ news, true, false, e, i.size⟩) := by rw [← hl2]; exact getElem?_snoc_eq
          exact .sl hnew rfl hroom hcm fun r' hr' => by
            injection hr' with hr'
            subst hr'
            exact ⟨.inr (by rw [Map.set_at, Addr.add_lit]), fun _ => by rw [Map.set_room, a2, ← h7]; simp⟩
        · obtain ⟨cap', w', hr2, k1, k2, cur2, rfl, k3, k4, k5⟩ := grow (some ⟨g, 0, none⟩) n cp r.cells olds ho1 c2.symm (by
            refine run_firstCells_some w.drew i.size n _ n cp olds (by rw [← ho1.1, c2]) fun j u hu => ?_
            rw [Addr.add_lit]
            simp only [Nat.zero_add]
            show w.cell? _ = _
            rw [cell_of_row _ g j cur r.elem fr e2]
            exact ho2 j u hu) (by omega) hb hm
          have hnewW : (w.drew.alloc (.cells cur2 e)).heap[w.heap.size]? = some (.cells cur2 e (0, 0)) := heap_alloc_new w.drew _
          by_cases htt : r.tight = true
          · rw [if_pos htt] at hK1
            obtain ⟨g1, g2⟩ := (hS.heap (w' := w.drew) rfl).alloc (b := b) (xs := r.cells ++ news) (cur := cur2) (elem := e) (esz := i.size) (tight := false) k4 (fun h => by cases h) k5
            refine ⟨_, _, _, _, _, _, hrun _ _ hs rfl _ _ hr2, .inl rfl, hK1, ?_, g1, Step.trans (Step.heap (b := b) (M := S.M) (μ := μ) (w := w) (w' := w.drew) rfl rfl rfl rfl) g2⟩
            exact .sl getElem?_snoc_eq rfl k1 k2 fun r' hr' => by
              injection hr' with hr'
              subst hr'
              exact ⟨.inr (by rw [Map.set_at, Addr.add_lit]; rfl), fun _ => by rw [Map.set_room, k3]; simp⟩
          · rw [if_neg htt] at hK1
            obtain ⟨hbid, hK1⟩ := hK1
            obtain ⟨g1, g2⟩ := hS.renew (b := b) (w' := w.drew.alloc (.cells cur2 e)) (g := w.heap.size) (xs := r.cells ++ news) (cur := cur2) (esz := i.size) hr c1 hbid rfl rfl rfl (by simp) (fun k hk _ => Below.heap_alloc w.drew _ _ hk) (by rw [c4]; exact hnewW) (fun j _ => by simp) (.inr (Nat.le_refl _)) k4 k5
            rw [c4] at g1 g2
            refine ⟨_, _, _, _, _, _, hrun _ _ hs rfl _ _ hr2, .inl rfl, hK1, ?_, g1, g2⟩
            have hl2 : (S.M.set id Slot.dead).length = S.M.length := by simp
            have hnew : (S.M.set id Slot.dead ++ [Slot.live ⟨r.cells ++ news, true, false, e, i.size⟩])[S.M.length]? = some (Slot.live ⟨r.cells ++ news, true, false, e, i.size⟩) := by rw [← hl2]; exact getElem?_snoc_eq
            exact .sl hnew rfl k1 k2 fun r' hr' => by
              injection hr' with hr'
              subst hr'
              exact ⟨.inr (by rw [Map.set_at, Addr.add_lit]), fun _ => by rw [Map.set_room, k3]; simp⟩
    · exact h.elim
  · exact h.elim
end
end Go.Proofs.Ytffbocbjmhkikaa
