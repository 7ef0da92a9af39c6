/- Binary forms that are drawn; the law of the streams is walked. No conditions. -/
import Derived.Test.YthopcmglcnlcfaaE5
namespace Go.Proofs.Ythopcmglcnlcfaa
open Go.RowKit
set_option linter.unusedVariables false
set_option linter.unusedSimpArgs false
set_option maxRecDepth 100000
attribute [local simp] List.getElem?_cons_zero
attribute [local irreducible] awCond awCall awLoop awDraw ow retQ retC resQ Keeps
theorem Same.keepsR {B : Nat} {M M' : Mem} (h : Same B M M') {L : Mem} (hM : M = L) : Same B L M' := hM ▸ h
theorem str_in {s t : ByteArray} (h : s.size + t.size ≤ 1099511627776) : strV .add s t = some (.string (s ++ t)) := by
  unfold strV
  simp only
  rw [if_neg]
  have : IntKind.i64.max = 9223372036854775807 := by decide
  omega
theorem app_size (s t : ByteArray) : (s ++ t).size = s.size + t.size := by simp
def strR : RecV ByteArray 1 := ⟨fun s => [.string s], fun _ => rfl⟩
instance : Inhabited ByteArray := ⟨ByteArray.empty⟩
theorem strR_cells (l : List ByteArray) : cellsL strR l = l.map Value.string := by
  induction l with
  | nil => rfl
  | cons a l ih => rw [cellsL_cons, ih]; rfl
theorem fill_strs (l : List ByteArray) {n : Nat} (hn : l.length = n) : Instr.fill (fun i => some (i, 1)) (zrow [.string ByteArray.empty] n).toArray (((l.map Value.string).zipIdx 0).map fun x => (x.2, x.1)) = some (l.map Value.string).toArray := by
  have h := Go.Great.fill_whole (s := 1) (by omega) (l.map Value.string) (zrow [.string ByteArray.empty] n).toArray (fun v hv => by obtain ⟨x, -, rfl⟩ := List.mem_map.1 hv; rfl) (by simp [zrow, hn])
  simp only [Nat.mul_one] at h
  rw [h]
  congr 2
  clear h hn
  induction l with
  | nil => rfl
  | cons a l ih => simp only [List.map_cons, List.flatMap_cons, ih, cells_str]; rfl
theorem fillS5 (a b c d e : ByteArray) : Instr.fill (fun i => some (i, 1)) (zrow [.string ByteArray.empty] 5).toArray [(0, .string a), (1, .string b), (2, .string c), (3, .string d), (4, .string e)] = some #[.string a, .string b, .string c, .string d, .string e] :=
  fill_strs [a, b, c, d, e] rfl
theorem text_s {M : Mem} {b g k B n c : Nat} {cs : List Value} (l : List ByteArray) (hc : cs = cellsL strR l) (h : Src g B M k) (hb : b ≤ g) (hk : k + 2 ≤ 1099511627776) (h0 : 0 < n) (hn : n ≤ 100) (hl : l.length = n) (hB : B ≤ M.length) {e : TypeId} :
    Ctr Try.prog b 122 [.pointer (some ⟨g, 0, none⟩), .slice (some ⟨M.length, 0, none⟩) n c] (M ++ [.live ⟨cs, true, true, e, 1⟩]) fun r M' => ∃ s : ByteArray, r = .string s ∧ s ∈ l ∧ Grow g M M' := by
  subst hc
  have hg := h.lt
  first | (refine ctr_fn Try.func122 rfl Try.ntmps122 Try.results122 rfl rfl (by simp) ?_) | (refine ctr_fnC Try.func122 rfl Try.ntmps122 Try.results122 rfl (by simp) ?_)
  simp
  refine awCall_ctr ((h.app _).pick n hb hk (by omega)) ?_
  rintro r M1 ⟨x, k1, rfl, x0, x1, hk1, h1, u1⟩
  obtain ⟨q, rfl⟩ := Int.eq_ofNat_of_zero_le x0
  have hq : q < n := by omega
  have r1 := u1.2 _ _ (show M.length ≠ g by omega) getElem?_snoc_eq
  have c0 : cellAt M1 M.length q = some (.string (el l q)) := by
    rw [cell_hr r1]
    have := cellsL_get strR (l := l) (i := q) (j := 0) (by omega) (by omega)
    rw [Nat.mul_one, Nat.add_zero] at this
    rw [this]
    rfl
  have e0 : rowEsz M1 M.length = some 1 := by simp [rowEsz, r1]
  simp (disch := omega) [hq, c0, e0]
  exact ⟨el_mem (by omega), (Grow.app g M _).trans u1.grow⟩
theorem append_tight {α : Type} {kk : Nat} {P : Program} {R : RecV α kk} {e t tx : TypeId} {B b by_ id n c : Nat} {S : St} {x : Value} {l ls : List α} {K : Value → Mem → Prop} (hr : S.M[id]? = some (.live ⟨cellsL R l, true, true, e, kk⟩)) (hl : l.length = n) (hB : B ≤ id) (hB' : B ≤ S.M.length) (hq : qSlice P t = some (e, kk, by_))
    (hz : (P.info? e).any (fun i => i.zero.any fun z => z.cells.size == kk) = true) (hs : srcOf P S.M kk tx x = some (ls.length, cellsL R ls)) (h1 : (cellsL R ls).all (fun u => u.oneCell') = true) (hn : (l.length + ls.length) * by_ ≤ 140737488355328) (hm : l.length + ls.length ≤ maxLen)
    (hK : ∀ v' L, Acc R e B (S.M ++ L) v' (l ++ ls) → K v' (S.M ++ L)) : appendK P b S K t tx (.slice (some ⟨id, 0, none⟩) n c) x := by
  subst hl
  unfold appendK
  rw [hq]
  simp only [ow_some]
  rw [hs]
  simp only [ow_some]
  refine ⟨hz, h1, ?_⟩
  simp only [hr]
  refine ⟨⟨trivial, by rw [cellsL_len], trivial, trivial⟩, hn, hm, fun h => ?_, fun _ => ?_⟩
  · obtain rfl := List.eq_nil_of_length_eq_zero h
    have := hK (.slice (some ⟨id, 0, none⟩) l.length c) [] ⟨_, _, _, rfl, by simp, .inr ⟨id, true, rfl, hB, by simpa using hr⟩⟩
    simpa using this
  · rw [if_pos trivial]
    exact hK _ _ ⟨_, _, _, rfl, by simp, .inr ⟨S.M.length, false, rfl, hB', by rw [getElem?_snoc_eq, cellsL_append]⟩⟩
theorem row_src {P : Program} {M : Mem} {e' tx : TypeId} {id off m c : Nat} {l : List Int} {o t : Bool} (hr : M[id]? = some (.live ⟨cellsL byteR l, o, t, e', 1⟩)) (hn : off + m ≤ l.length) (ht : ∃ e, P.underlying tx = some (.slice e)) : srcOf P M 1 tx (.slice (some ⟨id, off, none⟩) m c) = some (((l.drop off).take m).length, cellsL byteR ((l.drop off).take m)) := by
  obtain ⟨e, ht⟩ := ht
  have hl : ((l.drop off).take m).length = m := by rw [List.length_take, List.length_drop]; omega
  have hc : cellsAt M id off m = some (cellsL byteR ((l.drop off).take m)) := by
    unfold cellsAt
    rw [hr]
    simp only
    rw [if_pos (by rw [cellsL_len]; omega), cellsL_take, cellsL_drop, Nat.mul_one, Nat.mul_one]
  by_cases h0 : m = 0
  · subst h0
    simp [srcOf, ht, cellsL]
  · simp [srcOf, ht, h0, hc, hl]
/-- What a chain of appends has done. -/
structure R11 (M4 : Mem) (rb q : Nat) (bs : List Int) (X : Nat → Bool) (S : St) : Prop where
  n : S.n = 54
  same : Same M4.length M4 S.M
  t3 : X 11 = false → look S.T 3 = some (.slice (some ⟨rb, 0, none⟩) bs.length bs.length)
  t4 : look S.T 4 = some (iv q)
  d3 : X 3 = true → X 1 = true
  d9 : X 9 = true → X 7 = true
  d4 : X 4 = true → X 0 = true ∧ X 3 = true
  d6 : X 6 = true → X 4 = true ∧ X 5 = true
  d10 : X 10 = true → X 6 = true ∧ X 9 = true
  d11 : X 11 = true → X 10 = true
  c0 : X 0 = true → X 4 = false → ∃ id, M4.length ≤ id ∧ look S.T 36 = some (.slice (some ⟨id, 0, none⟩) 0 0) ∧ S.M[id]? = some (.live ⟨[], true, true, 5, 1⟩)
  c1 : X 1 = true → look S.T 37 = some (.slice (some ⟨rb, 0, none⟩) bs.length bs.length)
  c2 : X 2 = true → look S.T 38 = some (iv q)
  c3 : X 3 = true → look S.T 39 = some (.slice (some ⟨rb, 0, none⟩) q q)
  c4 : X 4 = true → X 6 = false → ∃ v, look S.T 40 = some v ∧ Acc byteR 5 M4.length S.M v (bs.take q)
  c5 : X 5 = true → X 6 = false → ∃ id, M4.length ≤ id ∧ look S.T 41 = some (.slice (some ⟨id, 0, none⟩) 1 1) ∧ S.M[id]? = some (.live ⟨[.int .u8 128], true, true, 5, 1⟩)
  c6 : X 6 = true → X 10 = false → ∃ v, look S.T 42 = some v ∧ Acc byteR 5 M4.length S.M v (bs.take q ++ [128])
  c7 : X 7 = true → look S.T 43 = some (.slice (some ⟨rb, 0, none⟩) bs.length bs.length)
  c8 : X 8 = true → look S.T 44 = some (iv q)
  c9 : X 9 = true → look S.T 45 = some (.slice (some ⟨rb, q, none⟩) (bs.length - q) (bs.length - q))
  c10 : X 10 = true → X 11 = false → ∃ v, look S.T 46 = some v ∧ Acc byteR 5 M4.length S.M v (bs.take q ++ [128] ++ bs.drop q)
  c11 : X 11 = true → ∃ v, look S.T 3 = some v ∧ Acc byteR 5 M4.length S.M v (bs.take q ++ [128] ++ bs.drop q)
def N11 (M4 : Mem) (rb q : Nat) (bs : List Int) (k : Nat) (v : Value) (M' : Mem) : Prop :=
  match k with
  | 0 => ∃ id, M4.length ≤ id ∧ v = .slice (some ⟨id, 0, none⟩) 0 0 ∧ M'[id]? = some (.live ⟨[], true, true, 5, 1⟩)
  | 1 => v = .slice (some ⟨rb, 0, none⟩) bs.length bs.length
  | 2 => v = iv q
  | 3 => v = .slice (some ⟨rb, 0, none⟩) q q
  | 4 => Acc byteR 5 M4.length M' v (bs.take q)
  | 5 => ∃ id, M4.length ≤ id ∧ v = .slice (some ⟨id, 0, none⟩) 1 1 ∧ M'[id]? = some (.live ⟨[.int .u8 128], true, true, 5, 1⟩)
  | 6 => Acc byteR 5 M4.length M' v (bs.take q ++ [128])
  | 7 => v = .slice (some ⟨rb, 0, none⟩) bs.length bs.length
  | 8 => v = iv q
  | 9 => v = .slice (some ⟨rb, q, none⟩) (bs.length - q) (bs.length - q)
  | 10 => Acc byteR 5 M4.length M' v (bs.take q ++ [128] ++ bs.drop q)
  | _ => False
theorem Acc.from {α : Type} {q : Nat} {R : RecV α q} {e : TypeId} {B : Nat} {M M' : Mem} {v : Value} {l : List α} (h : Acc R e B M v l) (hm : ∀ (i : Nat) s, B ≤ i → M[i]? = some s → M'[i]? = some s) : Acc R e B M' v l := by
  obtain ⟨A, n, c, h1, h2, h3⟩ := h
  refine ⟨A, n, c, h1, h2, ?_⟩
  rcases h3 with h3 | ⟨id, t, h4, h5, h6⟩
  · exact .inl h3
  · exact .inr ⟨id, t, h4, h5, hm _ _ h5 h6⟩
theorem upX_f {X : Nat → Bool} {j k : Nat} (h : upX X k j = false) : j ≠ k ∧ X j = false := by
  by_cases e : j = k
  · subst e; simp at h
  · exact ⟨e, by rwa [upX_ne e] at h⟩
theorem R11.step {M4 M' : Mem} {rb q k : Nat} {bs : List Int} {X : Nat → Bool} {S : St} {v : Value} (h : R11 M4 rb q bs X S) (hk : k < 11) (hX : X k = false) (hs : Same M4.length S.M M')
    (hm : k ≠ 6 → k ≠ 10 → ∀ (i : Nat) s, M4.length ≤ i → S.M[i]? = some s → M'[i]? = some s)
    (g3 : k = 3 → X 1 = true) (g9 : k = 9 → X 7 = true) (g4 : k = 4 → X 0 = true ∧ X 3 = true) (g6 : k = 6 → X 4 = true ∧ X 5 = true) (g10 : k = 10 → X 6 = true ∧ X 9 = true) (hN : N11 M4 rb q bs k v M') : R11 M4 rb q bs (upX X k) ⟨54, (36 + k, v) :: S.T, M'⟩ := by
  have lk : ∀ t : Nat, t ≠ 36 + k → look ((36 + k, v) :: S.T) t = look S.T t := fun t ht => look_other ht
  have lv : ∀ j, j = k → look ((36 + k, v) :: S.T) (36 + j) = some v := fun j e => by subst e; simp
  have up : ∀ {j : Nat}, upX X k j = true → j ≠ k → X j = true := fun {j} hj e => by rwa [upX_ne e] at hj
  have up2 : ∀ {j : Nat}, X j = true → upX X k j = true := fun {j} hj => by
    by_cases e : j = k
    · subst e; simp
    · rwa [upX_ne e]
  have nX6 : ∀ {j : Nat}, (j = 0 ∨ j = 4 ∨ j = 5) → (j = 0 → upX X k 4 = false) → (j = 4 ∨ j = 5 → upX X k 6 = false) → k ≠ 6 ∧ k ≠ 10 := fun {j} hj h0 h1 => by
    refine ⟨fun e => ?_, fun e => ?_⟩
    · rcases hj with rfl | hj
      · have := (upX_f (h0 rfl)).2; rw [(g6 e).1] at this; cases this
      · exact (upX_f (h1 hj)).1 e.symm
    · have x6 := (g10 e).1
      rcases hj with rfl | hj
      · have := (upX_f (h0 rfl)).2; rw [(h.d6 x6).1] at this; cases this
      · have := (upX_f (h1 hj)).2; rw [x6] at this; cases this
  refine ⟨rfl, h.same.trans hs, fun h1 => ?_, ?_, fun h1 => ?_, fun h1 => ?_, fun h1 => ?_, fun h1 => ?_, fun h1 => ?_, fun h1 => ?_, fun h1 h2 => ?_, fun h1 => ?_, fun h1 => ?_, fun h1 => ?_, fun h1 h2 => ?_, fun h1 h2 => ?_, fun h1 h2 => ?_, fun h1 => ?_, fun h1 => ?_, fun h1 => ?_, fun h1 h2 => ?_, fun h1 => ?_⟩
  · rw [lk 3 (by omega)]; exact h.t3 (upX_f h1).2
  · rw [lk 4 (by omega)]; exact h.t4
  · by_cases e : 3 = k
    · exact up2 (g3 e.symm)
    · exact up2 (h.d3 (up h1 e))
  · by_cases e : 9 = k
    · exact up2 (g9 e.symm)
    · exact up2 (h.d9 (up h1 e))
  · by_cases e : 4 = k
    · obtain ⟨a, b⟩ := g4 e.symm; exact ⟨up2 a, up2 b⟩
    · obtain ⟨a, b⟩ := h.d4 (up h1 e); exact ⟨up2 a, up2 b⟩
  · by_cases e : 6 = k
    · obtain ⟨a, b⟩ := g6 e.symm; exact ⟨up2 a, up2 b⟩
    · obtain ⟨a, b⟩ := h.d6 (up h1 e); exact ⟨up2 a, up2 b⟩
  · by_cases e : 10 = k
    · obtain ⟨a, b⟩ := g10 e.symm; exact ⟨up2 a, up2 b⟩
    · obtain ⟨a, b⟩ := h.d10 (up h1 e); exact ⟨up2 a, up2 b⟩
  · exact up2 (h.d11 (up h1 (by omega)))
  · by_cases e : 0 = k
    · subst e
      obtain ⟨id, a, rfl, b⟩ := hN
      exact ⟨id, a, by simp, b⟩
    · obtain ⟨id, a, b, c⟩ := h.c0 (up h1 e) (upX_f h2).2
      obtain ⟨n6, n10⟩ := nX6 (.inl rfl) (fun _ => h2) (fun h => by omega)
      exact ⟨id, a, by rw [lk 36 (by omega)]; exact b, hm n6 n10 _ _ a c⟩
  · by_cases e : 1 = k
    · subst e; rw [show N11 M4 rb q bs 1 v M' = (v = _) from rfl] at hN; rw [lv 1 rfl, hN]
    · rw [lk 37 (by omega)]; exact h.c1 (up h1 e)
  · by_cases e : 2 = k
    · subst e; rw [show N11 M4 rb q bs 2 v M' = (v = _) from rfl] at hN; rw [lv 2 rfl, hN]
    · rw [lk 38 (by omega)]; exact h.c2 (up h1 e)
  · by_cases e : 3 = k
    · subst e; rw [show N11 M4 rb q bs 3 v M' = (v = _) from rfl] at hN; rw [lv 3 rfl, hN]
    · rw [lk 39 (by omega)]; exact h.c3 (up h1 e)
  · by_cases e : 4 = k
    · subst e; exact ⟨v, lv 4 rfl, hN⟩
    · obtain ⟨u, a, b⟩ := h.c4 (up h1 e) (upX_f h2).2
      obtain ⟨n6, n10⟩ := nX6 (j := 4) (.inr (.inl rfl)) (fun h => by omega) (fun _ => h2)
      exact ⟨u, by rw [lk 40 (by omega)]; exact a, b.from (hm n6 n10)⟩
  · by_cases e : 5 = k
    · subst e
      obtain ⟨id, a, rfl, b⟩ := hN
      exact ⟨id, a, lv 5 rfl, b⟩
    · obtain ⟨id, a, b, c⟩ := h.c5 (up h1 e) (upX_f h2).2
      obtain ⟨n6, n10⟩ := nX6 (j := 5) (.inr (.inr rfl)) (fun h => by omega) (fun _ => h2)
      exact ⟨id, a, by rw [lk 41 (by omega)]; exact b, hm n6 n10 _ _ a c⟩
  · by_cases e : 6 = k
    · subst e; exact ⟨v, lv 6 rfl, hN⟩
    · obtain ⟨u, a, b⟩ := h.c6 (up h1 e) (upX_f h2).2
      refine ⟨u, by rw [lk 42 (by omega)]; exact a, b.from (hm (Ne.symm e) fun e' => (upX_f h2).1 e'.symm)⟩
  · by_cases e : 7 = k
    · subst e; rw [show N11 M4 rb q bs 7 v M' = (v = _) from rfl] at hN; rw [lv 7 rfl, hN]
    · rw [lk 43 (by omega)]; exact h.c7 (up h1 e)
  · by_cases e : 8 = k
    · subst e; rw [show N11 M4 rb q bs 8 v M' = (v = _) from rfl] at hN; rw [lv 8 rfl, hN]
    · rw [lk 44 (by omega)]; exact h.c8 (up h1 e)
  · by_cases e : 9 = k
    · subst e; rw [show N11 M4 rb q bs 9 v M' = (v = _) from rfl] at hN; rw [lv 9 rfl, hN]
    · rw [lk 45 (by omega)]; exact h.c9 (up h1 e)
  · by_cases e : 10 = k
    · subst e; exact ⟨v, lv 10 rfl, hN⟩
    · have x10 := up h1 e
      obtain ⟨u, a, b⟩ := h.c10 x10 (upX_f h2).2
      refine ⟨u, by rw [lk 46 (by omega)]; exact a, b.from (hm (fun e6 => ?_) (Ne.symm e))⟩
      have := (h.d10 x10).1
      rw [← e6, hX] at this
      cases this
  · have x11 := up h1 (by omega)
    have x10 := h.d11 x11
    obtain ⟨u, a, b⟩ := h.c11 x11
    refine ⟨u, by rw [lk 3 (by omega)]; exact a, b.from (hm (fun e6 => ?_) (fun e10 => ?_))⟩
    · have := (h.d10 x10).1
      rw [← e6, hX] at this
      cases this
    · rw [← e10, hX] at x10
      cases x10
theorem R11.last {M4 : Mem} {rb q : Nat} {bs : List Int} {X : Nat → Bool} {S : St} {v : Value} (h : R11 M4 rb q bs X S) (h10 : X 10 = true) (hv : Acc byteR 5 M4.length S.M v (bs.take q ++ [128] ++ bs.drop q)) : R11 M4 rb q bs (upX X 11) ⟨54, (3, v) :: S.T, S.M⟩ := by
  have lk : ∀ t : Nat, t ≠ 3 → look ((3, v) :: S.T) t = look S.T t := fun t ht => look_other ht
  have up : ∀ {j : Nat}, upX X 11 j = true → j ≠ 11 → X j = true := fun {j} hj e => by rwa [upX_ne e] at hj
  have up2 : ∀ {j : Nat}, X j = true → upX X 11 j = true := fun {j} hj => by
    by_cases e : j = 11
    · subst e; simp
    · rwa [upX_ne e]
  refine ⟨rfl, h.same, fun h1 => absurd rfl (upX_f h1).1, by rw [lk 4 (by omega)]; exact h.t4, fun h1 => up2 (h.d3 (up h1 (by omega))), fun h1 => up2 (h.d9 (up h1 (by omega))), fun h1 => ?_, fun h1 => ?_, fun h1 => ?_, fun _ => up2 h10, fun h1 h2 => ?_, fun h1 => ?_, fun h1 => ?_, fun h1 => ?_, fun h1 h2 => ?_, fun h1 h2 => ?_, fun h1 h2 => ?_, fun h1 => ?_, fun h1 => ?_, fun h1 => ?_, fun h1 h2 => absurd rfl (upX_f h2).1, fun _ => ⟨v, by simp, hv⟩⟩
  · obtain ⟨a, b⟩ := h.d4 (up h1 (by omega)); exact ⟨up2 a, up2 b⟩
  · obtain ⟨a, b⟩ := h.d6 (up h1 (by omega)); exact ⟨up2 a, up2 b⟩
  · obtain ⟨a, b⟩ := h.d10 (up h1 (by omega)); exact ⟨up2 a, up2 b⟩
  · rw [lk 36 (by omega)]; exact h.c0 (up h1 (by omega)) (upX_f h2).2
  · rw [lk 37 (by omega)]; exact h.c1 (up h1 (by omega))
  · rw [lk 38 (by omega)]; exact h.c2 (up h1 (by omega))
  · rw [lk 39 (by omega)]; exact h.c3 (up h1 (by omega))
  · rw [lk 40 (by omega)]; exact h.c4 (up h1 (by omega)) (upX_f h2).2
  · rw [lk 41 (by omega)]; exact h.c5 (up h1 (by omega)) (upX_f h2).2
  · rw [lk 42 (by omega)]; exact h.c6 (up h1 (by omega)) (upX_f h2).2
  · rw [lk 43 (by omega)]; exact h.c7 (up h1 (by omega))
  · rw [lk 44 (by omega)]; exact h.c8 (up h1 (by omega))
  · rw [lk 45 (by omega)]; exact h.c9 (up h1 (by omega))
set_option maxHeartbeats 2000000 in
theorem l20Bytes_a {M : Mem} {b g k B : Nat} (h : Src g B M k) (hb : b ≤ g) (hB : B ≤ M.length) (hk : k ≤ 1000) :
    Ctr Try.prog b 73 [.pointer (some ⟨g, 0, none⟩)] M fun r M' => ∃ s : ByteArray, r = .string s ∧ s.size ≤ 1000 ∧ Same g M M' := by
  have hg := h.lt
  first | (refine ctr_fn Try.func73 rfl Try.ntmps73 Try.results73 rfl rfl (by simp) ?_) | (refine ctr_fnC Try.func73 rfl Try.ntmps73 Try.results73 rfl (by simp) ?_)
  simp
  refine awCall_ctr (l20Draw_a (most := 8) h hb hB hk (by omega)) ?_
  rintro r M1 ⟨l, k1, hA, hl, hs, h1, hk1, s1⟩
  obtain ⟨A, q, c, rfl, hq, hsl, -⟩ := hA.sl
  subst hq
  have n1 := s1.1
  have hok : okE l = true := by
    unfold okE
    rw [decide_eq_true (show l.length ≤ 200 by omega), Bool.and_eq_true, List.all_eq_true]
    refine ⟨rfl, fun x hx => ?_⟩
    obtain ⟨i, hi, rfl⟩ := List.getElem_of_mem hx
    rw [el_eq hi]
    exact hs i hi
  try simp
  refine awCall_det' (l20Encode_a hsl hok) (by omega) ?_
  have hz : (encS l).size ≤ 64 := by
    have := encP_len l l.length
    unfold encS
    rw [bstr_size]
    omega
  generalize encS l = s0 at hz
  simp
  refine ⟨by omega, ?_⟩
  have hrow := strB_cells s0
  have hlen := strB_len s0
  rw [hrow]
  by_cases h0 : s0 = ByteArray.empty
  · simp [h0, fillS5]
    have hc := text_s (b := b) (M := M1 ++ [.live ⟨cellsL byteR (strB ByteArray.empty), true, false, 5, 1⟩]) (n := 5) (c := 5) (e := 9) [{ data := #[] }, { data := #[0] }, { data := #[128] }, { data := #[128, 0, 144, 60, 64] }, { data := #[128, 128, 128, 128, 0] }] rfl (h1.app _) hb (by omega) (by omega) (by omega) rfl (by simp; omega)
    rw [List.append_assoc, List.length_append] at hc
    refine awCall_ctr hc ?_
    rintro r M2 ⟨s, rfl, hs, g2⟩
    simp
    refine ⟨?_, (s1.trans (Same.app _ _ _)).trans (g2.same (Nat.le_refl _))⟩
    simp at hs
    rcases hs with rfl | rfl | rfl | rfl | rfl <;> decide
  have h00 : s0.size ≠ 0 := fun h => h0 (ByteArray.size_eq_zero_iff.1 h)
  simp [h0]
  generalize strB s0 = bs at hlen hrow ⊢
  rw [← hlen] at h00 ⊢
  have hbs : bs.length ≤ 64 := by omega
  clear hrow hlen hz hok hsl
  have h2 := h1.app [.live ⟨cellsL byteR bs, true, false, 5, 1⟩]
  have r2 : (M1 ++ [.live ⟨cellsL byteR bs, true, false, 5, 1⟩])[M1.length]? = some (.live ⟨cellsL byteR bs, true, false, 5, 1⟩) := getElem?_snoc_eq
  have s2 : Same g M (M1 ++ [.live ⟨cellsL byteR bs, true, false, 5, 1⟩]) := s1.trans (Same.app _ _ _)
  obtain ⟨M2, hM2⟩ : ∃ M' : Mem, M' = M1 ++ [.live ⟨cellsL byteR bs, true, false, 5, 1⟩] := ⟨_, rfl⟩
  rw [← hM2] at h2 r2 s2 ⊢
  have l2 : M2.length = M1.length + 1 := by rw [hM2]; simp
  clear hM2
  refine awCall_ctr (h2.pick bs.length hb (by omega) (by omega)) ?_
  rintro r M3 ⟨x, k3, rfl, x0, x1, hk3, h3, u3⟩
  obtain ⟨q, rfl⟩ := Int.eq_ofNat_of_zero_le x0
  have hq : q < bs.length := by omega
  have r3 := u3.2 _ _ (by omega) r2
  have n3 := u3.1
  try simp
  refine awCall_ctr (h3.pick 5 hb (by omega) (by omega)) ?_
  rintro r M4 ⟨y, k4, rfl, y0, y1, hk4, h4, u4⟩
  have r4 := u4.2 _ _ (by omega) r3
  have n4 := u4.1
  have s4 : Same g M M4 := (s2.trans (u3.same (Nat.le_refl _))).trans (u4.same (Nat.le_refl _))
  by_cases e0 : y = 0
  · subst e0
    simp
    refine awCall_ctr (nextS h4 hb (by omega)) ?_
    rintro r M5 ⟨z, rfl, z0, z1, h5, u5⟩
    have r5 := u5.2 _ _ (by omega) r4
    have hput := put_row (b := b) (p := q) (v := .int .u8 z) r5 (by omega) (by rw [cellsL_len]; omega) rfl
    have l5 := (List.getElem?_eq_some_iff.1 r5).1
    obtain ⟨M6, hM6⟩ : ∃ M' : Mem, M' = M5.set M1.length (.live ⟨(cellsL byteR bs).set q (.int .u8 z), true, false, 5, 1⟩) := ⟨_, rfl⟩
    have hset : (cellsL byteR bs).set q (.int .u8 z) = cellsL byteR (bs.set q z) := by rw [cellsL_byte, cellsL_byte, List.map_set]
    have r6 : M6[M1.length]? = some (.live ⟨cellsL byteR (bs.set q z), true, false, 5, 1⟩) := by rw [hM6, ← hset]; exact set_get l5
    have s6 : Same M1.length M5 M6 := by rw [hM6]; exact .set (Nat.le_refl _)
    rw [← hM6] at hput
    have e5 : rowEsz M5 M1.length = some 1 := by simp [rowEsz, r5]
    simp (disch := omega) [wrap_u8, hq, e5, hput]
    have hl6 : (bs.set q z).length = bs.length := by simp
    refine row_str (by_ := 1) (l := bs.set q z) r6 (by omega) Try.underlying9 (by simp) Try.underlying5 ?_
    exact ⟨_, rfl, by rw [bstr_size, List.length_take]; omega, (s4.trans (u5.same (Nat.le_refl _))).trans (s6.low (by omega))⟩
  have e4 : rowEsz M4 M1.length = some 1 := by simp [rowEsz, r4]
  by_cases e1 : y = 1
  · subst e1
    simp
    refine ⟨by omega, e4, ?_⟩
    refine row_str (by_ := 1) (l := bs) r4 (by omega) Try.underlying9 (by simp) Try.underlying5 ?_
    exact ⟨_, rfl, by rw [bstr_size, List.length_take]; omega, s4⟩
  by_cases e2 : y = 2
  · subst e2
    simp
    refine awDraw_I (R11 M4 M1.length q bs) (by kernel_rfl) (by kernel_rfl) ?_ ?_ ?_
    · exact ⟨rfl, .refl _ _, fun _ => by simp, by simp, fun h => by simp at h, fun h => by simp at h, fun h => by simp at h, fun h => by simp at h, fun h => by simp at h, fun h => by simp at h, fun h => by simp at h, fun h => by simp at h, fun h => by simp at h, fun h => by simp at h, fun h => by simp at h, fun h => by simp at h, fun h => by simp at h, fun h => by simp at h, fun h => by simp at h, fun h => by simp at h, fun h => by simp at h, fun h => by simp at h⟩
    · rintro X ⟨n', T, M⟩ k o hI ho hX hd
      have hk : k < 12 := by have := (List.getElem?_eq_some_iff.1 ho).1; simpa using this
      obtain rfl : n' = 54 := hI.n
      have q3 : X 1 = false ∨ X 7 = false → look T 3 = some (.slice (some ⟨M1.length, 0, none⟩) bs.length bs.length) := fun hx => hI.t3 (by
        cases h11 : X 11 with
        | false => rfl
        | true =>
          have h10 := hI.d10 (hI.d11 h11)
          have h1 := hI.d3 (hI.d4 (hI.d6 h10.1).1).2
          have h7 := hI.d9 h10.2
          rw [h1, h7] at hx
          simp at hx)
      have q4 := hI.t4
      have hsm := hI.same
      have nM := hsm.1
      simp only at q4 hsm nM
      have rb4 := hsm.2 _ _ (by omega) r4
      have eM : rowEsz M M1.length = some 1 := by simp [rowEsz, rb4]
      have app : ∀ L : Mem, Same M4.length M (M ++ L) := fun L => Same.app _ _ _
      have kp : ∀ (L : Mem) (i : Nat) (s : Slot), M4.length ≤ i → M[i]? = some s → (M ++ L)[i]? = some s := fun L i s _ hs => by rw [List.getElem?_append_left (List.getElem?_eq_some_iff.1 hs).1]; exact hs
      have mv : ∀ {k : Nat} {v : Value}, k ≠ 3 → k ≠ 9 → k ≠ 4 → k ≠ 6 → k ≠ 10 → k < 11 → X k = false → N11 M4 M1.length q bs k v M → R11 M4 M1.length q bs (upX X k) ⟨54, (36 + k, v) :: T, M⟩ := fun a3 a9 a b c d e f => hI.step d e (.refl _ _) (fun _ _ _ _ _ h => h) (fun e => absurd e a3) (fun e => absurd e a9) (fun e => absurd e a) (fun e => absurd e b) (fun e => absurd e c) f
      have no : ∀ {p : Prop} {i j : Nat}, i ≠ j → i = j → p := fun a e => absurd e a
      have hbd : ∀ n : Nat, Region.binds Region.Mode.any ⟨n, Ground.data⟩ = true := fun _ => by rfl
      rcases k with _ | _ | _ | _ | _ | _ | _ | _ | _ | _ | _ | _ | k
      all_goals first | omega | (simp at ho; subst ho; simp [hbd] at hd; try simp at hX)
      · simp
        exact hI.step (k := 0) (by omega) hX (app _) (fun _ _ => kp _) (no (by omega)) (no (by omega)) (no (by omega)) (no (by omega)) (no (by omega)) ⟨M.length, nM, rfl, getElem?_snoc_eq⟩
      · have h3 := q3 (.inl hX)
        simp [h3]
        exact mv (k := 1) (by omega) (by omega) (by omega) (by omega) (by omega) (by omega) hX rfl
      · simp [q4]
        exact mv (k := 2) (by omega) (by omega) (by omega) (by omega) (by omega) (by omega) hX rfl
      · have h1 : look T 37 = _ := hI.c1 hd.1
        have h2 : look T 38 = _ := hI.c2 hd.2
        simp [h1, h2, eM]
        refine ⟨by omega, ?_⟩
        exact hI.step (k := 3) (by omega) hX (.refl _ _) (fun _ _ _ _ _ h => h) (fun _ => hd.1) (no (by omega)) (no (by omega)) (no (by omega)) (no (by omega)) rfl
      · obtain ⟨id, i1, i2, i3⟩ := hI.c0 hd.1 hX
        have h2 : look T 39 = _ := hI.c3 hd.2
        simp only at i2 i3
        simp [i2, h2]
        refine append_tight (R := byteR) (l := []) (ls := (bs.drop 0).take q) (B := M4.length) (by_ := 1) i3 rfl i1 nM (by simp) (by kernel_rfl) (row_src rb4 (by omega) ⟨_, Try.underlying22⟩) (byte_one _) (by simp; omega) (by unfold maxLen; simp; omega) ?_
        intro v' L hA
        simp only [List.nil_append, List.drop_zero] at hA
        exact hI.step (k := 4) (by omega) hX (app _) (fun _ _ => kp _) (no (by omega)) (no (by omega)) (fun _ => hd) (no (by omega)) (no (by omega)) hA
      · simp [fill_byte]
        exact hI.step (k := 5) (by omega) hX (app _) (fun _ _ => kp _) (no (by omega)) (no (by omega)) (no (by omega)) (no (by omega)) (no (by omega)) ⟨M.length, nM, rfl, getElem?_snoc_eq⟩
      · replace hd : X 4 = true ∧ X 5 = true := ⟨hd.1, by first | exact hd.2 | exact hd.2.1 | exact hd.2.2.1 | exact hd.2.2.2.1 | exact hd.2.2.2 | exact hd.2.2⟩
        obtain ⟨u, i1, i2⟩ := hI.c4 hd.1 hX
        obtain ⟨id, j1, j2, j3⟩ := hI.c5 hd.2 hX
        simp only at i1 i2 j2 j3
        simp [i1, j2]
        refine Acc.append (R := byteR) (e := 5) (by_ := 1) (a := 128) i2 (by omega) nM (by omega) (by simp) (by kernel_rfl) (by have := cells_hr j3 (n := 1) rfl; simp [srcOf, byteR, this]) (by rfl) (by simp; omega) (by unfold maxLen; simp; omega) ?_
        intro v' M' hA hs'
        exact hI.step (k := 6) (by omega) hX hs' (fun a _ => absurd rfl a) (no (by omega)) (no (by omega)) (no (by omega)) (fun _ => hd) (no (by omega)) hA
      · have h3 := q3 (.inr hX)
        simp [h3]
        exact mv (k := 7) (by omega) (by omega) (by omega) (by omega) (by omega) (by omega) hX rfl
      · simp [q4]
        exact mv (k := 8) (by omega) (by omega) (by omega) (by omega) (by omega) (by omega) hX rfl
      · have h1 : look T 43 = _ := hI.c7 hd.1
        have h2 : look T 44 = _ := hI.c8 hd.2
        simp [h1, h2, eM]
        refine ⟨by omega, ?_⟩
        exact hI.step (k := 9) (by omega) hX (.refl _ _) (fun _ _ _ _ _ h => h) (no (by omega)) (fun _ => hd.1) (no (by omega)) (no (by omega)) (no (by omega)) rfl
      · replace hd : X 6 = true ∧ X 9 = true := ⟨hd.1, by first | exact hd.2 | exact hd.2.1 | exact hd.2.2.1 | exact hd.2.2.2.1 | exact hd.2.2.2 | exact hd.2.2⟩
        obtain ⟨u, i1, i2⟩ := hI.c6 hd.1 hX
        have h2 : look T 45 = _ := hI.c9 hd.2
        simp only at i1 i2
        simp [i1, h2]
        refine Acc.extend (R := byteR) (e := 5) (by_ := 1) (ls := (bs.drop q).take (bs.length - q)) i2 (by omega) nM (by simp) (by kernel_rfl) (row_src rb4 (by omega) ⟨_, Try.underlying22⟩) (byte_one _) (by simp; omega) (by unfold maxLen; simp; omega) ?_
        intro v' M' hA hs'
        rw [List.take_of_length_le (l := bs.drop q) (by rw [List.length_drop]; omega)] at hA
        exact hI.step (k := 10) (by omega) hX hs' (fun _ a => absurd rfl a) (no (by omega)) (no (by omega)) (no (by omega)) (no (by omega)) (fun _ => hd) hA
      · obtain ⟨u, i1, i2⟩ := hI.c10 hd.1 hX
        simp only at i1 i2
        simp [i1]
        exact hI.last hd.1 i2
    · rintro X ⟨n', T, M⟩ hX hI
      obtain rfl : n' = 54 := hI.n
      obtain ⟨u, i1, i2⟩ := hI.c11 (hX 11 (by simp))
      have hsm := hI.same
      simp only at i1 i2 hsm
      obtain ⟨A, nn, c, eu, -⟩ := id i2
      subst eu
      simp [i1]
      refine acc_str (by_ := 1) (by exact i2) Try.underlying9 (by simp) Try.underlying5 ?_
      exact ⟨_, rfl, by rw [bstr_size]; simp; omega, s4.trans (hsm.low (by omega))⟩
  by_cases e3 : y = 3
  · subst e3
    simp
    refine row_str (by_ := 1) (l := bs) r4 (by omega) Try.underlying9 (by simp) Try.underlying5 ?_
    have hsz : (bstr ((bs.drop 0).take bs.length)).size ≤ 64 := by rw [bstr_size, List.length_take]; omega
    generalize bstr ((bs.drop 0).take bs.length) = s5 at hsz
    have h8 : ({ data := #[0, 144, 60, 64, 5, 144, 61, 64] } : ByteArray).size = 8 := by decide
    simp [str_in (s := { data := #[0, 144, 60, 64, 5, 144, 61, 64] }) (t := s5) (by omega)]
    exact ⟨by omega, s4⟩
  · simp [e0, e1, e2, e3]
    refine row_str (by_ := 1) (l := bs) r4 (by omega) Try.underlying9 (by simp) Try.underlying5 ?_
    exact ⟨_, rfl, by rw [bstr_size, List.length_take]; omega, s4⟩
theorem DrawDecode_a {M : Mem} {A : Option Addr} {n c : Nat} {cs : List Int} (h : Sl codeR M A n cs) (hn : n ≤ 1048576) (hcs : ∀ x, x ∈ cs → 0 ≤ x ∧ x ≤ 255) :
    Ctr Try.prog M.length 30 [.slice A n c] M fun r M' => ∃ s : ByteArray, r = .string s ∧ s.size ≤ 1000 ∧ Keeps M M' := by
  first | (refine ctr_fn Try.func30 rfl Try.ntmps30 Try.results30 rfl rfl (by simp) ?_) | (refine ctr_fnC Try.func30 rfl Try.ntmps30 Try.results30 rfl (by simp) ?_)
  simp
  refine awCall_det' (l00From_a h hn hcs) (by simp) ?_
  refine awCall_ctr (l20Bytes_a (src_new h hn hcs) (Nat.le_refl _) (by simp) (by omega)) ?_
  rintro r M1 ⟨s, rfl, hs, hsm⟩
  have hk : Keeps M M1 := by
    unfold Keeps
    exact fun i s hi => hsm.2 i s (List.getElem?_eq_some_iff.1 hi).1 (by rw [List.getElem?_append_left (List.getElem?_eq_some_iff.1 hi).1]; exact hi)
  exact ⟨s, rfl, hs, hk⟩
end Go.Proofs.Ythopcmglcnlcfaa
