/- Words for what draws: growth beside a source, built lists of numbers. No conditions. -/
import Derived.Test.YthopcmglcnlcfaaS3
import Derived.Test.YthopcmglcnlcfaaG0
namespace Go.Proofs.Ythopcmglcnlcfaa
open Go.RowKit
set_option linter.unusedVariables false
set_option linter.unusedSimpArgs false
set_option maxRecDepth 100000
attribute [local simp] List.getElem?_cons_zero
attribute [local irreducible] awCond awCall awLoop awDraw ow retQ retC resQ Keeps
/-- Row g alone may have turned; more may lie behind. -/
def Grow (g : Nat) (M M' : Mem) : Prop := M.length ≤ M'.length ∧ ∀ (i : Nat) s, i ≠ g → M[i]? = some s → M'[i]? = some s
theorem Grow.refl (g : Nat) (M : Mem) : Grow g M M := ⟨Nat.le_refl _, fun _ _ _ h => h⟩
theorem Grow.trans {g : Nat} {M M1 M2 : Mem} (h : Grow g M M1) (h' : Grow g M1 M2) : Grow g M M2 := ⟨Nat.le_trans h.1 h'.1, fun i s hi hs => h'.2 i s hi (h.2 i s hi hs)⟩
theorem Grow.app (g : Nat) (M L : Mem) : Grow g M (M ++ L) := ⟨by simp, fun i s _ hs => by rw [List.getElem?_append_left (List.getElem?_eq_some_iff.1 hs).1]; exact hs⟩
theorem UpdS.grow {g : Nat} {M M' : Mem} (u : UpdS g M M') : Grow g M M' := ⟨Nat.le_of_eq u.1.symm, u.2⟩
theorem Grow.same {g B : Nat} {M M' : Mem} (u : Grow g M M') (h : B ≤ g) : Same B M M' := ⟨u.1, fun i s hi hs => u.2 i s (by omega) hs⟩
theorem Grow.acc {α : Type} {q : Nat} {R : RecV α q} {e : TypeId} {g B : Nat} {M M' : Mem} {v : Value} {l : List α} (u : Grow g M M') (h : Acc R e B M v l) (hg : g < B) : Acc R e B M' v l := by
  obtain ⟨A, n, c, h1, h2, h3⟩ := h
  refine ⟨A, n, c, h1, h2, ?_⟩
  rcases h3 with h3 | ⟨id, t, h4, h5, h6⟩
  · exact .inl h3
  · exact .inr ⟨id, t, h4, h5, u.2 _ _ (by omega) h6⟩
theorem Same.grow {g B : Nat} {M M' : Mem} (h : Same B M M') (k : ∀ (i : Nat) s, i ≠ g → B ≤ i → M[i]? = some s → M'[i]? = some s) : Grow g M M' :=
  ⟨h.1, fun i s hi hs => (Nat.lt_or_ge i B).elim (fun hb => h.2 i s hb hs) fun hb => k i s hi hb hs⟩
theorem Src.lt {g B k : Nat} {M : Mem} (h : Src g B M k) : g < B := by obtain ⟨_, _, _, _, _, h, _⟩ := h; exact h
theorem nextS {M : Mem} {b g k B : Nat} (h : Src g B M k) (hb : b ≤ g) (hk : k ≤ 1099511627776) :
    Ctr Try.prog b 123 [.pointer (some ⟨g, 0, none⟩)] M fun r M' => ∃ x : Int, r = iv x ∧ 0 ≤ x ∧ x ≤ 255 ∧ Src g B M' (k + 1) ∧ UpdS g M M' := by
  obtain ⟨A, n, c, cs, h1, h2, h3, h4⟩ := h
  exact (next_s h1 hb hk (by omega)).mono fun r M' ⟨⟨x, a1, a2, a3⟩, a4, a5⟩ => ⟨x, a1, a2, a3, ⟨A, n, c, cs, a4, h2, h3, h4⟩, a5⟩
theorem fill4 (a b c d : Int) : Instr.fill (fun i => some (i, 1)) (zrow [iv 0] 4).toArray [(0, iv a), (1, iv b), (2, iv c), (3, iv d)] = some #[iv a, iv b, iv c, iv d] := by rfl
theorem fill1 {z : Value} {kd : IntKind} {n : Int} : Instr.fill (fun i => some (i, 1)) (zrow [z] 1).toArray [(0, .int kd n)] = some #[.int kd n] := by
  have := fill_int (z := z) (kd := kd) (n := n)
  simpa using this
theorem fill_ints {k : IntKind} (l : List Int) {n : Nat} (hn : l.length = n) : Instr.fill (fun i => some (i, 1)) (zrow [.int k 0] n).toArray (((l.map (Value.int k)).zipIdx 0).map fun x => (x.2, x.1)) = some (l.map (Value.int k)).toArray := by
  have h := Go.Great.fill_whole (s := 1) (by omega) (l.map (Value.int k)) (zrow [.int k 0] n).toArray (fun v hv => by obtain ⟨x, -, rfl⟩ := List.mem_map.1 hv; rfl) (by simp [zrow, hn])
  simp only [Nat.mul_one] at h
  rw [h]
  congr 2
  clear h hn
  induction l with
  | nil => rfl
  | cons a l ih => simp only [List.map_cons, List.flatMap_cons, ih, cells_int]; rfl
theorem fill6 (a b c d e f : Int) : Instr.fill (fun i => some (i, 1)) (zrow [iv 0] 6).toArray [(0, iv a), (1, iv b), (2, iv c), (3, iv d), (4, iv e), (5, iv f)] = some #[iv a, iv b, iv c, iv d, iv e, iv f] :=
  fill_ints (k := .i64) [a, b, c, d, e, f] rfl
end Go.Proofs.Ythopcmglcnlcfaa
