/- An argument that is a slice of bytes. No conditions. -/
import Derived.Test.YthopcmglcnlcfaaLA
import Derived.Test.YthopcmglcnlcfaaS1
namespace Go.Proofs.Ythopcmglcnlcfaa
open Go.ChangeShapes Go.WideShapes Go.ChangeAt Go.RowKit Go.Deep
set_option linter.unusedVariables false
set_option linter.unusedSimpArgs false
set_option maxRecDepth 100000
theorem code_cells (l : List Int) : cellsL codeR l = l.map (.int .u8) := by
  induction l with
  | nil => rfl
  | cons a l ih => rw [cellsL_cons, ih]; rfl
theorem open_code {H : Type} {enc : TypeId × Value → H} {W : World} {base : Nat} {t e : TypeId} {v : Value} {d : DataW H} {p q : List MemPlace} (ht : Try.prog.underlying t = some (.slice e)) (he : Try.prog.underlying e = some (.int .u8)) (hk : Try.prog.cellsOf e = 1)
    (hlt : ∀ x ∈ q, x.block < W.heap.size) (hv : Value.okWide Try.prog W .any base t v)
    (h : DataW.Trod enc Try.prog W 0 (fun _ => true) true t v d p) (hp : ∀ x ∈ p, x ∈ q) : ∃ (A : Option Addr) (n c : Nat) (zs : List Int), v = .slice A n c ∧ Rd W 1 A n c (cellsL codeR zs) ∧ (A = none → n = 0 ∧ c = 0) ∧ zs.length = n ∧ ∀ z ∈ zs, 0 ≤ z ∧ z ≤ 255 := by
  obtain ⟨a0, len, cap, rfl⟩ := okWide_slice ht hv
  obtain ⟨fuel, hf⟩ := h
  rcases open_slice ht hf with ⟨hcs, hx⟩ | ⟨a, len', cap', m, n, D, Pl, hcs, hb, hl, hm, hmm, hx, hi⟩
  · have hcs' : [Value.slice a0 len cap] = [.slice none 0 0] := hcs
    injection hcs' with hcs''
    injection hcs'' with h1 h2 h3
    subst h1; subst h2; subst h3
    exact ⟨_, _, _, [], rfl, ⟨by simp [cellsL], Nat.le_refl _, Nat.zero_le _, fun h => absurd h (by omega)⟩, fun _ => ⟨rfl, rfl⟩, rfl, by simp⟩
  · have hcs' : [Value.slice a0 len cap] = [.slice (some a) len' cap'] := hcs
    injection hcs' with hcs''
    injection hcs'' with h1 h2 h3
    subst h1; subst h2; subst h3
    simp only [if_pos] at hmm
    subst hmm
    rw [hk] at hx hi
    have each : ∀ i, i < len → ∃ z : Int, (0 ≤ z ∧ z ≤ 255) ∧ W.cell? (a.add i) = some (.int .u8 z) := by
      intro i hil
      obtain ⟨cs', hc, ht'⟩ := hi i (by omega)
      obtain ⟨_, hcl, hat⟩ := World.cells?_some hc
      obtain ⟨z, rfl, -, hw⟩ := DataW.trod_int he ht'
      refine ⟨z, ?_, ?_⟩
      · have e : (2 : Int) ^ IntKind.u8.bits = 256 := by decide
        have e2 : IntKind.u8.signed = false := rfl
        simp [Lit.wf, IntKind.min, IntKind.max, e2] at hw
        simp [IntKind.bits] at hw
        omega
      · have := hat 0 (by omega)
        rw [Nat.mul_one, add_add', Nat.add_zero] at this
        simpa using this
    have all : ∀ n', n' ≤ len → ∃ zs : List Int, zs.length = n' ∧ (∀ z ∈ zs, 0 ≤ z ∧ z ≤ 255) ∧ ∀ j x, zs[j]? = some x → W.cell? (a.add j) = some (.int .u8 x) := by
      intro n'
      induction n' with
      | zero => exact fun _ => ⟨[], rfl, by simp, fun j x h => by simp at h⟩
      | succ n' ih =>
        intro hn'
        obtain ⟨zs, hz1, hz2, hz3⟩ := ih (by omega)
        obtain ⟨y, hy1, hy2⟩ := each n' (by omega)
        refine ⟨zs ++ [y], by simp [hz1], fun z hz => ?_, fun j x hx => ?_⟩
        · rcases List.mem_append.1 hz with h | h
          · exact hz2 z h
          · simp at h; subst h; exact hy1
        · by_cases hj : j < n'
          · rw [List.getElem?_append_left (by omega)] at hx
            exact hz3 j x hx
          · rw [List.getElem?_append_right (by omega)] at hx
            have hj2 : j = n' := by
              have := (List.getElem?_eq_some_iff.1 hx).1
              simp at this
              omega
            subst hj2
            rw [hz1, Nat.sub_self] at hx
            simp at hx
            subst hx
            exact hy2
    obtain ⟨zs, hz1, hz2, hz3⟩ := all len (Nat.le_refl _)
    refine ⟨_, _, _, zs, rfl, ⟨by rw [cellsL_len, hz1], hl, hm, fun hn => ⟨a, rfl, ?_, fun j u hu => ?_⟩⟩, (fun h => nomatch h), hz1, hz2⟩
    · injection hx with _ hp'
      have hmem : ∃ x ∈ p, x.block = a.block := by
        refine ⟨.cell a.block (a.off + 0), ?_, rfl⟩
        rw [hp']
        refine List.mem_append_left _ ?_
        unfold MemPlace.row
        exact List.mem_map.2 ⟨0, by rw [List.mem_range]; omega, rfl⟩
      obtain ⟨x, hx1, hx2⟩ := hmem
      rw [← hx2]
      exact hlt x (hp x hx1)
    · rw [code_cells, List.getElem?_map] at hu
      obtain ⟨x, hx', rfl⟩ := Option.map_eq_some_iff.1 hu
      exact hz3 j x hx'
theorem Arg.code {H : Type} {enc : TypeId × Value → H} {W : World} {base : Nat} {t e : TypeId} {v : Value} {d : DataW H} {p q : List MemPlace} (ht : Try.prog.underlying t = some (.slice e)) (he : Try.prog.underlying e = some (.int .u8)) (hk : Try.prog.cellsOf e = 1)
    (hlt : ∀ x ∈ q, x.block < W.heap.size) (hv : Value.okWide Try.prog W .any base t v)
    (h : DataW.Trod enc Try.prog W 0 (fun _ => true) true t v d p) (hp : ∀ x ∈ p, x ∈ q) :
    Arg W v fun M v' => ∃ B n c cs, v' = .slice B n c ∧ n ≤ maxLen ∧ Sl codeR M B n cs ∧ ∀ x ∈ cs, 0 ≤ x ∧ x ≤ 255 := by
  obtain ⟨A, n, c, zs, rfl, h1, h2, h3, h4⟩ := open_code ht he hk hlt hv h hp
  intro M μ hr
  obtain ⟨L, μ', v, a1, a2, ⟨B, a3, a4, a5⟩, a6⟩ := Arg.slice h1 h3 (fun v hv => by rw [code_cells] at hv; obtain ⟨x, -, rfl⟩ := List.mem_map.1 hv; rfl) h2 M μ hr
  exact ⟨L, μ', v, a1, a2, ⟨B, n, c, zs, a3, a4, a5, h4⟩, a6⟩
attribute [local simp] List.getElem?_cons_zero
attribute [local irreducible] awCond awCall awLoop awDraw ow retQ retC resQ Keeps
theorem v8Long_a {M : Mem} {A B : Option Addr} {n c m d : Nat} : Det Try.prog M.length 18 [.slice A n c, .slice B m d] M (.bool (decide (1048576 < n) || decide (1048576 < m))) M := by
  first | (refine det_fn Try.func18 rfl Try.ntmps18 Try.results18 rfl rfl rfl (by simp) ?_) | (refine det_fnC Try.func18 rfl Try.ntmps18 Try.results18 rfl rfl (by simp) ?_)
  simp
  by_cases h1 : 1048576 < n
  · have h1' : (1048576 : Int) < n := by omega
    simp [h1, h1', Keeps.refl]
  · have h1' : ¬ (1048576 : Int) < n := by omega
    simp [h1, h1', Keeps.refl]
    omega
theorem v8At_a {M : Mem} {A : Option Addr} {n c : Nat} {cs : List Int} (k : Nat) (m : Int) (h : Sl codeR M A n cs) (hcs : ∀ x, x ∈ cs → 0 ≤ x ∧ x ≤ 255) (hk : k ≤ 1048576) (hm : m ≤ 1099511627776) (hn : n ≤ 1048576) :
    Ctr Try.prog M.length 9 [.slice A n c, iv k, iv m] M fun r M' => M' = M ∧ ∃ x : Int, r = iv x ∧ 0 ≤ x ∧ (x < m ∨ (m ≤ 1 ∧ x = 0)) := by
  have hl := h.1
  first | (refine ctr_fn Try.func9 rfl Try.ntmps9 Try.results9 rfl rfl (by simp) ?_) | (refine ctr_fnC Try.func9 rfl Try.ntmps9 Try.results9 rfl (by simp) ?_)
  simp
  by_cases h1 : m ≤ 1
  · simp [h1]
  · by_cases h2 : k < n
    · have h2' : ¬ n ≤ k := by omega
      have h2'' : ¬ (n : Int) ≤ k := by omega
      obtain ⟨id, off, rfl, he, hc⟩ := h.at_ h2
      have c0 : cellAt M id (off + k * 1) = some (.int .u8 (el cs k)) := hc 0 _ rfl
      simp only [Nat.mul_one] at c0
      have b0 := hcs _ (el_mem (l := cs) (i := k) (by omega))
      have hm0 : ¬ m = 0 := by omega
      have hmod : ∀ y : Int, 0 ≤ y → y.tmod m = y % m ∧ 0 ≤ y % m ∧ y % m < m := fun y hy => ⟨Int.tmod_eq_emod_of_nonneg hy, Int.emod_nonneg _ (by omega), Int.emod_lt_of_pos _ (by omega)⟩
      by_cases h3 : k + 1 < n
      · obtain ⟨_, _, e, _, hc2⟩ := h.at_ h3
        cases e
        have c1 : cellAt M id (off + (k + 1) * 1) = some (.int .u8 (el cs (k + 1))) := hc2 0 _ rfl
        simp only [Nat.mul_one] at c1
        have b1 := hcs _ (el_mem (l := cs) (i := k + 1) (by omega))
        have h3' : (k : Int) + 1 < n := by omega
        have e1 : ((k : Int) + 1).toNat = k + 1 := by omega
        obtain ⟨q1, q2, q3⟩ := hmod (256 * el cs k + el cs (k + 1)) (by omega)
        simp (disch := omega) [h1, h2', h2'', h2, he, c0, c1, h3', e1, wrap_in, hm0, q1]
        exact ⟨by omega, q2, q3⟩
      · have h3' : ¬ (k : Int) + 1 < n := by omega
        obtain ⟨q1, q2, q3⟩ := hmod (el cs k) (by omega)
        simp (disch := omega) [h1, h2', h2'', h2, he, c0, h3', wrap_in, hm0, q1]
        exact ⟨q2, q3⟩
    · have h2' : n ≤ k := by omega
      have h2'' : (n : Int) ≤ k := by omega
      simp [h1, h2', h2'']
      omega
end Go.Proofs.Ythopcmglcnlcfaa
