/- Numbers in variable form. No conditions. -/
import Derived.Test.YthopcmglcnlcfaaV1
import Derived.Test.YthopcmglcnlcfaaL1
namespace Go.Proofs.Ythopcmglcnlcfaa
open Go.RowKit
set_option linter.unusedVariables false
set_option linter.unusedSimpArgs false
set_option maxRecDepth 100000
attribute [local simp] List.getElem?_cons_zero
attribute [local irreducible] awCond awCall awLoop awDraw ow retQ retC resQ Keeps
def byteR : RecV Int 1 := ⟨fun n => [.int .u8 n], fun _ => rfl⟩
theorem cellsL_byte (l : List Int) : cellsL byteR l = l.map (.int .u8) := by
  induction l with
  | nil => rfl
  | cons a l ih => rw [cellsL_cons, ih]; rfl
def bstr (l : List Int) : ByteArray := ⟨(l.map fun n => UInt8.ofNat n.toNat).toArray⟩
theorem mapM_byte : ∀ (l : List Int), (cellsL byteR l).mapM byteV = some (l.map fun n => UInt8.ofNat n.toNat)
  | [] => rfl
  | a :: l => by
    rw [cellsL_cons, show byteR.row a ++ cellsL byteR l = .int .u8 a :: cellsL byteR l from rfl, List.mapM_cons, mapM_byte l]
    rfl
theorem byte_one (l : List Int) : (cellsL byteR l).all (fun u => u.oneCell') = true := by
  rw [cellsL_byte, List.all_map, List.all_eq_true]
  exact fun x _ => rfl
/-- The bytes behind the last one, the least first. -/
def varT : Nat → Nat → List Int
  | 0, _ => []
  | f + 1, n => if n = 0 then [] else ((128 + n % 128 : Nat) : Int) :: varT f (n / 128)
theorem varT_len : ∀ f n, (varT f n).length ≤ f
  | 0, n => by simp [varT]
  | f + 1, n => by
    rw [varT]
    split
    · simp
    · have := varT_len f (n / 128)
      simp; omega
theorem varT_zero : ∀ f, varT f 0 = []
  | 0 => rfl
  | f + 1 => by simp [varT]
def varB (n : Nat) : List Int := (((n % 128 : Nat) : Int) :: varT 4 (n / 128)).reverse
def putV (n : Int) : ByteArray := if inB n 0 268435455 = true then bstr (varB n.toNat) else bstr []
theorem acc_str {P : Program} {S : St} {src dst e : TypeId} {B by_ : Nat} {u : Value} {l : List Int} {K : Value → Mem → Prop} (hA : Acc byteR e B S.M u l) (h1 : P.underlying dst = some .string) (h2 : qSlice P src = some (e, 1, by_)) (h3 : P.underlying e = some (.int .u8)) (hK : K (.string (bstr l)) S.M) : b2sK P S K src dst u := by
  obtain ⟨A, n, c, rfl, hl, hA⟩ := hA
  subst hl
  refine ⟨h1, ow_iff.2 ⟨_, h2, h3, rfl, ?_⟩⟩
  rcases hA with ⟨rfl, h0, rfl⟩ | ⟨id, t, rfl, hid, hr⟩
  · obtain rfl := List.eq_nil_of_length_eq_zero h0
    exact ⟨⟨rfl, rfl⟩, hK⟩
  · have e : cellsAt S.M id 0 l.length = some (cellsL byteR l) := by
      unfold cellsAt
      rw [hr]
      simp only
      rw [if_pos (by rw [cellsL_len]; omega), List.drop_zero, List.take_of_length_le (by rw [cellsL_len]; omega)]
    exact ow_iff.2 ⟨_, e, ow_iff.2 ⟨_, mapM_byte l, hK⟩⟩
theorem fill_byte {z : Value} {kd : IntKind} {n : Int} : Instr.fill (fun i => some (i, 1)) (zrow [z] 1).toArray [(0, .int kd n)] = some #[.int kd n] := by
  have := fill_int (z := z) (kd := kd) (n := n)
  simpa using this
theorem l20Put_a {M : Mem} (n : Nat) (hn : n ≤ 268435455) : Ctr Try.prog M.length 137 [iv n] M fun r M' => Acc byteR 5 M.length M' r (varB n) ∧ Keeps M M' := by
  have e0 : (n : Int).tmod 128 = (n : Int) % 128 := Int.tmod_eq_emod_of_nonneg (by omega)
  first | (refine ctr_fn Try.func137 rfl Try.ntmps137 Try.results137 rfl rfl (by simp) ?_) | (refine ctr_fnC Try.func137 rfl Try.ntmps137 Try.results137 rfl (by simp) ?_)
  simp (disch := omega) [e0, wrap_u8, fill_byte]
  refine awLoop_T (fun m T M' => ∃ (q : Nat) (l : List Int) (u : Value), Keeps M M' ∧ q < 128 ^ m ∧ l.length + m ≤ 5 ∧ varB n = (varT m (q / 128)).reverse ++ l ∧ Acc byteR 5 M.length M' u l ∧ look T 0 = some (iv q) ∧ look T 3 = some u) 4 ⟨n, [((n % 128 : Nat) : Int)], .slice (some ⟨M.length, 0, none⟩) 1 1, keeps_app _, by omega, by simp, by simp [varB], ⟨some ⟨M.length, 0, none⟩, 1, 1, rfl, by simp, .inr ⟨M.length, true, rfl, Nat.le_refl _, by simp [cellsL_byte]⟩⟩, by simp, by simp⟩ ?_
  rintro m T M' ⟨q, l, u, hK, hq, hl, hv, hA, h0, h3⟩
  have hKl := hK.len
  have hq28 : q ≤ 34359738367 := by
    rcases (by omega : m = 0 ∨ m = 1 ∨ m = 2 ∨ m = 3 ∨ m = 4 ∨ m = 5) with rfl | rfl | rfl | rfl | rfl | rfl <;> simp at hq <;> omega
  by_cases hlt : 128 ≤ q
  · have hlt' : (128 : Int) ≤ q := by omega
    obtain ⟨m, rfl⟩ : ∃ m', m = m' + 1 := ⟨m - 1, by rcases m with _ | m <;> simp at hq ⊢; omega⟩
    have e1 : ((q : Int) / 128).tmod 128 = (q : Int) / 128 % 128 := Int.tmod_eq_emod_of_nonneg (by omega)
    simp (disch := omega) [h0, h3, hlt', e1, wrap_in, wrap_u8, fill_byte]
    refine Acc.extend (R := byteR) (e := 5) (by_ := 1) (l := [((128 + q / 128 % 128 : Nat) : Int)]) (ls := l) ⟨some ⟨M'.length, 0, none⟩, 1, 1, rfl, by simp, .inr ⟨M'.length, true, rfl, hKl, by simp [cellsL_byte]⟩⟩ (Nat.le_refl _) (by simp; omega) (by simp) (by kernel_rfl) ((hA.keeps (keeps_app _)).src ⟨_, Try.underlying22⟩) (byte_one _) (by simp; omega) (by simp [maxLen]; omega) ?_
    intro v' M2 hA2 hS
    try simp (disch := omega) [h0, h3, wrap_in]
    refine lpI m (by omega) ?_
    refine ⟨q / 128, _, v', hS.keeps (hK.app _) (Nat.le_refl _), ?_, ?_, ?_, hA2, by simp, by simp⟩
    · rw [Nat.pow_succ] at hq; omega
    · simp; omega
    · rw [hv, varT, if_neg (by omega)]
      simp
  · have hlt' : ¬ (128 : Int) ≤ q := by omega
    have e : q / 128 = 0 := by omega
    rw [e, varT_zero] at hv
    simp (disch := omega) [h0, h3, hlt']
    exact ⟨by simpa [hv] using hA, hK⟩
/-- After k rounds of turning a list round. -/
def revI (l : List Int) (k i : Nat) : Int := if i < k ∨ l.length - 1 - i < k then el l (l.length - 1 - i) else el l i
def revC (l : List Int) (k : Nat) : List Value := (List.range l.length).map fun i => .int .u8 (revI l k i)
theorem revC_zero (l : List Int) : revC l 0 = cellsL byteR l := by
  rw [cellsL_byte]
  apply List.ext_getElem
  · simp [revC]
  · intro i h1 h2
    simp [revC] at h1
    simp [revC, revI, el, h1]
theorem revC_done {l : List Int} {k : Nat} (h : l.length ≤ 2 * k + 1) : revC l k = cellsL byteR l.reverse := by
  rw [cellsL_byte]
  apply List.ext_getElem
  · simp [revC]
  · intro i h1 h2
    simp [revC] at h1
    have h3 : l.length - 1 - i < l.length := by omega
    have e : revI l k i = el l (l.length - 1 - i) := by
      unfold revI
      by_cases h4 : i < k ∨ l.length - 1 - i < k
      · rw [if_pos h4]
      · rw [if_neg h4]
        congr 1
        omega
    simp [revC, e, el, h3]
theorem revC_get {l : List Int} {k i : Nat} (h : i < l.length) : (revC l k)[i]? = some (.int .u8 (revI l k i)) := by simp [revC, h]
theorem revC_step {l : List Int} {k : Nat} (h : 2 * k + 1 < l.length) : ((revC l k).set k (.int .u8 (el l (l.length - 1 - k)))).set (l.length - 1 - k) (.int .u8 (el l k)) = revC l (k + 1) := by
  apply List.ext_getElem?
  intro i
  by_cases hi : i < l.length
  · by_cases h1 : i = l.length - 1 - k
    · subst h1
      rw [List.getElem?_set_self (by simp [revC]; omega), revC_get hi]
      unfold revI
      rw [if_pos (by omega), show l.length - 1 - (l.length - 1 - k) = k by omega]
    · rw [List.getElem?_set_ne (by omega)]
      by_cases h2 : i = k
      · subst h2
        rw [List.getElem?_set_self (by simp [revC]; omega), revC_get hi]
        unfold revI
        rw [if_pos (by omega)]
      · rw [List.getElem?_set_ne (by omega), revC_get hi, revC_get hi]
        unfold revI
        by_cases h3 : i < k ∨ l.length - 1 - i < k
        · rw [if_pos h3, if_pos (by omega)]
        · rw [if_neg h3, if_neg (by omega)]
  · rw [List.getElem?_eq_none (by simp [revC]; omega), List.getElem?_eq_none (by simp [revC]; omega)]
end Go.Proofs.Ythopcmglcnlcfaa
