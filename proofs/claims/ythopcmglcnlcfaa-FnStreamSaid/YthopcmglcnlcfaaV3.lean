/- Bytes turned round. No conditions. -/
import Derived.Test.YthopcmglcnlcfaaV2
import Derived.Shelf.Slices.Reverse
namespace Go.Proofs.Ythopcmglcnlcfaa
open Go.Sort Go.Lib
open Go.RowKit
set_option linter.unusedVariables false
set_option linter.unusedSimpArgs false
set_option maxRecDepth 100000
attribute [local simp] List.getElem?_cons_zero
attribute [local irreducible] awCond awCall awLoop awDraw ow retQ retC resQ Keeps
set_option maxHeartbeats 1600000 in
theorem Reverse_a {M : Mem} {b id c : Nat} {l : List Int} {t : Bool} {e : TypeId} (hr : M[id]? = some (.live ⟨cellsL byteR l, true, t, e, 1⟩)) (hb : b ≤ id) (hn : l.length ≤ 1099511627776) :
    Ctr Try.prog b 75 [.slice (some ⟨id, 0, none⟩) l.length c] M fun _ M' => M' = M.set id (.live ⟨cellsL byteR l.reverse, true, t, e, 1⟩) := by
  refine ⟨⟨_, Try.func75, rfl, rfl⟩, fun μ w cs hl hS => ?_⟩
  obtain ⟨v', rfl, hv⟩ : ∃ v', cs = [v'] ∧ VRel M μ (.slice (some ⟨id, 0, none⟩) l.length c) v' := by
    match cs, hl with
    | [v'], hl => exact ⟨v', rfl, hl.2 0 _ _ rfl rfl⟩
    | [], hl => have := hl.1; simp at this
    | _ :: _ :: _, hl => have := hl.1; simp at this
  obtain ⟨-, ad, cp, s, rfl, hs, hkn, hncp, hcm, hat⟩ := hv.sl_inv
  rw [hr] at hs
  injection hs with hs
  subst hs
  obtain ⟨h1, h2⟩ := hat _ rfl
  obtain ⟨g, cur, fr, eg, -⟩ := (hS.row id _ hr).own rfl
  have had : ad = ⟨g, 0, none⟩ := by
    rcases h1 with ⟨-, h⟩ | h
    · exact absurd rfl h
    · rw [h, eg]; rfl
  subst had
  have hid := (List.getElem?_eq_some_iff.1 hr).1
  have walk : Calls Try.prog 75 #[.slice (some ⟨g, 0, none⟩) l.length cp] w fun e' w' => e' = .returned (.tuple #[]) ∧ Sim (M.set id (.live ⟨cellsL byteR l.reverse, true, t, e, 1⟩)) μ w' ∧ Step b M μ w (M.set id (.live ⟨cellsL byteR l.reverse, true, t, e, 1⟩)) μ w' := by
    go_enter Try.func75, Try.ntmps75
    go_wp2
    go_loopg [2, 3] l.length (fun m s2 s3 wr => ∃ k : Nat, k + m = l.length ∧ 2 * k ≤ l.length + 1 ∧ s2 = .int .i64 k ∧ s3 = .int .i64 (l.length - 1 - k) ∧ Sim (M.set id (.live ⟨revC l k, true, t, e, 1⟩)) μ wr ∧ Step b M μ w (M.set id (.live ⟨revC l k, true, t, e, 1⟩)) μ wr)
    case atStart => exact ⟨0, by omega, by omega, rfl, by simp, by rw [revC_zero, set_self hr]; exact hS, by rw [revC_zero, set_self hr]; exact .refl⟩
    case round =>
      obtain ⟨k, hm, hk2, rfl, rfl, hSk, hst⟩ := hrel
      have hrow : (M.set id (.live ⟨revC l k, true, t, e, 1⟩))[id]? = some (.live ⟨revC l k, true, t, e, 1⟩) := List.getElem?_set_self hid
      by_cases hlt : 2 * k + 1 < l.length
      · have ea : ∀ i, (⟨g, 0, none⟩ : Addr).add i = ⟨g, i, none⟩ := fun i => by unfold Addr.add; by_cases hi : i = 0 <;> simp [hi]
        have cellk : ∀ i, i < l.length → wr.cell? ⟨g, i, none⟩ = some (.int .u8 (revI l k i)) ∧ wr.frozen? ⟨g, i, none⟩ = false := by
          intro i hi
          obtain ⟨d, hd, hrel⟩ := (hSk.row id _ hrow).cell i _ (revC_get hi)
          have hd' : d = .int .u8 (revI l k i) := by cases hrel; rfl
          obtain ⟨-, -, -, hf⟩ := Sim.store (b := b) (v := .int .u8 0) (c := .int .u8 0) hSk hrow rfl hb (j := i) (by simp [revC]; omega) (.plain rfl)
          rw [eg, ea] at hd hf
          exact ⟨by rw [hd, hd'], hf⟩
        obtain ⟨ci, fi⟩ := cellk k (by omega)
        obtain ⟨cj, fj⟩ := cellk (l.length - 1 - k) (by omega)
        have r1 : revI l k k = el l k := by unfold revI; rw [if_neg (by omega)]
        have r2 : revI l k (l.length - 1 - k) = el l (l.length - 1 - k) := by unfold revI; rw [if_neg (by omega)]
        rw [r1] at ci
        rw [r2] at cj
        have hlt' : (k : Int) < (l.length : Int) - 1 - k := by omega
        obtain ⟨j, hj⟩ : ∃ j : Nat, j = l.length - 1 - k := ⟨_, rfl⟩
        have hj' : (l.length : Int) - 1 - k = (j : Int) := by omega
        rw [← hj] at cj fj
        rw [hj'] at hlt' ⊢
        replace hj : j + (k + 1) = l.length := by omega
        clear hj'
        have mixed : Try.prog.follows .mixedOrders = true := by kernel_rfl
        have hjl : j < l.length := by omega
        have hkj : k < j := by omega
        clear hkn hv hl hat h1 h2 hS hr r1 r2 cellk
        go_wp2_with fail
        go_region_o
        go_wp2
        go_roundg (gk - 1)
        case measure => omega
        case rel =>
          obtain ⟨s1, t1, -, -⟩ := Sim.store (b := b) (v := .int .u8 (el l j)) (c := .int .u8 (el l j)) hSk hrow rfl hb (j := k) (by simp [revC]; omega) (.plain rfl)
          obtain ⟨s2, t2, -, -⟩ := Sim.store (b := b) (v := .int .u8 (el l k)) (c := .int .u8 (el l k)) s1 (List.getElem?_set_self (by simpa using hid)) rfl hb (j := j) (by simp [revC]; omega) (.plain rfl)
          have hj' : j = l.length - 1 - k := by omega
          have es : ((revC l k).set k (.int .u8 (el l j))).set j (.int .u8 (el l k)) = revC l (k + 1) := by rw [hj']; exact revC_step hlt
          rw [eg, ea, ea] at s2 t2
          rw [eg, ea] at t1
          have t3 := (hst.trans t1).trans t2
          simp only [List.set_set, es] at s2 t3
          refine ⟨k + 1, by omega, by omega, by simp, by simp; omega, s2.heap rfl, ?_⟩
          exact t3.trans (Step.heap rfl rfl rfl rfl)
      · have hlt' : ¬ (k : Int) < (l.length : Int) - 1 - k := by omega
        go_wp2
        go_end0
        rw [← revC_done (l := l) (k := k) (by omega)]
        exact ⟨rfl, hSk, hst⟩
  refine walk.mono ?_
  rintro e' w' ⟨rfl, h3, h4⟩
  exact ⟨.tuple #[], _, _, μ, rfl, rfl, .tup rfl (fun i x y h => by simp at h), h3, h4⟩
theorem tl_len (n : Nat) : (varB n).length ≤ 5 := by
  have := varT_len 4 (n / 128)
  simp [varB]; omega
theorem PutVar_i {M : Mem} (n : Int) : Det Try.prog M.length 31 [iv n] M (.string (putV n)) M := by
  first | (refine det_fn Try.func31 rfl Try.ntmps31 Try.results31 rfl rfl rfl (by simp) ?_) | (refine det_fnC Try.func31 rfl Try.ntmps31 Try.results31 rfl rfl (by simp) ?_)
  simp
  refine awCall_det' (within_a _ _ _) (by simp) ?_
  by_cases hin : inB n 0 268435455 = true
  · have hb := inB_iff.1 hin
    obtain ⟨n, rfl⟩ := Int.eq_ofNat_of_zero_le hb.1
    have e0 : (n : Int).tmod 128 = (n : Int) % 128 := Int.tmod_eq_emod_of_nonneg (by omega)
    simp (disch := omega) [hin, e0, wrap_u8, wrap_in, fill_byte]
    refine awLoop_T (fun m T M' => ∃ (q : Nat) (l : List Int) (u : Value), Keeps M M' ∧ q < 128 ^ m ∧ l.length + m ≤ 5 ∧ varB n = (l ++ varT m q).reverse ∧ Acc byteR 5 M.length M' u l ∧ look T 0 = some (iv q) ∧ look T 3 = some u) 4 ⟨n / 128, [((n % 128 : Nat) : Int)], .slice (some ⟨M.length, 0, none⟩) 1 1, keeps_app _, by omega, by simp, by simp [varB], ⟨some ⟨M.length, 0, none⟩, 1, 1, rfl, by simp, .inr ⟨M.length, true, rfl, Nat.le_refl _, by simp [cellsL_byte]⟩⟩, by simp, by simp⟩ ?_
    rintro m T M' ⟨q, l, u, hK, hq, hl, hv, hA, h0, h3⟩
    have hKl := hK.len
    have hq28 : q ≤ 34359738367 := by
      rcases (by omega : m = 0 ∨ m = 1 ∨ m = 2 ∨ m = 3 ∨ m = 4 ∨ m = 5) with rfl | rfl | rfl | rfl | rfl | rfl <;> simp at hq <;> omega
    by_cases hlt : 0 < q
    · have hlt' : (0 : Int) < q := by omega
      obtain ⟨m, rfl⟩ : ∃ m', m = m' + 1 := ⟨m - 1, by rcases m with _ | m <;> simp at hq ⊢; omega⟩
      have e1 : (q : Int).tmod 128 = (q : Int) % 128 := Int.tmod_eq_emod_of_nonneg (by omega)
      simp (disch := omega) [h0, h3, hlt, hlt', e1, wrap_in, wrap_u8, fill_byte]
      refine Acc.append (R := byteR) (e := 5) (by_ := 1) (a := ((128 + q % 128 : Nat) : Int)) (hA.keeps (keeps_app _)) (Nat.le_refl _) (by simp; omega) (by omega) (by simp) (by kernel_rfl) (by simp [srcOf, byteR]) (by rfl) (by omega) (by simp [maxLen]; omega) ?_
      intro v' M2 hA2 hS
      try simp (disch := omega) [h0, h3, wrap_in]
      refine lpI m (by omega) ?_
      refine ⟨q / 128, _, v', hS.keeps (hK.app _) (Nat.le_refl _), ?_, ?_, ?_, hA2, by simp, by simp⟩
      · rw [Nat.pow_succ] at hq; omega
      · simp; omega
      · rw [hv, varT, if_neg (by omega)]
        simp
    · obtain rfl : q = 0 := by omega
      rw [varT_zero, List.append_nil] at hv
      simp (disch := omega) [h0, h3]
      obtain ⟨A, nn, c, rfl, hln, hA⟩ := hA
      subst hln
      rcases hA with ⟨rfl, h0', rfl⟩ | ⟨id, t, rfl, hid, hr⟩
      · have := congrArg List.length hv
        simp [varB, h0'] at this
      · refine awCall_ctr (Reverse_a hr hid (by omega)) ?_
        rintro r M2 rfl
        have hidl := (List.getElem?_eq_some_iff.1 hr).1
        simp (disch := omega) [h3]
        refine acc_str (by_ := 1) (B := M.length) (l := l.reverse) (e := 5) ⟨_, _, _, rfl, by simp, .inr ⟨id, t, rfl, hid, List.getElem?_set_self hidl⟩⟩ Try.underlying9 (by simp) Try.underlying5 ?_
        simp [putV, hin, hv, keeps_set hK hid]
  · simp at hin
    simp [hin, putV, bstr, Keeps.refl]
end Go.Proofs.Ythopcmglcnlcfaa
