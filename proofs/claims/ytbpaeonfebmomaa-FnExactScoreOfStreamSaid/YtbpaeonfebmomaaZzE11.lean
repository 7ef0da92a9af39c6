/- Parts of the proof, together: Regions that draw their order, in which some operations, each of which waits for the one before, turn memory, and the others only read. The sort's functions on rows of notes: swaps of stretches. Lists of notes: swapped, turned round, merged: plain laws. StreamEvent: records in memory, and the laws' helpers on them. Streams: are two lists equal. Streams: are they valid. The notes that events tell,  No conditions. -/
import Derived.Test.YtbpaeonfebmomaaZzE10
import Derived.Test.YtbpaeonfebmomaaZzE8
import Derived.Laws.StructEq
namespace Go.Proofs.Ytbpaeonfebmomaa
open Go.RowKit
set_option linter.unusedVariables false
set_option linter.unusedSimpArgs false
/-- m waits for k, through others too. -/
def reachE (ops : List Oper) : Nat → Nat → Nat → Bool
  | 0, m, k => edge ops m k
  | n + 1, m, k => edge ops m k || (List.range ops.length).any fun j => edge ops m j && reachE ops n j k
theorem reachE_at {ops : List Oper} {X : Nat → Bool} (hC : Closed ops X) : ∀ {n m k : Nat}, reachE ops n m k = true → X m = true → X k = true
  | 0, m, k, h, hm => hC.at_ k hm h
  | n + 1, m, k, h, hm => by
    simp only [reachE, Bool.or_eq_true, List.any_eq_true, Bool.and_eq_true] at h
    rcases h with h | ⟨j, _, h1, h2⟩
    · exact hC.at_ k hm h
    · exact reachE_at hC h2 (hC.at_ j hm h1)
def chainOk (ops : List Oper) (ms : List Nat) : Bool := decide ms.Nodup && ms.all (fun m => decide (m < ops.length)) && (List.range ms.length).all fun i => match ms[i + 1]?, ms[i]? with
  | some a, some b => reachE ops 4 a b
  | _, _ => true
/-- What is known of an operation that is waited for. -/
def Dep (ms : List Nat) (Φ : Nat → Value → Prop) (vs : List Value) (j : Nat) (v : Value) : Prop := (ms.contains j = false → Φ j v) ∧ ∀ i : Nat, ms[i]? = some j → vs[i]? = some v
theorem chain_at {ops : List Oper} {ms : List Nat} (h : chainOk ops ms = true) {i a b : Nat} (ha : ms[i + 1]? = some a) (hb : ms[i]? = some b) : reachE ops 4 a b = true := by
  unfold chainOk at h
  simp only [Bool.and_eq_true, List.all_eq_true] at h
  have := h.2 i (List.mem_range.2 (List.getElem?_eq_some_iff.1 hb).1)
  rw [ha, hb] at this
  exact this
theorem chain_inj {ops : List Oper} {ms : List Nat} (h : chainOk ops ms = true) {i j a : Nat} (hi : ms[i]? = some a) (hj : ms[j]? = some a) : i = j := by
  unfold chainOk at h
  simp only [Bool.and_eq_true, decide_eq_true_eq] at h
  have hn := h.1.1
  obtain ⟨h1, e1⟩ := List.getElem?_eq_some_iff.1 hi
  obtain ⟨h2, e2⟩ := List.getElem?_eq_some_iff.1 hj
  exact (List.getElem_inj hn).1 (e1.trans e2.symm)
theorem chain_lt {ops : List Oper} {ms : List Nat} (h : chainOk ops ms = true) {i a : Nat} (hi : ms[i]? = some a) : a < ops.length := by
  unfold chainOk at h
  simp only [Bool.and_eq_true, List.all_eq_true] at h
  have := h.1.2 a (List.mem_of_getElem? hi)
  simpa using this
theorem not_ms {ms : List Nat} {k : Nat} (h : ms.contains k = false) {i a : Nat} (hi : ms[i]? = some a) : a ≠ k := by
  intro e
  subst e
  have := List.mem_of_getElem? hi
  simp [this] at h
theorem awDraw_C {P : Program} {b : Nat} {ops : List Oper} {Q : St → Prop} {S : St} (ms : List Nat) (Φ : Nat → Value → Prop) (Ψ : List Value → Mem → Prop)
    (h1 : P.follows .mixedOrders = true) (h2 : drawBack ⟨ops⟩ = true) (h3 : dstOnce ⟨ops⟩ = true) (hms : chainOk ops ms = true) (h0 : Ψ [] S.M)
    (hread : ∀ (k : Nat) (o : Oper) (T : List (Nat × Value)) (M : Mem) (vs : List Value) (K : Value → Mem → Prop), ms.contains k = false → ops[k]? = some o → Ψ vs M → (∀ i m, ms[i]? = some m → reachE ops 3 m k = true → vs.length ≤ i) →
      (∀ j d, edge ops k j = true → dstOf ⟨ops⟩ j = some d → ∃ v, look T d = some v ∧ Dep ms Φ vs j v) → (∀ t, noDst ⟨ops⟩ t = true → look T t = look S.T t) → (∀ v, Φ k v → K v M) → sOp P false b o ⟨S.n, T, M⟩ K)
    (hmove : ∀ (i k : Nat) (o : Oper) (T : List (Nat × Value)) (M : Mem) (vs : List Value) (K : Value → Mem → Prop), ms[i]? = some k → ops[k]? = some o → Ψ vs M → vs.length = i →
      (∀ j d, edge ops k j = true → dstOf ⟨ops⟩ j = some d → ∃ v, look T d = some v ∧ Dep ms Φ vs j v) → (∀ t, noDst ⟨ops⟩ t = true → look T t = look S.T t) → (∀ v M', Ψ (vs ++ [v]) M' → K v M') → sOp P false b o ⟨S.n, T, M⟩ K)
    (hend : ∀ (T : List (Nat × Value)) (M : Mem) (vs : List Value), vs.length = ms.length → Ψ vs M → (∀ j d, j < ops.length → dstOf ⟨ops⟩ j = some d → ∃ v, look T d = some v ∧ Dep ms Φ vs j v) → (∀ t, noDst ⟨ops⟩ t = true → look T t = look S.T t) → Q ⟨S.n, T, M⟩) : awDraw P b ⟨ops⟩ Q S := by
  have dep : ∀ {X : Nat → Bool} {γ : Nat → Value} {s j : Nat}, (∀ k, X k = true → ms.contains k = false → Φ k (γ k)) → (∀ i m, ms[i]? = some m → X m = decide (i < s)) → X j = true → Dep ms Φ ((ms.take s).map γ) j (γ j) := by
    intro X γ s j hΦ hs hj
    refine ⟨fun hm => hΦ j hj hm, fun i hi => ?_⟩
    have := hs i j hi
    rw [hj] at this
    have hlt : i < s := by simpa using this.symm
    rw [List.getElem?_map, List.getElem?_take, if_pos hlt, hi]; rfl
  have len : ∀ {γ : Nat → Value} {s : Nat}, s ≤ ms.length → ((ms.take s).map γ).length = s := fun {γ s} h => by simp; omega
  refine awDraw_G (fun X γ M => (∀ k, X k = true → ms.contains k = false → Φ k (γ k)) ∧ ∃ s, s ≤ ms.length ∧ (∀ i m, ms[i]? = some m → X m = decide (i < s)) ∧ Ψ ((ms.take s).map γ) M) h1 h2 h3 (fun γ => ⟨fun k h => (by cases h), 0, Nat.zero_le _, fun i m _ => by simp, h0⟩) ?_ ?_
  · rintro X γ T M k o K hC hT ⟨hΦ, s, hs1, hs2, hΨ⟩ ho hX ha hK
    have hdep : ∀ j d, edge ops k j = true → dstOf ⟨ops⟩ j = some d → ∃ v, look T d = some v ∧ Dep ms Φ ((ms.take s).map γ) j v := fun j d he hd => by
      have hj := edge_ahead ho ha j he
      exact ⟨γ j, hT.done j d hj hd, dep hΦ hs2 hj⟩
    by_cases hk : ms.contains k = false
    · refine hread k o T M _ K hk ho hΨ (fun i m hi he => ?_) hdep (fun t ht => hT.frame' t ht) fun v hv => hK v M ⟨fun j hj hm => ?_, s, hs1, fun i m hi => ?_, ?_⟩
      · rw [len hs1]
        apply Classical.byContradiction
        intro hn
        have hXm : X m = true := by rw [hs2 i m hi]; simp; omega
        have := reachE_at hC he hXm
        rw [hX] at this
        cases this
      · by_cases e : j = k
        · subst e
          rw [show upG γ j v j = v by simp [upG]]
          exact hv
        · rw [upX_ne e] at hj
          rw [upG_ne e]
          exact hΦ j hj hm
      · rw [upX_ne (not_ms hk hi)]
        exact hs2 i m hi
      · rw [List.map_congr_left (g := γ) fun a ha => ?_]
        · exact hΨ
        · obtain ⟨i, hi⟩ := List.mem_iff_getElem?.1 (List.mem_of_mem_take ha)
          exact upG_ne (not_ms hk hi)
    · have hk' : k ∈ ms := by simpa using hk
      obtain ⟨i, hi⟩ := List.mem_iff_getElem?.1 hk'
      have hil := (List.getElem?_eq_some_iff.1 hi).1
      have his : s = i := by
        have h5 := hs2 i k hi
        rw [hX] at h5
        have h6 : ¬ i < s := by simpa using h5.symm
        rcases i with _ | i
        · omega
        · have hb : ms[i]? = some (ms[i]'(by omega)) := List.getElem?_eq_getElem _
          have he := chain_at hms hi hb
          have hj : X (ms[i]'(by omega)) = true := by
            rw [show (4 : Nat) = 3 + 1 from rfl] at he
            simp only [reachE, Bool.or_eq_true, List.any_eq_true, Bool.and_eq_true] at he
            rcases he with he | ⟨j, _, h1, h2⟩
            · exact edge_ahead ho ha _ he
            · exact reachE_at hC (n := 3) (by simp only [reachE, Bool.or_eq_true, List.any_eq_true, Bool.and_eq_true]; exact h2) (edge_ahead ho ha _ h1)
          rw [hs2 i _ hb] at hj
          simp at hj
          omega
      subst his
      refine hmove s k o T M _ K hi ho hΨ (len hs1) hdep (fun t ht => hT.frame' t ht) fun v M' hv => hK v M' ⟨fun j hj hm => ?_, s + 1, hil, fun j m hj => ?_, ?_⟩
      · have e : j ≠ k := fun e => by subst e; rw [hm] at hk; exact hk rfl
        rw [upX_ne e] at hj
        rw [upG_ne e]
        exact hΦ j hj hm
      · by_cases e : m = k
        · subst e
          obtain rfl := chain_inj hms hj hi
          rw [upX_same]
          simp
        · rw [upX_ne e, hs2 j m hj]
          have hne : j ≠ s := fun h => by subst h; rw [hi] at hj; injection hj with hj; exact e hj.symm
          by_cases hlt : j < s
          · simp [hlt, Nat.lt_succ_of_lt hlt]
          · have : ¬ j < s + 1 := by omega
            simp [hlt, this]
      · have e1 : ms.take (s + 1) = ms.take s ++ [k] := by
          rw [List.take_add_one, hi]
          rfl
        rw [e1, List.map_append, List.map_singleton, show upG γ k v k = v by simp [upG], List.map_congr_left (g := γ) fun a ha => ?_]
        · exact hv
        · refine upG_ne fun e => ?_
          subst e
          obtain ⟨j, hj⟩ := List.mem_iff_getElem?.1 ha
          rw [List.getElem?_take] at hj
          split at hj
          · have := chain_inj hms hj hi
            omega
          · cases hj
  · rintro X γ T M hX hT ⟨hΦ, s, hs1, hs2, hΨ⟩
    have hs : s = ms.length := by
      apply Classical.byContradiction
      intro hn
      have hlt : s < ms.length := by omega
      have hb : ms[s]? = some (ms[s]'hlt) := List.getElem?_eq_getElem _
      have := hs2 s _ hb
      rw [hX _ (chain_lt hms hb)] at this
      simp at this
    subst hs
    exact hend T M _ (len hs1) hΨ (fun j d hj hd => ⟨γ j, hT.done j d (hX j hj) hd, dep hΦ hs2 (hX j hj)⟩) fun t ht => hT.frame' t ht
end Go.Proofs.Ytbpaeonfebmomaa

namespace Go.Proofs.Ytbpaeonfebmomaa
open Go.RowKit
set_option linter.unusedVariables false
set_option linter.unusedSimpArgs false
set_option maxRecDepth 100000
attribute [local simp] List.getElem?_cons_zero
attribute [local irreducible] awCond awCall awLoop awDraw ow retQ retC resQ Keeps
abbrev cmpV : Value := .func (.func 56) #[] #[]
set_option maxHeartbeats 1600000 in
theorem swapRange_a {M : Mem} {B id n c a b k : Nat} {t : Bool} {l : List Note} {f : Value} (h : M[id]? = some (noteS t l)) (hB : B ≤ id) (hn : l.length = n) (hn2 : n ≤ 100000) (ha : a + k ≤ n) (hb : b + k ≤ n) :
    Ctr Try.prog B 108 [.slice (some ⟨id, 0, none⟩) n c, iv a, iv b, iv k, f] M fun r M' => r = .tuple #[] ∧ M' = stN M id t (swI l a b k) := by
  have hid := (List.getElem?_eq_some_iff.1 h).1
  first | (refine ctr_fn Try.func108 rfl Try.ntmps108 Try.results108 rfl rfl (by simp) ?_) | (refine ctr_fnC Try.func108 rfl Try.ntmps108 Try.results108 rfl (by simp) ?_)
  simp
  refine awLoop_T (fun m T M' => ∃ i : Nat, i + m = k ∧ M' = stN M id t (swI l a b i) ∧ look T 10 = some (iv i) ∧ look T 0 = some (.slice (some ⟨id, 0, none⟩) n c) ∧ look T 1 = some (iv a) ∧ look T 2 = some (iv b) ∧ look T 3 = some (iv k)) k ⟨0, by omega, by rw [swI, stN_self h], by simp, by simp, by simp, by simp, by simp⟩ ?_
  rintro m T M' ⟨i, hm, rfl, t10, t0, t1, t2, t3⟩
  have hr := stN_row (t := t) (l := swI l a b i) hid
  have hln := swI_len (l := l) (a := a) (b := b) i
  by_cases hlt : i < k
  · obtain ⟨p, hp⟩ : ∃ p, p = a + i := ⟨_, rfl⟩
    obtain ⟨q, hq⟩ : ∃ q, q = b + i := ⟨_, rfl⟩
    have e1 : (a : Int) + i = p := by omega
    have e2 : (b : Int) + i = q := by omega
    simp (disch := omega) [t10, t3, hlt]
    obtain ⟨M1, hM1⟩ : ∃ M1, M1 = stN M id t (swI l a b i) := ⟨_, rfl⟩
    obtain ⟨l1, hl1⟩ : ∃ l1, l1 = swI l a b i := ⟨_, rfl⟩
    have hr1 : M1[id]? = some (noteS t l1) := by rw [hM1, hl1]; exact hr
    have hid1 : id < M1.length := by rw [hM1, stN_len]; exact hid
    have hpn : p < n := by omega
    have hqn : q < n := by omega
    rw [← hl1] at hln
    rw [← hM1]
    refine awDraw_C [21, 23] (fun kk v => match kk with
      | 0 => v = .slice (some ⟨id, 0, none⟩) n c
      | 1 => v = iv a
      | 2 => v = iv i
      | 3 => v = iv p
      | 4 => v = .slice (some ⟨id, 0, none⟩) n c
      | 5 => v = iv b
      | 6 => v = iv i
      | 7 => v = iv q
      | 8 => v = .slice (some ⟨id, 0, none⟩) n c
      | 9 => v = iv b
      | 10 => v = iv i
      | 11 => v = iv q
      | 12 => v = .pointer (some ⟨id, q * 7, none⟩)
      | 13 => v = .agg (el l1 q).row.toArray
      | 14 => v = .slice (some ⟨id, 0, none⟩) n c
      | 15 => v = iv a
      | 16 => v = iv i
      | 17 => v = iv p
      | 18 => v = .pointer (some ⟨id, p * 7, none⟩)
      | 19 => v = .agg (el l1 p).row.toArray
      | 20 => v = .pointer (some ⟨id, p * 7, none⟩)
      | 22 => v = .pointer (some ⟨id, q * 7, none⟩)
      | _ => True) (fun vs M' => match vs with
      | [] => M' = M1
      | [_] => M' = stN M1 id t (l1.set p (el l1 q))
      | [_, _] => M' = stN M1 id t (swapL l1 p q)
      | _ => False) (by kernel_rfl) (by decide +kernel) (by decide +kernel) (by decide +kernel) rfl ?_ ?_ ?_
    · intro kk o T' M' vs K hi ho hΨ hlate hp hf' hK
      have f0 : look T' 0 = some (.slice (some ⟨id, 0, none⟩) n c) := by rw [hf' 0 (by decide +kernel)]; simp [t0]
      have f1 : look T' 1 = some (iv a) := by rw [hf' 1 (by decide +kernel)]; simp [t1]
      have f2 : look T' 2 = some (iv b) := by rw [hf' 2 (by decide +kernel)]; simp [t2]
      have f3 : look T' 3 = some (iv k) := by rw [hf' 3 (by decide +kernel)]; simp [t3]
      have f10 : look T' 10 = some (iv i) := by rw [hf' 10 (by decide +kernel)]; simp [t10]
      rcases kk with _ | _ | _ | _ | _ | _ | _ | _ | _ | _ | _ | _ | _ | _ | _ | _ | _ | _ | _ | _ | _ | _ | _ | _ | kk
      · skip
        simp at ho; subst ho
        simp [f0]
        exact hK _ rfl
      · skip
        simp at ho; subst ho
        simp [f1]
        exact hK _ rfl
      · skip
        simp at ho; subst ho
        simp [f10]
        exact hK _ rfl
      · skip
        obtain ⟨v0, d0, q0, -⟩ := hp 1 17 (by decide +kernel) rfl
        rw [q0 (by decide)] at d0
        obtain ⟨v1, d1, q1, -⟩ := hp 2 18 (by decide +kernel) rfl
        rw [q1 (by decide)] at d1
        simp at ho; subst ho
        simp (disch := omega) [d0, d1, wrap_in, e1, e2]
        exact hK _ rfl
      · skip
        simp at ho; subst ho
        simp [f0]
        exact hK _ rfl
      · skip
        simp at ho; subst ho
        simp [f2]
        exact hK _ rfl
      · skip
        simp at ho; subst ho
        simp [f10]
        exact hK _ rfl
      · skip
        obtain ⟨v0, d0, q0, -⟩ := hp 5 21 (by decide +kernel) rfl
        rw [q0 (by decide)] at d0
        obtain ⟨v1, d1, q1, -⟩ := hp 6 22 (by decide +kernel) rfl
        rw [q1 (by decide)] at d1
        simp at ho; subst ho
        simp (disch := omega) [d0, d1, wrap_in, e1, e2]
        exact hK _ rfl
      · skip
        simp at ho; subst ho
        simp [f0]
        exact hK _ rfl
      · skip
        simp at ho; subst ho
        simp [f2]
        exact hK _ rfl
      · skip
        simp at ho; subst ho
        simp [f10]
        exact hK _ rfl
      · skip
        obtain ⟨v0, d0, q0, -⟩ := hp 9 25 (by decide +kernel) rfl
        rw [q0 (by decide)] at d0
        obtain ⟨v1, d1, q1, -⟩ := hp 10 26 (by decide +kernel) rfl
        rw [q1 (by decide)] at d1
        simp at ho; subst ho
        simp (disch := omega) [d0, d1, wrap_in, e1, e2]
        exact hK _ rfl
      · skip
        obtain ⟨v0, d0, q0, -⟩ := hp 8 24 (by decide +kernel) rfl
        rw [q0 (by decide)] at d0
        obtain ⟨v1, d1, q1, -⟩ := hp 11 27 (by decide +kernel) rfl
        rw [q1 (by decide)] at d1
        have he : rowEsz M' id = some 7 := by
          match vs, hΨ with
          | [], hΨ => rw [hΨ]; exact stN_esz hr1
          | [_], hΨ => rw [hΨ]; exact stN_esz (stN_row hid1)
          | [_, _], hΨ => rw [hΨ]; exact stN_esz (stN_row hid1)
        simp at ho; subst ho
        simp (disch := omega) [d0, d1, he, hqn]
        exact hK _ rfl
      · skip
        obtain ⟨v0, d0, q0, -⟩ := hp 12 28 (by decide +kernel) rfl
        rw [q0 (by decide)] at d0
        obtain rfl := List.eq_nil_of_length_eq_zero (Nat.le_zero.1 (hlate 0 21 rfl (by decide +kernel)))
        have hΨ' : M' = M1 := hΨ
        have hc := stN_at hr1 (i := q) (by omega)
        rw [← hΨ'] at hc
        simp at ho; subst ho
        simp [d0, hc]
        exact hK _ rfl
      · skip
        simp at ho; subst ho
        simp [f0]
        exact hK _ rfl
      · skip
        simp at ho; subst ho
        simp [f1]
        exact hK _ rfl
      · skip
        simp at ho; subst ho
        simp [f10]
        exact hK _ rfl
      · skip
        obtain ⟨v0, d0, q0, -⟩ := hp 15 31 (by decide +kernel) rfl
        rw [q0 (by decide)] at d0
        obtain ⟨v1, d1, q1, -⟩ := hp 16 32 (by decide +kernel) rfl
        rw [q1 (by decide)] at d1
        simp at ho; subst ho
        simp (disch := omega) [d0, d1, wrap_in, e1, e2]
        exact hK _ rfl
      · skip
        obtain ⟨v0, d0, q0, -⟩ := hp 14 30 (by decide +kernel) rfl
        rw [q0 (by decide)] at d0
        obtain ⟨v1, d1, q1, -⟩ := hp 17 33 (by decide +kernel) rfl
        rw [q1 (by decide)] at d1
        have he : rowEsz M' id = some 7 := by
          match vs, hΨ with
          | [], hΨ => rw [hΨ]; exact stN_esz hr1
          | [_], hΨ => rw [hΨ]; exact stN_esz (stN_row hid1)
          | [_, _], hΨ => rw [hΨ]; exact stN_esz (stN_row hid1)
        simp at ho; subst ho
        simp (disch := omega) [d0, d1, he, hpn]
        exact hK _ rfl
      · skip
        obtain ⟨v0, d0, q0, -⟩ := hp 18 34 (by decide +kernel) rfl
        rw [q0 (by decide)] at d0
        obtain rfl := List.eq_nil_of_length_eq_zero (Nat.le_zero.1 (hlate 0 21 rfl (by decide +kernel)))
        have hΨ' : M' = M1 := hΨ
        have hc := stN_at hr1 (i := p) (by omega)
        rw [← hΨ'] at hc
        simp at ho; subst ho
        simp [d0, hc]
        exact hK _ rfl
      · skip
        obtain ⟨v0, d0, q0, -⟩ := hp 0 16 (by decide +kernel) rfl
        rw [q0 (by decide)] at d0
        obtain ⟨v1, d1, q1, -⟩ := hp 3 19 (by decide +kernel) rfl
        rw [q1 (by decide)] at d1
        have he : rowEsz M' id = some 7 := by
          match vs, hΨ with
          | [], hΨ => rw [hΨ]; exact stN_esz hr1
          | [_], hΨ => rw [hΨ]; exact stN_esz (stN_row hid1)
          | [_, _], hΨ => rw [hΨ]; exact stN_esz (stN_row hid1)
        simp at ho; subst ho
        simp (disch := omega) [d0, d1, he, hpn]
        exact hK _ rfl
      · skip
        cases hi
      · skip
        obtain ⟨v0, d0, q0, -⟩ := hp 4 20 (by decide +kernel) rfl
        rw [q0 (by decide)] at d0
        obtain ⟨v1, d1, q1, -⟩ := hp 7 23 (by decide +kernel) rfl
        rw [q1 (by decide)] at d1
        have he : rowEsz M' id = some 7 := by
          match vs, hΨ with
          | [], hΨ => rw [hΨ]; exact stN_esz hr1
          | [_], hΨ => rw [hΨ]; exact stN_esz (stN_row hid1)
          | [_, _], hΨ => rw [hΨ]; exact stN_esz (stN_row hid1)
        simp at ho; subst ho
        simp (disch := omega) [d0, d1, he, hqn]
        exact hK _ rfl
      · skip
        cases hi
      · simp at ho
    · intro kk k' o T' M' vs K hi ho hΨ hlen hp hf' hK
      rcases kk with _ | _ | kk
      · skip
        obtain rfl : 21 = k' := by simpa using hi
        obtain ⟨v0, d0, q0, -⟩ := hp 20 36 (by decide +kernel) rfl
        rw [q0 (by decide)] at d0
        obtain ⟨v1, d1, q1, -⟩ := hp 13 29 (by decide +kernel) rfl
        rw [q1 (by decide)] at d1
        obtain rfl := List.eq_nil_of_length_eq_zero hlen
        have hΨ' : M' = M1 := hΨ
        simp at ho; subst ho
        simp [d0, d1, hΨ']
        refine ⟨rfl, ?_⟩
        rw [show putCells B M1 id (p * 7) _ = some (stN M1 id t (l1.set p (el l1 q))) from stN_put hr1 hB (by omega), ow_some]
        exact hK _ _ rfl
      · skip
        obtain rfl : 23 = k' := by simpa using hi
        obtain ⟨v0, d0, q0, -⟩ := hp 22 37 (by decide +kernel) rfl
        rw [q0 (by decide)] at d0
        obtain ⟨v1, d1, q1, -⟩ := hp 19 35 (by decide +kernel) rfl
        rw [q1 (by decide)] at d1
        match vs, hlen, hΨ with
        | [_], _, hΨ =>
          have hΨ' : M' = stN M1 id t (l1.set p (el l1 q)) := hΨ
          simp at ho; subst ho
          simp [d0, d1, hΨ']
          refine ⟨rfl, ?_⟩
          rw [show putCells B (stN M1 id t (l1.set p (el l1 q))) id (q * 7) _ = some (stN (stN M1 id t (l1.set p (el l1 q))) id t ((l1.set p (el l1 q)).set q (el l1 p))) from stN_put (stN_row hid1) hB (by simp; omega), ow_some, stN_stN]
          exact hK _ _ rfl
      · simp at hi
    · intro T' M' vs hlen hΨ hv hf'
      match vs, hlen, hΨ with
      | [_, _], _, hΨ =>
        have hΨ' : M' = stN M1 id t (swapL l1 p q) := hΨ
        subst hΨ'
        have g0 : look T' 0 = some (.slice (some ⟨id, 0, none⟩) n c) := by rw [hf' 0 (by decide +kernel)]; simp [t0]
        have g1 : look T' 1 = some (iv a) := by rw [hf' 1 (by decide +kernel)]; simp [t1]
        have g2 : look T' 2 = some (iv b) := by rw [hf' 2 (by decide +kernel)]; simp [t2]
        have g3 : look T' 3 = some (iv k) := by rw [hf' 3 (by decide +kernel)]; simp [t3]
        have g10 : look T' 10 = some (iv i) := by rw [hf' 10 (by decide +kernel)]; simp [t10]
        simp (disch := omega) [g10, g0, g1, g2, g3, wrap_in]
        refine lpI (m - 1) (by omega) ?_
        exact ⟨i + 1, by omega, by rw [hM1, stN_stN, hl1, hp, hq]; rfl, by simp, by simp [g0], by simp [g1], by simp [g2], by simp [g3]⟩
  · obtain rfl : i = k := by omega
    simp (disch := omega) [t10, t3]
end Go.Proofs.Ytbpaeonfebmomaa

namespace Go.Proofs.Ytbpaeonfebmomaa
open Go.RowKit
set_option linter.unusedVariables false
set_option linter.unusedSimpArgs false
set_option maxRecDepth 100000
attribute [local simp] List.getElem?_cons_zero
attribute [local irreducible] awCond awCall awLoop awDraw ow retQ retC resQ Keeps
abbrev LeN (a b : Note) : Prop := ordN a b ≤ 0
theorem el_app {U W : List Note} {x : Note} : el (U ++ x :: W) U.length = x := by simp [el]
theorem el_app2 {U V W : List Note} {x y : Note} : el (U ++ (x :: (V ++ (y :: W)))) (U.length + 1 + V.length) = y := by
  have e : U ++ (x :: (V ++ (y :: W))) = (U ++ x :: V) ++ y :: W := by simp
  have e2 : U.length + 1 + V.length = (U ++ x :: V).length := by simp; omega
  rw [e, e2, el_app]
theorem set_app {U W : List Note} {x z : Note} : (U ++ x :: W).set U.length z = U ++ z :: W := by simp
theorem set_app2 {U V W : List Note} {x y z : Note} : (U ++ (x :: (V ++ (y :: W)))).set (U.length + 1 + V.length) z = U ++ (x :: (V ++ (z :: W))) := by
  have e : U ++ (x :: (V ++ (y :: W))) = (U ++ x :: V) ++ y :: W := by simp
  have e2 : U.length + 1 + V.length = (U ++ x :: V).length := by simp; omega
  rw [e, e2, set_app]
  simp
theorem swapL_app {U V W : List Note} {x y : Note} : swapL (U ++ (x :: (V ++ (y :: W)))) U.length (U.length + 1 + V.length) = U ++ (y :: (V ++ (x :: W))) := by
  unfold swapL
  rw [el_app2, el_app, set_app, set_app2]
theorem swapL_comm {l : List Note} {i j : Nat} (h : i ≠ j) : swapL l i j = swapL l j i := by
  unfold swapL
  rw [List.set_comm _ _ h]
theorem swapL_adj {U W : List Note} {x y : Note} : swapL (U ++ (x :: y :: W)) U.length (U.length + 1) = U ++ (y :: x :: W) := by
  have := swapL_app (U := U) (V := []) (W := W) (x := x) (y := y)
  simpa using this
theorem swI_app {A P D Q B : List Note} (hk : P.length = Q.length) : ∀ j, j ≤ P.length → swI (A ++ (P ++ (D ++ (Q ++ B)))) A.length (A.length + P.length + D.length) j = A ++ (Q.take j ++ (P.drop j ++ (D ++ (P.take j ++ (Q.drop j ++ B)))))
  | 0, _ => by simp [swI]
  | j + 1, hj => by
    rw [swI, swI_app hk j (by omega)]
    have hP : P.drop j = el P j :: P.drop (j + 1) := drop_el (by omega)
    have hQ : Q.drop j = el Q j :: Q.drop (j + 1) := drop_el (by omega)
    have tP : P.take (j + 1) = P.take j ++ [el P j] := take_el (by omega)
    have tQ : Q.take (j + 1) = Q.take j ++ [el Q j] := take_el (by omega)
    have l1 : (P.take j).length = j := by rw [List.length_take]; omega
    have l2 : (Q.take j).length = j := by rw [List.length_take]; omega
    have l3 : (P.drop (j + 1)).length = P.length - (j + 1) := List.length_drop ..
    rw [hP, hQ, tP, tQ]
    have := swapL_app (U := A ++ Q.take j) (V := P.drop (j + 1) ++ (D ++ P.take j)) (W := Q.drop (j + 1) ++ B) (x := el P j) (y := el Q j)
    have e1 : (A ++ Q.take j).length = A.length + j := by rw [List.length_append, l2]
    have e2 : (A ++ Q.take j).length + 1 + (P.drop (j + 1) ++ (D ++ P.take j)).length = A.length + P.length + D.length + j := by
      simp only [List.length_append, l1, l2, l3]; omega
    rw [e2, e1] at this
    simp only [List.append_assoc, List.cons_append, List.nil_append] at this ⊢
    exact this
theorem swI_full {A P D Q B : List Note} (hk : P.length = Q.length) : swI (A ++ (P ++ (D ++ (Q ++ B)))) A.length (A.length + P.length + D.length) P.length = A ++ (Q ++ (D ++ (P ++ B))) := by
  rw [swI_app hk _ (Nat.le_refl _)]
  rw [List.take_of_length_le (by omega), List.drop_of_length_le (Nat.le_refl _), List.take_of_length_le (Nat.le_refl _), List.drop_of_length_le (by omega)]
  simp
end Go.Proofs.Ytbpaeonfebmomaa

namespace Go.Proofs.Ytbpaeonfebmomaa
open Go.RowKit
set_option linter.unusedVariables false
set_option linter.unusedSimpArgs false
set_option maxRecDepth 100000
attribute [local simp] List.getElem?_cons_zero
attribute [local irreducible] awCond awCall awLoop awDraw ow retQ retC resQ Keeps
structure StreamEvent where
  (d j o k u : Int)
deriving Inhabited, DecidableEq
def StreamEvent.row (c : StreamEvent) : List Value := [iv c.d, iv c.j, iv c.o, iv c.k, iv c.u]
def streamEventR : RecV StreamEvent 5 := ⟨StreamEvent.row, fun _ => rfl⟩
abbrev StreamEvent.v (c : StreamEvent) : Value := .agg #[iv c.d, iv c.j, iv c.o, iv c.k, iv c.u]
theorem streamEvent_cells {M : Mem} {id off : Nat} {g : StreamEvent} (h : Cl M id off g.row) : cellAt M id off = some (iv g.d) ∧ cellAt M id (off + 1) = some (iv g.j) ∧ cellAt M id (off + 2) = some (iv g.o) ∧ cellAt M id (off + 3) = some (iv g.k) ∧ cellAt M id (off + 4) = some (iv g.u) :=
  ⟨h 0 _ rfl, h 1 _ rfl, h 2 _ rfl, h 3 _ rfl, h 4 _ rfl⟩
theorem streamEvent_load {M : Mem} {id off : Nat} {g : StreamEvent} (h : Cl M id off g.row) : cellsAt M id off 5 = some [iv g.d, iv g.j, iv g.o, iv g.k, iv g.u] := cellsAt_of h rfl (by omega)
theorem streamEvent_eq {a b : StreamEvent} : a = b ↔ a.d = b.d ∧ a.j = b.j ∧ a.o = b.o ∧ a.k = b.k ∧ a.u = b.u := by
  cases a; cases b; simp
def streamEventI : Ints streamEventR := ⟨fun zs => ⟨gi zs 0, gi zs 1, gi zs 2, gi zs 3, gi zs 4⟩, fun zs h => by
  obtain ⟨x0, x1, x2, x3, x4, rfl⟩ : ∃ x0 x1 x2 x3 x4, zs = [x0, x1, x2, x3, x4] := by
    match zs, h with
    | [x0, x1, x2, x3, x4], _ => exact ⟨x0, x1, x2, x3, x4, rfl⟩
  rfl⟩

/-- Equality of records, as the language has it. -/
theorem streamEvent_same (a b : StreamEvent) : aggEq Try.prog 69 #[iv a.d, iv a.j, iv a.o, iv a.k, iv a.u] #[iv b.d, iv b.j, iv b.o, iv b.k, iv b.u] = some (decide (a = b)) := by
  refine aggEq_of (by kernel_rfl) rfl rfl fun w => ?_
  unfold Op.equal
  rw [show Op.maxDepth = 9999 + 1 from rfl]
  rw [run_equalIn_agg _ _ _ _ _ Try.underlying69 (by kernel_rfl)]
  simp [go_sem]
  repeat' split
  all_goals simp_all [streamEvent_eq]
theorem streamEvent_eql (a b : StreamEvent) : binV Try.prog .eql 69 (.agg #[iv a.d, iv a.j, iv a.o, iv a.k, iv a.u]) (.agg #[iv b.d, iv b.j, iv b.o, iv b.k, iv b.u]) = some (.bool (decide (a = b))) := by
  simp only [binV, eqV, Try.underlying69, streamEvent_same, Option.map_some]
theorem streamEvent_neq (a b : StreamEvent) : binV Try.prog .neq 69 (.agg #[iv a.d, iv a.j, iv a.o, iv a.k, iv a.u]) (.agg #[iv b.d, iv b.j, iv b.o, iv b.k, iv b.u]) = some (.bool (!decide (a = b))) := by
  simp only [binV, eqV, Try.underlying69, streamEvent_same, Option.map_some]
@[simp] theorem streamEvent_fill (x0 x1 x2 x3 x4 : Int) : Instr.fill (fun i => some (i * 5, 5)) (zrow [iv 0, iv 0, iv 0, iv 0, iv 0] 1).toArray [(0, .agg #[iv x0, iv x1, iv x2, iv x3, iv x4])] = some #[iv x0, iv x1, iv x2, iv x3, iv x4] := fill_agg (by omega) rfl rfl
theorem toStreamEvent_a {M : Mem} (g : StreamEvent) : Det Try.prog M.length 45 [g.v] M g.v M := by
  first | (refine det_fn Try.func45 rfl Try.ntmps45 Try.results45 rfl rfl rfl (by simp) ?_) | (refine det_fnC Try.func45 rfl Try.ntmps45 Try.results45 rfl rfl (by simp) ?_)
  simp [keeps_app]
theorem eqStreamEvent_a {M : Mem} (a b : StreamEvent) : Det Try.prog M.length 47 [a.v, b.v] M (.bool (decide (a = b))) M := by
  first | (refine det_fn Try.func47 rfl Try.ntmps47 Try.results47 rfl rfl rfl (by simp) ?_) | (refine det_fnC Try.func47 rfl Try.ntmps47 Try.results47 rfl rfl (by simp) ?_)
  simp
  repeat' (first | (refine awCond_split ?_ ?_ <;> intro _) | (simp [keeps_app]))
  all_goals (simp_all [streamEvent_eq])
theorem szStreamEventS_a {M : Mem} {A : Option Addr} {n c : Nat} (z : Int) (hz : 0 ≤ z) (hz1 : z ≤ 1048576) (hn : n ≤ maxLen) : Det Try.prog M.length 14 [.slice A n c, iv z] M (iv (if z - n < 0 then -1 else z - n)) M := by
  unfold maxLen at hn
  first | (refine det_fn Try.func14 rfl Try.ntmps14 Try.results14 rfl rfl rfl (by simp) ?_) | (refine det_fnC Try.func14 rfl Try.ntmps14 Try.results14 rfl rfl (by simp) ?_)
  simp (disch := omega) [wrap_in]
  refine awCond_split ?_ ?_ <;> intro h
  · simp at h
    simp [h, Keeps.refl]
    try omega
  · simp at h
    simp [h, Keeps.refl]
    try omega
theorem toStreamEventS_d {M : Mem} {A : Option Addr} {n c : Nat} {l : List StreamEvent} (h : Sl streamEventR M A n l) (hn : n ≤ 1099511627776) : Det Try.prog M.length 16 [.slice A n c] M (.slice (some ⟨M.length, 0, none⟩) n n) (M ++ [.live ⟨cellsL streamEventR l, true, true, 69, 5⟩]) := by
  have hl := h.1
  refine Ctr.det ?_
  first | (refine ctr_fn Try.func16 rfl Try.ntmps16 Try.results16 rfl rfl (by simp) ?_) | (refine ctr_fnC Try.func16 rfl Try.ntmps16 Try.results16 rfl (by simp) ?_)
  simp
  refine ⟨by omega, ?_⟩
  refine awLoop_T (fun m T M' => ∃ k : Nat, k + m = n ∧ M' = M ++ [.live ⟨cellsL streamEventR (l.take k) ++ zrow [iv 0, iv 0, iv 0, iv 0, iv 0] m, true, true, 69, 5⟩] ∧ look T 4 = some (iv k) ∧ look T 0 = some (.slice A n c) ∧ look T 3 = some (.slice (some ⟨M.length, 0, none⟩) n n)) n ⟨0, by omega, by simp [cellsL_nil], by simp, by simp, by simp⟩ ?_
  rintro m T M' ⟨k, hm, rfl, h4, h0, h3⟩
  by_cases hlt : k < n
  · obtain ⟨id, off, rfl, he, hc⟩ := h.at_ hlt
    have hc' := hc.app [.live ⟨cellsL streamEventR (l.take k) ++ zrow [iv 0, iv 0, iv 0, iv 0, iv 0] m, true, true, 69, 5⟩]
    simp (disch := omega) [h3, h4, h0, hlt, wrap_in, streamEvent_load hc']
    obtain ⟨m, rfl⟩ : ∃ m', m = m' + 1 := ⟨m - 1, by omega⟩
    refine awCall_det' ((toStreamEvent_a (el l k))) (by simp) ⟨by simp, ow_iff.2 ⟨_, putCells_rec streamEventR (a := el l k) (Nat.le_refl _) rfl (List.length_take_of_le (by omega)) rfl, ?_⟩⟩
    refine lpI m (by omega) ?_
    refine ⟨k + 1, by omega, by rw [take_el (by omega)], by simp, by simp [h0], by simp [h3]⟩
  · obtain rfl : k = n := by omega
    obtain rfl : m = 0 := by omega
    simp [h3, h4, h0, List.take_of_length_le (Nat.le_of_eq hl)]
theorem toStreamEventS_a {M : Mem} {A : Option Addr} {n c : Nat} {l : List StreamEvent} (h : Sl streamEventR M A n l) (hn : n ≤ 1099511627776) : Ctr Try.prog M.length 16 [.slice A n c] M fun v M' => Fresh streamEventR M v M' l :=
  (toStreamEventS_d h hn).ctr (Fresh.new h.1 (by omega))
theorem eqStreamEventS_a {M : Mem} {A B : Option Addr} {n c m d : Nat} {x y : List StreamEvent} (hx : Sl streamEventR M A n x) (hy : Sl streamEventR M B m y) (hn : n ≤ 1099511627776) : Det Try.prog M.length 18 [.slice A n c, .slice B m d] M (.bool (decide (x = y))) M := by
  have hlx := hx.1
  have hly := hy.1
  first | (refine det_fn Try.func18 rfl Try.ntmps18 Try.results18 rfl rfl rfl (by simp) ?_) | (refine det_fnC Try.func18 rfl Try.ntmps18 Try.results18 rfl rfl (by simp) ?_)
  simp
  refine awCond_split ?_ ?_ <;> intro hnm
  · simp at hnm
    simp
    exact ⟨fun e => by subst e; omega, Keeps.refl _⟩
  · simp at hnm
    obtain rfl : n = m := by omega
    simp
    refine awLoop_T (fun m T M' => ∃ k : Nat, k + m = n ∧ M' = M ∧ look T 5 = some (iv k) ∧ look T 0 = some (.slice A n c) ∧ look T 1 = some (.slice B n d) ∧ x.take k = y.take k) n ⟨0, by omega, rfl, by simp, by simp, by simp, by simp⟩ ?_
    rintro m T M' ⟨k, hm, rfl, h4, h0, h1, hk⟩
    by_cases hlt : k < n
    · obtain ⟨id, off, rfl, he, hc⟩ := hx.at_ hlt
      obtain ⟨id', off', rfl, he', hc'⟩ := hy.at_ hlt
      simp (disch := omega) [h4, h0, h1, hlt, wrap_in]
      refine awDraw_E 8 [[],[],[0,1],[2,0,1],[],[],[4,5],[6,4,5],[3,2,0,1,7,6,4,5],[8,3,2,0,1,7,6,4,5]] (by kernel_rfl) (by kernel_rfl) ?_
      simp (disch := omega) [h4, h0, h1, hlt, wrap_in, streamEvent_load hc, streamEvent_load hc']
      refine awCall_det' (eqStreamEvent_a (el x k) (el y k)) (Nat.le_refl _) ?_
      simp
      refine awCond_split ?_ ?_ <;> intro he
      · simp at he
        simp
        exact ⟨fun e => he (by rw [e]), Keeps.refl _⟩
      · simp at he
        simp (disch := omega) [h4, h0, h1, wrap_in]
        refine lpI (m - 1) (by omega) ?_
        exact ⟨k + 1, by omega, rfl, by simp, by simp [h0], by simp [h1], by rw [take_el (by omega), take_el (by omega), hk, he]⟩
    · obtain rfl : k = n := by omega
      rw [List.take_of_length_le (by omega), List.take_of_length_le (by omega)] at hk
      simp [h4, h0, h1, hk, Keeps.refl]
def markStreamEvent (z : Int) (i : Nat) : StreamEvent := ⟨z + i * 5, z + i * 5 + 1, z + i * 5 + 1 + 1, z + i * 5 + 1 + 1 + 1, z + i * 5 + 1 + 1 + 1 + 1⟩
def markStreamEventL (z : Int) (n : Nat) : List StreamEvent := (List.range n).map (markStreamEvent z)
theorem markStreamEventL_succ (z : Int) (n : Nat) : markStreamEventL z (n + 1) = markStreamEventL z n ++ [markStreamEvent z n] := by simp [markStreamEventL, List.range_succ]
theorem markStreamEventS_a {M : Mem} {b : Nat} {A : Option Addr} {n c : Nat} {x : List StreamEvent} (z : Int) (hx : Sl streamEventR M A n x) (ho : Ownd M A n) (hb : ∀ a, A = some a → 0 < n → b ≤ a.block) (hn : n ≤ 1099511627776) (hz0 : 0 ≤ z) (hz : z ≤ 1152921504606846976) :
    Ctr Try.prog b 19 [.slice A n c, iv z] M fun v M' => v = iv (z + n * 5) ∧ Sl streamEventR M' A n (markStreamEventL z n) ∧ Ownd M' A n ∧ Turned A n M M' := by
  have hlx := hx.1
  rcases Nat.eq_zero_or_pos n with rfl | hp
  · first | (refine ctr_fn Try.func19 rfl Try.ntmps19 Try.results19 rfl rfl (by simp) ?_) | (refine ctr_fnC Try.func19 rfl Try.ntmps19 Try.results19 rfl (by simp) ?_)
    simp
    refine awLoop_T (fun m T M' => M' = M ∧ look T 1 = some (iv z) ∧ look T 5 = some (iv 0) ∧ look T 0 = some (.slice A 0 c)) 0 ⟨rfl, by simp, by simp, by simp⟩ ?_
    rintro m T M' ⟨rfl, h1, h3, h0⟩
    simp [h1, h3, h0]
    obtain rfl := List.eq_nil_of_length_eq_zero hlx
    exact ⟨hx, ho, rfl, fun i s hs _ => hs⟩
  · obtain ⟨id, off, r, rfl, hr, ho⟩ := ho hp
    have hid := (List.getElem?_eq_some_iff.1 hr).1
    obtain ⟨hz5, hlen⟩ := hx.cells hr hp (by omega)
    have hb' : b ≤ id := hb _ rfl hp
    obtain ⟨cs, own, t, e, esz⟩ := r
    simp only at hz5 hlen ho
    subst hz5 ho
    have hM : M = M.set id (.live ⟨cs.take off ++ cellsL streamEventR (markStreamEventL z 0) ++ cs.drop (off + 0 * 5), true, t, e, 5⟩) := by
      rw [set_self]
      simp [markStreamEventL, cellsL_nil, hr]
    first | (refine ctr_fn Try.func19 rfl Try.ntmps19 Try.results19 rfl rfl (by simp) ?_) | (refine ctr_fnC Try.func19 rfl Try.ntmps19 Try.results19 rfl (by simp) ?_)
    simp
    refine awLoop_T (fun m T M' => ∃ j : Nat, j + m = n ∧ M' = M.set id (.live ⟨cs.take off ++ cellsL streamEventR (markStreamEventL z j) ++ cs.drop (off + j * 5), true, t, e, 5⟩) ∧ look T 5 = some (iv j) ∧ look T 1 = some (iv (z + j * 5)) ∧ look T 0 = some (.slice (some ⟨id, off, none⟩) n c)) n ⟨0, by omega, hM, by simp, by simp, by simp⟩ ?_
    rintro m T M' ⟨j, hm, rfl, h5, h1, h0⟩
    have hlm : (markStreamEventL z j).length = j := by simp [markStreamEventL]
    by_cases hlt : j < n
    · have hsp := splice_mid streamEventR (cs := cs) (off := off) (a := markStreamEvent z j) hlm (by omega)
      have hlc : (cs.take off ++ cellsL streamEventR (markStreamEventL z j) ++ cs.drop (off + j * 5)).length = cs.length := by
        simp only [List.length_append, List.length_take, List.length_drop, cellsL_len, hlm]; omega
      generalize cs.take off ++ cellsL streamEventR (markStreamEventL z j) ++ cs.drop (off + j * 5) = Cs at hsp hlc ⊢
      simp (disch := first | omega | (simp <;> omega)) [h5, h1, h0, hlt, wrap_in, rowEsz_set hid, put_set hid hb']
      refine lpI (m - 1) (by omega) ?_
      refine ⟨j + 1, by omega, ?_, by simp, by simp; omega, by simp [h0]⟩
      rw [markStreamEventL_succ, ← hsp]
      rfl
    · obtain rfl : j = n := by omega
      have hS := Sl.set (R := streamEventR) (M := M) (pre := cs.take off) (post := cs.drop (off + j * 5)) (o := true) (t := t) (e := e) hid (List.length_take_of_le (by omega)) hlm
      have hO : Ownd (M.set id (.live ⟨cs.take off ++ cellsL streamEventR (markStreamEventL z j) ++ cs.drop (off + j * 5), true, t, e, 5⟩)) (some ⟨id, off, none⟩) j := fun _ => ⟨_, _, _, rfl, List.getElem?_set_self hid, rfl⟩
      have hT : Turned (some ⟨id, off, none⟩) j M (M.set id (.live ⟨cs.take off ++ cellsL streamEventR (markStreamEventL z j) ++ cs.drop (off + j * 5), true, t, e, 5⟩)) := set_turned hp
      generalize M.set id (.live ⟨cs.take off ++ cellsL streamEventR (markStreamEventL z j) ++ cs.drop (off + j * 5), true, t, e, 5⟩) = M' at hS hO hT ⊢
      simp [h5, h1, h0]
      exact ⟨hS, hO, hT⟩
/-! The same, as the laws use them. -/
theorem sz_StreamEventS_over {M : Mem} {v : Value} {lo hi : Nat} {l : List StreamEvent} {z : Int} (h : RdL streamEventR lo hi M v l) (hz : 0 ≤ z) (hz1 : z ≤ 1048576) (hl : z < l.length) : Det Try.prog M.length 14 [v, iv z] M (iv (-1)) M := by
  obtain ⟨A, n, c, rfl, hn, hS, _⟩ := h
  have := szStreamEventS_a (M := M) (A := A) (n := n) (c := c) z hz hz1 (by unfold maxLen; omega)
  rwa [if_pos (by have := hS.1; omega)] at this
theorem sz_StreamEventS {M : Mem} {v : Value} {lo hi : Nat} {l : List StreamEvent} {z : Int} (h : RdL streamEventR lo hi M v l) (hz : 0 ≤ z) (hz1 : z ≤ 1048576) (hl : l.length ≤ z) : Det Try.prog M.length 14 [v, iv z] M (iv (z - l.length)) M := by
  obtain ⟨A, n, c, rfl, hn, hS, _⟩ := h
  have := szStreamEventS_a (M := M) (A := A) (n := n) (c := c) z hz hz1 (by unfold maxLen; omega)
  rw [if_neg (by have := hS.1; omega)] at this
  rwa [hS.1]
theorem to_StreamEventS {M : Mem} {v : Value} {lo hi : Nat} {l : List StreamEvent} (h : RdL streamEventR lo hi M v l) (hl : l.length ≤ 1048576) : Ctr Try.prog M.length 16 [v] M fun v' M' => OwL streamEventR M.length M'.length M' v' l ∧ Keeps M M' := by
  obtain ⟨A, n, c, rfl, hn, hS, _⟩ := h
  exact (toStreamEventS_a hS (by have := hS.1; omega)).mono fun v' M' h => h.ow
theorem eq_StreamEventS {M : Mem} {v w : Value} {lo hi lo' hi' : Nat} {x y : List StreamEvent} (hx : OwL streamEventR lo hi M v x) (hy : RdL streamEventR lo' hi' M w y) : Det Try.prog M.length 18 [v, w] M (.bool (decide (x = y))) M := by
  obtain ⟨A, n, c, rfl, hn, hS, _⟩ := hx
  obtain ⟨B, m, d, rfl, hm, hT, _⟩ := hy
  exact eqStreamEventS_a hS hT hn
theorem mark_StreamEventS {M : Mem} {b : Nat} {v : Value} {lo hi : Nat} {l : List StreamEvent} {z : Int} (h : OwL streamEventR lo hi M v l) (hb : b ≤ lo) (hz : 0 ≤ z) (hz1 : z ≤ 1152921504606846976) :
    Ctr Try.prog b 19 [v, iv z] M fun r M' => r = iv (z + l.length * 5) ∧ OwL streamEventR lo hi M' v (markStreamEventL z l.length) ∧ Turn lo hi M M' := by
  obtain ⟨A, n, c, rfl, hn, hS, hi', ho⟩ := h
  exact (markStreamEventS_a z hS ho (fun a e hp => by have := hi' a e hp; omega) hn hz hz1).mono fun r M' ⟨h1, h2, h3, h4⟩ => ⟨by rw [h1, hS.1], ⟨A, n, c, rfl, hn, by rw [hS.1]; exact h2, hi', h3⟩, Nat.le_of_eq h4.1.symm, fun i s hs hd => h4.2 i s hs fun a e hp => by have := hi' a e hp; omega⟩
end Go.Proofs.Ytbpaeonfebmomaa

namespace Go.Proofs.Ytbpaeonfebmomaa
open Go.RowKit
set_option linter.unusedVariables false
set_option linter.unusedSimpArgs false
set_option maxRecDepth 100000
attribute [local simp] List.getElem?_cons_zero
attribute [local irreducible] awCond awCall awLoop awDraw ow retQ retC resQ Keeps











































































end Go.Proofs.Ytbpaeonfebmomaa

namespace Go.Proofs.Ytbpaeonfebmomaa
open Go.RowKit
set_option linter.unusedVariables false
set_option linter.unusedSimpArgs false
set_option maxRecDepth 100000
attribute [local simp] List.getElem?_cons_zero
attribute [local irreducible] awCond awCall awLoop awDraw ow retQ retC resQ Keeps
def eventB (e : StreamEvent) : Bool := inB e.d 0 268435455 && inB e.o 0 15 && inB e.k 0 127 && ((decide (e.j = 1) && inB e.u 1 127) || (decide (e.j = 2) && decide (e.u = 0)))
theorem l20Event_a {M : Mem} {id off : Nat} {g : StreamEvent} (h : Cl M id off g.row) : Det Try.prog M.length 69 [.pointer (some ⟨id, off, none⟩)] M (.bool (eventB g)) M := by
  obtain ⟨h0, h1, h2, h3, h4⟩ := streamEvent_cells h
  first | (refine det_fn Try.func69 rfl Try.ntmps69 Try.results69 rfl rfl rfl (by simp) ?_) | (refine det_fnC Try.func69 rfl Try.ntmps69 Try.results69 rfl rfl (by simp) ?_)
  simp [h0, h1, h2, h3, h4]
  repeat' (first | (refine guardV_split ?_ ?_ <;> intro _) | (refine awCond_split ?_ ?_ <;> intro _) | (refine awCall_det' (l00In_a _ _ _) (Nat.le_refl _) ?_) | (simp [*]))
  all_goals (simp_all [eventB, Keeps.refl] <;> omega)
theorem isEvent_a {M : Mem} (g : StreamEvent) : Det Try.prog M.length 64 [g.v] M (.bool (eventB g)) M := by
  first | (refine det_fn Try.func64 rfl Try.ntmps64 Try.results64 rfl rfl rfl (by simp) ?_) | (refine det_fnC Try.func64 rfl Try.ntmps64 Try.results64 rfl rfl (by simp) ?_)
  simp
  repeat' (first | (refine guardV_split ?_ ?_ <;> intro _) | (refine awCall_det' (isKey_a _) (by simp) ?_) | (refine awCall_det' (within_a _ _ _) (by simp) ?_) | (simp [*]))
  all_goals (simp_all [eventB, keeps_app] <;> omega)
theorem IndexFunc_a {M : Mem} {A : Option Addr} {n c : Nat} {l : List StreamEvent} {g : FuncId} {us vs : Array Value} (p : StreamEvent → Bool) (h : Sl streamEventR M A n l) (hn : n ≤ 1099511627776)
    (hp : ∀ (M' : Mem) a, Keeps M M' → a ∈ l → Det Try.prog M'.length g (us.toList ++ [a.v] ++ vs.toList) M' (.bool (p a)) M') : Det Try.prog M.length 91 [.slice A n c, .func (.func g) us vs] M (iv (fstI p l)) M := by
  have hl := h.1
  first | (refine det_fn Try.func91 rfl Try.ntmps91 Try.results91 rfl rfl rfl (by simp) ?_) | (refine det_fnC Try.func91 rfl Try.ntmps91 Try.results91 rfl rfl (by simp) ?_)
  simp
  refine awLoop_T (fun m T M' => ∃ k : Nat, k + m = n ∧ M = M' ∧ look T 8 = some (iv k) ∧ look T 7 = some (iv n) ∧ look T 0 = some (.slice A n c) ∧ look T 1 = some (.func (.func g) us vs) ∧ ∀ i, i < k → p (el l i) = false) n ⟨0, by omega, rfl, by simp, by simp, by simp, by simp, by omega⟩ ?_
  rintro m T M' ⟨k, hm, rfl, h8, h7, h0, h1, hk⟩
  by_cases hlt : k < n
  · obtain ⟨id, off, rfl, he, hc⟩ := h.at_ hlt
    simp (disch := omega) [h8, h7, h0, h1, hlt, wrap_in, streamEvent_load hc]
    refine awCall_det' (hp M (el l k) (Keeps.refl M) (el_mem (by omega))) (Nat.le_refl _) ?_
    try simp
    refine awCond_split ?_ ?_ <;> intro hq <;> try simp at hq
    · simp
      exact ⟨(fstI_some (by omega) hq hk).symm, Keeps.refl _⟩
    · simp (disch := omega) [h8, h7, h0, h1, wrap_in]
      refine lpI (m - 1) (by omega) ?_
      refine ⟨k + 1, by omega, rfl, by simp, by simp [h7], by simp [h0], by simp [h1], fun i hi => ?_⟩
      by_cases hik : i < k
      · exact hk i hik
      · obtain rfl : i = k := by omega
        exact hq
  · obtain rfl : k = n := by omega
    simp [h8, h7, h0, h1]
    exact ⟨(fstI_none (by rw [hl]; exact hk)).symm, Keeps.refl _⟩
def okE (l : List StreamEvent) : Bool := decide (l.length ≤ 200) && l.all eventB
theorem l20Ok_a {M : Mem} {A : Option Addr} {n c : Nat} {l : List StreamEvent} (h : Sl streamEventR M A n l) (hn : n ≤ 1099511627776) : Det Try.prog M.length 39 [.slice A n c] M (.bool (okE l)) M := by
  have hl := h.1
  first | (refine det_fn Try.func39 rfl Try.ntmps39 Try.results39 rfl rfl rfl (by simp) ?_) | (refine det_fnC Try.func39 rfl Try.ntmps39 Try.results39 rfl rfl (by simp) ?_)
  simp
  refine awLoop_T (fun m T M' => ∃ k : Nat, k + m = n ∧ M = M' ∧ look T 3 = some (iv k) ∧ look T 0 = some (.slice A n c) ∧ ∀ i, i < k → eventB (el l i) = true) n ⟨0, by omega, rfl, by simp, by simp, by omega⟩ ?_
  rintro m T M' ⟨k, hm, rfl, h3, h0, hk⟩
  by_cases hlt : k < n
  · obtain ⟨id, off, rfl, he, hc⟩ := h.at_ hlt
    simp (disch := omega) [h3, h0, hlt, wrap_in]
    refine awCall_det' (l20Event_a hc) (Nat.le_refl _) ?_
    simp
    refine awCond_split ?_ ?_ <;> intro hq <;> try simp at hq
    · simp [Keeps.refl, okE]
      exact fun _ => ⟨el l k, el_mem (by omega), hq⟩
    · simp (disch := omega) [h3, h0, wrap_in]
      refine lpI (m - 1) (by omega) ?_
      refine ⟨k + 1, by omega, rfl, by simp, by simp [h0], fun i hi => ?_⟩
      by_cases hik : i < k
      · exact hk i hik
      · obtain rfl : i = k := by omega
        exact hq
  · obtain rfl : k = n := by omega
    have : l.all eventB = true := List.all_eq_true.2 fun x hx => by
      obtain ⟨i, hi, rfl⟩ := List.getElem_of_mem hx
      rw [el_eq hi]; exact hk i (by omega)
    simp [h3, h0, Keeps.refl, okE, this, hl]
    try omega
theorem isStream1_a {M : Mem} (a : StreamEvent) : Det Try.prog M.length 63 [a.v] M (.bool (!eventB a)) M := by
  first | (refine det_fn Try.func63 rfl Try.ntmps63 Try.results63 rfl rfl rfl (by simp) ?_) | (refine det_fnC Try.func63 rfl Try.ntmps63 Try.results63 rfl rfl (by simp) ?_)
  simp
  refine awCall_det' (isEvent_a a) (by simp) ?_
  simp [keeps_app]
theorem ContainsFunc_a {M : Mem} {A : Option Addr} {n c : Nat} {l : List StreamEvent} {g : FuncId} {us vs : Array Value} (p : StreamEvent → Bool) (h : Sl streamEventR M A n l) (hn : n ≤ 1099511627776)
    (hp : ∀ (M' : Mem) a, Keeps M M' → a ∈ l → Det Try.prog M'.length g (us.toList ++ [a.v] ++ vs.toList) M' (.bool (p a)) M') : Det Try.prog M.length 62 [.slice A n c, .func (.func g) us vs] M (.bool (decide (0 ≤ fstI p l))) M := by
  first | (refine det_fn Try.func62 rfl Try.ntmps62 Try.results62 rfl rfl rfl (by simp) ?_) | (refine det_fnC Try.func62 rfl Try.ntmps62 Try.results62 rfl rfl (by simp) ?_)
  simp
  refine awCall_det' (IndexFunc_a p h hn hp) (Nat.le_refl _) ?_
  simp [Keeps.refl]
theorem isStream_a {M : Mem} {A : Option Addr} {n c : Nat} {l : List StreamEvent} (h : Sl streamEventR M A n l) (hn : n ≤ 1099511627776) : Det Try.prog M.length 36 [.slice A n c] M (.bool (okE l)) M := by
  have hl := h.1
  first | (refine det_fn Try.func36 rfl Try.ntmps36 Try.results36 rfl rfl rfl (by simp) ?_) | (refine det_fnC Try.func36 rfl Try.ntmps36 Try.results36 rfl rfl (by simp) ?_)
  by_cases hq : (n : Int) ≤ 200
  · simp [hq]
    refine awCall_det' (ContainsFunc_a (fun a => !eventB a) h hn fun M' a _ _ => isStream1_a a) (Nat.le_refl _) ?_
    have : (!decide (0 ≤ fstI (fun a => !eventB a) l)) = l.all eventB := by
      by_cases hA : l.all eventB = true
      · rw [fstI_none (fun i hi => by have := List.all_eq_true.1 hA _ (el_mem hi); simp [this]), hA]; rfl
      · simp only [Bool.not_eq_true] at hA
        rw [hA]
        unfold fstI
        cases hf : l.findIdx? (fun a => !eventB a) with
        | none =>
          rw [List.findIdx?_eq_none_iff] at hf
          have : l.all eventB = true := List.all_eq_true.2 fun x hx => by have := hf x hx; simpa using this
          rw [this] at hA; cases hA
        | some i => simp
    have h2 : n ≤ 200 := by omega
    simp [this, Keeps.refl, okE, hl, h2]
  · have h2 : ¬ n ≤ 200 := by omega
    simp [hq, okE, hl, Keeps.refl, h2]
theorem ValidStream_s {M : Mem} {A : Option Addr} {n c : Nat} {l : List StreamEvent} (h : Sl streamEventR M A n l) (hn : n ≤ 1099511627776) : Det Try.prog M.length 12 [.slice A n c] M (.bool (okE l)) M := by
  first | (refine det_fn Try.func12 rfl Try.ntmps12 Try.results12 rfl rfl rfl (by simp) ?_) | (refine det_fnC Try.func12 rfl Try.ntmps12 Try.results12 rfl rfl (by simp) ?_)
  simp
  refine awCall_det' (l20Ok_a h hn) (Nat.le_refl _) ?_
  simp [Keeps.refl]





theorem ValidStream_sl {M : Mem} {v : Value} {lo hi : Nat} {x : List StreamEvent} (hx : RdL streamEventR lo hi M v x) (ex : x.length ≤ 1048576) : Det Try.prog M.length 12 [v] M (.bool (okE x)) M := by
  obtain ⟨A, n, c, rfl, hn, hS, _⟩ := hx
  exact ValidStream_s hS (by have := hS.1; omega)



end Go.Proofs.Ytbpaeonfebmomaa

namespace Go.Proofs.Ytbpaeonfebmomaa
open Go.RowKit
set_option linter.unusedVariables false
set_option linter.unusedSimpArgs false
set_option maxRecDepth 100000
attribute [local simp] List.getElem?_cons_zero
attribute [local irreducible] awCond awCall awLoop awDraw ow retQ retC resQ Keeps
/-- A key of a channel that sounds since a tick. -/
structure Opn where
  o : Int
  k : Int
  t : Int
  u : Int
deriving DecidableEq, Inhabited
def Opn.is (x : Opn) (e : StreamEvent) : Bool := decide (x.o = e.o) && decide (x.k = e.k)
theorem Opn.is_iff {x : Opn} {e : StreamEvent} : x.is e = true ↔ x.o = e.o ∧ x.k = e.k := by simp [Opn.is]
def fndO (os : List Opn) (e : StreamEvent) : Option Nat := os.findIdx? fun x => x.is e
def mkN (D : Int) (x : Opn) (now : Int) : Note := ⟨(mkF x.t D).1.n, (mkF x.t D).1.d, (mkF (now - x.t) D).1.n, (mkF (now - x.t) D).1.d, x.k, x.u, x.o⟩
def okM (D : Int) (x : Opn) (now : Int) : Bool := decide ((mkF x.t D).2 = 0) && (decide ((mkF (now - x.t) D).2 = 0) && noteB (mkN D x now))
def sosG (D : Int) : List StreamEvent → Int → List Opn → List Note → List Note × Int
  | [], _, os, ns => if os.length > 0 then ([], 6) else if ns.length > 60 then ([], 5) else (ns, 0)
  | e :: es, now, os, ns =>
    match fndO os e with
    | some i => if e.j = 1 then ([], 4) else if okM D (el os i) (now + e.d) = true then sosG D es (now + e.d) (os.eraseIdx i) (ns ++ [mkN D (el os i) (now + e.d)]) else ([], 2)
    | none => if e.j = 1 then sosG D es (now + e.d) (os ++ [⟨e.o, e.k, now + e.d, e.u⟩]) ns else ([], 3)
open Classical in
noncomputable def sortN (ns : List Note) : List Note := if h : ∃ l' : List Note, l'.Perm ns ∧ l'.Pairwise LeN then h.choose else ns
noncomputable def sosV (l : List StreamEvent) (D : Int) : List Note × Int :=
  if okE l = false then ([], 1) else if inB D 1 960 = false then ([], 2) else if (sosG D l 0 [] []).2 = 0 then (sortN (sosG D l 0 [] []).1, 0) else ([], (sosG D l 0 [] []).2)
theorem sortN_of {ns l' : List Note} (h1 : l'.Perm ns) (h2 : l'.Pairwise LeN) : (sortN ns).Perm ns ∧ (sortN ns).Pairwise LeN := by
  have h : ∃ l' : List Note, l'.Perm ns ∧ l'.Pairwise LeN := ⟨l', h1, h2⟩
  unfold sortN
  rw [dif_pos h]
  exact h.choose_spec
/-- Two lists of the same notes, each in order, are one, where none are level. -/
theorem sortN_one : ∀ (a b : List Note), a.Perm b → a.Pairwise LeN → b.Pairwise LeN → a.Pairwise (fun x y => ordN x y ≠ 0) → a = b
  | [], b, hp, _, _, _ => by rw [List.Perm.eq_nil hp.symm]
  | x :: a, [], hp, _, _, _ => by have := hp.length_eq; simp at this
  | x :: a, y :: b, hp, ha, hb, hu => by
    have hx : x ∈ y :: b := hp.mem_iff.1 (by simp)
    have hy : y ∈ x :: a := hp.mem_iff.2 (by simp)
    obtain ⟨ha1, ha2⟩ := List.pairwise_cons.1 ha
    obtain ⟨hb1, hb2⟩ := List.pairwise_cons.1 hb
    obtain ⟨hu1, hu2⟩ := List.pairwise_cons.1 hu
    have exy : x = y := by
      by_cases e : x = y
      · exact e
      · have h1 : y ∈ a := by
          rcases List.mem_cons.1 hy with h | h
          · exact absurd h.symm e
          · exact h
        have h2 : x ∈ b := by
          rcases List.mem_cons.1 hx with h | h
          · exact absurd h e
          · exact h
        have l1 := ha1 y h1
        have l2 := hb1 x h2
        have l3 := hu1 y h1
        have := ordN_neg x y
        omega
    subst exy
    rw [sortN_one a b (List.Perm.cons_inv hp) ha2 hb2 hu2]
theorem ordN_sym {a b : Note} (h : ordN a b ≠ 0) : ordN b a ≠ 0 := by have := ordN_neg a b; omega
theorem tw_perm {a b : List Note} (h : a.Perm b) (hu : b.Pairwise (fun x y => ordN x y ≠ 0)) : a.Pairwise (fun x y => ordN x y ≠ 0) := (h.pairwise_iff (fun h => ordN_sym h)).2 hu
theorem sortN_eq {ns l' : List Note} (h1 : l'.Perm ns) (h2 : l'.Pairwise LeN) (h3 : ns.Pairwise (fun x y => ordN x y ≠ 0)) : l' = sortN ns := by
  obtain ⟨g1, g2⟩ := sortN_of h1 h2
  exact sortN_one _ _ (h1.trans g1.symm) h2 g2 (tw_perm h1 h3)
theorem ordN_level {a b : Note} (ha : noteB a = true) (hb : noteB b = true) (h : ordN a b = 0) : a.at_.q = b.at_.q ∧ a.o = b.o ∧ a.k = b.k := by
  have h1 : cmpF a.at_ b.at_ = 0 ∧ a.o = b.o ∧ a.k = b.k := by
    unfold ordN at h
    split at h
    · omega
    · split at h
      · omega
      · omega
  refine ⟨?_, h1.2⟩
  have d1 := note_den ha
  have d2 := note_den hb
  have a1 := (cmpF_q (a := a.at_) (b := b.at_) d1 d2).1 (by omega)
  have a2 := (cmpF_q (a := b.at_) (b := a.at_) d2 d1).1 (by rw [cmpF_neg]; omega)
  exact Rat.le_antisymm a1 a2
/-- What is known of the notes so far. -/
structure InvO (D now : Int) (os : List Opn) (ns : List Note) : Prop where
  ok : ∀ n, n ∈ ns → noteB n = true
  at_ : ∀ n, n ∈ ns → ∃ t, n.at_.q = Rat.divInt t D ∧ t < now ∧ ∀ x, x ∈ os → x.o = n.o → x.k = n.k → t < x.t
  keys : os.Pairwise fun x y => ¬ (x.o = y.o ∧ x.k = y.k)
  low : ∀ x, x ∈ os → 0 ≤ x.t ∧ x.t ≤ now
  bd : ∀ x, x ∈ os → (0 ≤ x.o ∧ x.o ≤ 15) ∧ (0 ≤ x.k ∧ x.k ≤ 127)
  tw : ns.Pairwise fun x y => ordN x y ≠ 0
theorem InvO.nil (D : Int) : InvO D 0 [] [] := ⟨by simp, by simp, .nil, by simp, by simp, .nil⟩
theorem fndO_some {os : List Opn} {e : StreamEvent} {i : Nat} (h : fndO os e = some i) : i < os.length ∧ (el os i).o = e.o ∧ (el os i).k = e.k := by
  unfold fndO at h
  obtain ⟨h1, h2, -⟩ := List.findIdx?_eq_some_iff_getElem.1 h
  rw [el_eq h1] at h2
  exact ⟨h1, Opn.is_iff.1 h2⟩
theorem fndO_none {os : List Opn} {e : StreamEvent} (h : fndO os e = none) : ∀ x, x ∈ os → ¬ (x.o = e.o ∧ x.k = e.k) := by
  unfold fndO at h
  intro x hx hh
  have := List.findIdx?_eq_none_iff.1 h x hx
  rw [Opn.is_iff.2 hh] at this
  cases this
theorem mem_erase {α : Type} {l : List α} {i : Nat} {x : α} (h : x ∈ l.eraseIdx i) : x ∈ l := List.mem_of_mem_eraseIdx h
theorem InvO.open_ {D now : Int} {os : List Opn} {ns : List Note} (h : InvO D now os ns) {e : StreamEvent} (hb : eventB e = true) (hf : fndO os e = none) (h0 : 0 ≤ now) : InvO D (now + e.d) (os ++ [⟨e.o, e.k, now + e.d, e.u⟩]) ns := by
  unfold eventB at hb
  simp only [Bool.and_eq_true] at hb
  obtain ⟨⟨⟨b1, b2⟩, b3⟩, -⟩ := hb
  have b1 := inB_iff.1 b1
  have b2 := inB_iff.1 b2
  have b3 := inB_iff.1 b3
  refine ⟨h.ok, fun n hn => ?_, ?_, fun x hx => ?_, fun x hx => ?_, h.tw⟩
  · obtain ⟨t, t1, t2, t3⟩ := h.at_ n hn
    refine ⟨t, t1, by omega, fun x hx eo ek => ?_⟩
    rcases List.mem_append.1 hx with hx | hx
    · exact t3 x hx eo ek
    · rw [List.mem_singleton] at hx; subst hx
      show t < now + e.d
      omega
  · rw [List.pairwise_append]
    refine ⟨h.keys, List.pairwise_singleton _ _, fun x hx y hy => ?_⟩
    rw [List.mem_singleton] at hy; subst hy
    exact fndO_none hf x hx
  · rcases List.mem_append.1 hx with hx | hx
    · have := h.low x hx; omega
    · rw [List.mem_singleton] at hx; subst hx
      show 0 ≤ now + e.d ∧ now + e.d ≤ now + e.d
      omega
  · rcases List.mem_append.1 hx with hx | hx
    · exact h.bd x hx
    · rw [List.mem_singleton] at hx; subst hx
      exact ⟨b2, b3⟩
theorem okM_pos {D : Int} {x : Opn} {now : Int} (hD : 1 ≤ D) (h : okM D x now = true) : x.t < now ∧ (mkN D x now).at_.q = Rat.divInt x.t D ∧ noteB (mkN D x now) = true := by
  unfold okM at h
  simp only [Bool.and_eq_true, decide_eq_true_eq] at h
  obtain ⟨h1, h2, h3⟩ := h
  refine ⟨?_, mkF_q (by omega) h1, h3⟩
  have hl : (mkN D x now).len.q = Rat.divInt (now - x.t) D := mkF_q (by omega) h2
  obtain ⟨-, g2, g3, -⟩ := noteB_iff.1 h3
  have g := beatB_iff.1 g2
  have gd := (fracB_iff.1 g.1).1.1
  have hn : 0 < (mkN D x now).len.n := by
    have : (mkN D x now).len.n = (mkN D x now).ln := rfl
    omega
  by_cases hh : x.t < now
  · exact hh
  · exfalso
    have : Rat.divInt (now - x.t) D ≤ Rat.divInt 0 1 := by
      rw [divInt_le (by omega) (by omega)]
      omega
    rw [← hl] at this
    unfold Frac.q at this
    rw [divInt_le (by omega) (by omega)] at this
    omega
theorem InvO.close {D now : Int} {os : List Opn} {ns : List Note} (h : InvO D now os ns) (hD : 1 ≤ D) {e : StreamEvent} {i : Nat} (hb : eventB e = true) (hf : fndO os e = some i) (h0 : 0 ≤ now) (ho : okM D (el os i) (now + e.d) = true) : InvO D (now + e.d) (os.eraseIdx i) (ns ++ [mkN D (el os i) (now + e.d)]) := by
  obtain ⟨p1, p2, p3⟩ := okM_pos hD ho
  obtain ⟨f1, f2, f3⟩ := fndO_some hf
  have b1 : 0 ≤ e.d := by
    unfold eventB at hb
    simp only [Bool.and_eq_true] at hb
    exact (inB_iff.1 hb.1.1.1).1
  have hm := el_mem f1
  refine ⟨fun n hn => ?_, fun n hn => ?_, h.keys.sublist (List.eraseIdx_sublist _ _), fun x hx => ?_, fun x hx => h.bd x (mem_erase hx), ?_⟩
  · rcases List.mem_append.1 hn with hn | hn
    · exact h.ok n hn
    · rw [List.mem_singleton] at hn; subst hn; exact p3
  · rcases List.mem_append.1 hn with hn | hn
    · obtain ⟨t, t1, t2, t3⟩ := h.at_ n hn
      exact ⟨t, t1, by omega, fun x hx => t3 x (mem_erase hx)⟩
    · rw [List.mem_singleton] at hn; subst hn
      refine ⟨_, p2, p1, fun x hx eo ek => ?_⟩
      exfalso
      obtain ⟨q, hq, hqe⟩ := List.getElem_of_mem hx
      rw [List.length_eraseIdx_of_lt f1] at hq
      have hp := h.keys
      rw [List.pairwise_iff_getElem] at hp
      rw [List.getElem_eraseIdx] at hqe
      split at hqe
      · have := hp q i (by omega) f1 (by omega)
        rw [hqe, el_eq f1] at this
        exact this ⟨eo, ek⟩
      · have := hp i (q + 1) f1 (by omega) (by omega)
        rw [hqe, el_eq f1] at this
        exact this ⟨eo.symm, ek.symm⟩
  · have := h.low x (mem_erase hx); omega
  · rw [List.pairwise_append]
    refine ⟨h.tw, List.pairwise_singleton _ _, fun n hn y hy => ?_⟩
    rw [List.mem_singleton] at hy; subst hy
    intro hz
    obtain ⟨z1, z2, z3⟩ := ordN_level (h.ok n hn) p3 hz
    obtain ⟨t, t1, t2, t3⟩ := h.at_ n hn
    have := t3 _ hm z2.symm z3.symm
    rw [t1, p2] at z1
    have : Rat.divInt (el os i).t D ≤ Rat.divInt t D := by rw [z1]; exact Rat.le_refl
    rw [divInt_le (by omega) (by omega)] at this
    have := Int.le_of_mul_le_mul_right this (by omega)
    omega
theorem sosG_ok {D : Int} (hD : 1 ≤ D) : ∀ (l : List StreamEvent) (now : Int) (os : List Opn) (ns : List Note), InvO D now os ns → 0 ≤ now → l.all eventB = true → (sosG D l now os ns).2 = 0 →
    (∀ n, n ∈ (sosG D l now os ns).1 → noteB n = true) ∧ (sosG D l now os ns).1.Pairwise (fun x y => ordN x y ≠ 0) ∧ (sosG D l now os ns).1.length ≤ 60
  | [], now, os, ns, h, _, _, hc => by
    rw [sosG] at hc ⊢
    split at hc
    · cases hc
    · split at hc
      · cases hc
      · rename_i h1 h2
        rw [if_neg h1, if_neg h2]
        exact ⟨h.ok, h.tw, by show ns.length ≤ 60; omega⟩
  | e :: es, now, os, ns, h, h0, hv, hc => by
    simp only [List.all_cons, Bool.and_eq_true] at hv
    have hd : 0 ≤ e.d := by
      have := hv.1
      unfold eventB at this
      simp only [Bool.and_eq_true] at this
      exact (inB_iff.1 this.1.1.1).1
    rw [sosG] at hc ⊢
    cases hf : fndO os e with
    | some i =>
      rw [hf] at hc
      simp only at hc ⊢
      split at hc
      · cases hc
      · split at hc
        · rename_i h1 h2
          rw [if_neg h1, if_pos h2]
          exact sosG_ok hD es _ _ _ (h.close hD hv.1 hf h0 h2) (by omega) hv.2 hc
        · cases hc
    | none =>
      rw [hf] at hc
      simp only at hc ⊢
      split at hc
      · rename_i h1
        rw [if_pos h1]
        exact sosG_ok hD es _ _ _ (h.open_ hv.1 hf h0) (by omega) hv.2 hc
      · cases hc
end Go.Proofs.Ytbpaeonfebmomaa

namespace Go.Proofs.Ytbpaeonfebmomaa
open Go.RowKit
set_option linter.unusedVariables false
set_option linter.unusedSimpArgs false
set_option maxRecDepth 100000
attribute [local simp] List.getElem?_cons_zero
attribute [local irreducible] awCond awCall awLoop awDraw ow retQ retC resQ Keeps
theorem swap_seg {M : Mem} {B id n c x y k : Nat} {t : Bool} {A P D Q Z l : List Note} {f : Value} (hl : l = A ++ (P ++ (D ++ (Q ++ Z)))) (h : M[id]? = some (noteS t l)) (hB : B ≤ id) (hn : l.length = n) (hn2 : n ≤ 100000) (hx : x = A.length) (hk : P.length = k) (hk2 : Q.length = k) (hy : y = A.length + k + D.length) :
    Ctr Try.prog B 108 [.slice (some ⟨id, 0, none⟩) n c, iv x, iv y, iv k, f] M fun r M' => r = .tuple #[] ∧ M' = stN M id t (A ++ (Q ++ (D ++ (P ++ Z)))) := by
  subst hl
  have hs := swI_full (A := A) (D := D) (B := Z) (show P.length = Q.length by omega)
  simp only [List.length_append] at hn
  refine (swapRange_a (a := x) (b := y) (k := k) h hB (by simp only [List.length_append]; omega) hn2 (by omega) (by omega)).mono ?_
  rintro r M' ⟨h1, h2⟩
  refine ⟨h1, ?_⟩
  rw [h2, ← hs, hx, hy, hk]
set_option maxHeartbeats 1600000 in
theorem rotate_a {M : Mem} {B id n c a m b : Nat} {t : Bool} {A X Y Z l : List Note} {f : Value} (hl : l = A ++ (X ++ (Y ++ Z))) (h : M[id]? = some (noteS t l)) (hB : B ≤ id) (hn : l.length = n) (hn2 : n ≤ 100000) (ha : a = A.length) (hm : m = a + X.length) (hb : b = m + Y.length) (hX : 0 < X.length) (hY : 0 < Y.length) (hf : f = cmpV) :
    Ctr Try.prog B 107 [.slice (some ⟨id, 0, none⟩) n c, iv a, iv m, iv b, f] M fun r M' => r = .tuple #[] ∧ M' = stN M id t (A ++ (Y ++ (X ++ Z))) := by
  have hid := (List.getElem?_eq_some_iff.1 h).1
  have hn' := hn
  rw [hl] at hn'
  simp only [List.length_append] at hn'
  first | (refine ctr_fn Try.func107 rfl Try.ntmps107 Try.results107 rfl rfl (by simp) ?_) | (refine ctr_fnC Try.func107 rfl Try.ntmps107 Try.results107 rfl (by simp) ?_)
  have e0 : (m : Int) - a = X.length := by omega
  have e00 : (b : Int) - m = Y.length := by omega
  simp (disch := omega) [wrap_in, e0, e00]
  refine awLoop_T (fun k T M' => ∃ (A' X' Y' Z' : List Note), k + 2 = X'.length + Y'.length ∧ 0 < X'.length ∧ 0 < Y'.length ∧ A'.length + X'.length = m ∧ A' ++ (Y' ++ (X' ++ Z')) = A ++ (Y ++ (X ++ Z)) ∧ M' = stN M id t (A' ++ (X' ++ (Y' ++ Z'))) ∧ look T 10 = some (iv X'.length) ∧ look T 11 = some (iv Y'.length) ∧ look T 0 = some (.slice (some ⟨id, 0, none⟩) n c) ∧ look T 2 = some (iv m) ∧ look T 4 = some f) (X.length + Y.length - 2) ⟨A, X, Y, Z, by omega, hX, hY, by omega, rfl, by rw [← hl, stN_self h], by simp, by simp, by simp, by simp, by simp⟩ ?_
  rintro k T M' ⟨A', X', Y', Z', hk, hx, hy, hAm, hT, rfl, t10, t11, t0, t2, t4⟩
  have hr := stN_row (t := t) (l := A' ++ (X' ++ (Y' ++ Z'))) hid
  have hlen := congrArg List.length hT
  simp only [List.length_append] at hlen
  have eA : (m : Int) - X'.length = A'.length := by omega
  by_cases hij : X'.length = Y'.length
  · simp (disch := omega) [t10, t11, hij, t0, t2, t4, wrap_in]
    have eA' : (m : Int) - Y'.length = A'.length := by omega
    simp (disch := omega) [wrap_in, eA']
    refine awCall_ctr ((swap_seg (P := X') (D := []) (Q := Y') (Z := Z') (l := A' ++ (X' ++ (Y' ++ Z'))) (by simp) hr hB (by simp only [List.length_append]; omega) hn2 (x := A'.length) rfl (k := Y'.length) (by omega) rfl (y := m) (by simp; omega)).weaken (by simp)) ?_
    rintro r M2 ⟨rfl, rfl⟩
    simp
    rw [stN_stN, ← hT]
  · have hij' : ¬ ((X'.length : Int) = Y'.length) := by omega
    by_cases hgt : Y'.length < X'.length
    · have hgt' : (Y'.length : Int) < X'.length := by omega
      have e5 : (X'.length : Int) - Y'.length = ((X'.drop Y'.length).length : Nat) := by rw [List.length_drop]; omega
      simp (disch := omega) [t10, t11, hij, hij', hgt, hgt', t0, t2, t4, wrap_in, eA]
      refine awCall_ctr ((swap_seg (P := X'.take Y'.length) (D := X'.drop Y'.length) (Q := Y') (Z := Z') (l := A' ++ (X' ++ (Y' ++ Z'))) (by rw [← List.append_assoc (X'.take _), List.take_append_drop]) hr hB (by simp only [List.length_append]; omega) hn2 (x := A'.length) rfl (k := Y'.length) (by rw [List.length_take]; omega) rfl (y := m) (by rw [List.length_drop]; omega)).weaken (by simp)) ?_
      rintro r M2 ⟨rfl, rfl⟩
      try simp (disch := omega) [t10, t11, wrap_in]
      have hd : (X'.drop Y'.length).length = X'.length - Y'.length := List.length_drop
      have ht : (X'.take Y'.length).length = Y'.length := by rw [List.length_take]; omega
      refine lpI (k - Y'.length) (by omega) ?_
      refine ⟨A' ++ Y', X'.drop Y'.length, X'.take Y'.length, Z', by rw [hd, ht]; omega, by omega, by omega, by rw [List.length_append, hd]; omega, ?_, by rw [stN_stN]; simp, by simp [hd]; omega, by simp [t11, ht], by simp [t0], by simp [t2], by simp [t4]⟩
      rw [← hT]
      simp only [List.append_assoc]
      rw [← List.append_assoc (X'.take _), List.take_append_drop]
    · have hgt' : ¬ (Y'.length : Int) < X'.length := by omega
      have hd : (Y'.drop (Y'.length - X'.length)).length = X'.length := by rw [List.length_drop]; omega
      have ht : (Y'.take (Y'.length - X'.length)).length = Y'.length - X'.length := by rw [List.length_take]; omega
      obtain ⟨q, hq⟩ : ∃ q, q = m + Y'.length - X'.length := ⟨_, rfl⟩
      have e6 : (m : Int) + Y'.length - X'.length = q := by omega
      simp (disch := omega) [t10, t11, hij, hij', hgt, hgt', t0, t2, t4, wrap_in, eA, e6]
      refine awCall_ctr ((swap_seg (P := X') (D := Y'.take (Y'.length - X'.length)) (Q := Y'.drop (Y'.length - X'.length)) (Z := Z') (l := A' ++ (X' ++ (Y' ++ Z'))) (by rw [← List.append_assoc (Y'.take _), List.take_append_drop]) hr hB (by simp only [List.length_append]; omega) hn2 (x := A'.length) rfl (k := X'.length) rfl hd (y := q) (by rw [ht]; omega)).weaken (by simp)) ?_
      rintro r M2 ⟨rfl, rfl⟩
      try simp (disch := omega) [t10, t11, wrap_in]
      refine lpI (k - X'.length) (by omega) ?_
      refine ⟨A', Y'.drop (Y'.length - X'.length), Y'.take (Y'.length - X'.length), X' ++ Z', by rw [hd, ht]; omega, by omega, by omega, by rw [hd]; omega, ?_, by rw [stN_stN], by simp [hd, t10], by simp [ht]; omega, by simp [t0], by simp [t2], by simp [t4]⟩
      rw [← hT]
      rw [← List.append_assoc (Y'.take _), List.take_append_drop]
end Go.Proofs.Ytbpaeonfebmomaa
