/- Operations hang on their operands alone, and have one outcome. No conditions. -/
import Derived.Test.YtffbocbjmhkikaaAw9
import Derived.Orders
namespace Go.Proofs.Ytffbocbjmhkikaa
open Go.RowKit
set_option linter.unusedVariables false
set_option linter.unusedSimpArgs false

/-- One outcome, whatever is asked of it. -/
def Pt (F : (Value → Mem → Prop) → Prop) : Prop := ∀ K, F K → ∃ v M', K v M' ∧ ∀ K' : Value → Mem → Prop, K' v M' → F K'
theorem Pt.leaf {v : Value} {M : Mem} : Pt fun K => K v M := fun K h => ⟨v, M, h, fun _ h => h⟩
theorem Pt.ff : Pt fun _ => False := fun K h => h.elim
theorem Pt.ow {α : Type} {o : Option α} {F : α → (Value → Mem → Prop) → Prop} (h : ∀ a, Pt (F a)) : Pt fun K => ow o fun a => F a K := by
  cases o with
  | none => exact .ff
  | some a => exact h a
theorem Pt.and {p : Prop} {F : (Value → Mem → Prop) → Prop} (h : Pt F) : Pt fun K => p ∧ F K := by
  intro K hK
  obtain ⟨v, M', h1, h2⟩ := h K hK.2
  exact ⟨v, M', h1, fun K' h' => ⟨hK.1, h2 K' h'⟩⟩
theorem Pt.imp {p : Prop} {F G : (Value → Mem → Prop) → Prop} (h : Pt F) (h' : Pt G) : Pt fun K => (p → F K) ∧ (¬ p → G K) := by
  intro K hK
  by_cases hp : p
  · obtain ⟨v, M', h1, h2⟩ := h K (hK.1 hp)
    exact ⟨v, M', h1, fun K' h' => ⟨fun _ => h2 K' h', fun hn => absurd hp hn⟩⟩
  · obtain ⟨v, M', h1, h2⟩ := h' K (hK.2 hp)
    exact ⟨v, M', h1, fun K' h' => ⟨fun hn => absurd hn hp, fun _ => h2 K' h'⟩⟩
theorem Pt.ite {p : Prop} [Decidable p] {F G : (Value → Mem → Prop) → Prop} (h : Pt F) (h' : Pt G) : Pt fun K => if p then F K else G K := by
  by_cases hp : p
  · simpa [hp] using h
  · simpa [hp] using h'
theorem Pt.call {P : Program} {b : Nat} {g : FuncId} {args : List Value} {M : Mem} : Pt fun K => awCall P true b g args M K := by
  intro K h
  rcases h with ⟨v, M', hd, hK⟩ | ⟨h, -⟩
  · exact ⟨v, M', hK, fun K' h' => .inl ⟨v, M', hd, h'⟩⟩
  · cases h

section
variable {P : Program} {b : Nat} {S : St}
theorem pt_load {t : TypeId} {v : Value} : Pt fun K => loadK P S t K v := by
  unfold loadK
  split
  · refine .ow fun k => ?_
    cases k with
    | none => exact .ow fun _ => .leaf
    | some k => exact .ow fun _ => .leaf
  · exact .ff
theorem pt_store {t : TypeId} {p v : Value} : Pt fun K => storeK P b S t K p v := by
  unfold storeK
  split
  · exact .and (.ow fun _ => .leaf)
  · exact .ff
theorem pt_append {t tx : TypeId} {s x : Value} : Pt fun K => appendK P b S K t tx s x := by
  unfold appendK
  refine .ow fun q => .ow fun mn => .and (.and ?_)
  split
  · exact .and (.and (.and (.imp .leaf .leaf)))
  · split
    · exact .and (.and (.and (.imp .leaf (.ite .leaf (.and .leaf)))))
    · exact .ff
  · exact .ff
theorem pt_b2s {src dst : TypeId} {x : Value} : Pt fun K => b2sK P S K src dst x := by
  unfold b2sK
  refine .and (.ow fun q => .and (.and ?_))
  split
  · exact .and .leaf
  · exact .ow fun _ => .ow fun _ => .leaf
  · exact .ff
theorem pt_s2 {src dst : TypeId} {s : ByteArray} : Pt fun K => s2K P S K src dst s := by
  unfold s2K
  split
  · exact .and .leaf
  · exact .ow fun _ => .leaf
theorem pt_make {t : TypeId} {x y : Value} : Pt fun K => makeK P S K t x y := by
  unfold makeK
  split
  · exact .ow fun _ => .ow fun _ => .and .leaf
  · exact .ff
theorem pt_slice {t : TypeId} {x : Value} {lo hi : Option Value} : Pt fun K => sliceK P S K t x lo hi := by
  unfold sliceK
  split
  · exact .and (.ow fun _ => .ow fun _ => .and .leaf)
  · exact .and (.ow fun _ => .ow fun _ => .ow fun _ => .and .leaf)
  · exact .ow fun _ => .ow fun _ => .ow fun _ => .and (.and .leaf)
  · exact .ff
theorem pt_len {t : TypeId} {x : Value} : Pt fun K => lenK P S K t x := by
  unfold lenK
  split
  · exact .leaf
  · exact .leaf
  · exact .ff
theorem pt_fieldAddr {off : Nat} {v : Value} : Pt fun K => fieldAddrK S K off v := by
  unfold fieldAddrK
  split
  · exact .leaf
  · exact .ff
theorem pt_indexAddr {esz : Nat} {v i : Value} : Pt fun K => indexAddrK S K esz v i := by
  unfold indexAddrK
  split
  · exact .and .leaf
  · exact .ff
theorem pt_index {v i : Value} : Pt fun K => indexK S K v i := by
  unfold indexK
  split
  · exact .and .leaf
  · exact .ff
theorem pt_callV {f : Value} {as : List Value} : Pt fun K => callV P true b S K f as := by
  unfold callV
  split
  · exact .call
  · exact .ff
theorem awOp_pt (o : Oper) : Pt fun K => awOp P true b o S K := by
  unfold awOp
  split
  · exact .ow fun _ => .leaf
  · exact .ow fun _ => .leaf
  · refine .ow fun cv => .ow fun u => .ow fun v => ?_
    split
    · exact .leaf
    · exact .ff
  · exact .ow fun _ => .leaf
  · exact .ow fun _ => .leaf
  · exact .ow fun _ => .ow fun _ => .ow fun _ => .leaf
  · exact .ow fun _ => .ow fun _ => .ow fun _ => .and (.ow fun _ => .leaf)
  · exact .ow fun _ => pt_load
  · exact .ow fun _ => .ow fun _ => pt_store
  · refine .ow fun u => ?_
    split
    · exact .leaf
    · exact .leaf
    · exact .ff
  · exact .ow fun _ => .ow fun _ => .ow fun _ => .leaf
  · exact .ow fun _ => .ow fun _ => .leaf
  · refine .ow fun u => ?_
    split
    · exact pt_b2s
    · exact pt_s2
    · exact .ow fun _ => .leaf
  · exact .ow fun _ => .ow fun _ => .leaf
  · exact .ow fun _ => .ow fun _ => pt_make
  · exact .ow fun _ => .ow fun _ => .ow fun _ => pt_slice
  · exact .ow fun _ => .ow fun _ => pt_fieldAddr
  · exact .ow fun _ => .ow fun _ => .ow fun _ => .leaf
  · exact .ow fun _ => .ow fun _ => .ow fun _ => pt_indexAddr
  · exact .and (.ow fun _ => .ow fun _ => pt_index)
  · exact .ow fun _ => .ow fun _ => .leaf
  · split
    · exact .ow fun _ => .ow fun _ => pt_callV
    · exact .ow fun _ => pt_len
    · exact .ow fun _ => .ow fun _ => pt_append
    · exact .ow fun _ => .ow fun _ => .ow fun _ => .leaf
    · exact .ow fun _ => .ow fun _ => .ow fun _ => .leaf
    · exact .ff
  · exact .ff

theorem evs_congr {S' : St} {xs : List Operand} (h : ∀ x ∈ xs, S.ev x = S'.ev x) : evs S xs = evs S' xs := by
  induction xs with
  | nil => rfl
  | cons x xs ih => rw [evs_cons, evs_cons, h x (by simp), ih fun y hy => h y (by simp [hy])]
theorem partsV_congr {S' : St} {ps : List (Nat × Operand)} (h : ∀ p ∈ ps, S.ev p.2 = S'.ev p.2) : partsV S ps = partsV S' ps := by
  induction ps with
  | nil => rfl
  | cons p ps ih =>
    obtain ⟨i, x⟩ := p
    have := h (i, x) (by simp)
    simp only at this
    simp only [partsV, this, ih fun q hq => h q (by simp [hq])]
theorem evo_congr {S' : St} {x : Option Operand} (h : ∀ y, x = some y → S.ev y = S'.ev y) : evo S x = evo S' x := by
  cases x with
  | none => rfl
  | some y => simp only [evo, h y rfl]
theorem awOp_congr {d : Bool} {S' : St} {o : Oper} {K : Value → Mem → Prop} (hM : S'.M = S.M) (h : ∀ x ∈ o.op.operands.toList, S.ev x = S'.ev x) (hK : awOp P d b o S K) : awOp P d b o S' K := by
  obtain ⟨n, T, M⟩ := S
  obtain ⟨n', T', M'⟩ := S'
  simp only at hM
  subst hM
  unfold awOp at hK ⊢
  split at hK
  · rename_i x hop
    rw [hop] at h
    try simp only [hop]
    rw [← h x (by simp [Op.operands])]
    exact hK
  · rename_i x hop
    rw [hop] at h
    try simp only [hop]
    rw [← h x (by simp [Op.operands])]
    exact hK
  · rename_i c x y hop
    rw [hop] at h
    try simp only [hop]
    rw [← h c (by simp [Op.operands]), ← h x (by simp [Op.operands]), ← h y (by simp [Op.operands])]
    exact hK
  · rename_i t hop
    try simp only [hop]
    exact hK
  · rename_i t x hop
    rw [hop] at h
    try simp only [hop]
    rw [← h x (by simp [Op.operands])]
    exact hK
  · rename_i t ps hop
    rw [hop] at h
    try simp only [hop]
    rw [← partsV_congr fun p hp => h p.2 (by simp only [Op.operands]; exact List.mem_map.2 ⟨p, hp, rfl⟩)]
    exact hK
  · rename_i t n' ps hop
    rw [hop] at h
    try simp only [hop]
    rw [← partsV_congr fun p hp => h p.2 (by simp only [Op.operands]; exact List.mem_map.2 ⟨p, hp, rfl⟩)]
    exact hK
  · rename_i t x hop
    rw [hop] at h
    try simp only [hop]
    rw [← h x (by simp [Op.operands])]
    exact hK
  · rename_i t x y hop
    rw [hop] at h
    try simp only [hop]
    rw [← h x (by simp [Op.operands]), ← h y (by simp [Op.operands])]
    exact hK
  · rename_i x hop
    rw [hop] at h
    try simp only [hop]
    rw [← h x (by simp [Op.operands])]
    exact hK
  · rename_i op t x y t' hop
    rw [hop] at h
    try simp only [hop]
    rw [← h x (by simp [Op.operands]), ← h y (by simp [Op.operands])]
    exact hK
  · rename_i op t x hop
    rw [hop] at h
    try simp only [hop]
    rw [← h x (by simp [Op.operands])]
    exact hK
  · rename_i src dst x hop
    rw [hop] at h
    try simp only [hop]
    rw [← h x (by simp [Op.operands])]
    exact hK
  · rename_i fn first captured hop
    rw [hop] at h
    try simp only [hop]
    rw [← evs_congr fun x hx => h x (by simp only [Op.operands, Array.toList_append, List.mem_append]; exact .inl hx), ← evs_congr fun x hx => h x (by simp only [Op.operands, Array.toList_append, List.mem_append]; exact .inr hx)]
    exact hK
  · rename_i t x y hop
    rw [hop] at h
    try simp only [hop]
    rw [← h x (by simp [Op.operands]), ← h y (by simp [Op.operands])]
    exact hK
  · rename_i t x lo hi hop
    rw [hop] at h
    try simp only [hop]
    rw [← h x (by simp [Op.operands]), ← evo_congr (x := lo) fun y hy => h y (by simp [Op.operands, hy]), ← evo_congr (x := hi) fun y hy => h y (by simp [Op.operands, hy])]
    exact hK
  · rename_i t x f hop
    rw [hop] at h
    try simp only [hop]
    rw [← h x (by simp [Op.operands])]
    exact hK
  · rename_i t x f hop
    rw [hop] at h
    try simp only [hop]
    rw [← h x (by simp [Op.operands])]
    exact hK
  · rename_i t x y hop
    rw [hop] at h
    try simp only [hop]
    rw [← h x (by simp [Op.operands]), ← h y (by simp [Op.operands])]
    exact hK
  · rename_i t x y hop
    rw [hop] at h
    try simp only [hop]
    rw [← h x (by simp [Op.operands]), ← h y (by simp [Op.operands])]
    exact hK
  · rename_i x i hop
    rw [hop] at h
    try simp only [hop]
    rw [← h x (by simp [Op.operands])]
    exact hK
  · rename_i c hop
    rw [hop] at h
    have hargs : ∀ x ∈ c.args.toList, (⟨n, T, M'⟩ : St).ev x = (⟨n', T', M'⟩ : St).ev x := fun x hx => h x (by
      simp only [Op.operands, Call.operands, Array.toList_append, List.mem_append]
      exact .inr hx)
    split at hK
    · rename_i _ _ f h1
      have hf : (⟨n, T, M'⟩ : St).ev f = (⟨n', T', M'⟩ : St).ev f := h f (by simp [Op.operands, Call.operands, h1])
      try simp only [hop, h1]
      rw [← hf, ← evs_congr hargs]
      exact hK
    · rename_i x t h1 h2 h3
      have := hargs x (by simp [h2])
      try simp only [hop, h1, h2, h3]
      rw [← this]
      exact hK
    · rename_i s x t tx h1 h2 h3
      have e1 := hargs s (by simp [h2])
      have e2 := hargs x (by simp [h2])
      try simp only [hop, h1, h2, h3]
      rw [← e1, ← e2]
      exact hK
    · rename_i _ x y h1 h2
      have e1 := hargs x (by simp [h2])
      have e2 := hargs y (by simp [h2])
      try simp only [hop, h1, h2]
      rw [← e1, ← e2]
      exact hK
    · rename_i _ x y h1 h2
      have e1 := hargs x (by simp [h2])
      have e2 := hargs y (by simp [h2])
      try simp only [hop, h1, h2]
      rw [← e1, ← e2]
      exact hK
    · exact hK.elim
  · exact hK.elim
end
end Go.Proofs.Ytffbocbjmhkikaa
