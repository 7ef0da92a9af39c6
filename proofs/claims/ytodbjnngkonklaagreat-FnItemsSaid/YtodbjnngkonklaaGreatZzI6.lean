/- What simp takes to run code over abstract states. No conditions. -/
import Derived.Test.YtodbjnngkonklaaGreatZzI5
import Derived.Great.FillDense
namespace Go.Proofs.YtodbjnngkonklaaGreat
open Go.RowKit
set_option linter.unusedVariables false
set_option linter.unusedSimpArgs false

/-- The same, with code and what follows kept from simp. -/
def sAw (P : Program) (b : Nat) (c : Code) (Q : Ex → St → Prop) (S : St) (_ : Tk (c, Q) := tk) : Prop := aw P b c Q S
def sOps (P : Program) (b : Nat) (ops : Array Oper) (Q : St → Prop) (os : List Oper) (S : St) (_ : Tk (ops, Q, os) := tk) : Prop := awOps P b ops Q os S
def sOp (P : Program) (d : Bool) (b : Nat) (o : Oper) (S : St) (K : Value → Mem → Prop) (_ : Tk (o, K) := tk) : Prop := awOp P d b o S K
def sThen (P : Program) (b : Nat) (y : Code) (Q : Ex → St → Prop) (_ : Tk (y, Q)) : Ex → St → Prop := exThen (aw P b y Q) Q
def sBlock (id : Nat) (Q : Ex → St → Prop) (_ : Tk Q) : Ex → St → Prop := exBlock id Q
section
variable {P : Program} {b : Nat} {Q : Ex → St → Prop} {S : St}
@[simp] theorem sThen_normal {y : Code} {t : Tk (y, Q)} : sThen P b y Q t .normal S = sAw P b y Q S := (rfl)
@[simp] theorem sThen_exit {y : Code} {t : Tk (y, Q)} {i : Nat} : sThen P b y Q t (.exit i) S = Q (.exit i) S := (rfl)
@[simp] theorem sThen_ret {y : Code} {t : Tk (y, Q)} : sThen P b y Q t .ret S = Q .ret S := (rfl)
@[simp] theorem sBlock_normal {id : Nat} {t : Tk Q} : sBlock id Q t .normal S = Q .normal S := (rfl)
@[simp] theorem sBlock_exit {id : Nat} {t : Tk Q} {i : Nat} : sBlock id Q t (.exit i) S = if i = id then Q .normal S else Q (.exit i) S := (rfl)
@[simp] theorem sBlock_ret {id : Nat} {t : Tk Q} : sBlock id Q t .ret S = Q .ret S := (rfl)
@[simp] theorem aw_skip : sAw P b .skip Q S = Q .normal S := (rfl)
@[simp] theorem aw_seq {x y : Code} : sAw P b (.seq x y) Q S = sAw P b x (sThen P b y Q tk) S := (rfl)
@[simp] theorem aw_plain {id : Nat} {ops : List Oper} : sAw P b (.region id ⟨ops⟩ false) Q S = sOps P b ⟨ops⟩ (Q .normal) ops S := (rfl)
@[simp] theorem aw_draw {id : Nat} {ops : Array Oper} : sAw P b (.region id ops true) Q S = awDraw P b ops (Q .normal) S := (rfl)
@[simp] theorem aw_cond {c : Operand} {x y : Code} : sAw P b (.cond c x y) Q S = ow (S.ev c) fun v => awCond v (sAw P b x Q S) (sAw P b y Q S) := (rfl)
@[simp] theorem aw_block {id : Nat} {c : Code} : sAw P b (.block id c) Q S = sAw P b c (sBlock id Q tk) S := (rfl)
@[simp] theorem aw_exit {id : Nat} : sAw P b (.exit id) Q S = Q (.exit id) S := (rfl)
@[simp] theorem aw_ret : sAw P b .ret Q S = Q .ret S := (rfl)
@[simp] theorem aw_label {l : Nat} : sAw P b (.label l) Q S = Q .normal S := (rfl)
@[simp] theorem aw_scope {c : Code} : sAw P b (.scope c) Q S = sAw P b c Q S := (rfl)
@[simp] theorem aw_loop {c : Code} : sAw P b (.loop c) Q S = awLoop (aw P b c) Q S := (rfl)
@[simp] theorem awCond_true {A B : Prop} : awCond (.bool true) A B = A := by simp [awCond]
@[simp] theorem awCond_false {A B : Prop} : awCond (.bool false) A B = B := by simp [awCond]
theorem awCond_split {t : Bool} {A B : Prop} (h1 : t = true → A) (h2 : t = false → B) : awCond (.bool t) A B := ⟨h1, h2⟩

def dstL : List Oper → Nat → Option Tmp
  | [], _ => none
  | o :: _, 0 => o.dst
  | _ :: os, j + 1 => dstL os j
theorem dstL_eq : ∀ (l : List Oper) (j : Nat), ((⟨l⟩ : Array Oper)[j]?).bind (·.dst) = dstL l j
  | [], j => by simp [dstL]
  | o :: os, 0 => by simp [dstL]
  | o :: os, j + 1 => by
    have := dstL_eq os j
    simp only [dstL]
    rw [← this]
    simp
@[simp] theorem dstL_zero {d : Option Tmp} {op : Op} {t : TypeId} {p : String} {af : Array Edge} {g : Option (Nat × Bool)} {os : List Oper} : dstL (⟨d, op, t, p, af, g⟩ :: os) 0 = d := (rfl)
@[simp] theorem dstL_succ {o : Oper} {os : List Oper} {j : Nat} : dstL (o :: os) (j + 1) = dstL os j := (rfl)
def guardV (want : Bool) (g : Value) (A B : Prop) (_ : Tk (A, B) := tk) : Prop :=
  match g with
  | .bool y => (y = want → A) ∧ (y = !want → B)
  | .tuple _ => B
  | _ => False
@[simp] theorem guardV_tt {A B : Prop} : guardV true (.bool true) A B = A := by simp [guardV]
@[simp] theorem guardV_tf {A B : Prop} : guardV true (.bool false) A B = B := by simp [guardV]
@[simp] theorem guardV_ff {A B : Prop} : guardV false (.bool false) A B = A := by simp [guardV]
@[simp] theorem guardV_ft {A B : Prop} : guardV false (.bool true) A B = B := by simp [guardV]
theorem guardV_split {w y : Bool} {A B : Prop} (h1 : y = w → A) (h2 : y = !w → B) : guardV w (.bool y) A B := ⟨h1, h2⟩
@[simp] theorem guardV_undef' {want : Bool} {A B : Prop} : guardV want undef A B = B := (rfl)
@[simp] theorem guardV_not_t {y : Bool} {A B : Prop} : guardV true (.bool !y) A B = guardV false (.bool y) A B := by cases y <;> simp
@[simp] theorem guardV_not_f {y : Bool} {A B : Prop} : guardV false (.bool !y) A B = guardV true (.bool y) A B := by cases y <;> simp
@[simp] theorem guardV_undef {want : Bool} {A B : Prop} {cs : Array Value} : guardV want (.tuple cs) A B = B := (rfl)
@[simp] theorem awOps_nil {ops : Array Oper} {Q : St → Prop} : sOps P b ops Q [] S = Q S := (rfl)
@[simp] theorem awOps_cons {ops : Array Oper} {Q : St → Prop} {d : Option Tmp} {op : Op} {t : TypeId} {p : String} {af : Array Edge} {os : List Oper} {n : Nat} {T : List (Nat × Value)} {M : Mem} :
    sOps P b ops Q (⟨d, op, t, p, af, none⟩ :: os) ⟨n, T, M⟩ = sOp P false b ⟨d, op, t, p, af, none⟩ ⟨n, T, M⟩ fun v M' => sOps P b ops Q os (St.put ⟨n, T, M'⟩ d v) := (rfl)
def dstT (l : List Oper) (j : Nat) (_ : Tk l := tk) : Option Tmp := dstL l j
@[simp] theorem dstT_zero {d : Option Tmp} {op : Op} {t : TypeId} {p : String} {af : Array Edge} {g : Option (Nat × Bool)} {os : List Oper} : dstT (⟨d, op, t, p, af, g⟩ :: os) 0 = d := (rfl)
@[simp] theorem dstT_succ {o : Oper} {os : List Oper} {j : Nat} : dstT (o :: os) (j + 1) = dstT os j := (rfl)
@[simp] theorem awOps_guard {ops : List Oper} {Q : St → Prop} {d : Option Tmp} {op : Op} {t : TypeId} {p : String} {af : Array Edge} {j : Nat} {w : Bool} {os : List Oper} {n : Nat} {T : List (Nat × Value)} {M : Mem} :
    sOps P b ⟨ops⟩ Q (⟨d, op, t, p, af, some (j, w)⟩ :: os) ⟨n, T, M⟩ = ow ((dstT ops j).bind (St.get ⟨n, T, M⟩)) fun g => guardV w g (sOp P false b ⟨d, op, t, p, af, some (j, w)⟩ ⟨n, T, M⟩ fun v M' => sOps P b ⟨ops⟩ Q os (St.put ⟨n, T, M'⟩ d v)) (sOps P b ⟨ops⟩ Q os (St.put ⟨n, T, M⟩ d undef)) := by
  unfold dstT
  rw [← dstL_eq]
  simp only [sOps, awOps]
  congr 1
end

section
variable {P : Program} {d : Bool} {b n : Nat} {T : List (Nat × Value)} {M : Mem} {K : Value → Mem → Prop} {dst : Option Tmp} {ty : TypeId} {p : String} {af : Array Edge} {g : Option (Nat × Bool)}
@[simp] theorem op_move {x : Operand} {S : St} : sOp P d b ⟨dst, .move x, ty, p, af, g⟩ S K = ow (S.ev x) fun v => K v S.M := (rfl)
@[simp] theorem op_assign {x : Operand} {S : St} : sOp P d b ⟨dst, .assign x, ty, p, af, g⟩ S K = ow (S.ev x) fun v => K v S.M := (rfl)
def pickV (cv u v : Value) : Option Value :=
  match cv with
  | .bool t => some (if t = true then u else v)
  | _ => none
@[simp] theorem pickV_true {u v : Value} : pickV (.bool true) u v = some u := (rfl)
@[simp] theorem pickV_false {u v : Value} : pickV (.bool false) u v = some v := (rfl)
@[simp] theorem pickV_bool {c x y : Bool} : pickV (.bool c) (.bool x) (.bool y) = some (.bool (if c = true then x else y)) := by cases c <;> rfl
@[simp] theorem op_pick {c x y : Operand} {S : St} : sOp P d b ⟨dst, .pick c x y, ty, p, af, g⟩ S K = ow (S.ev c) fun cv => ow (S.ev x) fun u => ow (S.ev y) fun v => ow (pickV cv u v) fun r => K r S.M := by
  unfold sOp awOp
  simp only
  congr 1; funext cv; congr 1; funext u; congr 1; funext v
  cases cv <;> rfl
@[simp] theorem op_alloc {t : TypeId} {S : St} : sOp P d b ⟨dst, .alloc t, ty, p, af, g⟩ S K = ow (qZero P t) fun cs => K (.pointer (some ⟨S.M.length, 0, none⟩)) (S.M ++ [.live ⟨cs, true, true, t, cs.length⟩]) := (rfl)
@[simp] theorem op_box {t : TypeId} {x : Operand} {S : St} : sOp P d b ⟨dst, .box t x, ty, p, af, g⟩ S K = ow (S.ev x) fun v => K (.pointer (some ⟨S.M.length, 0, none⟩)) (S.M ++ [.live ⟨v.cells.toList, true, true, t, v.cells.size⟩]) := (rfl)
@[simp] theorem op_load {t : TypeId} {x : Operand} {S : St} : sOp P d b ⟨dst, .load t x, ty, p, af, g⟩ S K = ow (S.ev x) fun v => loadK P S t K v := (rfl)
@[simp] theorem op_store {t : TypeId} {x y : Operand} {S : St} : sOp P d b ⟨dst, .store t x y, ty, p, af, g⟩ S K = ow (S.ev x) fun u => ow (S.ev y) fun v => storeK P b S t K u v := (rfl)
def nilV (u : Value) : Option Value :=
  match u with
  | .pointer (some ⟨id, off, none⟩) => some (.pointer (some ⟨id, off, none⟩))
  | .func (.func f) us vs => some (.func (.func f) us vs)
  | _ => none
@[simp] theorem nilV_ptr {id off : Nat} : nilV (.pointer (some ⟨id, off, none⟩)) = some (.pointer (some ⟨id, off, none⟩)) := (rfl)
@[simp] theorem nilV_func {f : FuncId} {us vs : Array Value} : nilV (.func (.func f) us vs) = some (.func (.func f) us vs) := (rfl)
@[simp] theorem op_nilCheck {x : Operand} {S : St} : sOp P d b ⟨dst, .nilCheck x, ty, p, af, g⟩ S K = ow (S.ev x) fun u => ow (nilV u) fun v => K v S.M := by
  unfold sOp awOp
  simp only
  congr 1; funext u
  unfold nilV
  split
  · rfl
  · rfl
  · split
    · exact absurd rfl (by rename_i h _; exact fun e => h _ _ e)
    · exact absurd rfl (by rename_i h; exact fun e => h _ _ _ e)
    · rfl
@[simp] theorem op_bin {op : BinOp} {t t' : TypeId} {x y : Operand} {S : St} : sOp P d b ⟨dst, .binOp op t x y t', ty, p, af, g⟩ S K = ow (S.ev x) fun u => ow (S.ev y) fun v => ow (binV P op t u v) fun r => K r S.M := (rfl)
@[simp] theorem op_un {op : UnOp} {t : TypeId} {x : Operand} {S : St} : sOp P d b ⟨dst, .unOp op t x, ty, p, af, g⟩ S K = ow (S.ev x) fun u => ow (unV op u) fun r => K r S.M := (rfl)
def convK (P : Program) (S : St) (K : Value → Mem → Prop) (src dst : TypeId) (u : Value) : Prop :=
  match u with
  | .slice q n c => b2sK P S K src dst (.slice q n c)
  | .string s => s2K P S K src dst s
  | u => ow (convV P src dst u) fun r => K r S.M
@[simp] theorem convK_int {S : St} {src dst : TypeId} {k : IntKind} {n : Int} : convK P S K src dst (.int k n) = ow (convV P src dst (.int k n)) fun r => K r S.M := (rfl)
@[simp] theorem convK_str {S : St} {src dst : TypeId} {s : ByteArray} : convK P S K src dst (.string s) = s2K P S K src dst s := (rfl)
@[simp] theorem convK_sl {S : St} {src dst : TypeId} {q : Option Addr} {n c : Nat} : convK P S K src dst (.slice q n c) = b2sK P S K src dst (.slice q n c) := (rfl)
@[simp] theorem op_conv {src dst' : TypeId} {x : Operand} {S : St} : sOp P d b ⟨dst, .convert src dst' x, ty, p, af, g⟩ S K = ow (S.ev x) fun u => convK P S K src dst' u := (rfl)
@[simp] theorem op_func {fn : Fn} {us vs : List Operand} {S : St} : sOp P d b ⟨dst, .makeFunc fn ⟨us⟩ ⟨vs⟩, ty, p, af, g⟩ S K = ow (evs S us) fun us => ow (evs S vs) fun vs => K (.func fn us.toArray vs.toArray) S.M := (rfl)
@[simp] theorem makeK_int {t : TypeId} {k k' : IntKind} {n m : Int} {S : St} : makeK P S K t (.int k n) (.int k' m) = ow (qSlice P t) fun q => ow (qZero P q.1) fun z => (z.length = q.2.1 ∧ m = n ∧ 0 ≤ n ∧ n * q.2.2 ≤ 281474976710656 ∧ n ≤ 9223372036854775807) ∧ K (.slice (some ⟨S.M.length, 0, none⟩) n.toNat n.toNat) (S.M ++ [.live ⟨zrow z n.toNat, true, true, q.1, q.2.1⟩]) := (rfl)
@[simp] theorem op_make {t : TypeId} {x y : Operand} {S : St} : sOp P d b ⟨dst, .makeSlice t x y, ty, p, af, g⟩ S K = ow (S.ev x) fun u => ow (S.ev y) fun v => makeK P S K t u v := (rfl)
@[simp] theorem sliceK_sl {t : TypeId} {id off n c : Nat} {lo hi : Option Value} {S : St} : sliceK P S K t (.slice (some ⟨id, off, none⟩) n c) lo hi = ow (qSlice P t) fun q => ow (bndV lo 0) fun l => ow (bndV hi n) fun h => (0 ≤ l ∧ l ≤ h ∧ h ≤ (n : Int)) ∧ rowEsz S.M id = some q.2.1 ∧ K (.slice (some ⟨id, off + l.toNat * q.2.1, none⟩) (h.toNat - l.toNat) (h.toNat - l.toNat)) S.M := (rfl)
@[simp] theorem sliceK_nil {t : TypeId} {n c : Nat} {lo hi : Option Value} {S : St} : sliceK P S K t (.slice none n c) lo hi = ((n = 0 ∧ c = 0) ∧ ow (qSlice P t) fun _ => ow (bndV lo 0) fun l => ow (bndV hi 0) fun h => (0 ≤ l ∧ l ≤ h ∧ h ≤ 0) ∧ K (.slice none 0 0) S.M) := (rfl)
@[simp] theorem sliceK_str {t : TypeId} {s : ByteArray} {lo hi : Option Value} {S : St} : sliceK P S K t (.string s) lo hi = (P.underlying t = some .string ∧ ow (bndV lo 0) fun l => ow (bndV hi s.size) fun h => (0 ≤ l ∧ l ≤ h ∧ h ≤ (s.size : Int)) ∧ K (.string (s.extract l.toNat h.toNat)) S.M) := (rfl)
@[simp] theorem bndV_none {d : Int} : bndV none d = some d := (rfl)
@[simp] theorem bndV_some {k : IntKind} {z d : Int} : bndV (some (.int k z)) d = some z := (rfl)
@[simp] theorem op_slice {t : TypeId} {x : Operand} {lo hi : Option Operand} {S : St} : sOp P d b ⟨dst, .slice t x lo hi none, ty, p, af, g⟩ S K = ow (S.ev x) fun u => ow (evo S lo) fun l => ow (evo S hi) fun h => sliceK P S K t u l h := (rfl)
@[simp] theorem op_fieldAddr {t : TypeId} {x : Operand} {f : Nat} {S : St} : sOp P d b ⟨dst, .fieldAddr t x f, ty, p, af, g⟩ S K = ow (S.ev x) fun u => ow (qField P t f) fun q => fieldAddrK S K q.1 u := (rfl)
@[simp] theorem op_field {t : TypeId} {x : Operand} {f : Nat} {S : St} : sOp P d b ⟨dst, .field t x f, ty, p, af, g⟩ S K = ow (S.ev x) fun u => ow (qField P t f) fun q => ow (fieldV u q) fun v => K v S.M := (rfl)
@[simp] theorem op_indexAddr {t : TypeId} {x y : Operand} {S : St} : sOp P d b ⟨dst, .indexAddr t x y, ty, p, af, g⟩ S K = ow (S.ev x) fun u => ow (S.ev y) fun i => ow (qSlice P t) fun q => indexAddrK S K q.2.1 u i := (rfl)
@[simp] theorem op_index {t : TypeId} {x y : Operand} {S : St} : sOp P d b ⟨dst, .index t x y, ty, p, af, g⟩ S K = (P.underlying t = some .string ∧ ow (S.ev x) fun u => ow (S.ev y) fun i => indexK S K u i) := (rfl)
@[simp] theorem op_extract {x : Operand} {i : Nat} {S : St} : sOp P d b ⟨dst, .extract x i, ty, p, af, g⟩ S K = ow (S.ev x) fun u => ow (tupAt u i) fun v => K v S.M := (rfl)
@[simp] theorem op_build {t : TypeId} {ps : List (Nat × Operand)} {S : St} : sOp P d b ⟨dst, .build t ⟨ps⟩, ty, p, af, g⟩ S K = ow (partsV S ps) fun vs => ow (qBuild P t) fun q => ow (Instr.fill (q.2[·]?) q.1 vs) fun cs => K (.agg cs) S.M := (rfl)
@[simp] theorem op_buildSlice {t : TypeId} {m : Nat} {ps : List (Nat × Operand)} {S : St} : sOp P d b ⟨dst, .buildSlice t m ⟨ps⟩, ty, p, af, g⟩ S K = ow (partsV S ps) fun vs => ow (qSlice P t) fun q => ow (qZero P q.1) fun z => (z.length = q.2.1 ∧ m * q.2.1 ≤ 16777216) ∧ ow (Instr.fill (fun i => some (i * q.2.1, q.2.1)) (zrow z m).toArray vs) fun cs =>
      K (.slice (some ⟨S.M.length, 0, none⟩) m m) (S.M ++ [.live ⟨cs.toList, true, true, q.1, q.2.1⟩]) := (rfl)
@[simp] theorem op_call {f : Operand} {as1 : List Operand} {ats : Array TypeId} {S : St} : sOp P d b ⟨dst, .call ⟨.value f, ⟨as1⟩, ats⟩, ty, p, af, g⟩ S K = ow (S.ev f) fun fv => ow (evs S as1) fun vs => callV P d b S K fv vs := (rfl)
@[simp] theorem op_lookup {t : TypeId} {x y : Operand} {S : St} : sOp P d b ⟨dst, .lookup t x y true, ty, p, af, g⟩ S K = ow (S.ev x) fun u => ow (S.ev y) fun k => lookK P S K t u k := (rfl)
@[simp] theorem op_makeMap {t : TypeId} {S : St} : sOp P false b ⟨dst, .makeMap t none, ty, p, af, g⟩ S K = ∀ r, K (.map (some r)) (S.M ++ [.mp r []]) := by simp [sOp, awOp]
@[simp] theorem op_update {t : TypeId} {x y z : Operand} {S : St} : sOp P d b ⟨dst, .mapUpdate t x y z, ty, p, af, g⟩ S K = ow (S.ev x) fun u => ow (S.ev y) fun k => ow (S.ev z) fun v => updK P b S K t u k v := (rfl)
@[simp] theorem op_delete {x y : Operand} {t t2 : TypeId} {S : St} : sOp P d b ⟨dst, .call ⟨.builtin .delete, #[x, y], #[t, t2]⟩, ty, p, af, g⟩ S K = ow (S.ev x) fun u => ow (S.ev y) fun k => delK P b S K t u k := (rfl)
@[simp] theorem op_len {x : Operand} {t : TypeId} {S : St} : sOp P d b ⟨dst, .call ⟨.builtin .len, #[x], #[t]⟩, ty, p, af, g⟩ S K = ow (S.ev x) fun u => lenK P S K t u := (rfl)
@[simp] theorem op_append {s x : Operand} {t tx : TypeId} {S : St} : sOp P d b ⟨dst, .call ⟨.builtin .append, #[s, x], #[t, tx]⟩, ty, p, af, g⟩ S K = ow (S.ev s) fun u => ow (S.ev x) fun v => appendK P b S K t tx u v := (rfl)
@[simp] theorem op_min {x y : Operand} {ts : Array TypeId} {S : St} : sOp P d b ⟨dst, .call ⟨.builtin .min, #[x, y], ts⟩, ty, p, af, g⟩ S K = ow (S.ev x) fun u => ow (S.ev y) fun v => ow (minV u v) fun r => K r S.M := (rfl)
@[simp] theorem op_max {x y : Operand} {ts : Array TypeId} {S : St} : sOp P d b ⟨dst, .call ⟨.builtin .max, #[x, y], ts⟩, ty, p, af, g⟩ S K = ow (S.ev x) fun u => ow (S.ev y) fun v => ow (maxV u v) fun r => K r S.M := (rfl)

@[simp] theorem St.M_mk : St.M ⟨n, T, M⟩ = M := (rfl)
@[simp] theorem St.n_mk : St.n ⟨n, T, M⟩ = n := (rfl)
@[simp] theorem St.T_mk : St.T ⟨n, T, M⟩ = T := (rfl)
@[simp] theorem put_some {t : Tmp} {v : Value} : St.put ⟨n, T, M⟩ (some t) v = ⟨n, (t, v) :: T, M⟩ := (rfl)
@[simp] theorem put_none {v : Value} : St.put ⟨n, T, M⟩ none v = ⟨n, T, M⟩ := (rfl)
@[simp] theorem ev_tmp {t : Tmp} : St.ev ⟨n, T, M⟩ (.tmp t) = if t < n then look T t else none := (rfl)
@[simp] theorem get_mk {t : Tmp} : St.get ⟨n, T, M⟩ t = if t < n then look T t else none := (rfl)
@[simp] theorem ev_int {S : St} {k : IntKind} {z : Int} : S.ev (.const (.int k z)) = some (.int k z) := (rfl)
@[simp] theorem ev_bool {S : St} {t : Bool} : S.ev (.const (.bool t)) = some (.bool t) := (rfl)
@[simp] theorem ev_str {S : St} {s : ByteArray} : S.ev (.const (.string s)) = some (.string s) := (rfl)
@[simp] theorem ev_nilp {S : St} : S.ev (.const (.pointer none)) = some (.pointer none) := (rfl)
@[simp] theorem ev_nils {S : St} : S.ev (.const (.slice none 0 0)) = some (.slice none 0 0) := (rfl)
@[simp] theorem ev_nilf {S : St} : S.ev (.const .nilFunc) = some .nilFunc := (rfl)
@[simp] theorem ev_nili {S : St} : S.ev (.const .nilIface) = some .nilIface := (rfl)
@[simp] theorem ev_func {S : St} {f : FuncId} : S.ev (.func f) = some (.func (.func f) #[] #[]) := (rfl)
@[simp] theorem look_nil {t : Nat} : look [] t = none := (rfl)
@[simp] theorem look_same {t : Nat} {v : Value} {T : List (Nat × Value)} : look ((t, v) :: T) t = some v := by simp [look]
@[simp] theorem look_other {t u : Nat} {v : Value} {T : List (Nat × Value)} (h : t ≠ u) : look ((u, v) :: T) t = look T t := by simp [look, h]
@[simp] theorem evs_nil' {S : St} : evs S [] = some [] := (rfl)
@[simp] theorem evs_cons' {S : St} {x : Operand} {xs : List Operand} : evs S (x :: xs) = (S.ev x).bind fun v => (evs S xs).map fun vs => v :: vs := evs_cons
@[simp] theorem evo_none {S : St} : evo S none = some none := (rfl)
@[simp] theorem evo_some {S : St} {x : Operand} : evo S (some x) = (S.ev x).map some := (rfl)
@[simp] theorem partsV_nil {S : St} : partsV S [] = some [] := (rfl)
@[simp] theorem partsV_cons {S : St} {i : Nat} {x : Operand} {ps : List (Nat × Operand)} : partsV S ((i, x) :: ps) = (S.ev x).bind fun v => (partsV S ps).map fun vs => (i, v) :: vs := by
  simp only [partsV]
  cases S.ev x <;> cases partsV S ps <;> rfl
@[simp] theorem callV_func {S : St} {f : FuncId} {us vs : List Value} {as1 : List Value} : callV P d b S K (.func (.func f) ⟨us⟩ ⟨vs⟩) as1 = awCall P d b f (us ++ as1 ++ vs) S.M K := (rfl)
@[simp] theorem tupV_one {v : Value} : tupV [v] = v := (rfl)
@[simp] theorem tupV_two {u v : Value} {vs : List Value} : tupV (u :: v :: vs) = .tuple (u :: v :: vs).toArray := (rfl)
@[simp] theorem tupV_nil : tupV [] = .tuple #[] := (rfl)
@[simp] theorem tupAt_mk {vs : List Value} {i : Nat} : tupAt (.tuple ⟨vs⟩) i = vs[i]? := by simp [tupAt]
@[simp] theorem resV_mk {S : St} {ts : List Tmp} : resV S ts = (evs S (ts.map .tmp)).map tupV := (rfl)
@[simp] theorem argT_nil {i : Nat} : argT i [] = [] := (rfl)
@[simp] theorem argT_cons {i : Nat} {v : Value} {vs : List Value} : argT i (v :: vs) = (i, v) :: argT (i + 1) vs := (rfl)
@[simp] theorem fieldAddrK_ptr {S : St} {off id o : Nat} : fieldAddrK S K off (.pointer (some ⟨id, o, none⟩)) = K (.pointer (some ⟨id, o + off, none⟩)) S.M := (rfl)
@[simp] theorem indexAddrK_sl {S : St} {esz id o m c : Nat} {k : IntKind} {j : Int} : indexAddrK S K esz (.slice (some ⟨id, o, none⟩) m c) (.int k j) = ((0 ≤ j ∧ j < (m : Int)) ∧ K (.pointer (some ⟨id, o + j.toNat * esz, none⟩)) S.M) := (rfl)
@[simp] theorem indexK_str {S : St} {s : ByteArray} {k : IntKind} {j : Int} : indexK S K (.string s) (.int k j) = ((0 ≤ j ∧ j < (s.size : Int)) ∧ K (.int .u8 (strAt s j.toNat)) S.M) := (rfl)
@[simp] theorem loadK_ptr {S : St} {t : TypeId} {id off : Nat} : loadK P S t K (.pointer (some ⟨id, off, none⟩)) = ow (qLoad P t) fun k => match k with
    | some k => ow (cellsAt S.M id off k) fun cs => K (.agg cs.toArray) S.M
    | none => ow (cellAt S.M id off) fun c => K c S.M := (rfl)
@[simp] theorem storeK_ptr {S : St} {t : TypeId} {id off : Nat} {v : Value} : storeK P b S t K (.pointer (some ⟨id, off, none⟩)) v = (qSize P t = some v.cells.size ∧ ow (putCells b S.M id off v.cells.toList) fun M' => K undef M') := (rfl)
@[simp] theorem cells_int {k : IntKind} {z : Int} : (Value.int k z).cells = #[.int k z] := (rfl)
@[simp] theorem cells_bool {t : Bool} : (Value.bool t).cells = #[.bool t] := (rfl)
@[simp] theorem cells_str {s : ByteArray} : (Value.string s).cells = #[.string s] := (rfl)
@[simp] theorem cells_ptr {q : Option Addr} : (Value.pointer q).cells = #[.pointer q] := (rfl)
@[simp] theorem cells_sl {q : Option Addr} {m c : Nat} : (Value.slice q m c).cells = #[.slice q m c] := (rfl)
@[simp] theorem cells_agg {cs : Array Value} : (Value.agg cs).cells = cs := (rfl)
@[simp] theorem cells_func {f : Fn} {us vs : Array Value} : (Value.func f us vs).cells = #[.func f us vs] := (rfl)
@[simp] theorem binV_int {op : BinOp} {t : TypeId} {k : IntKind} {x y : Int} : binV P op t (.int k x) (.int k y) = intV op k x y := by simp [binV]
@[simp] theorem binV_str {op : BinOp} {t : TypeId} {x y : ByteArray} : binV P op t (.string x) (.string y) = strV op x y := (rfl)
@[simp] theorem intV_add {k : IntKind} {x y : Int} : intV .add k x y = some (.int k (k.wrap (x + y))) := (rfl)
@[simp] theorem intV_sub {k : IntKind} {x y : Int} : intV .sub k x y = some (.int k (k.wrap (x - y))) := (rfl)
@[simp] theorem intV_mul {k : IntKind} {x y : Int} : intV .mul k x y = some (.int k (k.wrap (x * y))) := (rfl)
@[simp] theorem intV_quo {k : IntKind} {x y : Int} : intV .quo k x y = if y = 0 then none else some (.int k (k.wrap (x.tdiv y))) := (rfl)
@[simp] theorem intV_rem {k : IntKind} {x y : Int} : intV .rem k x y = if y = 0 then none else some (.int k (x.tmod y)) := (rfl)
@[simp] theorem intV_eql {k : IntKind} {x y : Int} : intV .eql k x y = some (.bool (decide (x = y))) := (rfl)
@[simp] theorem intV_neq {k : IntKind} {x y : Int} : intV .neq k x y = some (.bool (!decide (x = y))) := (rfl)
@[simp] theorem intV_lss {k : IntKind} {x y : Int} : intV .lss k x y = some (.bool (decide (x < y))) := (rfl)
@[simp] theorem intV_leq {k : IntKind} {x y : Int} : intV .leq k x y = some (.bool (decide (x ≤ y))) := (rfl)
@[simp] theorem intV_gtr {k : IntKind} {x y : Int} : intV .gtr k x y = some (.bool (decide (y < x))) := (rfl)
@[simp] theorem intV_geq {k : IntKind} {x y : Int} : intV .geq k x y = some (.bool (decide (y ≤ x))) := (rfl)
@[simp] theorem unV_neg {k : IntKind} {x : Int} : unV .neg (.int k x) = some (.int k (k.wrap (0 - x))) := (rfl)
@[simp] theorem unV_not {t : Bool} : unV .not (.bool t) = some (.bool (!t)) := (rfl)
@[simp] theorem minV_int {k k' : IntKind} {x y : Int} : minV (.int k x) (.int k' y) = some (.int k (if y < x then y else x)) := (rfl)
@[simp] theorem maxV_int {k k' : IntKind} {x y : Int} : maxV (.int k x) (.int k' y) = some (.int k (if y > x then y else x)) := (rfl)
theorem convV_int {src dst : TypeId} {k k' k2 : IntKind} {z : Int} (h1 : P.underlying src = some (.int k')) (h2 : P.underlying dst = some (.int k)) : convV P src dst (.int k2 z) = some (.int k (k.wrap z)) := by simp [convV, h1, h2]
theorem s2K_str {S : St} {K : Value → Mem → Prop} {src dst : TypeId} {s : ByteArray} (h1 : P.underlying src = some .string) (h2 : P.underlying dst = some .string) : s2K P S K src dst s = K (.string s) S.M := by simp [s2K, h2, convV, h1]
theorem s2K_sl {S : St} {K : Value → Mem → Prop} {src dst e : TypeId} {s : ByteArray} (h1 : P.underlying src = some .string) (h2 : P.underlying dst = some (.slice e)) (h3 : P.underlying e = some (.int .u8)) : s2K P S K src dst s = (s.size ≤ 1099511627776 ∧ K (.slice (some ⟨S.M.length, 0, none⟩) s.size s.size) (S.M ++ [.live ⟨byteCells s, true, false, e, 1⟩])) := by simp [s2K, h1, h2, h3]
theorem lenK_str {S : St} {t : TypeId} {s : ByteArray} (h : P.underlying t = some .string) : lenK P S K t (.string s) = K (.int .i64 (s.size : Int)) S.M := by simp [lenK, h]
theorem lenK_sl {S : St} {t e : TypeId} {q : Option Addr} {m c : Nat} (h : P.underlying t = some (.slice e)) : lenK P S K t (.slice q m c) = K (.int .i64 (m : Int)) S.M := by simp [lenK, h]
theorem awCall_det' {f : FuncId} {args : List Value} {v : Value} {M' : Mem} {b' : Nat} (h : Det P b' f args M v M') (hb : b ≤ b') (hK : K v M') : awCall P d b f args M K := awCall_det (h.weaken hb) hK
end

/-- Memory that is known in part, and more behind it. -/
theorem cellAt_app {M : Mem} {id off : Nat} {v : Value} (h : cellAt M id off = some v) (L : Mem) : cellAt (M ++ L) id off = some v := by
  unfold cellAt at h ⊢
  cases hm : M[id]? with
  | none => rw [hm] at h; cases h
  | some s => rw [List.getElem?_append_left (List.getElem?_eq_some_iff.1 hm).1]; exact h
theorem cellsAt_app {M : Mem} {id off k : Nat} {vs : List Value} (h : cellsAt M id off k = some vs) (L : Mem) : cellsAt (M ++ L) id off k = some vs := by
  unfold cellsAt at h ⊢
  cases hm : M[id]? with
  | none => rw [hm] at h; cases h
  | some s => rw [List.getElem?_append_left (List.getElem?_eq_some_iff.1 hm).1]; exact h
@[simp] theorem cellAt_new {M L : Mem} {k off : Nat} : cellAt (M ++ L) (M.length + k) off = cellAt L k off := by
  unfold cellAt
  rw [List.getElem?_append_right (by omega), show M.length + k - M.length = k by omega]
@[simp] theorem cellAt_new0 {M L : Mem} {off : Nat} : cellAt (M ++ L) M.length off = cellAt L 0 off := by
  have := cellAt_new (M := M) (L := L) (k := 0) (off := off)
  simpa using this
@[simp] theorem cellsAt_new {M L : Mem} {k off n : Nat} : cellsAt (M ++ L) (M.length + k) off n = cellsAt L k off n := by
  unfold cellsAt
  rw [List.getElem?_append_right (by omega), show M.length + k - M.length = k by omega]
@[simp] theorem cellsAt_new0 {M L : Mem} {off n : Nat} : cellsAt (M ++ L) M.length off n = cellsAt L 0 off n := by
  have := cellsAt_new (M := M) (L := L) (k := 0) (off := off) (n := n)
  simpa using this
@[simp] theorem cellAt_zero {r : Row} {L : Mem} {off : Nat} : cellAt (.live r :: L) 0 off = r.cells[off]? := (rfl)
@[simp] theorem cellAt_succ {s : Slot} {L : Mem} {k off : Nat} : cellAt (s :: L) (k + 1) off = cellAt L k off := (rfl)
@[simp] theorem cellsAt_zero {r : Row} {L : Mem} {off n : Nat} : cellsAt (.live r :: L) 0 off n = if off + n ≤ r.cells.length then some ((r.cells.drop off).take n) else none := (rfl)
@[simp] theorem cellsAt_succ {s : Slot} {L : Mem} {k off n : Nat} : cellsAt (s :: L) (k + 1) off n = cellsAt L k off n := (rfl)
def putL : List Slot → Nat → Nat → List Value → Option (List Slot)
  | [], _, _, _ => none
  | .live r :: L, 0, off, vs => if r.own = true ∧ off + vs.length ≤ r.cells.length ∧ vs.all oneV = true then some (.live { r with cells := splice r.cells off vs } :: L) else none
  | _ :: _, 0, _, _ => none
  | s :: L, k + 1, off, vs => (putL L k off vs).map (s :: ·)
theorem putL_set : ∀ (L : List Slot) (k off : Nat) (vs : List Value), putL L k off vs = match L[k]? with
    | some (.live r) => if r.own = true ∧ off + vs.length ≤ r.cells.length ∧ vs.all oneV = true then some (L.set k (.live { r with cells := splice r.cells off vs })) else none
    | _ => none
  | [], k, off, vs => by simp [putL]
  | .live r :: L, 0, off, vs => by simp [putL]
  | .dead :: L, 0, off, vs => by simp [putL]
  | .hole :: L, 0, off, vs => by simp [putL]
  | .mp _ _ :: L, 0, off, vs => by simp [putL]
  | s :: L, k + 1, off, vs => by
    have := putL_set L k off vs
    cases s <;> (simp only [putL, this, List.getElem?_cons_succ]; split <;> (try split) <;> simp)
@[simp] theorem putCells_new {b : Nat} {M L : Mem} {k off : Nat} {vs : List Value} (hb : b ≤ M.length) : putCells b (M ++ L) (M.length + k) off vs = (putL L k off vs).map (M ++ ·) := by
  unfold putCells
  rw [putL_set, List.getElem?_append_right (by omega), show M.length + k - M.length = k by omega]
  cases hL : L[k]? with
  | none => rfl
  | some s =>
    cases s with
    | live r =>
      simp only
      have e : (b ≤ M.length + k ∧ r.own = true ∧ off + vs.length ≤ r.cells.length ∧ vs.all oneV = true) ↔ (r.own = true ∧ off + vs.length ≤ r.cells.length ∧ vs.all oneV = true) := ⟨fun h => h.2, fun h => ⟨by omega, h⟩⟩
      simp only [e]
      split
      · simp [List.set_append_right]
      · rfl
    | dead => rfl
    | hole => rfl
    | mp r es => rfl
@[simp] theorem putCells_new0 {b : Nat} {M L : Mem} {off : Nat} {vs : List Value} (hb : b ≤ M.length) : putCells b (M ++ L) M.length off vs = (putL L 0 off vs).map (M ++ ·) := by
  have := putCells_new (L := L) (k := 0) (off := off) (vs := vs) hb
  simpa using this
@[simp] theorem putL_zero {r : Row} {L : List Slot} {off : Nat} {vs : List Value} : putL (.live r :: L) 0 off vs = if r.own = true ∧ off + vs.length ≤ r.cells.length ∧ vs.all oneV = true then some (.live { r with cells := splice r.cells off vs } :: L) else none := (rfl)
@[simp] theorem putL_succ {s : Slot} {L : List Slot} {k off : Nat} {vs : List Value} : putL (s :: L) (k + 1) off vs = (putL L k off vs).map (s :: ·) := by cases s <;> rfl
@[simp] theorem splice_nil {cs : List Value} {off : Nat} : splice cs off [] = cs := (rfl)
@[simp] theorem splice_cons {cs : List Value} {off : Nat} {v : Value} {vs : List Value} : splice cs off (v :: vs) = splice (cs.set off v) (off + 1) vs := (rfl)
@[simp] theorem oneV_int {k : IntKind} {n : Int} : oneV (.int k n) = true := (rfl)
@[simp] theorem oneV_bool {t : Bool} : oneV (.bool t) = true := (rfl)
@[simp] theorem oneV_str {s : ByteArray} : oneV (.string s) = true := (rfl)
@[simp] theorem oneV_sl {A : Option Addr} {n c : Nat} : oneV (.slice A n c) = true := (rfl)
@[simp] theorem oneV_ptr {A : Option Addr} : oneV (.pointer A) = true := (rfl)
@[simp] theorem ow_map {α β : Type} {o : Option α} {f : α → β} {Q : β → Prop} : ow (o.map f) Q = ow o fun x => Q (f x) := by cases o <;> rfl
@[simp] theorem ow_ite {α : Type} {c : Prop} [Decidable c] {a : α} {Q : α → Prop} : ow (if c then some a else none) Q = (c ∧ Q a) := by
  by_cases h : c <;> simp [h, ow]
@[simp] theorem fill_nil {f : Nat → Option (Nat × Nat)} {a : Array Value} : Instr.fill f a [] = some a := by simp [Instr.fill]
theorem fill_one {k : Nat} {z : List Value} {v : Value} (hk : 0 < k) (hz : z.length = k) (hv : v.cells.size = k) : Instr.fill (fun i => some (i * k, k)) (zrow z 1).toArray [(0, v)] = some v.cells := by
  have := Go.Great.fill_whole hk [v] (zrow z 1).toArray (by simpa using hv) (by simp [zrow, hz])
  simpa using this
@[simp] theorem fill_agg {k : Nat} {z : List Value} {cs : Array Value} (hk : 0 < k) (hz : z.length = k) (hv : cs.size = k) : Instr.fill (fun i => some (i * k, k)) (zrow z 1).toArray [(0, .agg cs)] = some cs := fill_one hk hz hv
@[simp] theorem fill_int {z : Value} {kd : IntKind} {n : Int} : Instr.fill (fun i => some (i * 1, 1)) (zrow [z] 1).toArray [(0, .int kd n)] = some #[.int kd n] := fill_one (by omega) rfl rfl
@[simp] theorem zrow_zero' {z : List Value} : zrow z 0 = [] := (rfl)
theorem keeps_app {M : Mem} (L : Mem) : Keeps M (M ++ L) := (Keeps.refl M).app L
def tmpOf : ResultVar → Tmp
  | .tmp t => t
  | .cell t _ => t
def isTmp : ResultVar → Bool
  | .tmp _ => true
  | _ => false
@[simp] theorem tmpOf_tmp (t : Tmp) : tmpOf (.tmp t) = t := (rfl)
/-- A function's contract, by its code. -/
theorem ctr_fn {P : Program} {b : Nat} {f : FuncId} {fn : Func} {c : Code} {n : Nat} {rs : List ResultVar} {args : List Value} {M : Mem} {K : Value → Mem → Prop} (hf : P.funcs[f]? = some fn) (hb : fn.body = some c) (hn : fn.ntmps = n) (hrs : fn.results = ⟨rs⟩)
    (hnm : (fn.name == "runtime.NumGoroutine") = false) (hok : rs.all isTmp = true) (hle : args.length ≤ n) (h : sAw P b c (retQ (rs.map tmpOf) K) ⟨n, argT 0 args, M⟩) : Ctr P b f args M K := by
  refine ctr_of hf hnm hb hn ?_ hle h
  rw [hrs]
  show rs = _
  clear hrs h
  induction rs with
  | nil => rfl
  | cons r rs ih =>
    simp only [List.all_cons, Bool.and_eq_true] at hok
    cases r with
    | tmp t => simp only [List.map_cons, tmpOf_tmp]; rw [← ih hok.2]
    | cell _ _ => cases hok.1
theorem det_fn {P : Program} {f : FuncId} {fn : Func} {c : Code} {n : Nat} {rs : List ResultVar} {args : List Value} {M : Mem} {v : Value} (hf : P.funcs[f]? = some fn) (hb : fn.body = some c) (hn : fn.ntmps = n) (hrs : fn.results = ⟨rs⟩)
    (hnm : (fn.name == "runtime.NumGoroutine") = false) (hok : rs.all isTmp = true) (hp : noAddr v = true) (hle : args.length ≤ n) (h : sAw P M.length c (retQ (rs.map tmpOf) fun v' M' => v' = v ∧ Keeps M M') ⟨n, argT 0 args, M⟩) : Det P M.length f args M v M :=
  (ctr_fn hf hb hn hrs hnm hok hle h).pure hp
theorem ctr_fnC {P : Program} {b : Nat} {f : FuncId} {fn : Func} {c : Code} {n : Nat} {rs : List ResultVar} {args : List Value} {M : Mem} {K : Value → Mem → Prop} (hf : P.funcs[f]? = some fn) (hb : fn.body = some c) (hn : fn.ntmps = n) (hrs : fn.results = ⟨rs⟩)
    (hnm : (fn.name == "runtime.NumGoroutine") = false) (hle : args.length ≤ n) (h : sAw P b c (retC P rs K) ⟨n, argT 0 args, M⟩) : Ctr P b f args M K :=
  ctr_ofC hf hnm hb hn (by rw [hrs]) hle h
theorem det_fnC {P : Program} {f : FuncId} {fn : Func} {c : Code} {n : Nat} {rs : List ResultVar} {args : List Value} {M : Mem} {v : Value} (hf : P.funcs[f]? = some fn) (hb : fn.body = some c) (hn : fn.ntmps = n) (hrs : fn.results = ⟨rs⟩)
    (hnm : (fn.name == "runtime.NumGoroutine") = false) (hp : noAddr v = true) (hle : args.length ≤ n) (h : sAw P M.length c (retC P rs fun v' M' => v' = v ∧ Keeps M M') ⟨n, argT 0 args, M⟩) : Det P M.length f args M v M :=
  (ctr_fnC hf hb hn hrs hnm hle h).pure hp
@[simp] theorem retC_ret {P : Program} {rs : List ResultVar} {K : Value → Mem → Prop} {S : St} : retC P rs K .ret S = resQ P S rs fun vs => K (tupV vs) S.M := (rfl)
@[simp] theorem retC_normal {P : Program} {rs : List ResultVar} {K : Value → Mem → Prop} {S : St} : retC P rs K .normal S = resQ P S rs fun vs => K (tupV vs) S.M := (rfl)
@[simp] theorem retC_exit {P : Program} {rs : List ResultVar} {K : Value → Mem → Prop} {S : St} {i : Nat} : retC P rs K (.exit i) S = False := (rfl)
@[simp] theorem resQ_nil {P : Program} {S : St} {k : List Value → Prop} : resQ P S [] k = k [] := (rfl)
@[simp] theorem resQ_tmp {P : Program} {S : St} {k : List Value → Prop} {t : Tmp} {rs : List ResultVar} : resQ P S (.tmp t :: rs) k = ow (S.get t) fun v => resQ P S rs fun vs => k (v :: vs) := (rfl)
@[simp] theorem resQ_cell {P : Program} {S : St} {k : List Value → Prop} {t : Tmp} {ty : TypeId} {rs : List ResultVar} : resQ P S (.cell t ty :: rs) k = ow (S.get t) fun v => loadK P S ty (fun c _ => resQ P S rs fun vs => k (c :: vs)) v := (rfl)
/-- Stable operations that leave no memory behind them. -/
noncomputable def awE (P : Program) (b : Nat) (ops : Array Oper) (Q : St → Prop) : Nat → List Oper → St → Prop
  | 0, os, S => awOps P b ops Q os S
  | _ + 1, [], _ => False
  | m + 1, o :: os, S => awG ops o S (awOp P true S.M.length o S fun v M' => M' = S.M ∧ awE P b ops Q m os (S.put o.dst v)) (awE P b ops Q m os (S.put o.dst undef))
theorem maskP_empty {p : Nat → Bool} : ∀ (A : List (List Slot)) (j : Nat), (∀ s ∈ A, s = []) → maskP A j p = []
  | [], _, _ => rfl
  | s :: A, j, h => by
    have h1 := h s (by simp)
    subst h1
    simp only [maskP, holes_nil]
    rw [maskP_empty A (j + 1) fun s hs => h s (by simp [hs])]
    simp
theorem flatten_empty : ∀ (A : List (List Slot)), (∀ s ∈ A, s = []) → A.flatten = []
  | [], _ => rfl
  | s :: A, h => by
    have h1 := h s (by simp)
    subst h1
    simpa using fun s hs => h s (by simp [hs])
theorem put_M {S : St} {d : Option Tmp} {v : Value} : (S.put d v).M = S.M := by cases d <;> rfl
theorem put_n {S : St} {d : Option Tmp} {v : Value} : (S.put d v).n = S.n := by cases d <;> rfl
theorem awE_D {P : Program} {b : Nat} {ops : Array Oper} {dp : List (List Nat)} {Q : St → Prop} : ∀ (m k : Nat) (os : List Oper) (S : St) (segs : List (List Slot)), os = ops.toList.drop k → (∀ s ∈ segs, s = []) → awE P b ops Q m os S →
    awD P ops dp S.n S.M (fun S' => awOps P b ops Q (ops.toList.drop (k + m)) S') (os.take m) k S.T segs := by
  intro m
  induction m with
  | zero =>
    intro k os S segs hos hs h
    simp only [List.take_zero, awD, flatten_empty segs hs, List.append_nil, Nat.add_zero]
    rw [← hos]
    exact h
  | succ m ih =>
    intro k os S segs hos hs h
    match os, hos with
    | [], _ => exact h.elim
    | o :: os, hos =>
      have hos' : os = ops.toList.drop (k + 1) := by
        have := congrArg List.tail hos
        simpa using this
      simp only [List.take_succ_cons, awD, maskP_empty segs 0 hs, List.append_nil]
      simp only [awE] at h
      have go : ∀ v, awE P b ops Q m os (S.put o.dst v) → awD P ops dp S.n S.M (fun S' => awOps P b ops Q (ops.toList.drop (k + (m + 1))) S') (os.take m) (k + 1) (St.put ⟨S.n, S.T, S.M⟩ o.dst v).T (segs ++ [[]]) := by
        intro v hv
        have := ih (k + 1) os (S.put o.dst v) (segs ++ [[]]) hos' (fun s h => by rcases List.mem_append.1 h with h | h; exact hs s h; simpa using h) hv
        rw [put_M, put_n] at this
        rw [show k + (m + 1) = k + 1 + m by omega]
        cases hd : o.dst <;> rw [hd] at this <;> exact this
      refine awG_mono h (fun hA => ?_) (fun hB => go undef hB)
      obtain ⟨v, M', ⟨h1, h2⟩, h3⟩ := awOp_pt o _ hA
      subst h1
      exact h3 _ (by rw [List.drop_length]; exact go v h2)
def sE (P : Program) (b : Nat) (ops : Array Oper) (Q : St → Prop) (m : Nat) (os : List Oper) (S : St) (_ : Tk (ops, Q, os) := tk) : Prop := awE P b ops Q m os S
section
variable {P : Program} {b : Nat} {ops : List Oper} {Q : St → Prop} {d : Option Tmp} {op : Op} {t : TypeId} {p : String} {af : Array Edge} {os : List Oper} {n m : Nat} {T : List (Nat × Value)} {M : Mem}
@[simp] theorem sE_zero {S : St} : sE P b ⟨ops⟩ Q 0 os S = sOps P b ⟨ops⟩ Q os S := (rfl)
@[simp] theorem sE_cons : sE P b ⟨ops⟩ Q (m + 1) (⟨d, op, t, p, af, none⟩ :: os) ⟨n, T, M⟩ = sOp P true M.length ⟨d, op, t, p, af, none⟩ ⟨n, T, M⟩ fun v M' => M' = M ∧ sE P b ⟨ops⟩ Q m os (St.put ⟨n, T, M⟩ d v) := (rfl)
@[simp] theorem sE_guard {j : Nat} {w : Bool} : sE P b ⟨ops⟩ Q (m + 1) (⟨d, op, t, p, af, some (j, w)⟩ :: os) ⟨n, T, M⟩ = ow ((dstT ops j).bind (St.get ⟨n, T, M⟩)) fun g => guardV w g (sOp P true M.length ⟨d, op, t, p, af, some (j, w)⟩ ⟨n, T, M⟩ fun v M' => M' = M ∧ sE P b ⟨ops⟩ Q m os (St.put ⟨n, T, M⟩ d v)) (sE P b ⟨ops⟩ Q m os (St.put ⟨n, T, M⟩ d undef)) := by
  unfold dstT
  rw [← dstL_eq]
  simp only [sE, awE, awG]
  rfl
theorem awDraw_E {S : St} (m : Nat) (dp : List (List Nat)) (h1 : P.follows .mixedOrders = true) (h2 : drawOk ⟨ops⟩ m dp = true) (h : sE P b ⟨ops⟩ Q m ops S) : awDraw P b ⟨ops⟩ Q S := by
  refine .inl ⟨m, dp, h1, .inl h2, ?_⟩
  have := awE_D (P := P) (dp := dp) m 0 ops S [] (by simp) (by simp) h
  simpa using this
end
/-- Stable operations that may lay memory: each sees what it hangs on, the rest are holes. -/
noncomputable def awF (P : Program) (b : Nat) (ops : Array Oper) (Q : St → Prop) (dp : List (List Nat)) (n : Nat) (M0 : Mem) : Nat → Nat → List Oper → List (Nat × Value) → List (List Slot) → Prop
  | 0, _, os, T, segs => awOps P b ops Q os ⟨n, T, M0 ++ segs.flatten⟩
  | _ + 1, _, [], _, _ => False
  | m + 1, k, o :: os, T, segs =>
    awG ops o ⟨n, T, M0 ++ maskP segs 0 fun j => (dp.getD k []).contains j⟩
      (awOp P true (M0 ++ maskP segs 0 fun j => (dp.getD k []).contains j).length o ⟨n, T, M0 ++ maskP segs 0 fun j => (dp.getD k []).contains j⟩ fun v M' =>
        ∃ N, M' = (M0 ++ maskP segs 0 fun j => (dp.getD k []).contains j) ++ N ∧ awF P b ops Q dp n M0 m (k + 1) os (St.put ⟨n, T, M0⟩ o.dst v).T (segs ++ [N]))
      (awF P b ops Q dp n M0 m (k + 1) os (St.put ⟨n, T, M0⟩ o.dst undef).T (segs ++ [[]]))
theorem awF_D {P : Program} {b : Nat} {ops : Array Oper} {dp : List (List Nat)} {Q : St → Prop} {n : Nat} {M0 : Mem} : ∀ (m k : Nat) (os : List Oper) (T : List (Nat × Value)) (segs : List (List Slot)), os = ops.toList.drop k → awF P b ops Q dp n M0 m k os T segs →
    awD P ops dp n M0 (fun S' => awOps P b ops Q (ops.toList.drop (k + m)) S') (os.take m) k T segs := by
  intro m
  induction m with
  | zero =>
    intro k os T segs hos h
    simp only [List.take_zero, awD, Nat.add_zero]
    rw [← hos]
    exact h
  | succ m ih =>
    intro k os T segs hos h
    match os, hos with
    | [], _ => exact h.elim
    | o :: os, hos =>
      have hos' : os = ops.toList.drop (k + 1) := by
        have := congrArg List.tail hos
        simpa using this
      simp only [List.take_succ_cons, awD]
      simp only [awF] at h
      rw [show k + (m + 1) = k + 1 + m by omega]
      refine awG_mono h (fun hA => ?_) (fun hB => ih (k + 1) os _ _ hos' hB)
      obtain ⟨v, M', ⟨N, h1, h2⟩, h3⟩ := awOp_pt o _ hA
      subst h1
      exact h3 _ (by rw [List.drop_left]; exact ih (k + 1) os _ _ hos' h2)
def sF (P : Program) (b : Nat) (ops : Array Oper) (Q : St → Prop) (dp : List (List Nat)) (n : Nat) (M0 : Mem) (m k : Nat) (os : List Oper) (T : List (Nat × Value)) (segs : List (List Slot)) (_ : Tk (ops, Q, os) := tk) : Prop := awF P b ops Q dp n M0 m k os T segs
section
variable {P : Program} {b : Nat} {ops : List Oper} {Q : St → Prop} {d : Option Tmp} {op : Op} {t : TypeId} {p : String} {af : Array Edge} {os : List Oper} {n m k : Nat} {T : List (Nat × Value)} {M : Mem} {dp : List (List Nat)} {segs : List (List Slot)}
@[simp] theorem sF_zero : sF P b ⟨ops⟩ Q dp n M 0 k os T segs = sOps P b ⟨ops⟩ Q os ⟨n, T, M ++ segs.flatten⟩ := (rfl)
@[simp] theorem sF_cons : sF P b ⟨ops⟩ Q dp n M (m + 1) k (⟨d, op, t, p, af, none⟩ :: os) T segs = sOp P true (M ++ maskP segs 0 fun j => (dp.getD k []).contains j).length ⟨d, op, t, p, af, none⟩ ⟨n, T, M ++ maskP segs 0 fun j => (dp.getD k []).contains j⟩ fun v M' =>
    ∃ N, M' = (M ++ maskP segs 0 fun j => (dp.getD k []).contains j) ++ N ∧ sF P b ⟨ops⟩ Q dp n M m (k + 1) os (St.put ⟨n, T, M⟩ d v).T (segs ++ [N]) := (rfl)
@[simp] theorem sF_guard {j : Nat} {w : Bool} : sF P b ⟨ops⟩ Q dp n M (m + 1) k (⟨d, op, t, p, af, some (j, w)⟩ :: os) T segs = ow ((dstT ops j).bind (St.get ⟨n, T, M⟩)) fun g => guardV w g (sOp P true (M ++ maskP segs 0 fun j => (dp.getD k []).contains j).length ⟨d, op, t, p, af, some (j, w)⟩ ⟨n, T, M ++ maskP segs 0 fun j => (dp.getD k []).contains j⟩ fun v M' =>
    ∃ N, M' = (M ++ maskP segs 0 fun j => (dp.getD k []).contains j) ++ N ∧ sF P b ⟨ops⟩ Q dp n M m (k + 1) os (St.put ⟨n, T, M⟩ d v).T (segs ++ [N])) (sF P b ⟨ops⟩ Q dp n M m (k + 1) os (St.put ⟨n, T, M⟩ d undef).T (segs ++ [[]])) := by
  unfold dstT
  rw [← dstL_eq]
  simp only [sF, awF, awG]
  rfl
@[simp] theorem maskP_nil {p : Nat → Bool} {j : Nat} : maskP [] j p = [] := (rfl)
@[simp] theorem maskP_cons {p : Nat → Bool} {j : Nat} {s : List Slot} {ss : List (List Slot)} : maskP (s :: ss) j p = (if p j = true then s else holes s) ++ maskP ss (j + 1) p := (rfl)
@[simp] theorem holes_cons {s : Slot} {ss : List Slot} : holes (s :: ss) = .hole :: holes ss := (rfl)
end
theorem awDraw_M {P : Program} {b : Nat} {ops : List Oper} {Q : St → Prop} {S : St} (m : Nat) (dp : List (List Nat)) (F : List Nat) (h1 : P.follows .mixedOrders = true) (h2 : drawBase ⟨ops⟩ m dp = true) (h3 : drawLag ⟨ops⟩ m dp F = true) (h : sF P b ⟨ops⟩ Q dp S.n S.M m 0 ops S.T []) : awDraw P b ⟨ops⟩ Q S := by
  refine .inl ⟨m, dp, h1, .inr ⟨F, h2, h3⟩, ?_⟩
  have := awF_D (P := P) (dp := dp) (n := S.n) (M0 := S.M) m 0 ops S.T [] (by simp) h
  simpa using this
/-- A region that draws its order, by an invariant over what has been done. -/
theorem awDraw_I {P : Program} {b : Nat} {ops : List Oper} {Q : St → Prop} {S : St} (I : (Nat → Bool) → St → Prop) (h1 : P.follows .mixedOrders = true) (h2 : drawBack ⟨ops⟩ = true) (h3 : I (fun _ => false) S)
    (h4 : ∀ X S k o, I X S → ops[k]? = some o → X k = false → (∀ e ∈ o.after.toList, Region.binds .any e = true → X e.on = true) → sOp P false b o S fun v M' => I (upX X k) (St.put { S with M := M' } o.dst v))
    (h5 : ∀ X S, (∀ k, k < ops.length → X k = true) → I X S → Q S) : awDraw P b ⟨ops⟩ Q S :=
  .inr (.inl ⟨h1, drawBack_G h2, I, h3, fun X S k o hI ho hX ha => by
    unfold awG
    rw [(drawBack_spec h2 k o ho).1]
    exact h4 X S k o hI (by simpa using ho) hX ha, fun X S hX => h5 X S (by simpa using hX)⟩)
/-- The same, with guarded operations. -/
theorem awDraw_IG {P : Program} {b : Nat} {ops : List Oper} {Q : St → Prop} {S : St} (I : (Nat → Bool) → St → Prop) (h1 : P.follows .mixedOrders = true) (h2 : drawBackG ⟨ops⟩ = true) (h3 : I (fun _ => false) S)
    (h4 : ∀ X S k o, I X S → ops[k]? = some o → X k = false → (∀ e ∈ o.after.toList, Region.binds .any e = true → X e.on = true) → awG ⟨ops⟩ o S (sOp P false b o S fun v M' => I (upX X k) (St.put { S with M := M' } o.dst v)) (I (upX X k) (S.put o.dst undef)))
    (h5 : ∀ X S, (∀ k, k < ops.length → X k = true) → I X S → Q S) : awDraw P b ⟨ops⟩ Q S :=
  .inr (.inl ⟨h1, h2, I, h3, fun X S k o hI ho => h4 X S k o hI (by simpa using ho), fun X S hX => h5 X S (by simpa using hX)⟩)
/-- What a loop's round has to show: the invariant, counted down. -/
def LpI (I : Nat → List (Nat × Value) → Mem → Prop) (n m : Nat) (S : St) (_ : Tk I := tk) : Prop := S.n = n ∧ ∃ k, k < m ∧ I k S.T S.M
theorem lpI {I : Nat → List (Nat × Value) → Mem → Prop} {n m : Nat} {T : List (Nat × Value)} {M : Mem} (k : Nat) (hk : k < m) (h : I k T M) : LpI I n m ⟨n, T, M⟩ := ⟨rfl, k, hk, h⟩
def sRound (I : Nat → List (Nat × Value) → Mem → Prop) (n m : Nat) (Q : Ex → St → Prop) (_ : Tk (I, Q)) : Ex → St → Prop := exThen (fun S => LpI I n m S) Q
section
variable {I : Nat → List (Nat × Value) → Mem → Prop} {n m : Nat} {Q : Ex → St → Prop} {S : St}
@[simp] theorem sRound_normal {t : Tk (I, Q)} : sRound I n m Q t .normal S = LpI I n m S := (rfl)
@[simp] theorem sRound_exit {t : Tk (I, Q)} {i : Nat} : sRound I n m Q t (.exit i) S = Q (.exit i) S := (rfl)
@[simp] theorem sRound_ret {t : Tk (I, Q)} : sRound I n m Q t .ret S = Q .ret S := (rfl)
end
theorem awLoop_T {P : Program} {b n : Nat} {c : Code} {Q : Ex → St → Prop} {T0 : List (Nat × Value)} {M0 : Mem} (I : Nat → List (Nat × Value) → Mem → Prop) (m : Nat) (h0 : I m T0 M0)
    (hr : ∀ m T M, I m T M → sAw P b c (sRound I n m Q tk) ⟨n, T, M⟩) : awLoop (aw P b c) Q ⟨n, T0, M0⟩ := by
  refine ⟨fun m S => S.n = n ∧ I m S.T S.M, ⟨m, rfl, h0⟩, fun m S hS => ?_⟩
  obtain ⟨n', T, M⟩ := S
  obtain ⟨rfl, hI⟩ := hS
  have := hr m T M hI
  have e : sRound I n' m Q tk = exThen (fun S'' => ∃ k, k < m ∧ (S''.n = n' ∧ I k S''.T S''.M)) Q := by
    funext ex S
    cases ex <;> simp [sRound, LpI, exThen]
    constructor
    · rintro ⟨h1, k, h2, h3⟩; exact ⟨k, h2, h1, h3⟩
    · rintro ⟨k, h2, h1, h3⟩; exact ⟨h1, k, h2, h3⟩
  rw [← e]
  exact this
attribute [irreducible] sAw sOps sOp sThen sBlock guardV dstT sE sF LpI sRound
end Go.Proofs.YtodbjnngkonklaaGreat
