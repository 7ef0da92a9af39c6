/- Parts of the proof, together: The program's score out of events. A row of one's own in memory: written, read. The reference sorts notes. The reference sorts the notes of a score. The reference's score out of events. ScoreOfStream at the level of laws. No conditions. -/
import Derived.Test.YtbpaeonfebmomaaZzE13
import Derived.Test.YtbpaeonfebmomaaZzE8
import Derived.Test.YtbpaeonfebmomaaZzE10
namespace Go.Proofs.Ytbpaeonfebmomaa
open Go.RowKit
set_option linter.unusedVariables false
set_option linter.unusedSimpArgs false
set_option maxRecDepth 100000
attribute [local simp] List.getElem?_cons_zero
attribute [local irreducible] awCond awCall awLoop awDraw ow retQ retC resQ Keeps
theorem okE_elX {l : List StreamEvent} (h : okE l = true) {i : Nat} (hi : i < l.length) : eventB (el l i) = true := by
  unfold okE at h
  simp only [Bool.and_eq_true] at h
  exact List.all_eq_true.1 h.2 _ (el_mem hi)
theorem okE_lenX {l : List StreamEvent} (h : okE l = true) : l.length ≤ 200 := by
  unfold okE at h
  simp only [Bool.and_eq_true, decide_eq_true_eq] at h
  exact h.1
theorem len_mp {P : Program} {S : St} {K : Value → Mem → Prop} {t kt et : TypeId} {r id : Nat} {es : List (Value × Value)} (hu : P.underlying t = some (.map kt et)) (hm : S.M[id]? = some (.mp r es)) (hK : K (.int .i64 ((es.length : Nat) : Int)) S.M) : lenK P S K t (.map (some r)) := by
  unfold lenK
  rw [hu]
  exact ⟨id, es, hm, hK⟩
theorem snd_build (a b : Int) : Instr.fill (fun x => [(0, 1), (1, 1)][x]?) #[iv 0, iv 0] [(0, iv a), (1, iv b)] = some #[iv a, iv b] := by rfl
theorem snd_inj {o k o' k' : Int} : sndV o k = sndV o' k' ↔ o = o' ∧ k = k' := by
  constructor
  · intro h
    simp at h
    exact h
  · rintro ⟨rfl, rfl⟩; rfl
theorem ent_get {os : List Opn} {i : Nat} (hi : i < os.length) : (entO os)[i]? = some (sndV (el os i).o (el os i).k, begV (el os i)) := by
  unfold entO
  rw [List.getElem?_map, List.getElem?_eq_getElem hi, el_eq hi]
  rfl
theorem ent_inv {os : List Opn} {i : Nat} {x : Value × Value} (h : (entO os)[i]? = some x) : i < os.length ∧ x = (sndV (el os i).o (el os i).k, begV (el os i)) := by
  have hi := (List.getElem?_eq_some_iff.1 h).1
  unfold entO at hi
  rw [List.length_map] at hi
  rw [ent_get hi] at h
  injection h with h
  exact ⟨hi, h.symm⟩
theorem ent_find {os : List Opn} {e : StreamEvent} : findE (sndV e.o e.k) (entO os) 0 = (fndO os e).map fun i => (i, begV (el os i)) := by
  cases hf : fndO os e with
  | none =>
    have hn := fndO_none hf
    rw [findE_none]
    · rfl
    · intro x hx he
      unfold entO at hx
      obtain ⟨y, hy, rfl⟩ := List.mem_map.1 hx
      exact hn y hy (snd_inj.1 he)
  | some i =>
    obtain ⟨h1, h2, h3⟩ := fndO_some hf
    have hq := hf
    unfold fndO at hq
    obtain ⟨q1, q2, q3⟩ := List.findIdx?_eq_some_iff_getElem.1 hq
    rw [findE_at (entO os) 0 i _ (ent_get h1) (snd_inj.2 ⟨h2, h3⟩) fun q x hlt hx he => ?_]
    · simp
    · obtain ⟨g1, rfl⟩ := ent_inv hx
      have := q3 q hlt
      rw [el_eq g1] at this
      rw [snd_inj] at he
      exact this (Opn.is_iff.2 he)
theorem ent_keys {D now : Int} {os : List Opn} {ns : List Note} (hI : InvO D now os ns) {e : StreamEvent} (he : eventB e = true) : KeyLawP Try.prog 75 (sndV e.o e.k) ((entO os).map (·.1)) := by
  unfold eventB at he
  simp only [Bool.and_eq_true] at he
  have b2 := inB_iff.1 he.1.1.2
  have b3 := inB_iff.1 he.1.2
  refine snd_keyLaw _ _ (by omega) (by omega) _ (fun x hx => ?_) ?_
  · obtain ⟨y, hy, rfl⟩ := List.mem_map.1 hx
    unfold entO at hy
    obtain ⟨z, hz, rfl⟩ := List.mem_map.1 hy
    have := hI.bd z hz
    exact ⟨z.o, z.k, rfl, by omega, by omega⟩
  · unfold entO
    rw [List.map_map]
    refine List.Pairwise.map _ (fun a b hab => ?_) hI.keys
    intro hh
    exact hab (snd_inj.1 hh)
theorem ent_plain {os : List Opn} : ∀ e ∈ entO os, plainD e.2 = true := by
  intro e he
  unfold entO at he
  obtain ⟨z, hz, rfl⟩ := List.mem_map.1 he
  simp [plainD, begV, plainV]
theorem beg_zero (w : World) : (zeroValue 77).run Try.prog w = .ok (.agg #[iv 0, iv 0]) w := by
  simp [Try.zeroValue77]
theorem end_box {M M' : Mem} {x : Value} {Q : Value → Mem → Prop} {c : Value} {u : Value} (hbox : M'[M.length]? = some (.live ⟨[u], true, true, 26, 1⟩)) (h1 : oneV x = true) (hQ : Q (.tuple #[.agg #[x], c]) (M'.set M.length (.live ⟨[x], true, true, 26, 1⟩))) :
    ow (putCells M.length M' M.length 0 [x]) fun M'' => ow (cellsAt M'' M.length 0 1) fun cs => Q (.tuple #[.agg cs.toArray, c]) M'' := by
  have hlt := (List.getElem?_eq_some_iff.1 hbox).1
  rw [put_whole (vs := [x]) hbox (Nat.le_refl _) rfl (by simp [h1])]
  refine ow_iff.2 ⟨_, rfl, ow_iff.2 ⟨[x], ?_, hQ⟩⟩
  simp [cellsAt, hlt]
theorem sos_err {D c : Int} {l : List StreamEvent} (hv0 : sosV l D = if (sosG D l 0 [] []).2 = 0 then (sortN (sosG D l 0 [] []).1, 0) else ([], (sosG D l 0 [] []).2)) (hg : sosG D l 0 [] [] = ([], c)) (hc : c ≠ 0) : sosV l D = ([], c) := by
  rw [hv0, hg]
  simp only
  rw [if_neg hc]
theorem note_oneN (N : Note) : (noteR.row N).all (fun u => u.oneCell') = true := by
  show ([iv N.an, iv N.ad, iv N.ln, iv N.ld, iv N.k, iv N.u, iv N.o] : List Value).all (fun u => u.oneCell') = true
  rfl
theorem map_erase {α β : Type} (f : α → β) : ∀ (l : List α) (i : Nat), (l.map f).eraseIdx i = (l.eraseIdx i).map f
  | [], _ => rfl
  | x :: l, 0 => rfl
  | x :: l, i + 1 => by simp [map_erase f l i]
theorem one_build (q : Option Addr) (n c : Nat) : Instr.fill (fun x => [(0, 1)][x]?) #[Value.slice none 0 0] [(0, .slice q n c)] = some #[.slice q n c] := by rfl
theorem Acc.set_apart {α : Type} {k : Nat} {R : RecV α k} {e : TypeId} {B : Nat} {M : Mem} {v : Value} {l : List α} {i : Nat} {s : Slot} (h : Acc R e B M v l) (ha : Apart v i) : Acc R e B (M.set i s) v l := by
  obtain ⟨A, n, c, rfl, hl, hA⟩ := h
  refine ⟨A, n, c, rfl, hl, ?_⟩
  rcases hA with hA | ⟨id, t, rfl, hid, hr⟩
  · exact .inl hA
  · refine .inr ⟨id, t, rfl, hid, ?_⟩
    have := ha _ _ _ _ rfl rfl
    rw [List.getElem?_set_ne (by simpa using this)]
    exact hr
set_option maxHeartbeats 2000000 in
theorem ScoreOfStream_i {M : Mem} {A : Option Addr} {n c : Nat} {l : List StreamEvent} (D : Int) (h : Sl streamEventR M A n l) (hn : n ≤ 1048576) :
    Ctr Try.prog M.length 11 [.slice A n c, iv D] M fun r M' => ScR M (sosV l D) r M' := by
  have hl := h.1
  first | (refine ctr_fn Try.func11 rfl Try.ntmps11 Try.results11 rfl rfl (by simp) ?_) | (refine ctr_fnC Try.func11 rfl Try.ntmps11 Try.results11 rfl (by simp) ?_)
  simp
  refine awCall_det' (isStream_a (h.app _) (by omega)) (by simp) ?_
  by_cases hok : okE l = true
  case neg =>
    simp at hok
    simp [hok]
    have e : sosV l D = ([], 1) := by unfold sosV; rw [if_pos hok]
    rw [e]
    exact ScR.no (keeps_app _)
  simp [hok]
  refine awCall_det' (within_a _ _ _) (by simp) ?_
  by_cases hd : inB D 1 960 = true
  case neg =>
    simp at hd
    simp [hd]
    have e : sosV l D = ([], 2) := by unfold sosV; rw [if_neg (by simp [hok]), if_pos hd]
    rw [e]
    exact ScR.no (keeps_app _)
  simp [hd]
  intro r
  have hD := inB_iff.1 hd
  have h200 := okE_lenX hok
  have hall := fun i (hi : i < l.length) => okE_elX hok hi
  have hv0 : sosV l D = if (sosG D l 0 [] []).2 = 0 then (sortN (sosG D l 0 [] []).1, 0) else ([], (sosG D l 0 [] []).2) := by
    unfold sosV
    rw [if_neg (by simp [hok]), if_neg (by simp [hd])]
  refine awLoop_T (fun m T M' => ∃ (k : Nat) (v : Value) (now : Int) (os : List Opn) (ns : List Note), k + m = n ∧ Keeps M M' ∧ M'[M.length]? = some (.live ⟨[.slice none 0 0], true, true, 26, 1⟩) ∧ M'[M.length + 2]? = some (.mp r (entO os)) ∧ Apart v (M.length + 2) ∧
    Acc noteR 53 (M.length + 1) M' v ns ∧ InvO D now os ns ∧ (0 ≤ now ∧ now ≤ 268435455 * k) ∧ ns.length ≤ k ∧ os.length ≤ k ∧ sosG D l 0 [] [] = sosG D (l.drop k) now os ns ∧ look T 28 = some (iv k) ∧ look T 27 = some (iv n) ∧ look T 26 = some (.slice A n c) ∧ look T 8 = some (iv now) ∧ look T 7 = some (.map (some r)) ∧ look T 6 = some v ∧
    look T 5 = some (iv 0) ∧ look T 4 = some (.pointer (some ⟨M.length, 0, none⟩)) ∧ look T 1 = some (iv D)) n ⟨0, _, 0, [], [], by omega, keeps_app _, by simp, by simp [entO], ?_, ⟨_, 0, 0, rfl, rfl, .inr ⟨M.length + 1, true, rfl, Nat.le_refl _, by simp [cellsL]⟩⟩, .nil D, by omega, by simp, by simp, by simp, by simp, by simp, by simp, by simp, by simp, by simp, by simp, by simp, by simp⟩ ?_
  · intro A n c a e ea
    injection e with e1
    subst e1
    injection ea with ea
    subst ea
    show M.length + 2 ≠ M.length + 1
    omega
  rintro m T M1 ⟨k, v, now, os, ns, hm, kM, hbox, hmap, hap, hA, hI, hnow, hns, hos, hg, t28, t27, t26, t8, t7, t6, t5, t4, t1⟩
  have n1 := kM.len
  have hblt := (List.getElem?_eq_some_iff.1 hbox).1
  by_cases hlt : k < n
  case neg =>
    obtain rfl : k = n := by omega
    rw [List.drop_of_length_le (by omega)] at hg
    simp (disch := omega) [t28, t27, t26, t8, t7, t6, t5, t4, t1]
    refine len_mp (id := M.length + 2) (kt := 75) (et := 77) (by kernel_rfl) hmap ?_
    have hle : (entO os).length = os.length := by unfold entO; rw [List.length_map]
    rw [hle]
    rw [sosG] at hg
    by_cases h1 : os.length > 0
    · rw [if_pos h1] at hg
      simp (disch := omega) [t28, t27, t26, t8, t7, t6, t5, t4, t1, h1]
      refine end_box hbox rfl ?_
      rw [sos_err hv0 hg (by omega)]
      exact ScR.no (keeps_set kM (by omega))
    rw [if_neg h1] at hg
    simp (disch := omega) [t28, t27, t26, t8, t7, t6, t5, t4, t1, h1]
    obtain ⟨A1, n2, c2, rfl, hn2, hS1, ho1⟩ := hA.sl
    subst hn2
    by_cases h2 : ns.length > 60
    · rw [if_pos h2] at hg
      have h2' : (60 : Int) < ns.length := by omega
      simp (disch := omega) [t28, t27, t26, t8, t7, t6, t5, t4, t1, h2, h2']
      refine end_box hbox rfl ?_
      rw [sos_err hv0 hg (by omega)]
      exact ScR.no (keeps_set kM (by omega))
    rw [if_neg h2] at hg
    have h2' : ¬ (60 : Int) < ns.length := by omega
    simp (disch := omega) [t28, t27, t26, t8, t7, t6, t5, t4, t1, h2, h2']
    refine awCall_ctr ((sorted_i (c := c2) hS1 (by omega) hI.ok).weaken (by omega)) ?_
    rintro v3 M3 ⟨l', hp, hs, hA3, hk3⟩
    obtain ⟨A3, n3, c3, rfl, hn3, hS3, ho3⟩ := hA3.sl
    simp (disch := omega) [t5, t4, one_build]
    refine end_box (hk3.get hbox) ho3 ?_
    have e : sosV l D = (l', 0) := by
      rw [hv0, hg]
      simp only [if_true]
      rw [sortN_eq hp hs hI.tw]
    rw [e]
    have kF : Keeps M (M3.set M.length (.live ⟨[.slice A3 n3 c3], true, true, 26, 1⟩)) := keeps_set (kM.trans hk3) (by omega)
    exact ⟨_, rfl, (((hA3.set_ne (by omega)).low (by omega)).fresh (by have := hp.length_eq; rw [this]; omega) kF).ow.1, kF⟩
  have hlt' : (k : Int) < n := by omega
  obtain ⟨id, off, rfl, hz, hc⟩ := (h.keeps kM).at_ hlt
  have ld := streamEvent_load hc
  have hev := hall k (by omega)
  have hdr : l.drop k = el l k :: l.drop (k + 1) := drop_el (by omega)
  rw [hdr] at hg
  have hevX := hev
  unfold eventB at hevX
  simp only [Bool.and_eq_true] at hevX
  obtain ⟨⟨⟨hb1, hb2⟩, hb3⟩, hbj⟩ := hevX
  have hb1 := inB_iff.1 hb1
  have hb2 := inB_iff.1 hb2
  have hb3 := inB_iff.1 hb3
  have hnl := h.1
  simp (disch := omega) [t28, t27, t26, t8, t7, t6, t5, t4, t1, hlt, hlt', hz, ld, snd_build, wrap_in]
  obtain ⟨M2, hM2⟩ : ∃ M2 : Mem, M2 = M1 ++ [Slot.live ⟨[iv (el l k).d, iv (el l k).j, iv (el l k).o, iv (el l k).k, iv (el l k).u], true, true, 69, 5⟩, Slot.live ⟨[iv (el l k).o, iv (el l k).k], true, true, 75, 2⟩] := ⟨_, rfl⟩
  rw [← hM2]
  have k12 : Keeps M1 M2 := by rw [hM2]; exact keeps_app _
  have n2 : M2.length = M1.length + 2 := by rw [hM2]; simp
  have bx : Cl M2 M1.length 0 (el l k).row := fun j x hx => by rw [hM2]; simp [cellAt]; exact hx
  have by_ : cellsAt M2 (M1.length + 1) 0 2 = some [iv (el l k).o, iv (el l k).k] := by rw [hM2]; simp [cellsAt]
  have bz : M2[M1.length + 1]? = some (.live ⟨[iv (el l k).o, iv (el l k).k], true, true, 75, 2⟩) := by rw [hM2]; simp
  clear hM2
  obtain ⟨a0, a1, a2, a3, a4⟩ := streamEvent_cells bx
  have ld2 := streamEvent_load bx
  simp only [Nat.zero_add] at a1 a2 a3 a4
  have hmap2 := k12.get hmap
  have hbox2 := k12.get hbox
  have hA2 := hA.keeps k12
  refine ⟨M.length + 2, entO os, 75, 77, .agg #[iv 0, iv 0], by kernel_rfl, hmap2, by simp [plainD, plainV], ent_plain, ent_keys hI hev, by simp [plainD, plainV], beg_zero, ?_⟩
  rw [ent_find]
  rw [sosG] at hg
  cases hf : fndO os (el l k) with
  | none =>
    rw [hf] at hg
    simp only [Option.map_none]
    simp only at hg
    by_cases hj : (el l k).j = 1
    · rw [if_pos hj] at hg
      simp (disch := omega) [t28, t27, t26, t8, t7, t6, t5, t4, t1, cellAt_app a1, cellAt_app a4, hj, by_, cellsAt_app by_, snd_build]
      refine ⟨M.length + 2, entO os, 75, 77, by kernel_rfl, (keeps_app _).get hmap2, by omega, by simp [plainD, plainV], by simp [plainD, plainV], ent_keys hI hev, ?_, ?_⟩
      · rw [ent_find, hf]; rfl
      simp (disch := omega) [t28, t27, t26, t8, t7, t6, t5, t4, t1, wrap_in]
      have hI2 := hI.open_ hev hf hnow.1
      refine lpI (m - 1) (by omega) ?_
      refine ⟨k + 1, v, now + (el l k).d, os ++ [⟨(el l k).o, (el l k).k, now + (el l k).d, (el l k).u⟩], ns, by omega, (keeps_set (kM.trans k12) (by omega)).app _, ?_, ?_, hap, ?_, hI2, by omega, by omega, by simp; omega, hg, by simp, by simp [t27], by simp [t26], by simp, by simp [t7], by simp [t6], by simp [t5], by simp [t4], by simp [t1]⟩
      · rw [List.getElem?_append_left (by rw [List.length_set]; omega), List.getElem?_set_ne (by omega)]; exact hbox2
      · have hmlt := (List.getElem?_eq_some_iff.1 hmap2).1
        rw [List.getElem?_append_left (by rw [List.length_set]; omega), List.getElem?_set_self hmlt]
        simp [entO]
      · exact (hA2.set_apart hap).keeps (keeps_app _)
    · rw [if_neg hj] at hg
      simp (disch := omega) [t28, t27, t26, t8, t7, t6, t5, t4, t1, cellAt_app a1, hj, hbox2]
      refine end_box ((keeps_app _).get hbox2) rfl ?_
      rw [sos_err hv0 hg (by omega)]
      exact ScR.no (keeps_set ((kM.trans k12).app _) (by omega))
  | some i =>
    rw [hf] at hg
    simp only [Option.map_some]
    simp only at hg
    by_cases hj : (el l k).j = 1
    · rw [if_pos hj] at hg
      simp (disch := omega) [t28, t27, t26, t8, t7, t6, t5, t4, t1, cellAt_app a1, cellAt_app a4, hj]
      refine end_box ((keeps_app _).get hbox2) rfl ?_
      rw [sos_err hv0 hg (by omega)]
      exact ScR.no (keeps_set ((kM.trans k12).app _) (by omega))
    · rw [if_neg hj] at hg
      simp (disch := omega) [t28, t27, t26, t8, t7, t6, t5, t4, t1, cellAt_app a1, hj, hbox2, cellsAt_app ld2]
      obtain ⟨f1, f2, f3⟩ := fndO_some hf
      have hlow := hI.low _ (el_mem f1)
      refine awCall_det' (noteOf_i (el l k) (el os i) (now + (el l k).d) D ⟨f2, f3⟩ (by omega) (by omega) hD) (by simp; omega) ?_
      by_cases hm : okM D (el os i) (now + (el l k).d) = true
      · rw [if_pos hm] at hg
        simp (disch := omega) [t28, t27, t26, t8, t7, t6, t5, t4, t1, hm]
        obtain ⟨N, hN⟩ : ∃ N, N = mkN D (el os i) (now + (el l k).d) := ⟨_, rfl⟩
        rw [← hN] at hg ⊢
        obtain ⟨M3, hM3⟩ : ∃ M3 : Mem, M3 = M2 ++ [Slot.live ⟨[iv (el os i).t, iv (el os i).u], true, true, 77, 2⟩, Slot.live ⟨[iv N.an, iv N.ad, iv N.ln, iv N.ld, iv N.k, iv N.u, iv N.o], true, true, 53, 7⟩, Slot.live ⟨[iv N.an, iv N.ad, iv N.ln, iv N.ld, iv N.k, iv N.u, iv N.o], true, true, 53, 7⟩] := ⟨_, rfl⟩
        rw [← hM3]
        have k23 : Keeps M2 M3 := by rw [hM3]; exact keeps_app _
        have n3 : M3.length = M2.length + 3 := by rw [hM3]; simp
        have hsrc : srcOf Try.prog M3 7 24 (.slice (some ⟨M2.length + 2, 0, none⟩) 1 1) = some (1, N.row) := by
          rw [hM3]
          simp [srcOf, cellsAt, Note.row, Try.underlying24]
        clear hM3
        refine (hA2.keeps k23).append2 (a := N) (by_ := 56) (by omega) (by simp only []; omega) (by omega) (by kernel_rfl) (by kernel_rfl) hsrc (note_oneN N) (by omega) (by unfold maxLen; omega) ?_
        intro v' M4 hA4 s4 hap4
        obtain ⟨hmap4, hap'⟩ := hap4 _ _ hap ((k23).get hmap2)
        have hbox4 := s4.2 M.length _ (by omega) (k23.get hbox2)
        have k4 := s4.keeps ((kM.trans k12).trans k23) (by omega)
        have n4 := s4.1
        obtain ⟨bz4, -⟩ := hap4 _ _ (hA.apart (i := M1.length + 1) (by omega)) (k23.get bz)
        have cz4 : cellsAt M4 (M1.length + 1) 0 2 = some [iv (el l k).o, iv (el l k).k] := by simp [cellsAt, bz4]
        simp (disch := omega) [t28, t27, t26, t8, t7, t6, t5, t4, t1, cz4]
        refine ⟨M.length + 2, entO os, 75, 77, i, begV (el os i), by kernel_rfl, hmap4, by omega, by simp [plainD, plainV], ent_keys hI hev, by rw [ent_find, hf]; rfl, ?_⟩
        simp (disch := omega) [t28, t27, t26, t8, t7, t6, t5, t4, t1, wrap_in]
        have hI2 := hI.close hD.1 hev hf hnow.1 hm
        rw [← hN] at hI2
        refine lpI (m - 1) (by omega) ?_
        refine ⟨k + 1, v', now + (el l k).d, os.eraseIdx i, ns ++ [N], by omega, keeps_set k4 (by omega), ?_, ?_, hap', hA4.set_apart hap', hI2, by omega, by simp; omega, by rw [List.length_eraseIdx_of_lt f1]; omega, hg, by simp, by simp [t27], by simp [t26], by simp, by simp [t7], by simp, by simp [t5], by simp [t4], by simp [t1]⟩
        · rw [List.getElem?_set_ne (by omega)]; exact hbox4
        · rw [List.getElem?_set_self ((List.getElem?_eq_some_iff.1 hmap4).1)]
          congr 2
          unfold entO
          rw [map_erase]
      · rw [if_neg hm] at hg
        simp (disch := omega) [t28, t27, t26, t8, t7, t6, t5, t4, t1, hm]
        refine end_box ((keeps_app _).get hbox2) rfl ?_
        rw [sos_err hv0 hg (by omega)]
        exact ScR.no (keeps_set ((kM.trans k12).app _) (by omega))
end Go.Proofs.Ytbpaeonfebmomaa

namespace Go.Proofs.Ytbpaeonfebmomaa
open Go.RowKit
set_option linter.unusedVariables false
set_option linter.unusedSimpArgs false
set_option maxRecDepth 100000
attribute [local simp] List.getElem?_cons_zero
attribute [local irreducible] awCond awCall awLoop awDraw ow retQ retC resQ Keeps
theorem put_box {b : Nat} {M : Mem} {vs cs : List Value} {t : Bool} {e : TypeId} {z : Nat} (hb : b ≤ M.length) (hl : vs.length = cs.length) (h1 : vs.all oneV = true) :
    putCells b (M ++ [.live ⟨cs, true, t, e, z⟩]) M.length 0 vs = some (M ++ [.live ⟨vs, true, t, e, z⟩]) := by
  rw [put_whole getElem?_snoc_eq hb hl h1]
  simp
theorem cells_hr {M : Mem} {id n : Nat} {r : Row} (h : M[id]? = some (.live r)) (hn : n = r.cells.length) : cellsAt M id 0 n = some r.cells := by
  subst hn
  simp [cellsAt, h]
end Go.Proofs.Ytbpaeonfebmomaa

namespace Go.Proofs.Ytbpaeonfebmomaa
open Go.RowKit
set_option linter.unusedVariables false
set_option linter.unusedSimpArgs false
set_option maxRecDepth 100000
attribute [local simp] List.getElem?_cons_zero
attribute [local irreducible] awCond awCall awLoop awDraw ow retQ retC resQ Keeps
theorem note_one (l : List Note) : (cellsL noteR l).all (fun u => u.oneCell') = true := by
  induction l with
  | nil => rfl
  | cons a l ih => rw [cellsL_cons, List.all_append, ih]; rfl
theorem nil_src {P : Program} {M : Mem} {k : Nat} {tx e : TypeId} {c : Nat} {A : Option Addr} (h : P.underlying tx = some (.slice e)) (hc : A = none → c = 0) : srcOf P M k tx (.slice A 0 c) = some (0, []) := by
  cases A
  · simp [srcOf, h, hc rfl]
  · simp [srcOf, h]
theorem note_src {M : Mem} {A : Option Addr} {n c : Nat} {l : List Note} (h : Sl noteR M A n l) (hc : A = none → c = 0) : srcOf Try.prog M 7 24 (.slice A n c) = some (l.length, cellsL noteR l) := by
  have hl := h.1
  rcases A with _ | ad
  · have h0 : n = 0 := by
      rcases Nat.eq_zero_or_pos n with e | e
      · exact e
      · obtain ⟨_, _, e', _⟩ := h.2 e
        cases e'
    subst h0
    rw [nil_src Try.underlying24 hc, List.eq_nil_of_length_eq_zero hl]
    rfl
  · exact h.src (by omega) ⟨_, Try.underlying24⟩
def InnS (B : Nat) (n i : Nat) (l : List Note) (v : Value) (M0 M : Mem) (l' : List Note) (k : Nat) : Prop :=
  Acc noteR 53 B M v l' ∧ l'.Perm l ∧ SortIn l' i k ∧ k ≤ i ∧ Keeps M0 M
set_option maxHeartbeats 2000000 in
theorem l18Sort_a {M : Mem} {A : Option Addr} {n c : Nat} {l : List Note} (h : Sl noteR M A n l) (hn : n ≤ 100000) (hc : A = none → c = 0) (hv : ∀ x, x ∈ l → noteB x = true) :
    Ctr Try.prog M.length 53 [.slice A n c] M fun r M' => ∃ l', Acc noteR 53 M.length M' r l' ∧ l'.Perm l ∧ SortTo l' l'.length ∧ Keeps M M' := by
  have hl := h.1
  first | (refine ctr_fn Try.func53 rfl Try.ntmps53 Try.results53 rfl rfl (by simp) ?_) | (refine ctr_fnC Try.func53 rfl Try.ntmps53 Try.results53 rfl (by simp) ?_)
  simp
  have hA0 : Acc noteR 53 M.length (M ++ [Slot.live ⟨[], true, true, 53, 7⟩]) (.slice (some ⟨M.length, 0, none⟩) 0 0) [] := ⟨_, 0, 0, rfl, rfl, .inr ⟨M.length, true, rfl, Nat.le_refl _, by simp [cellsL]⟩⟩
  refine hA0.extend (ls := l) (by_ := 56) (Nat.le_refl _) (by simp) (by simp) (by kernel_rfl) (note_src (h.app _) hc) (note_one _) (by simp; omega) (by unfold maxLen; simp; omega) ?_
  intro v M1 hA hS
  have k1 : Keeps M M1 := hS.keeps (keeps_app _) (Nat.le_refl _)
  simp only [List.nil_append] at hA
  have hl1 := k1.len
  try simp
  refine awLoop_T (fun m T M' => ∃ (l' : List Note) (i : Nat), (i + m = n ∨ (m = 0 ∧ n ≤ i)) ∧ Acc noteR 53 M.length M' v l' ∧ l'.Perm l ∧ SortTo l' i ∧ Keeps M M' ∧ look T 4 = some (iv i) ∧ look T 3 = some v) (n - 1)
    ⟨l, 1, by omega, hA, .refl _, fun a b h1 h2 => by omega, k1, by simp, by simp⟩ ?_
  rintro m T M2 ⟨l', i, hm, hA2, hp, hs, k2, t4, t3⟩
  have hpl := hp.length_eq
  obtain ⟨A2, n2, c2, rfl, hq, hsl, -⟩ := hA2.sl
  by_cases hlt : i < n
  · have e1 : (i : Int) < n2 := by omega
    simp (disch := omega) [t4, t3, e1]
    refine awLoop_T (fun m T M' => ∃ (l2 : List Note), Acc noteR 53 M.length M' (.slice A2 n2 c2) l2 ∧ l2.Perm l ∧ SortIn l2 i m ∧ m ≤ i ∧ Keeps M M' ∧ look T 5 = some (iv m) ∧ look T 4 = some (iv i) ∧ look T 3 = some (.slice A2 n2 c2)) i
      ⟨l', hA2, hp, hs.in_, Nat.le_refl _, k2, by simp, by simp [t4], by simp [t3]⟩ ?_
    rintro k T M3 ⟨l2, hA3, hp3, hs3, hki, k3, t5, t4, t3⟩
    have hpl3 := hp3.length_eq
    have hv3 : ∀ x, x ∈ l2 → noteB x = true := fun x hx => hv x (hp3.mem_iff.1 hx)
    have hl3 := k3.len
    rcases k with _ | k
    · simp (disch := omega) [t5]
      refine awDraw_E 10 [[],[0],[1,0],[2,1,0],[2,1,0],[3,2,1,0,4],[2,1,0],[2,1,0],[7,2,1,0],[6,2,1,0,8,7],[5,3,2,1,0,4,9,6,8,7],[10,5,3,2,1,0,4,9,6,8,7],[2,1,0,11,10,5,3,4,9,6,8,7]] (by kernel_rfl) (by kernel_rfl) ?_
      simp (disch := omega) [t5, t4, t3, wrap_in]
      exact lpI (m - 1) (by omega) ⟨l2, i + 1, by omega, hA3, hp3, hs3.done hki (by omega) hv3 (fun h => by omega), k3, by simp, by simp [t3]⟩
    · obtain ⟨id, rfl, hid, he, hcl, hput⟩ := hA3.put (b := M.length) (Nat.le_refl _) (by omega)
      have hc1 : Cl M3 id ((k + 1) * 7) (el l2 (k + 1)).row := fun j x hx => hcl (k + 1) j x (by omega) hx
      have hc0 : Cl M3 id (k * 7) (el l2 k).row := fun j x hx => hcl k j x (by omega) hx
      simp (disch := omega) [t5]
      refine awDraw_E 10 [[],[0],[1,0],[2,1,0],[2,1,0],[3,2,1,0,4],[2,1,0],[2,1,0],[7,2,1,0],[6,2,1,0,8,7],[5,3,2,1,0,4,9,6,8,7],[10,5,3,2,1,0,4,9,6,8,7],[2,1,0,11,10,5,3,4,9,6,8,7]] (by kernel_rfl) (by kernel_rfl) ?_
      have ek : (k : Int) + 1 < n2 := by omega
      have ek0 : (k : Int) < n2 := by omega
      simp (disch := omega) [t5, t4, t3, wrap_in, ek, ek0, he]
      refine ⟨by omega, awCall_det' (l18Order_a hc1 hc0 (hv3 _ (el_mem (by omega))) (hv3 _ (el_mem (by omega)))) hl3 ?_⟩
      by_cases ho : ordN (el l2 (k + 1)) (el l2 k) < 0
      · simp (disch := omega) [ho, t5, t4, t3, wrap_in, ek, ek0, he]
        refine ⟨by omega, ?_⟩
        rw [cellsAt_of (n := 7) hc1 rfl (by omega), ow_some]
        refine ⟨rfl, ?_⟩
        rw [put_box (b := M.length) (cs := [iv 0, iv 0, iv 0, iv 0, iv 0, iv 0, iv 0]) (vs := (Value.agg (el l2 (k + 1)).row.toArray).cells.toList) (by omega) rfl (by simp [Note.row]), ow_some, cellsAt_app (cellsAt_of (n := 7) hc0 rfl (by omega)), ow_some]
        refine ⟨by omega, rfl, ?_⟩
        obtain ⟨M4, hM4⟩ : ∃ M' : Mem, M' = M3 ++ [Slot.live ⟨(Value.agg (el l2 (k + 1)).row.toArray).cells.toList, true, true, 53, 7⟩] := ⟨_, rfl⟩
        have hA4 : Acc noteR 53 M.length M4 (.slice (some ⟨id, 0, none⟩) n2 c2) l2 := by rw [hM4]; exact hA3.keeps (keeps_app _)
        have r4 : M4[M3.length]? = some (Slot.live ⟨(el l2 (k + 1)).row, true, true, 53, 7⟩) := by rw [hM4]; exact getElem?_snoc_eq
        have k4 : Keeps M M4 := by rw [hM4]; exact k3.app _
        have hidl : id < M3.length := by
          unfold rowEsz at he
          cases hm : M3[id]? with
          | none => rw [hm] at he; cases he
          | some s => exact (List.getElem?_eq_some_iff.1 hm).1
        rw [← hM4]
        clear hM4
        obtain ⟨id', hh, -, -, -, hput⟩ := hA4.put (b := M.length) (Nat.le_refl _) (by omega)
        injection hh with hh
        injection hh with hh
        subst hh
        obtain ⟨M5, p5, hA5, n5, u5⟩ := hput (k + 1) (el l2 k) (by omega) (by simp [noteR, Note.row])
        have r5 := u5 _ _ (show M3.length ≠ id by omega) r4
        have k5 : Keeps M M5 := by
          unfold Keeps
          exact fun i s hs => u5 i s (by have := (List.getElem?_eq_some_iff.1 hs).1; omega) (k4.get hs)
        obtain ⟨id', hh, -, -, -, hput⟩ := hA5.put (b := M.length) (Nat.le_refl _) (by simp; omega)
        injection hh with hh
        injection hh with hh
        subst hh
        obtain ⟨M6, p6, hA6, n6, u6⟩ := hput k (el l2 (k + 1)) (by simp; omega) (by simp [noteR, Note.row])
        have k6 : Keeps M M6 := by
          unfold Keeps
          exact fun i s hs => u6 i s (by have := (List.getElem?_eq_some_iff.1 hs).1; omega) (k5.get hs)
        rw [show putCells M.length M4 id ((k + 1) * 7) (Value.agg (el l2 k).row.toArray).cells.toList = some M5 from p5, ow_some, cells_hr (n := 7) r5 rfl, ow_some]
        refine ⟨rfl, ?_⟩
        rw [show putCells M.length M5 id (k * 7) (Value.agg (el l2 (k + 1)).row.toArray).cells.toList = some M6 from p6, ow_some]
        exact lpI k (by omega) ⟨swapL l2 (k + 1) k, hA6, (swapL_perm (by omega) (by omega)).trans hp3, hs3.step hki (by omega) ho, by omega, k6, by simp, by simp [t4], by simp [t3]⟩
      · simp (disch := omega) [ho, t5, t4, t3, wrap_in]
        exact lpI (m - 1) (by omega) ⟨l2, i + 1, by omega, hA3, hp3, hs3.done hki (by omega) hv3 (fun h => ho), k3, by simp, by simp [t3]⟩
  · have e1 : ¬ (i : Int) < n2 := by omega
    simp (disch := omega) [t4, t3, e1]
    exact ⟨l', hA2, hp, fun a b h1 h2 => hs a b h1 (by omega), k2⟩
end Go.Proofs.Ytbpaeonfebmomaa

namespace Go.Proofs.Ytbpaeonfebmomaa
open Go.RowKit
set_option linter.unusedVariables false
set_option linter.unusedSimpArgs false
set_option maxRecDepth 100000
attribute [local simp] List.getElem?_cons_zero
attribute [local irreducible] awCond awCall awLoop awDraw ow retQ retC resQ Keeps
set_option maxHeartbeats 2000000 in
theorem l18Make_a {M : Mem} {A : Option Addr} {n c : Nat} {l : List Note} (h : Sl noteR M A n l) (hn : n ≤ 1000) (hc : A = none → c = 0) (hv : ∀ x, x ∈ l → noteB x = true) (ht : l.Pairwise fun x y => ordN x y ≠ 0) :
    Ctr Try.prog M.length 74 [.slice A n c] M fun r M' => ScR M (sortN l, 0) r M' := by
  have hl := h.1
  first | (refine ctr_fn Try.func74 rfl Try.ntmps74 Try.results74 rfl rfl (by simp) ?_) | (refine ctr_fnC Try.func74 rfl Try.ntmps74 Try.results74 rfl (by simp) ?_)
  simp
  obtain ⟨M0, hM0⟩ : ∃ M0 : Mem, M0 = M ++ [Slot.live ⟨[.slice none 0 0], true, true, 26, 1⟩] := ⟨_, rfl⟩
  rw [← hM0]
  have k0 : Keeps M M0 := by rw [hM0]; exact keeps_app _
  have l0 : M0.length = M.length + 1 := by rw [hM0]; simp
  have b0 : M0[M.length]? = some (Slot.live ⟨[.slice none 0 0], true, true, 26, 1⟩) := by rw [hM0]; simp
  clear hM0
  have h0 := h.keeps k0
  refine awLoop_T (fun m T M' => ∃ k : Nat, k + m = n ∧ M' = M0 ∧ look T 4 = some (iv k) ∧ look T 3 = some (iv 0) ∧ look T 2 = some (.pointer (some ⟨M.length, 0, none⟩)) ∧ look T 0 = some (.slice A n c)) n ⟨0, by omega, rfl, by simp, by simp, by simp, by simp⟩ ?_
  rintro m T M1 ⟨k, hm, rfl, t4, t3, t2, t0⟩
  by_cases hlt : k < n
  · obtain ⟨id, off, rfl, hz, hcl⟩ := h0.at_ hlt
    have hlt' : (k : Int) < n := by omega
    simp (disch := omega) [t4, t3, t2, t0, hlt, hlt', hz]
    refine awCall_det' (l18Note_a hcl) (by omega) ?_
    have := hv _ (el_mem (show k < l.length by omega))
    simp (disch := omega) [t4, t3, t2, t0, this, wrap_in]
    exact lpI (m - 1) (by omega) ⟨k + 1, by omega, rfl, by simp, by simp [t3], by simp [t2], by simp [t0]⟩
  · obtain rfl : k = n := by omega
    simp (disch := omega) [t4, t3, t2, t0]
    refine awCall_ctr ((l18Sort_a h0 (by omega) hc hv).weaken (by omega)) ?_
    rintro v M2 ⟨l', hA, hp, hs, hk⟩
    obtain ⟨A2, n2, c2, rfl, hn2, hS2, ho2⟩ := hA.sl
    have b2 := hk.get b0
    have kl := hk.len
    simp (disch := omega) [t4, t3, t2, t0, one_build]
    obtain ⟨M3, hM3⟩ : ∃ M3 : Mem, M3 = M2 ++ [Slot.live ⟨[.slice A2 n2 c2], true, true, 26, 1⟩] := ⟨_, rfl⟩
    rw [← hM3]
    have k23 : Keeps M2 M3 := by rw [hM3]; exact keeps_app _
    have l3 : M3.length = M2.length + 1 := by rw [hM3]; simp
    have x3 : M3[M2.length]? = some (Slot.live ⟨[.slice A2 n2 c2], true, true, 26, 1⟩) := by rw [hM3]; simp
    clear hM3
    have cx : cellAt M3 M2.length 0 = some (.slice A2 n2 c2) := by simp [cellAt, x3]
    have cs3 : cellsAt M3 M2.length 0 1 = some [.slice A2 n2 c2] := by simp [cellsAt, x3]
    have hS3 := hS2.keeps k23
    have b3 := k23.get b2
    have hpl := hp.length_eq
    have htw := tw_perm hp ht
    have hv2 : ∀ x, x ∈ l' → noteB x = true := fun x hx => hv x (hp.mem_iff.1 hx)
    have hsl : l'.Pairwise LeN := by
      rw [List.pairwise_iff_getElem]
      intro i j hi hj hij
      rw [el_eq hi, el_eq hj]
      exact hs i j hij hj
    refine awLoop_T (fun m T M' => ∃ i : Nat, (i + m = n2 ∨ (m = 0 ∧ n2 ≤ i)) ∧ 1 ≤ i ∧ M' = M3 ∧ look T 6 = some (iv i) ∧ look T 3 = some (iv 0) ∧ look T 2 = some (.pointer (some ⟨M.length, 0, none⟩)) ∧ look T 5 = some (.pointer (some ⟨M2.length, 0, none⟩))) (n2 - 1) ⟨1, by omega, by omega, rfl, by simp, by simp [t3], by simp [t2], by simp⟩ ?_
    rintro m T M4 ⟨i, hm, hi1, rfl, u5, u3, u2, u6⟩
    by_cases hi : i < n2
    · have hi' : (i : Int) < n2 := by omega
      obtain ⟨id, off, rfl, hz, hcl⟩ := hS3.at_ hi
      obtain ⟨id', off', e', hz', hcl'⟩ := hS3.at_ (show i - 1 < n2 by omega)
      simp at e'
      obtain ⟨rfl, rfl⟩ := e'
      have ei : ((i - 1 : Nat) : Int) = (i : Int) - 1 := by omega
      have hne : ordN (el l' (i - 1)) (el l' i) ≠ 0 := by
        have := List.pairwise_iff_getElem.1 htw (i - 1) i (by omega) (by omega) (by omega)
        rwa [el_eq (by omega), el_eq (by omega)] at this
      simp (disch := omega) [u5, u3, u2, u6, hi, hi', cx]
      refine awDraw_E 9 [[],[0],[],[2],[1,0,3,2],[],[5],[],[6,5,7],[4,1,0,3,2,8,6,5,7],[9,4,1,0,3,2,8,6,5,7]] (by kernel_rfl) (by kernel_rfl) ?_
      simp (disch := omega) [u5, u3, u2, u6, hi, hi', cx, wrap_in]
      refine ⟨by omega, awCall_det' (l18Order_a hcl' hcl (hv2 _ (el_mem (by omega))) (hv2 _ (el_mem (by omega)))) (by omega) ?_⟩
      simp (disch := omega) [u5, u3, u2, u6, hne, wrap_in]
      exact lpI (m - 1) (by omega) ⟨i + 1, by omega, by omega, rfl, by simp, by simp [u3], by simp [u2], by simp [u6]⟩
    · have hi' : ¬ (i : Int) < n2 := by omega
      simp (disch := omega) [u5, u3, u2, u6, hi, hi', cx, cs3]
      refine end_box (hk.trans k23 |>.get b0) ho2 ?_
      have e : sortN l = l' := (sortN_eq hp hsl ht).symm
      rw [e]
      have kF : Keeps M (M4.set M.length (.live ⟨[.slice A2 n2 c2], true, true, 26, 1⟩)) := keeps_set ((k0.trans hk).trans k23) (by omega)
      exact ⟨_, rfl, ((((hA.keeps k23).set_ne (by omega)).low (by omega)).fresh (by rw [hpl]; omega) kF).ow.1, kF⟩
set_option maxHeartbeats 1000000 in
theorem SortNotes_s {M : Mem} {A : Option Addr} {n c : Nat} {l : List Note} (h : Sl noteR M A n l) (hn : n ≤ 60) (hc : A = none → c = 0) (hv : ∀ x, x ∈ l → noteB x = true) (ht : l.Pairwise fun x y => ordN x y ≠ 0) :
    Ctr Try.prog M.length 44 [.slice A n c] M fun r M' => ScR M (sortN l, 0) r M' := by
  have hl := h.1
  have hn' : ¬ (60 : Int) < n := by omega
  first | (refine ctr_fn Try.func44 rfl Try.ntmps44 Try.results44 rfl rfl (by simp) ?_) | (refine ctr_fnC Try.func44 rfl Try.ntmps44 Try.results44 rfl (by simp) ?_)
  simp [hn']
  refine awCall_ctr ((l18Make_a (h.app _) (by omega) hc hv ht).weaken (by simp)) ?_
  rintro r M1 ⟨v0, rfl, ho, hk⟩
  obtain ⟨A3, n3, c3, rfl, hrest⟩ := id ho
  have b0 : M1[M.length]? = some (Slot.live ⟨[.slice none 0 0], true, true, 26, 1⟩) := hk.get (by simp)
  have hkl := hk.len
  simp only [List.length_append, List.length_cons, List.length_nil] at hkl
  simp (disch := omega) []
  refine end_box ((keeps_app _).get b0) rfl ?_
  obtain ⟨M2, hM2⟩ : ∃ M2 : Mem, M2 = M1 ++ [Slot.live ⟨[.slice A3 n3 c3], true, true, 26, 1⟩] := ⟨_, rfl⟩
  rw [← hM2]
  have k2 : Keeps M1 M2 := by rw [hM2]; exact keeps_app _
  have l2 : M2.length = M1.length + 1 := by rw [hM2]; simp
  have kM : Keeps M M1 := (keeps_app _).trans hk
  have hT : Turn M.length (M.length + 1) M2 (M2.set M.length (.live ⟨[.slice A3 n3 c3], true, true, 26, 1⟩)) := by
    refine ⟨by simp, fun i s hs hi => ?_⟩
    rw [List.getElem?_set_ne (by omega)]
    exact hs
  refine ⟨_, rfl, ((ho.keeps k2).turn hT (.inr (by simp))).wide (by simp) (by simp; omega), keeps_set (kM.trans k2) (by omega)⟩
end Go.Proofs.Ytbpaeonfebmomaa

namespace Go.Proofs.Ytbpaeonfebmomaa
open Go.RowKit
set_option linter.unusedVariables false
set_option linter.unusedSimpArgs false
set_option maxRecDepth 100000
attribute [local simp] List.getElem?_cons_zero
attribute [local irreducible] awCond awCall awLoop awDraw ow retQ retC resQ Keeps
/-- Two values that lie in rows apart. -/
def Sep (u v : Value) : Prop := ∀ (A B : Option Addr) (n c m d : Nat) (a b : Addr), u = .slice A n c → v = .slice B m d → A = some a → B = some b → a.block ≠ b.block
theorem Sep.symm {u v : Value} (h : Sep u v) : Sep v u := fun A B n c m d a b e1 e2 e3 e4 => Ne.symm (h _ _ _ _ _ _ _ _ e2 e1 e4 e3)
section
variable {α β : Type} {k k' : Nat} {R : RecV α k} {R' : RecV β k'} {e e' : TypeId} {B B' : Nat} {M M' : Mem} {u v v' : Value} {l : List α} {l2 : List β}
/-- A list that another one's growth leaves. -/
theorem Acc.aside (h2 : Acc R' e' B' M u l2) (hs : Sep v u) (hap : ∀ (i : Nat) s, Apart v i → M[i]? = some s → M'[i]? = some s ∧ Apart v' i) : Acc R' e' B' M' u l2 ∧ Sep v' u := by
  obtain ⟨A, n, c, rfl, hl, hA⟩ := h2
  rcases hA with ⟨rfl, hn, hc⟩ | ⟨id, t, rfl, hid, hr⟩
  · exact ⟨⟨none, n, c, rfl, hl, .inl ⟨rfl, hn, hc⟩⟩, fun A B n c m d a b e1 e2 e3 e4 => by injection e2 with e2; subst e2; cases e4⟩
  · obtain ⟨g1, g2⟩ := hap id _ (fun A n c a e1 e2 => Ne.symm (hs _ _ _ _ _ _ _ _ e1 rfl e2 rfl)) hr
    refine ⟨⟨_, n, c, rfl, hl, .inr ⟨id, t, rfl, hid, g1⟩⟩, fun A B n c m d a b e1 e2 e3 e4 => ?_⟩
    injection e2 with e2
    subst e2
    injection e4 with e4
    subst e4
    exact Ne.symm (g2 _ _ _ _ e1 e3)
theorem Acc.sep_new (h1 : Acc R e B M' v l) (h2 : Acc R' e' B' M u l2) (hb : M.length ≤ B) : Sep v u := by
  obtain ⟨A, n, c, rfl, hl, hA⟩ := h1
  obtain ⟨A2, n2, c2, rfl, hl2, hA2⟩ := h2
  intro A B n c m d a b e1 e2 e3 e4
  injection e1 with e1
  injection e2 with e2
  subst e1; subst e2
  rcases hA with ⟨rfl, -⟩ | ⟨id, t, rfl, hid, hr⟩
  · cases e3
  rcases hA2 with ⟨rfl, -⟩ | ⟨id2, t2, rfl, hid2, hr2⟩
  · cases e4
  injection e3 with e3
  injection e4 with e4
  subst e3; subst e4
  have := (List.getElem?_eq_some_iff.1 hr2).1
  show id ≠ id2
  omega
/-- A list below what has turned. -/
theorem Acc.low_same (h2 : Acc R' e' B' M u l2) (hs : Same M.length M M') : Acc R' e' B' M' u l2 := by
  obtain ⟨A, n, c, rfl, hl, hA⟩ := h2
  refine ⟨A, n, c, rfl, hl, ?_⟩
  rcases hA with hA | ⟨id, t, rfl, hid, hr⟩
  · exact .inl hA
  · exact .inr ⟨id, t, rfl, hid, hs.2 id _ (List.getElem?_eq_some_iff.1 hr).1 hr⟩
end
theorem sep_new0 {i j n c m d : Nat} (h : i ≠ j) : Sep (.slice (some ⟨i, 0, none⟩) n c) (.slice (some ⟨j, 0, none⟩) m d) := by
  intro A B n c m d a b e1 e2 e3 e4
  injection e1 with e1
  injection e2 with e2
  subst e1; subst e2
  injection e3 with e3
  injection e4 with e4
  subst e3; subst e4
  exact h
def opN (x : Opn) : Note := ⟨0, 0, 0, 0, x.k, x.u, x.o⟩
set_option maxHeartbeats 4000000 in
theorem n_build3 (a b c : Int) : Instr.fill (fun x => [(0, 2), (2, 2), (4, 1), (5, 1), (6, 1)][x]?) #[iv 0, iv 0, iv 0, iv 0, iv 0, iv 0, iv 0] [(4, iv a), (2, iv b), (3, iv c)] = some #[iv 0, iv 0, iv 0, iv 0, iv b, iv c, iv a] := by kernel_rfl
theorem fill_oneI (x : Int) : Instr.fill (fun i => some (i, 1)) (zrow [iv 0] 1).toArray [(0, iv x)] = some #[iv x] := by rfl
theorem int_one (x : Int) : (intR.row x).all (fun u => u.oneCell') = true := by rfl
theorem Sl.takeX {α : Type} {k : Nat} {R : RecV α k} {M : Mem} {id off n m : Nat} {l : List α} (h : Sl R M (some ⟨id, off, none⟩) n l) (hm : m ≤ n) : Sl R M (some ⟨id, off, none⟩) m (l.take m) := by
  refine ⟨by rw [List.length_take, h.1]; omega, fun hp => ?_⟩
  obtain ⟨_, _, e, he, hc⟩ := h.2 (by omega)
  cases e
  refine ⟨id, off, rfl, he, fun j x hx => hc j x ?_⟩
  rw [cellsL_take] at hx
  rw [List.getElem?_take] at hx
  split at hx
  · exact hx
  · cases hx
theorem Sl.dropX {α : Type} {k : Nat} {R : RecV α k} {M : Mem} {id off n m : Nat} {l : List α} (h : Sl R M (some ⟨id, off, none⟩) n l) (hm : m ≤ n) : Sl R M (some ⟨id, off + m * k, none⟩) (n - m) (l.drop m) := by
  refine ⟨by rw [List.length_drop, h.1], fun hp => ?_⟩
  obtain ⟨_, _, e, he, hc⟩ := h.2 (by omega)
  cases e
  refine ⟨id, off + m * k, rfl, he, fun j x hx => ?_⟩
  rw [cellsL_drop, List.getElem?_drop] at hx
  rw [Nat.add_assoc]
  exact hc _ x hx
/-- What is appended to an empty row, told exactly. -/
theorem append_empty {α : Type} {k : Nat} {P : Program} {R : RecV α k} {e t tx : TypeId} {b by_ id : Nat} {S : St} {x : Value} {ls : List α} {K : Value → Mem → Prop} (hr : S.M[id]? = some (.live ⟨[], true, true, e, k⟩)) (hq : qSlice P t = some (e, k, by_))
    (hz : (P.info? e).any (fun i => i.zero.any fun z => z.cells.size == k) = true) (hs : srcOf P S.M k tx x = some (ls.length, cellsL R ls)) (h1 : (cellsL R ls).all (fun u => u.oneCell') = true) (hn : ls.length * by_ ≤ 140737488355328) (hm : ls.length ≤ maxLen)
    (hK : ∀ v N, (ls = [] → v = .slice (some ⟨id, 0, none⟩) 0 0 ∧ N = []) → (ls ≠ [] → v = .slice (some ⟨S.M.length, 0, none⟩) ls.length ls.length ∧ N = [.live ⟨cellsL R ls, true, false, e, k⟩]) → K v (S.M ++ N)) : appendK P b S K t tx (.slice (some ⟨id, 0, none⟩) 0 0) x := by
  unfold appendK
  rw [hq]
  simp only [ow_some]
  rw [hs]
  simp only [ow_some, hr]
  refine ⟨hz, h1, ⟨trivial, by simp, trivial, trivial⟩, by simpa using hn, by simpa using hm, fun h => ?_, fun h => ?_⟩
  · have := hK (.slice (some ⟨id, 0, none⟩) 0 0) [] (fun _ => ⟨rfl, rfl⟩) (fun hh => absurd (List.eq_nil_of_length_eq_zero h) hh)
    simpa using this
  · have := hK (.slice (some ⟨S.M.length, 0, none⟩) ls.length ls.length) [.live ⟨cellsL R ls, true, false, e, k⟩] (fun hh => by rw [hh] at h; exact absurd rfl h) (fun _ => ⟨rfl, rfl⟩)
    simpa using this
theorem cells_oneG {α : Type} {k : Nat} {R : RecV α k} (h : ∀ x, (R.row x).all (fun u => u.oneCell') = true) : ∀ l : List α, (cellsL R l).all (fun u => u.oneCell') = true
  | [] => rfl
  | a :: l => by rw [cellsL_cons, List.all_append, h a, cells_oneG h l]; rfl
/-- The reference's copy of numbers, told exactly. -/
theorem l00Own_d {M : Mem} {id off n c : Nat} {l : List Int} (h : Sl intR M (some ⟨id, off, none⟩) n l) (hn : n ≤ 1000) : ∃ v N, Det Try.prog M.length 43 [.slice (some ⟨id, off, none⟩) n c] M v (M ++ N) ∧ Acc intR 2 M.length (M ++ N) v l := by
  have hl := h.1
  have key : ∃ (v : Value) (N : List Slot), (l = [] → v = .slice (some ⟨M.length, 0, none⟩) 0 0 ∧ N = []) ∧ (l ≠ [] → v = .slice (some ⟨M.length + 1, 0, none⟩) l.length l.length ∧ N = [.live ⟨cellsL intR l, true, false, 2, 1⟩]) := by
    by_cases e : l = []
    · exact ⟨_, _, fun _ => ⟨rfl, rfl⟩, fun h => absurd e h⟩
    · exact ⟨_, _, fun h => absurd h e, fun _ => ⟨rfl, rfl⟩⟩
  obtain ⟨v, N, hv1, hv2⟩ := key
  refine ⟨v, .live ⟨[], true, true, 2, 1⟩ :: N, ?_, ?_⟩
  · refine Ctr.det ?_
    first | (refine ctr_fn Try.func43 rfl Try.ntmps43 Try.results43 rfl rfl (by simp) ?_) | (refine ctr_fnC Try.func43 rfl Try.ntmps43 Try.results43 rfl (by simp) ?_)
    simp
    refine append_empty (R := intR) (e := 2) (ls := l) (by_ := 8) (by simp) (by kernel_rfl) (by kernel_rfl) ((h.app _).src (by omega) ⟨_, Try.underlying63⟩) (cells_oneG int_one _) (by omega) (by unfold maxLen; omega) ?_
    intro v2 N2 h1 h2
    by_cases e : l = []
    · obtain ⟨rfl, rfl⟩ := hv1 e
      obtain ⟨rfl, rfl⟩ := h1 e
      simp
    · obtain ⟨rfl, rfl⟩ := hv2 e
      obtain ⟨rfl, rfl⟩ := h2 e
      simp
  · by_cases e : l = []
    · obtain ⟨rfl, rfl⟩ := hv1 e
      exact ⟨_, 0, 0, rfl, by simp [e], .inr ⟨M.length, true, rfl, Nat.le_refl _, by rw [e]; simp [cellsL]⟩⟩
    · obtain ⟨rfl, rfl⟩ := hv2 e
      exact ⟨_, _, _, rfl, rfl, .inr ⟨M.length + 1, false, rfl, by omega, by simp⟩⟩
def fndI (os : List Opn) (e : StreamEvent) : Int := match fndO os e with
  | some i => (i : Int)
  | none => -1
theorem fndI_nil (e : StreamEvent) : fndI [] e = -1 := rfl
theorem fndI_step {os : List Opn} {e : StreamEvent} {j : Nat} (hk : os.Pairwise fun x y => ¬ (x.o = y.o ∧ x.k = y.k)) (hj : j < os.length) : fndI (os.take (j + 1)) e = if (el os j).o = e.o ∧ (el os j).k = e.k then (j : Int) else fndI (os.take j) e := by
  have e1 : os.take (j + 1) = os.take j ++ [el os j] := take_el hj
  unfold fndI
  by_cases h : (el os j).o = e.o ∧ (el os j).k = e.k
  · rw [if_pos h, e1]
    have hn : fndO (os.take j) e = none := by
      unfold fndO
      rw [List.findIdx?_eq_none_iff]
      intro x hx
      obtain ⟨q, hq, rfl⟩ := List.getElem_of_mem hx
      rw [List.length_take] at hq
      rw [List.getElem_take]
      have := List.pairwise_iff_getElem.1 hk q j (by omega) hj (by omega)
      cases hb : (os[q]'(by omega)).is e with
      | false => rfl
      | true =>
        have hb := Opn.is_iff.1 hb
        rw [el_eq hj] at this
        exact absurd ⟨hb.1.trans h.1.symm, hb.2.trans h.2.symm⟩ this
    unfold fndO at hn ⊢
    rw [List.findIdx?_append, hn]
    have hb : (el os j).is e = true := Opn.is_iff.2 h
    simp [List.findIdx?_cons, hb]
    omega
  · rw [if_neg h, e1]
    have hb : (el os j).is e = false := by
      cases hb : (el os j).is e with
      | false => rfl
      | true => exact absurd (Opn.is_iff.1 hb) h
    unfold fndO
    rw [List.findIdx?_append]
    cases hf : (os.take j).findIdx? fun x => x.is e with
    | some i => simp
    | none => simp [List.findIdx?_cons, hb]
theorem opN_el {os : List Opn} {j : Nat} (h : j < os.length) : el (os.map opN) j = opN (el os j) := by
  simp [el, h]
set_option maxHeartbeats 2000000 in
theorem ScoreOfStream_s {M : Mem} {A : Option Addr} {n c : Nat} {l : List StreamEvent} (D : Int) (h : Sl streamEventR M A n l) (hn : n ≤ 1048576) :
    Ctr Try.prog M.length 15 [.slice A n c, iv D] M fun r M' => ScR M (sosV l D) r M' := by
  have hl := h.1
  first | (refine ctr_fn Try.func15 rfl Try.ntmps15 Try.results15 rfl rfl (by simp) ?_) | (refine ctr_fnC Try.func15 rfl Try.ntmps15 Try.results15 rfl (by simp) ?_)
  simp
  refine awCall_det' (l20Ok_a (h.app _) (by omega)) (by simp) ?_
  by_cases hok : okE l = true
  case neg =>
    simp at hok
    simp [hok]
    have e : sosV l D = ([], 1) := by unfold sosV; rw [if_pos hok]
    rw [e]
    exact ScR.no (keeps_app _)
  simp [hok]
  refine awCall_det' (l00In_a _ _ _) (by simp) ?_
  by_cases hd : inB D 1 960 = true
  case neg =>
    simp at hd
    simp [hd]
    have e : sosV l D = ([], 2) := by unfold sosV; rw [if_neg (by simp [hok]), if_pos hd]
    rw [e]
    exact ScR.no (keeps_app _)
  simp [hd]
  have hD := inB_iff.1 hd
  have h200 := okE_lenX hok
  have hall := fun i (hi : i < l.length) => okE_elX hok hi
  have hv0 : sosV l D = if (sosG D l 0 [] []).2 = 0 then (sortN (sosG D l 0 [] []).1, 0) else ([], (sosG D l 0 [] []).2) := by
    unfold sosV
    rw [if_neg (by simp [hok]), if_neg (by simp [hd])]
  refine awLoop_T (fun m T M' => ∃ (k : Nat) (v1 v2 v3 : Value) (now : Int) (os : List Opn) (ns : List Note), k + m = n ∧ Keeps M M' ∧ M'[M.length]? = some (.live ⟨[.slice none 0 0], true, true, 26, 1⟩) ∧
    Acc noteR 53 (M.length + 1) M' v1 (os.map opN) ∧ Acc intR 2 (M.length + 1) M' v2 (os.map (·.t)) ∧ Acc noteR 53 (M.length + 1) M' v3 ns ∧ Sep v1 v2 ∧ Sep v1 v3 ∧ Sep v2 v3 ∧
    InvO D now os ns ∧ (0 ≤ now ∧ now ≤ 268435455 * k) ∧ ns.length ≤ k ∧ os.length ≤ k ∧ sosG D l 0 [] [] = sosG D (l.drop k) now os ns ∧
    look T 10 = some (iv k) ∧ look T 9 = some (iv now) ∧ look T 8 = some v3 ∧ look T 7 = some v2 ∧ look T 6 = some v1 ∧ look T 5 = some (iv 0) ∧ look T 4 = some (.pointer (some ⟨M.length, 0, none⟩)) ∧ look T 0 = some (.slice A n c) ∧ look T 1 = some (iv D)) n
    ⟨0, _, _, _, 0, [], [], by omega, keeps_app _, by simp, ⟨_, 0, 0, rfl, rfl, .inr ⟨M.length + 1, true, rfl, by omega, by simp [cellsL]⟩⟩, ⟨_, 0, 0, rfl, rfl, .inr ⟨M.length + 2, true, rfl, by omega, by simp [cellsL]⟩⟩, ⟨_, 0, 0, rfl, rfl, .inr ⟨M.length + 3, true, rfl, by omega, by simp [cellsL]⟩⟩, sep_new0 (by omega), sep_new0 (by omega), sep_new0 (by omega), .nil D, by omega, by simp, by simp, by simp, by simp, by simp, by simp, by simp, by simp, by simp, by simp, by simp, by simp⟩ ?_
  rintro m T M1 ⟨k, v1, v2, v3, now, os, ns, hm, kM, hbox, hA1, hA2, hA3, s12, s13, s23, hI, hnow, hns, hos, hg, t10, t9, t8, t7, t6, t5, t4, t0, t1⟩
  have n1 := kM.len
  have hblt := (List.getElem?_eq_some_iff.1 hbox).1
  by_cases hlt : k < n
  case neg =>
    obtain rfl : k = n := by omega
    rw [List.drop_of_length_le (by omega)] at hg
    rw [sosG] at hg
    obtain ⟨A1, m1, c1, rfl, hm1, hS1, ho1⟩ := hA1.sl
    rw [List.length_map] at hm1
    subst hm1
    obtain ⟨A3, m3, c3, rfl, hm3, hS3, ho3⟩ := id hA3.sl
    subst hm3
    simp (disch := omega) [t10, t9, t8, t7, t6, t5, t4, t0, t1]
    by_cases h1 : os.length > 0
    · rw [if_pos h1] at hg
      simp (disch := omega) [t10, t9, t8, t7, t6, t5, t4, t0, t1, h1]
      refine end_box hbox rfl ?_
      rw [sos_err hv0 hg (by omega)]
      exact ScR.no (keeps_set kM (by omega))
    rw [if_neg h1] at hg
    simp (disch := omega) [t10, t9, t8, t7, t6, t5, t4, t0, t1, h1]
    by_cases h2 : ns.length > 60
    · rw [if_pos h2] at hg
      have h2' : (60 : Int) < ns.length := by omega
      simp (disch := omega) [t10, t9, t8, t7, t6, t5, t4, t0, t1, h2, h2']
      refine end_box hbox rfl ?_
      rw [sos_err hv0 hg (by omega)]
      exact ScR.no (keeps_set kM (by omega))
    rw [if_neg h2] at hg
    have h2' : ¬ (60 : Int) < ns.length := by omega
    simp (disch := omega) [t10, t9, t8, t7, t6, t5, t4, t0, t1, h2, h2']
    have hc3 : A3 = none → c3 = 0 := by
      intro e
      obtain ⟨_, _, _, e1, _, h3⟩ := hA3
      injection e1 with e1 e2 e3
      subst e1 e2 e3
      rcases h3 with h3 | ⟨id, t, h3, -⟩
      · exact h3.2.2
      · rw [e] at h3; cases h3
    refine awCall_ctr ((SortNotes_s (c := c3) hS3 (by omega) hc3 hI.ok hI.tw).weaken (by omega)) ?_
    rintro v3 M3 ⟨v0, rfl, ho, hk3⟩
    obtain ⟨A4, n4, c4, rfl, hrest⟩ := id ho
    simp (disch := omega) [t5, t4]
    refine end_box (hk3.get hbox) rfl ?_
    have e : sosV l D = (sortN ns, 0) := by
      rw [hv0, hg]
      simp
    rw [e]
    have hT : Turn M.length (M.length + 1) M3 (M3.set M.length (.live ⟨[.slice A4 n4 c4], true, true, 26, 1⟩)) := by
      refine ⟨by simp, fun i s hs hi => ?_⟩
      rw [List.getElem?_set_ne (by omega)]
      exact hs
    exact ⟨_, rfl, (ho.turn hT (.inr (by omega))).wide (by omega) (by simp), keeps_set (kM.trans hk3) (by omega)⟩
  have hlt' : (k : Int) < n := by omega
  obtain ⟨id, off, rfl, hz, hc⟩ := (h.keeps kM).at_ hlt
  obtain ⟨a0, a1, a2, a3, a4⟩ := streamEvent_cells hc
  have hev := hall k (by omega)
  have hdr : l.drop k = el l k :: l.drop (k + 1) := drop_el (by omega)
  rw [hdr] at hg
  have hevX := hev
  unfold eventB at hevX
  simp only [Bool.and_eq_true] at hevX
  obtain ⟨⟨⟨hb1, hb2⟩, hb3⟩, hbj⟩ := hevX
  have hb1 := inB_iff.1 hb1
  have hb2 := inB_iff.1 hb2
  have hb3 := inB_iff.1 hb3
  have hnl := h.1
  simp (disch := omega) [t10, t9, t8, t7, t6, t5, t4, t0, t1, hlt, hlt', hz, a0, wrap_in]
  obtain ⟨A1, m1, c1, rfl, hm1, hS1, ho1⟩ := hA1.sl
  rw [List.length_map] at hm1
  subst hm1
  obtain ⟨A2, m2, c2, rfl, hm2, hS2, ho2⟩ := hA2.sl
  rw [List.length_map] at hm2
  subst hm2
  refine awLoop_T (fun m2 T M' => ∃ j : Nat, j + m2 = os.length ∧ M' = M1 ∧ look T 13 = some (iv j) ∧ look T 12 = some (iv (fndI (os.take j) (el l k))) ∧ look T 11 = some (.pointer (some ⟨id, off + k * 5, none⟩)) ∧ look T 10 = some (iv k) ∧ look T 9 = some (iv (now + (el l k).d)) ∧ look T 8 = some v3 ∧ look T 7 = some (.slice A2 os.length c2) ∧ look T 6 = some (.slice A1 os.length c1) ∧ look T 5 = some (iv 0) ∧ look T 4 = some (.pointer (some ⟨M.length, 0, none⟩)) ∧ look T 0 = some (.slice (some ⟨id, off, none⟩) n c) ∧ look T 1 = some (iv D)) os.length
    ⟨0, by omega, rfl, by simp, by simp [fndI_nil], by simp, by simp [t10], by simp, by simp [t8], by simp [t7], by simp [t6], by simp [t5], by simp [t4], by simp [t0], by simp [t1]⟩ ?_
  rintro m2 T M1 ⟨j, hm2, rfl, u13, u12, u11, u10, u9, u8, u7, u6, u5, u4, u0, u1⟩
  by_cases hj : j < os.length
  · have hj' : (j : Int) < os.length := by omega
    obtain ⟨id2, off2, rfl, hz2, hc2⟩ := hS1.at_ hj
    obtain ⟨g0, g1, g2, g3, g4, g5, g6⟩ := note_cells hc2
    rw [opN_el hj] at g4 g6
    simp (disch := omega) [u13, u12, u11, u10, u9, u8, u7, u6, u5, u4, u0, u1, hj, hj', hz2]
    refine awDraw_E 20 [[],[],[0,1],[2,0,1],[3,2,0,1],[],[5],[6,5],[7,6,5],[4,3,2,0,1,8,7,6,5],[9,4,3,2,0,1,8,7,6,5],[10,9,4,3,2,0,1,8,7,6,5],[10,9,4,3,2,0,1,8,7,6,5],[11,10,9,4,3,2,0,1,8,7,6,5,12],[13,11,10,9,4,3,2,0,1,8,7,6,5,12],[14,13,11,10,9,4,3,2,0,1,8,7,6,5,12],[10,9,4,3,2,0,1,8,7,6,5],[16,10,9,4,3,2,0,1,8,7,6,5],[17,16,10,9,4,3,2,0,1,8,7,6,5],[18,17,16,10,9,4,3,2,0,1,8,7,6,5],[15,14,13,11,10,9,4,3,2,0,1,8,7,6,5,12,19,18,17,16],[10,9,4,3,2,0,1,8,7,6,5,20,15,14,13,11,12,19,18,17,16]] (by kernel_rfl) (by kernel_rfl) ?_
    have st := fndI_step (e := el l k) hI.keys hj
    simp only [opN] at g4 g6
    by_cases eo : (el os j).o = (el l k).o
    · by_cases ek : (el os j).k = (el l k).k
      · rw [if_pos ⟨eo, ek⟩] at st
        simp (disch := omega) [u13, u12, u11, u10, u9, u8, u7, u6, u5, u4, u0, u1, hj, hj', hz2, g4, g6, a2, a3, wrap_in, eo, ek]
        exact lpI (m2 - 1) (by omega) ⟨j + 1, by omega, rfl, by simp, by simp [st], by simp [u11], by simp [u10], by simp [u9], by simp [u8], by simp [u7], by simp [u6], by simp [u5], by simp [u4], by simp [u0], by simp [u1]⟩
      · rw [if_neg (fun h => ek h.2)] at st
        simp (disch := omega) [u13, u12, u11, u10, u9, u8, u7, u6, u5, u4, u0, u1, hj, hj', hz2, g4, g6, a2, a3, wrap_in, eo, ek]
        exact lpI (m2 - 1) (by omega) ⟨j + 1, by omega, rfl, by simp, by simp [st, u12], by simp [u11], by simp [u10], by simp [u9], by simp [u8], by simp [u7], by simp [u6], by simp [u5], by simp [u4], by simp [u0], by simp [u1]⟩
    · rw [if_neg (fun h => eo h.1)] at st
      simp (disch := omega) [u13, u12, u11, u10, u9, u8, u7, u6, u5, u4, u0, u1, hj, hj', hz2, g4, g6, a2, a3, wrap_in, eo]
      exact lpI (m2 - 1) (by omega) ⟨j + 1, by omega, rfl, by simp, by simp [st, u12], by simp [u11], by simp [u10], by simp [u9], by simp [u8], by simp [u7], by simp [u6], by simp [u5], by simp [u4], by simp [u0], by simp [u1]⟩
  obtain rfl : j = os.length := by omega
  rw [List.take_length] at u12
  simp (disch := omega) [u13, u12, u11, u10, u9, u8, u7, u6, u5, u4, u0, u1, a1]
  clear u13 hj
  rw [sosG] at hg
  cases hf : fndO os (el l k) with
  | none =>
    have ef : fndI os (el l k) = -1 := by unfold fndI; rw [hf]
    rw [hf] at hg
    rw [ef] at u12
    simp only at hg
    by_cases hj : (el l k).j = 1
    · rw [if_pos hj] at hg
      simp (disch := omega) [u12, u11, u10, u9, u8, u7, u6, u5, u4, u0, u1, hj]
      refine awDraw_D 15 [[],[],[1],[2,1],[3,2,1],[],[5],[6,5],[7,6,5],[],[9],[10,9],[11,10,9],[4,3,2,1,8,7,6,5,12,11,10,9],[13,4,3,2,1,8,7,6,5,12,11,10,9],[0,14,13,4,3,2,1,8,7,6,5,12,11,10,9],[15,0,14,13,4,3,2,1,8,7,6,5,12,11,10,9]] (by kernel_rfl) (by decide +kernel) ?_
      simp (disch := omega) [u12, u11, u10, u9, u8, u7, u6, u5, u4, u0, u1, hj, a2, a3, a4, n_build3]
      obtain ⟨M2, hM2⟩ : ∃ M2 : Mem, M2 = M1 ++ [Slot.live ⟨[iv 0, iv 0, iv 0, iv 0, iv (el l k).k, iv (el l k).u, iv (el l k).o], true, true, 53, 7⟩] := ⟨_, rfl⟩
      rw [← hM2]
      obtain ⟨x, hx⟩ : ∃ x : Opn, x = ⟨(el l k).o, (el l k).k, now + (el l k).d, (el l k).u⟩ := ⟨_, rfl⟩
      have k12 : Keeps M1 M2 := by rw [hM2]; exact keeps_app _
      have n2 : M2.length = M1.length + 1 := by rw [hM2]; simp
      have hsrc : srcOf Try.prog M2 7 24 (.slice (some ⟨M1.length, 0, none⟩) 1 1) = some (1, (opN x).row) := by
        rw [hM2, hx]
        simp [srcOf, cellsAt, Note.row, opN, Try.underlying24]
      clear hM2
      refine (hA1.keeps k12).append2 (a := opN x) (by_ := 56) (by omega) (by simp only []; omega) (by omega) (by kernel_rfl) (by kernel_rfl) hsrc (note_oneN _) (by simp; omega) (by unfold maxLen; simp; omega) ?_
      intro w1 M3 hB1 s3 hap3
      obtain ⟨hB2, q12⟩ := (hA2.keeps k12).aside s12 hap3
      obtain ⟨hB3, q13⟩ := (hA3.keeps k12).aside s13 hap3
      have hbox3 := s3.2 M.length _ (by omega) (k12.get hbox)
      have k3 := s3.keeps (kM.trans k12) (by omega)
      have n3 : M2.length ≤ M3.length := s3.1
      simp (disch := omega) [u12, u11, u10, u9, u8, u7, u6, u5, u4, u0, u1, fill_oneI]
      obtain ⟨M4, hM4⟩ : ∃ M4 : Mem, M4 = M3 ++ [Slot.live ⟨[iv (now + (el l k).d)], true, true, 2, 1⟩] := ⟨_, rfl⟩
      rw [← hM4]
      have k34 : Keeps M3 M4 := by rw [hM4]; exact keeps_app _
      have n4 : M4.length = M3.length + 1 := by rw [hM4]; simp
      have hsrc4 : srcOf Try.prog M4 1 63 (.slice (some ⟨M3.length, 0, none⟩) 1 1) = some (1, intR.row x.t) := by
        rw [hM4, hx]
        simp [srcOf, cellsAt, intR, Try.underlying63]
      clear hM4
      refine (hB2.keeps k34).append2 (a := x.t) (by_ := 8) (by omega) (by simp only []; omega) (by omega) (by kernel_rfl) (by kernel_rfl) hsrc4 (int_one _) (by simp; omega) (by unfold maxLen; simp; omega) ?_
      intro w2 M5 hC2 s5 hap5
      obtain ⟨hC1, r21⟩ := (hB1.keeps k34).aside q12.symm hap5
      obtain ⟨hC3, r23⟩ := (hB3.keeps k34).aside s23 hap5
      have hbox5 := s5.2 M.length _ (by omega) (k34.get hbox3)
      have k5 := s5.keeps (k3.trans k34) (by omega)
      have hI2 := hI.open_ hev hf hnow.1
      rw [← hx] at hI2 hg
      simp (disch := omega) [u12, u11, u10, u9, u8, u7, u6, u5, u4, u0, u1, wrap_in]
      refine lpI (m - 1) (by omega) ?_
      exact ⟨k + 1, w1, w2, v3, now + (el l k).d, os ++ [x], ns, by omega, k5, hbox5, by rw [List.map_append]; exact hC1, by rw [List.map_append]; exact hC2, hC3, r21.symm, q13, r23, hI2, by omega, by omega, by simp; omega, hg, by simp, by simp [u9], by simp [u8], by simp, by simp, by simp [u5], by simp [u4], by simp [u0], by simp [u1]⟩
    · rw [if_neg hj] at hg
      simp (disch := omega) [u12, u11, u10, u9, u8, u7, u6, u5, u4, u0, u1, hj]
      refine end_box hbox rfl ?_
      rw [sos_err hv0 hg (by omega)]
      exact ScR.no (keeps_set kM (by omega))
  | some i =>
    have ef : fndI os (el l k) = (i : Int) := by unfold fndI; rw [hf]
    rw [hf] at hg
    rw [ef] at u12
    simp only at hg
    by_cases hj : (el l k).j = 1
    · rw [if_pos hj] at hg
      simp (disch := omega) [u12, u11, u10, u9, u8, u7, u6, u5, u4, u0, u1, hj]
      refine end_box hbox rfl ?_
      rw [sos_err hv0 hg (by omega)]
      exact ScR.no (keeps_set kM (by omega))
    · rw [if_neg hj] at hg
      obtain ⟨f1, f2, f3⟩ := fndO_some hf
      have f1' : (i : Int) < os.length := by omega
      have hi0 : ¬ (i : Int) < 0 := by omega
      obtain ⟨id2, off2, rfl, hz2, hc2⟩ := hS1.at_ f1
      have ld2 := note_load hc2
      rw [opN_el f1] at ld2
      obtain ⟨id3, off3, rfl, hz3, hc3⟩ := hS2.at_ f1
      have et : el (os.map (·.t)) i = (el os i).t := by simp [el, f1]
      have c3 : cellAt M1 id3 (off3 + i * 1) = some (iv (el os i).t) := by rw [← et]; exact hc3 0 _ rfl
      rw [Nat.mul_one] at c3
      have hlow := hI.low _ (el_mem f1)
      simp (disch := omega) [u12, u11, u10, u9, u8, u7, u6, u5, u4, u0, u1, hj, f1, f1', hi0, hz2, hz3, ld2, c3, cellAt_app c3]
      refine awCall_det' (MakeFrac_s (el os i).t D (by omega) (by omega) (by omega) (by omega)) (by simp; omega) ?_
      simp (disch := omega) [u12, u11, u10, u9, u8, u7, u6, u5, u4, u0, u1, cellAt_app c3, wrap_in, f1, f1', hz3]
      refine awCall_det' (MakeFrac_s (now + (el l k).d - (el os i).t) D (by omega) (by omega) (by omega) (by omega)) (by simp; omega) ?_
      simp (disch := omega) [u12, u11, u10, u9, u8, u7, u6, u5, u4, u0, u1, wrap_in, f1, f1']
      obtain ⟨N, hN⟩ : ∃ N, N = mkN D (el os i) (now + (el l k).d) := ⟨_, rfl⟩
      obtain ⟨e1, he1⟩ : ∃ e1, e1 = (mkF (el os i).t D).2 := ⟨_, rfl⟩
      obtain ⟨e2, he2⟩ : ∃ e2, e2 = (mkF (now + (el l k).d - (el os i).t) D).2 := ⟨_, rfl⟩
      have hokM : okM D (el os i) (now + (el l k).d) = (decide (e1 = 0) && (decide (e2 = 0) && noteB N)) := by unfold okM; rw [hN, he1, he2]
      have hNr : [iv (mkF (el os i).t D).1.n, iv (mkF (el os i).t D).1.d, iv (mkF (now + (el l k).d - (el os i).t) D).1.n, iv (mkF (now + (el l k).d - (el os i).t) D).1.d, iv (opN (el os i)).k, iv (opN (el os i)).u, iv (opN (el os i)).o] = N.row := by rw [hN]; rfl
      rw [← he1, ← he2, hNr]
      rw [hokM] at hg
      obtain ⟨M2, hM2⟩ : ∃ M2 : Mem, M2 = M1 ++ [Slot.live ⟨N.row, true, true, 53, 7⟩, Slot.live ⟨[iv (mkF (el os i).t D).1.n, iv (mkF (el os i).t D).1.d], true, true, 51, 2⟩, Slot.live ⟨[iv (mkF (now + (el l k).d - (el os i).t) D).1.n, iv (mkF (now + (el l k).d - (el os i).t) D).1.d], true, true, 51, 2⟩] := ⟨_, rfl⟩
      rw [← hM2]
      have k12 : Keeps M1 M2 := by rw [hM2]; exact keeps_app _
      have n2 : M2.length = M1.length + 3 := by rw [hM2]; simp
      have bx : Cl M2 M1.length 0 N.row := fun j x hx => by
        rw [hM2]
        have hj := (List.getElem?_eq_some_iff.1 hx).1
        simp [cellAt]
        simpa using hx
      clear hM2
      have ldN := note_load bx
      have hboxN := k12.get hbox
      have herr : sosG D l 0 [] [] = ([], 2) → ScR M (sosV l D) (.tuple #[.agg #[.slice none 0 0], iv 2]) (M2.set M.length (.live ⟨[.slice none 0 0], true, true, 26, 1⟩)) := fun hh => by
        rw [sos_err hv0 hh (by omega)]
        exact ScR.no (keeps_set (kM.trans k12) (by omega))
      by_cases z1 : e1 = 0
      case neg =>
        rw [if_neg (by simp [z1])] at hg
        simp (disch := omega) [u12, u11, u10, u9, u8, u7, u6, u5, u4, u0, u1, z1]
        exact end_box hboxN rfl (herr hg)
      by_cases z2 : e2 = 0
      case neg =>
        rw [if_neg (by simp [z2])] at hg
        simp (disch := omega) [u12, u11, u10, u9, u8, u7, u6, u5, u4, u0, u1, z1, z2]
        exact end_box hboxN rfl (herr hg)
      simp (disch := omega) [u12, u11, u10, u9, u8, u7, u6, u5, u4, u0, u1, z1, z2]
      refine awCall_det' (l18Note_a bx) (by omega) ?_
      by_cases z3 : noteB N = true
      case neg =>
        rw [if_neg (by simp [z3])] at hg
        simp (disch := omega) [u12, u11, u10, u9, u8, u7, u6, u5, u4, u0, u1, z3]
        exact end_box hboxN rfl (herr hg)
      rw [if_pos (by simp [z1, z2, z3])] at hg
      simp (disch := omega) [u12, u11, u10, u9, u8, u7, u6, u5, u4, u0, u1, z3, ldN]
      obtain ⟨M3, hM3⟩ : ∃ M3 : Mem, M3 = M2 ++ [Slot.live ⟨[iv N.an, iv N.ad, iv N.ln, iv N.ld, iv N.k, iv N.u, iv N.o], true, true, 53, 7⟩] := ⟨_, rfl⟩
      rw [← hM3]
      have k23 : Keeps M2 M3 := by rw [hM3]; exact keeps_app _
      have n3 : M3.length = M2.length + 1 := by rw [hM3]; simp
      have hsrc3 : srcOf Try.prog M3 7 24 (.slice (some ⟨M2.length, 0, none⟩) 1 1) = some (1, N.row) := by
        rw [hM3]
        simp [srcOf, cellsAt, Note.row, Try.underlying24]
      clear hM3
      have k13 := k12.trans k23
      refine (hA3.keeps k13).append2 (a := N) (by_ := 56) (by omega) (by simp only []; omega) (by omega) (by kernel_rfl) (by kernel_rfl) hsrc3 (note_oneN _) (by omega) (by unfold maxLen; omega) ?_
      intro w3 M4 hB3 s4 hap4
      obtain ⟨hB1, q31⟩ := (hA1.keeps k13).aside s13.symm hap4
      obtain ⟨hB2, q32⟩ := (hA2.keeps k13).aside s23.symm hap4
      have hbox4 := s4.2 M.length _ (by omega) (k13.get hbox)
      have k4 := s4.keeps (kM.trans k13) (by omega)
      have n4 : M3.length ≤ M4.length := s4.1
      obtain ⟨_, _, _, x1, -, hT1, -⟩ := hB1.sl
      injection x1 with x1 y1 w1
      subst x1 y1 w1
      obtain ⟨_, _, _, x2, -, hT2, -⟩ := hB2.sl
      injection x2 with x2 y2 w2
      subst x2 y2 w2
      have hz4 : rowEsz M4 id2 = some 7 := by
        obtain ⟨_, _, e, he, -⟩ := hT1.2 (by omega)
        cases e
        exact he
      refine awDraw_D 9 [[],[],[],[1,2],[0,3,1,2],[],[],[6],[5,7,6],[4,0,3,1,2,8,5,7,6],[9,4,0,3,1,2,8,5,7,6]] (by kernel_rfl) (by decide +kernel) ?_
      simp (disch := omega) [u12, u11, u10, u9, u8, u7, u6, u5, u4, u0, u1, wrap_in]
      have hE1 : Sl noteR (M4 ++ [Slot.live ⟨[], true, true, 53, 7⟩]) (some ⟨id2, off2, none⟩) i ((os.map opN).take i) := (hT1.takeX (by omega)).app _
      have lE1 : ((os.map opN).take i).length = i := by simp; omega
      refine ⟨by omega, rowEsz_keeps (keeps_app _) hz4, append_empty (R := noteR) (e := 53) (ls := (os.map opN).take i) (by_ := 56) (by simp) (by kernel_rfl) (by kernel_rfl) (hE1.src (by omega) ⟨_, Try.underlying24⟩) (cells_oneG note_oneN _) (by omega) (by unfold maxLen; omega) ?_⟩
      intro v7 N7 hv1 hv2
      refine ⟨N7, by simp, by omega, ?_, ?_⟩
      · exact rowEsz_keeps (keeps_app _) hz4
      obtain ⟨M5, hM5⟩ : ∃ M5 : Mem, M5 = M4 ++ (Slot.live ⟨[], true, true, 53, 7⟩ :: N7) := ⟨_, rfl⟩
      have k45 : Keeps M4 M5 := by rw [hM5]; exact keeps_app _
      have hA7 : Acc noteR 53 M4.length M5 v7 ((os.map opN).take i) := by
        rw [hM5]
        by_cases e : (os.map opN).take i = []
        · obtain ⟨rfl, rfl⟩ := hv1 e
          exact ⟨_, 0, 0, rfl, by rw [e]; rfl, .inr ⟨M4.length, true, rfl, Nat.le_refl _, by rw [e]; simp [cellsL]⟩⟩
        · obtain ⟨rfl, rfl⟩ := hv2 e
          exact ⟨_, _, _, rfl, rfl, .inr ⟨M4.length + 1, false, by simp, by omega, by simp⟩⟩
      try rw [← hM5]
      clear hM5
      have n45 := k45.len
      have hE2 : Sl noteR M5 (some ⟨id2, off2 + (i + 1) * 7, none⟩) (os.length - (i + 1)) ((os.map opN).drop (i + 1)) := (hT1.dropX (by omega)).keeps k45
      have lE2 : ((os.map opN).drop (i + 1)).length = os.length - (i + 1) := by simp
      refine hA7.extend2 (ls := (os.map opN).drop (i + 1)) (by_ := 56) (by omega) (by simp only []; omega) (by kernel_rfl) (by kernel_rfl) (hE2.src (by omega) ⟨_, Try.underlying24⟩) (cells_oneG note_oneN _) (by omega) (by unfold maxLen; omega) ?_
      intro v8 M6 hA8 s8 hap8
      have k46 : Keeps M4 M6 := s8.keeps k45 (Nat.le_refl _)
      have n46 := k46.len
      have k6 := k4.trans k46
      have hbox6 := k46.get hbox4
      have hC2 := hB2.keeps k46
      have hC3 := hB3.keeps k46
      have hT26 := hT2.keeps k46
      have hz36 : rowEsz M6 id3 = some 1 := by
        obtain ⟨_, _, e, he, -⟩ := hT26.2 (by omega)
        cases e
        exact he
      have q83 : Sep v8 w3 := hA8.sep_new hB3 (Nat.le_refl _)
      have hF1 : Sl intR M6 (some ⟨id3, off3, none⟩) i ((os.map (·.t)).take i) := hT26.takeX (by omega)
      have lF1 : ((os.map (·.t)).take i).length = i := by simp; omega
      have lF2 : ((os.map (·.t)).drop (i + 1)).length = os.length - (i + 1) := by simp
      obtain ⟨v9, N9, hd9, hA9⟩ := l00Own_d (c := i) hF1 (by omega)
      refine awDraw_D 8 [[],[],[0,1],[2,0,1],[],[],[5],[4,6,5],[3,2,0,1,7,4,6,5],[8,3,2,0,1,7,4,6,5]] (by kernel_rfl) (by decide +kernel) ?_
      simp (disch := omega) [u12, u11, u10, u9, u8, u7, u6, u5, u4, u0, u1, wrap_in, hz36]
      refine ⟨by omega, awCall_det' hd9 (Nat.le_refl _) ⟨N9, rfl, by omega, rowEsz_keeps (keeps_app _) hz36, ?_⟩⟩
      have hF2 : Sl intR (M6 ++ N9) (some ⟨id3, off3 + (i + 1), none⟩) (os.length - (i + 1)) ((os.map (·.t)).drop (i + 1)) := by
        have := (hT26.dropX (m := i + 1) (by omega)).app N9
        rwa [Nat.mul_one] at this
      refine hA9.extend2 (ls := (os.map (·.t)).drop (i + 1)) (by_ := 8) (by omega) (by simp only [List.length_append]; omega) (by kernel_rfl) (by kernel_rfl) (hF2.src (by omega) ⟨_, Try.underlying63⟩) (cells_oneG int_one _) (by omega) (by unfold maxLen; omega) ?_
      intro v10 M8 hA10 s10 hap10
      have k68 : Keeps M6 M8 := s10.keeps (keeps_app _) (Nat.le_refl _)
      have q10 : Sep v10 v8 := hA10.sep_new hA8 (Nat.le_refl _)
      have q103 : Sep v10 w3 := hA10.sep_new hC3 (Nat.le_refl _)
      have hm : okM D (el os i) (now + (el l k).d) = true := by rw [hokM]; simp [z1, z2, z3]
      have hI2 := hI.close hD.1 hev hf hnow.1 hm
      rw [← hN] at hI2 hg
      refine lpI (m - 1) (by omega) ?_
      have e1 : (os.eraseIdx i).map opN = (os.map opN).take i ++ (os.map opN).drop (i + 1) := by rw [← map_erase, List.eraseIdx_eq_take_drop_succ]
      have e2 : (os.eraseIdx i).map (·.t) = (os.map (·.t)).take i ++ (os.map (·.t)).drop (i + 1) := by rw [← map_erase, List.eraseIdx_eq_take_drop_succ]
      exact ⟨k + 1, v8, v10, w3, now + (el l k).d, os.eraseIdx i, ns ++ [N], by omega, k6.trans k68, k68.get hbox6, by rw [e1]; exact (hA8.low (by omega)).keeps k68, by rw [e2]; exact hA10.low (by omega), hC3.keeps k68, q10.symm, q83, q103, hI2, by omega, by simp; omega, by rw [List.length_eraseIdx_of_lt f1]; omega, hg, by simp, by simp [u9], by simp, by simp, by simp, by simp [u5], by simp [u4], by simp [u0], by simp [u1]⟩
end Go.Proofs.Ytbpaeonfebmomaa

namespace Go.Proofs.Ytbpaeonfebmomaa
open Go.RowKit
set_option linter.unusedVariables false
set_option linter.unusedSimpArgs false
set_option maxRecDepth 100000
attribute [local simp] List.getElem?_cons_zero
attribute [local irreducible] awCond awCall awLoop awDraw ow retQ retC resQ Keeps
theorem ScoreOfStream_sl {M : Mem} {v : Value} {lo hi : Nat} {l : List StreamEvent} (hx : RdL streamEventR lo hi M v l) (o : Int) (ex : l.length ≤ 1048576) : Ctr Try.prog M.length 15 [v, iv o] M fun r M' => ∃ v0, r = .tuple #[.agg #[v0], iv (sosV l o).2] ∧ OwL noteR M.length M'.length M' v0 (sosV l o).1 ∧ Keeps M M' := by
  obtain ⟨A, n, c, rfl, hn, hS, _⟩ := hx
  exact ScoreOfStream_s o hS (by have := hS.1; omega)
theorem ScoreOfStream_il {M : Mem} {v : Value} {lo hi : Nat} {l : List StreamEvent} (hx : RdL streamEventR lo hi M v l) (o : Int) (ex : l.length ≤ 1048576) : Ctr Try.prog M.length 11 [v, iv o] M fun r M' => ∃ v0, r = .tuple #[.agg #[v0], iv (sosV l o).2] ∧ OwL noteR M.length M'.length M' v0 (sosV l o).1 ∧ Keeps M M' := by
  obtain ⟨A, n, c, rfl, hn, hS, _⟩ := hx
  exact ScoreOfStream_i o hS (by have := hS.1; omega)
end Go.Proofs.Ytbpaeonfebmomaa
