/- TDel, Walk, ScanP, Trie, AtP. -/
import Derived.Test.YtjppbomngnomhaaGreatDoorMv9
set_option linter.unnecessarySimpa false
set_option linter.unusedSimpArgs false
set_option linter.unusedVariables false
set_option maxRecDepth 100000
set_option maxHeartbeats 32000000
namespace Go.Proofs.YtjppbomngnomhaaGreatDoor
open Go.RowKit Pl
def DOut (B : Nat) (w : World) (t : Tri) (e : Ending) (w' : World) : Prop := ∃ p, e = .returned (ptV p) ∧ Below B w w' ∧ KAt w' t p
theorem live_no' (f : Nat → Tri) (k : Nat) (h : f k = .nil) : liveK f (k + 1) = liveK f k ∧ lastK f (k + 1) = lastK f k := by
 simp only [liveK, lastK, (isN_iff _).2 h, if_true, and_self]
theorem live_one' (f : Nat → Tri) (k : Nat) (h : f k ≠ .nil) : liveK f (k + 1) = liveK f k + 1 ∧ lastK f (k + 1) = k := by
 simp only [liveK, lastK, (isN_not _).2 h, Bool.false_eq_true, if_false, and_self]
theorem last_le (f : Nat → Tri) : ∀ n, lastK f n ≤ n
 | 0 => Nat.le_refl _
 | n + 1 => by
  have := last_le f n
  unfold lastK
  split <;> omega
theorem mend_zero {v : Bs} {f : Nat → Tri} (h : liveK f 16 = 0) : mendT v f = .leaf [] v := if_pos h
theorem mend_one {f : Nat → Tri} (h : liveK f 16 = 1) : mendT [] f = joinT [UInt8.ofNat (lastK f 16)] (f (lastK f 16)) := by
 unfold mendT
 rw [if_neg (by omega), if_pos ⟨h, rfl⟩]
theorem mend_two {v : Bs} {f : Nat → Tri} (h0 : liveK f 16 ≠ 0) (h : ¬ (liveK f 16 = 1 ∧ v = [])) : mendT v f = .br v f := by
 unfold mendT
 rw [if_neg h0, if_neg h]
theorem del_leaf (p0 v0 : Bs) (b : Nat) (q : Bs) (w : World) (hT : KAt w (.leaf p0 v0) (some b)) :
  Calls Tryz.prog 43 #[.pointer (some ⟨b, 0, none⟩), .string ⟨List.toArray q⟩] w (DOut w.heap.size w .nil) := by
 obtain ⟨hne, ps, hps, ⟨c0, c1, c2, _, _, _, c6⟩, _⟩ := hT.open
 simp only [kindT] at c0
 clear hps hne c1 c2 c6 hT
 go_enter Tryz.func43, Tryz.ntmps43
 go_wp2_with fail
 go_ret
 exact ⟨none, rfl, Below.refl _ _, .nil⟩
theorem del_ext (p0 : Bs) (t1 : Tri) (n : Nat) (hn : n ≤ 400) (b : Nat) (q : Bs) (ho : okT (.ext p0 t1) n) (hl : p0.length ≤ q.length) (hne2 : delT t1 (q.drop p0.length) ≠ .nil) (hop : okT (delT t1 (q.drop p0.length)) (n - p0.length)) (w : World) (hk : KT w) (hT : KAt w (.ext p0 t1) (some b))
  (ih : ∀ (p : Option Nat) (w : World), KT w → KAt w t1 p → Calls Tryz.prog 43 #[ptV p, .string ⟨List.toArray (q.drop p0.length)⟩] w (DOut w.heap.size w (delT t1 (q.drop p0.length)))) :
  Calls Tryz.prog 43 #[.pointer (some ⟨b, 0, none⟩), .string ⟨List.toArray q⟩] w (KOut w.heap.size w (joinT p0 (delT t1 (q.drop p0.length)))) := by
 obtain ⟨hne, ps, hps, ⟨c0, c1, c2, _, _, _, c6⟩, _⟩ := hT.open
 simp only [kindT, pathT] at c0 c1
 obtain ⟨o1, o2, o3, o4⟩ := ho
 have hk0 := hps 0 (by omega)
 rw [show kidsOf (.ext p0 t1) 0 = t1 from by simp [kidsOf, updT]] at hk0
 have hpl := (okT_path _ _ hop).1
 have HJN := Lib.hid (fun W (h : KT W) (b' : Nat) (hK : KAt W (delT t1 (q.drop p0.length)) (some b')) => joined_any p0 _ b' W h hK (by omega))
 have HIH := Lib.hid ih
 have HK := Lib.hid hk
 have HK0 := Lib.hid hk0
 have HNE := Lib.hid hne2
 have hst : List.take (q.length - p0.length) (q.drop p0.length) = q.drop p0.length := List.take_of_length_le (by simp)
 have hci : (p0.length : Int) ≤ (q.length : Int) := by omega
 clear hps hne hT hk c2 ih hk0 o1 o2 o3 o4 hpl hne2 hop
 generalize delT t1 (q.drop p0.length) = t2 at *
 go_enter Tryz.func43, Tryz.ntmps43
 go_wp2_with fail
 refine wpH_start (by kernel_rfl) (fun hS => ?_)
 (refine hP 0 ?_ ⟨some 25, .move (.tmp 0), 66, "", #[], none⟩ hS ?_ ?_; rotate_left; focus (intro w; go_simp; try with_reducible rfl))
 try simp only [pna, pnb, pnc, pnd, pne]
 (refine hP 1 ?_ ⟨some 26, .nilCheck (.tmp 25), 0, "", #[], none⟩ hS ?_ ?_; rotate_left; focus (intro w; go_simp; try with_reducible rfl))
 try simp only [pna, pnb, pnc, pnd, pne]
 (refine hP 2 ?_ ⟨some 27, .fieldAddr 79 (.tmp 26) 0, 0, "", #[], none⟩ hS ?_ ?_; rotate_left; focus (intro w; go_simp; try with_reducible rfl))
 try simp only [pna, pnb, pnc, pnd, pne]
 (refine hP 3 ?_ ⟨some 28, .fieldAddr 76 (.tmp 27) 1, 0, "", #[], none⟩ hS ?_ ?_; rotate_left; focus (intro w; go_simp; try with_reducible rfl))
 try simp only [pna, pnb, pnc, pnd, pne]
 refine wpH_load 4 (.string ⟨List.toArray p0⟩) (oi := { dst := some 29, op := Op.load 9 (Operand.tmp 28), type := 9, pos := "knot.go:126", after := #[{ on := 3, ground := Ground.data }], guard := none }) rfl (by kernel_rfl) (by kernel_rfl) (by kernel_rfl) (by rfl) hS (fun _ _ _ h => h) (fun w hb => (by have c := keepC hb c1; go_simp; try rfl)) ?_
 try simp only [pna, pnb, pnc, pnd, pne]
 (refine hP 5 ?_ ⟨some 30, .move (.tmp 0), 66, "", #[], none⟩ hS ?_ ?_; rotate_left; focus (intro w; go_simp; try with_reducible rfl))
 try simp only [pna, pnb, pnc, pnd, pne]
 (refine hP 6 ?_ ⟨some 31, .nilCheck (.tmp 30), 0, "", #[], none⟩ hS ?_ ?_; rotate_left; focus (intro w; go_simp; try with_reducible rfl))
 try simp only [pna, pnb, pnc, pnd, pne]
 (refine hP 7 ?_ ⟨some 32, .fieldAddr 79 (.tmp 31) 1, 0, "", #[], none⟩ hS ?_ ?_; rotate_left; focus (intro w; go_simp; try with_reducible rfl))
 try simp only [pna, pnb, pnc, pnd, pne]
 (refine hP 8 ?_ ⟨some 33, .indexAddr 77 (.tmp 32) (.const (.int .i64 0)), 0, "", #[], none⟩ hS ?_ ?_; rotate_left; focus (intro w; go_simp; try with_reducible rfl))
 try simp only [pna, pnb, pnc, pnd, pne]
 refine wpH_load 9 (ptV (ps 0)) (oi := { dst := some 34, op := Op.load 66 (Operand.tmp 33), type := 66, pos := "knot.go:126", after := #[{ on := 8, ground := Ground.data }], guard := none }) rfl (by kernel_rfl) (by kernel_rfl) (by kernel_rfl) (by rfl) hS (fun _ _ _ h => h) (fun w hb => (by have c := keepC hb c6; go_simp; try rfl)) ?_
 try simp only [pna, pnb, pnc, pnd, pne]
 (refine hP 10 ?_ ⟨some 35, .move (.tmp 1), 9, "", #[], none⟩ hS ?_ ?_; rotate_left; focus (intro w; go_simp; try with_reducible rfl))
 try simp only [pna, pnb, pnc, pnd, pne]
 (refine hP 11 ?_ ⟨some 36, .move (.tmp 0), 66, "", #[], none⟩ hS ?_ ?_; rotate_left; focus (intro w; go_simp; try with_reducible rfl))
 try simp only [pna, pnb, pnc, pnd, pne]
 (refine hP 12 ?_ ⟨some 37, .nilCheck (.tmp 36), 0, "", #[], none⟩ hS ?_ ?_; rotate_left; focus (intro w; go_simp; try with_reducible rfl))
 try simp only [pna, pnb, pnc, pnd, pne]
 (refine hP 13 ?_ ⟨some 38, .fieldAddr 79 (.tmp 37) 0, 0, "", #[], none⟩ hS ?_ ?_; rotate_left; focus (intro w; go_simp; try with_reducible rfl))
 try simp only [pna, pnb, pnc, pnd, pne]
 (refine hP 14 ?_ ⟨some 39, .fieldAddr 76 (.tmp 38) 1, 0, "", #[], none⟩ hS ?_ ?_; rotate_left; focus (intro w; go_simp; try with_reducible rfl))
 try simp only [pna, pnb, pnc, pnd, pne]
 refine wpH_load 15 (.string ⟨List.toArray p0⟩) (oi := { dst := some 40, op := Op.load 9 (Operand.tmp 39), type := 9, pos := "knot.go:126", after := #[{ on := 14, ground := Ground.data }], guard := none }) rfl (by kernel_rfl) (by kernel_rfl) (by kernel_rfl) (by rfl) hS (fun _ _ _ h => h) (fun w hb => (by have c := keepC hb c1; go_simp; try rfl)) ?_
 try simp only [pna, pnb, pnc, pnd, pne]
 (refine hP 16 ?_ ⟨some 41, .call { callee := .builtin .len, args := #[.tmp 40], argTypes := #[9] }, 3, "", #[], none⟩ hS ?_ ?_; rotate_left; focus (intro w; go_simp; try with_reducible rfl))
 try simp only [pna, pnb, pnc, pnd, pne]
 (refine hP 17 ?_ ⟨some 42, .slice 9 (.tmp 35) (some (.tmp 41)) none none, 9, "", #[], none⟩ hS ?_ ?_; rotate_left; focus (intro w; go_simp; try with_reducible rfl))
 try simp only [pna, pnb, pnc, pnd, pne]
 refine wpH_call 18 (oi := { dst := some 43, op := Op.call { callee := Callee.value (Operand.func 43), args := #[Operand.tmp 34, Operand.tmp 42], argTypes := #[66, 9] }, type := 66, pos := "knot.go:126", after := #[{ on := 9, ground := Ground.data }, { on := 17, ground := Ground.data }], guard := none }) rfl (by kernel_rfl) (by rfl) (HIH.out (ps 0) _ (HK.out.keep (Below.refl _ _).drew) (HK0.out.keep (Below.refl _ _).drew)) ?_ ?_
 ·(go_simp; try rfl)
 rintro e w' ⟨p3, rfl, hb3, hK3⟩
 refine ⟨_, rfl, hS.trans (hb3.mono hS.size), ?_⟩
 replace hS := hS.trans (hb3.mono hS.size)
 have hb3' := (Below.refl w.heap.size w).drew.trans (hb3.mono (Below.refl w.heap.size w).drew.size)
 obtain ⟨b3, rfl⟩ := hK3.isKnot HNE.out
 try simp only [pna, pnb, pnc, pnd, pne]
 refine wpH_call 19 (oi := { dst := some 44, op := Op.call { callee := Callee.value (Operand.func 63), args := #[Operand.tmp 29, Operand.tmp 43], argTypes := #[9, 66] }, type := 66, pos := "knot.go:126", after := #[{ on := 4, ground := Ground.data }, { on := 18, ground := Ground.data }, { on := 18, ground := Ground.chain }], guard := none }) rfl (by kernel_rfl) (by rfl) (HJN.out _ (HK.out.keep hb3') b3 hK3) ?_ ?_
 ·(go_simp; try rfl)
 rintro e w' ⟨b4, rfl, hb4, hK4⟩
 refine ⟨_, rfl, hS.trans (hb4.mono hS.size), ?_⟩
 replace hS := hS.trans (hb4.mono hS.size)
 try simp only [pna, pnb, pnc, pnd, pne]
 (refine hP 20 ?_ ⟨some 4, .assign (.tmp 44), 66, "", #[], none⟩ hS ?_ ?_; rotate_left; focus (intro w; go_simp; try with_reducible rfl))
 try simp only [pna, pnb, pnc, pnd, pne]
 refine wpAnyH_done (by kernel_rfl) ?_ _
 go_wp2_with fail
 go_ret
 exact ⟨b4, rfl, hb3'.trans (hb4.mono hb3'.size), hK4⟩
theorem run_storePtrO (w : World) (b o : Nat) (q : Option Nat) (u : Value) (hc : w.cell? ⟨b, o, none⟩ = some u) (hf : w.frozen? ⟨b, o, none⟩ = false) :
  (Instr.storeAt 66 (.pointer (some ⟨b, o, none⟩)) (ptV q)).run Tryz.prog w = .ok () (w.setCell ⟨b, o, none⟩ (ptV q)) := by
 cases q <;> simp only [ptV_none, ptV_some] <;> go_simp
theorem wp_storeO {o : Oper} {a : Act} {w : World} {K : Act → World → Prop} {Q : Exit → Act → World → Prop} (x y : Operand) (ho : o.op = .store 66 x y) (b i : Nat) (hx : a.eval x = .pointer (some ⟨b, i, none⟩)) (q : Option Nat) (hy : a.eval y = ptV q)
  (u : Value) (hc : w.cell? ⟨b, i, none⟩ = some u) (hf : w.frozen? ⟨b, i, none⟩ = false) (h : K (a.put o.dst undef) (w.setCell ⟨b, i, none⟩ (ptV q))) : o.wp Tryz.prog a w K Q := by
 unfold Oper.wp execOp
 simp only [ho, hx, hy, Sem.run_bind, Sem.run_pure, Result.andThen_ok, run_storePtrO w b i q u hc hf]
 exact h
theorem wp_conv1 {o : Oper} {a : Act} {w : World} {K : Act → World → Prop} {Q : Exit → Act → World → Prop} (x : Operand) (ho : o.op = .convert 59 9 x) (g : Nat) (c : UInt8) (hx : a.eval x = .slice (some ⟨g, 0, none⟩) 1 1)
  (hc : w.cell? ⟨g, 0, none⟩ = some (.int .u8 (c.toNat : Int))) (h : K (a.put o.dst (.string ⟨List.toArray ([c])⟩)) w) : o.wp Tryz.prog a w K Q := by
 have hr := conv_str (P := Tryz.prog) (w := w) 59 5 9 Tryz.underlying59 Tryz.underlying5 Tryz.underlying9 g 0 1 1 [c] rfl (fun i hi => by
  have : i = 0 := by omega
  subst this
  exact hc)
 unfold Oper.wp execOp
 simp only [ho, hx, Sem.run_bind, Sem.run_pure, Result.andThen_ok, hr]
 exact h
theorem del_brE (w0 : Bs) (kids : Nat → Tri) (b : Nat) (w : World) (hk : KT w) (hpl : ∀ i, (pathT (kids i)).length ≤ 900) (hT : KAt w (.br w0 kids) (some b)) :
  Calls Tryz.prog 43 #[.pointer (some ⟨b, 0, none⟩), .string ⟨List.toArray []⟩] w (KOut w.heap.size w (mendT [] kids)) := by
 obtain ⟨hne, ps, hps, ⟨c0, c1, c2, _, _, _, c6⟩, hB⟩ := hT.open
 simp only [kindT, pathT, valT] at c0 c1 c2
 have HK := Lib.hid hk
 have HPS := Lib.hid hps
 have HPL := Lib.hid hpl
 have rP := kn_ptrs hB
 have hbl := hB.lt
 generalize hG : mendT [] kids = gt
 have HG : Hid (gt = mendT [] kids) := Lib.hid hG.symm
 clear hps hne hT hk c1 c6 hB hpl hG
 go_enter Tryz.func43, Tryz.ntmps43
 go_wp2_with fail
 refine wpH_startB (w.heap.size) (by kernel_rfl) (fun hS => ?_)
 (refine hP 0 ?_ ⟨some 45, .move (.tmp 0), 66, "", #[], none⟩ hS ?_ ?_; rotate_left; focus (intro w; go_simp; try with_reducible rfl))
 try simp only [pna, pnb, pnc, pnd, pne]
 (refine hP 1 ?_ ⟨some 46, .nilCheck (.tmp 45), 0, "", #[], none⟩ hS ?_ ?_; rotate_left; focus (intro w; go_simp; try with_reducible rfl))
 try simp only [pna, pnb, pnc, pnd, pne]
 (refine hP 2 ?_ ⟨some 47, .fieldAddr 79 (.tmp 46) 0, 0, "", #[], none⟩ hS ?_ ?_; rotate_left; focus (intro w; go_simp; try with_reducible rfl))
 try simp only [pna, pnb, pnc, pnd, pne]
 (refine hP 3 ?_ ⟨some 48, .fieldAddr 76 (.tmp 47) 2, 0, "", #[], none⟩ hS ?_ ?_; rotate_left; focus (intro w; go_simp; try with_reducible rfl))
 try simp only [pna, pnb, pnc, pnd, pne]
 refine wpH_load 4 (.string ⟨List.toArray w0⟩) (oi := { dst := some 49, op := Op.load 9 (Operand.tmp 48), type := 9, pos := "knot.go:128", after := #[{ on := 3, ground := Ground.data }], guard := none }) rfl (by kernel_rfl) (by kernel_rfl) (by kernel_rfl) (by rfl) hS (fun _ _ _ h => h) (fun w' hb => (by have c := (hb.cell (p := ⟨b, 2, none⟩) hbl).trans c2; go_simp; try rfl)) ?_
 try simp only [pna, pnb, pnc, pnd, pne]
 (refine hP 5 ?_ ⟨some 50, .move (.tmp 0), 66, "", #[], none⟩ hS ?_ ?_; rotate_left; focus (intro w; go_simp; try with_reducible rfl))
 try simp only [pna, pnb, pnc, pnd, pne]
 (refine hP 6 ?_ ⟨some 51, .nilCheck (.tmp 50), 0, "", #[], none⟩ hS ?_ ?_; rotate_left; focus (intro w; go_simp; try with_reducible rfl))
 try simp only [pna, pnb, pnc, pnd, pne]
 (refine hP 7 ?_ ⟨some 52, .fieldAddr 79 (.tmp 51) 1, 0, "", #[], none⟩ hS ?_ ?_; rotate_left; focus (intro w; go_simp; try with_reducible rfl))
 try simp only [pna, pnb, pnc, pnd, pne]
 refine wpH_load 8 (.agg (pk ps).toArray) (oi := { dst := some 53, op := Op.load 77 (Operand.tmp 52), type := 77, pos := "knot.go:128", after := #[{ on := 7, ground := Ground.data }, { on := 10, ground := Ground.gcOnly Departure.lateStores }], guard := none }) rfl (by kernel_rfl) (by kernel_rfl) (by kernel_rfl) (by rfl) hS (fun _ _ _ h => h) (fun w' hb => exec_rowR row16p (.tmp 52) rfl rfl (pk_len ps) (rg_keep rP hbl hb)) ?_
 try simp only [pna, pnb, pnc, pnd, pne]
 refine wpH_op 9 (oi := { dst := some 6, op := Op.alloc 77, type := 0, pos := "knot.go:128", after := #[], guard := none }) rfl (by kernel_rfl) (by rfl) ?_
 refine wp_allocK 77 rfl (pk noP).toArray (fun w => by unfold execOp; simp only [pk_no]; go_simp) ?_
 intro m w5 hm B5 hb5
 have hlo := hm
 replace hS := hS.trans (hb5.mono (by show w.heap.size ≤ w.heap.size; exact Nat.le_refl _))
 refine ⟨hS, ?_⟩
 try simp only [pna, pnb, pnc, pnd, pne]
 (refine hP 10 ?_ ⟨some 5, .assign (.tmp 49), 9, "", #[], none⟩ hS ?_ ?_; rotate_left; focus (intro w; go_simp; try with_reducible rfl))
 try simp only [pna, pnb, pnc, pnd, pne]
 refine wpH_op 11 (oi := { dst := none, op := Op.store 77 (Operand.tmp 6) (Operand.tmp 53), type := 0, pos := "knot.go:128", after := #[{ on := 9, ground := Ground.data }, { on := 8, ground := Ground.data }, { on := 10, ground := Ground.chain }, { on := 0, ground := Ground.phase }, { on := 1, ground := Ground.phase }, { on := 2, ground := Ground.phase }, { on := 3, ground := Ground.phase }, { on := 4, ground := Ground.phase }, { on := 5, ground := Ground.phase }, { on := 6, ground := Ground.phase }, { on := 7, ground := Ground.phase }, { on := 8, ground := Ground.phase }, { on := 9, ground := Ground.phase }, { on := 10, ground := Ground.phase }], guard := none }) rfl (by kernel_rfl) (by rfl) ?_
 refine wp_rowS row16p (.tmp 6) (.tmp 53) rfl rfl rfl (pk_len ps) (pk_one ps) (pk_len noP) B5 ?_
 intro w6 B6 m6
 have hb6 : Below w.heap.size w w6 := Below.mod hS m6 hS.size (by simpa using hlo)
 refine ⟨hb6, ?_⟩
 try simp only [pna, pnb, pnc, pnd, pne]
 refine wpAnyH_done (by kernel_rfl) ?_ _
 have HT6 : Hid (∀ i, i < 16 → KAt w6 (kids i) (ps i)) := Lib.hid (fun i hi => (HPS.out i hi).keep hb6)
 have HBm := Lib.hid B6
 clear hS B5 hb5 m6 hlo hm
 go_wp2_with (first
  | (refine wpList_rowLoad row16p rfl (.tmp 6) rfl rfl (pk_len ps) B6 ?_)
  | fail)
 generalize kids = kk at *
 generalize ps = pp at *
 go_loopw [67, 7, 8] (fun s67 s7 s8 wr => ∃ k : Nat, k ≤ 16 ∧ s67 = .int .i64 k ∧ s7 = .int .i64 (liveK kk k) ∧ s8 = .int .i64 (lastK kk k) ∧ Hid (wr = w6)) (fun s67 _ _ _ => 16 - (intOf s67).toNat)
 case atStart => exact ⟨0, by omega, rfl, rfl, rfl, Lib.hid (by trivial)⟩
 case round =>
  obtain ⟨k, hk16, rfl, rfl, rfl, HW⟩ := hrel
  have hww := HW.out.symm
  subst hww
  by_cases hlt : k < 16
  ·have hlt' : (k : Int) < 16 := by omega
   have hki := pk_index pp k hlt
   by_cases hkn : kk k = .nil
   ·have e1 : pp k = none := by
     have h1 := HT6.out k hlt
     rw [hkn] at h1
     exact h1.isNil
    obtain ⟨l1, l2⟩ := live_no' kk k hkn
    rw [e1, ptV_none] at hki
    have HL1 := Lib.hid l1
    have HL2 := Lib.hid l2
    clear l1 l2 hkn e1
    go_wp2_with fail
    exact ⟨⟨k + 1, by omega, by go_num, by rw [HL1.out], by rw [HL2.out], Lib.hid (by trivial)⟩, by simp [intOf]; omega⟩
   ·obtain ⟨c, e1⟩ := (HT6.out k hlt).isKnot hkn
    obtain ⟨l1, l2⟩ := live_one' kk k hkn
    have hll := live_le kk k
    rw [e1, ptV_some] at hki
    have HL1 := Lib.hid l1
    have HL2 := Lib.hid l2
    clear l1 l2 hkn e1
    go_wp2_with fail
    exact ⟨⟨k + 1, by omega, by go_num, by rw [HL1.out]; go_num, by rw [HL2.out], Lib.hid (by trivial)⟩, by simp [intOf]; omega⟩
  ·have hke : k = 16 := by omega
   subst hke
   have hll := live_le kk 16
   have hla := last_le kk 16
   have HZ := Lib.hid (mend_zero (v := ([] : Bs)) (f := kk))
   have HO := Lib.hid (mend_one (f := kk))
   have HW2 := Lib.hid (mend_two (v := ([] : Bs)) (f := kk))
   have HLL := Lib.hid (last_lt kk 16)
   generalize hlv : liveK kk 16 = lv at *
   generalize hls : lastK kk 16 = ls at *
   clear hlv hls
   by_cases h0 : lv = 0
   ·have z0 : ((lv : Int) == 0) = true := by simpa using h0
    have HE := Lib.hid (HZ.out h0)
    have HLF := Lib.hid (leaf_any [] ([] : Bs) (by simp) w6 (HK.out.keep hb6))
    clear h0 HZ HO HW2 HLL
    go_wp2_with fail
    refine HLF.out.mono ?_
    rintro e w7 ⟨b7, rfl, hb7, hK7⟩
    go_wp2_with fail
    go_ret
    exact ⟨b7, rfl, hb6.trans (hb7.mono hb6.size), by rw [HG.out, HE.out]; exact hK7⟩
   ·have z0 : ((lv : Int) == 0) = false := by rw [beq_eq_false_iff_ne]; omega
    obtain ⟨hls, hkl⟩ := HLL.out h0
    by_cases h1 : lv = 1 ∧ ([] : Bs) = []
    ·obtain ⟨h1, h2⟩ := h1
     first | subst h2 | clear h2
     have HE := Lib.hid (HO.out h1)
     have z1 : ((lv : Int) == 1) = true := by rw [beq_iff_eq]; omega
     obtain ⟨c, e1⟩ := (HT6.out ls hls).isKnot hkl
     have hpt := HT6.out ls hls
     rw [e1] at hpt
     have HJN := Lib.hid (fun W (h : KT W) hK => joined_any [UInt8.ofNat ls] (kk ls) c W h hK (by have := HPL.out ls; simp; omega))
     have HPT := Lib.hid hpt
     have hcell := pk_cell HBm.out ls hls
     rw [e1, ptV_some] at hcell
     have i1 : 0 ≤ (ls : Int) ∧ (ls : Int) < 16 := by omega
     have hw8 : IntKind.u8.wrap (ls : Int) = (ls : Int) := by rw [IntKind.wrap_u8]; omega
     have hml := HBm.out.lt
     clear h0 h1 HZ HO HW2 HLL hkl hpt e1 hls
     go_wp2_with fail
     refine wpH_start (by kernel_rfl) (fun hS => ?_)
     (refine hP 0 ?_ ⟨some 89, .move (.tmp 8), 3, "", #[], none⟩ hS ?_ ?_; rotate_left; focus (intro w; go_simp; try with_reducible rfl))
     try simp only [pna, pnb, pnc, pnd, pne]
     (refine hP 1 ?_ ⟨some 90, .convert 3 5 (.tmp 89), 5, "", #[], none⟩ hS ?_ ?_; rotate_left; focus (intro w; go_simp; try with_reducible rfl))
     try simp only [pna, pnb, pnc, pnd, pne]
     (refine hP 4 ?_ ⟨some 93, .move (.tmp 8), 3, "", #[], none⟩ hS ?_ ?_; rotate_left; focus (intro w; go_simp; try with_reducible rfl))
     try simp only [pna, pnb, pnc, pnd, pne]
     (refine hP 5 ?_ ⟨some 94, .indexAddr 77 (.tmp 6) (.tmp 93), 0, "", #[], none⟩ hS ?_ ?_; rotate_left; focus (intro w; go_simp; try with_reducible rfl))
     try simp only [pna, pnb, pnc, pnd, pne]
     refine wpH_load 6 (.pointer (some ⟨c, 0, none⟩)) (oi := { dst := some 95, op := Op.load 66 (Operand.tmp 94), type := 66, pos := "knot.go:144", after := #[{ on := 5, ground := Ground.data }], guard := none }) rfl (by kernel_rfl) (by kernel_rfl) (by kernel_rfl) (by rfl) hS (fun _ _ _ h => h) (fun w hb => (by have c := keepC hb hcell; go_simp; try rfl)) ?_
     try simp only [pna, pnb, pnc, pnd, pne]
     refine wpH_op 2 (oi := { dst := some 91, op := Op.buildSlice 59 1 #[(0, Operand.tmp 90)], type := 59, pos := "knot.go:144", after := #[{ on := 1, ground := Ground.data }], guard := none }) rfl (by kernel_rfl) (by rfl) ?_
     refine wp_newK 5 #[.int .u8 (ls : Int)] (fun m => .slice (some ⟨m, 0, none⟩) 1 1) (fun w => by go_simp; try rfl) ?_
     intro m1 wk hm1 hh hmk hbk
     replace hS := hS.trans (hbk.mono hS.size)
     refine ⟨hS, ?_⟩
     have hc1 : wk.cell? ⟨m1, 0, none⟩ = some (.int .u8 ((UInt8.ofNat ls).toNat : Int)) := by rw [u8_to ls (by omega)]; simp [World.cell?, hh]
     try simp only [pna, pnb, pnc, pnd, pne]
     refine wpH_op 3 (oi := { dst := some 92, op := Op.convert 59 9 (Operand.tmp 91), type := 9, pos := "knot.go:144", after := #[{ on := 2, ground := Ground.data }], guard := none }) rfl (by kernel_rfl) (by rfl) ?_
     refine wp_conv1 (.tmp 91) rfl m1 (UInt8.ofNat ls) rfl hc1 ?_
     refine ⟨hS, ?_⟩
     try simp only [pna, pnb, pnc, pnd, pne]
     refine wpH_call 7 (oi := { dst := some 96, op := Op.call { callee := Callee.value (Operand.func 63), args := #[Operand.tmp 92, Operand.tmp 95], argTypes := #[9, 66] }, type := 66, pos := "knot.go:144", after := #[{ on := 3, ground := Ground.data }, { on := 6, ground := Ground.data }], guard := none }) rfl (by kernel_rfl) (by rfl) (HJN.out _ (HK.out.keep (hb6.trans (hS.mono hb6.size))) (HPT.out.keep hS)) ?_ ?_
     ·(go_simp; try rfl)
     rintro e w' ⟨b7, rfl, hb7, hK7⟩
     refine ⟨_, rfl, hS.trans (hb7.mono hS.size), ?_⟩
     replace hS := hS.trans (hb7.mono hS.size)
     try simp only [pna, pnb, pnc, pnd, pne]
     (refine hP 8 ?_ ⟨some 4, .assign (.tmp 96), 66, "", #[], none⟩ hS ?_ ?_; rotate_left; focus (intro w; go_simp; try with_reducible rfl))
     try simp only [pna, pnb, pnc, pnd, pne]
     refine wpAnyH_done (by kernel_rfl) ?_ _
     go_wp2_with fail
     go_ret
     exact ⟨b7, rfl, hb6.trans (hS.mono hb6.size), by rw [HG.out, HE.out]; exact hK7⟩
    ·have HE := Lib.hid (HW2.out h0 h1)
     have HBR := Lib.hid (branch_any ([] : Bs) kk pp w6 (HK.out.keep hb6) HT6.out)
     have hB6 := HBm.out
     by_cases h2 : lv = 1
     ·have z1 : ((lv : Int) == 1) = true := by rw [beq_iff_eq]; omega
      have hv : ([] : Bs) ≠ [] := fun h => h1 ⟨h2, h⟩
      first
       | exact absurd rfl hv
       | (have hv1 : (([] : Bs) == []) = false := by simpa using hv
          have hv2 : (([] : Bs)).isEmpty = false := by simpa using hv
          clear h0 h1 h2 hv HZ HO HW2 HLL hkl hls
          go_wp2_with (first
            | (refine wpList_rowLoad row16p rfl (.tmp 6) rfl rfl (pk_len pp) hB6 ?_)
            | fail)
          refine HBR.out.mono ?_
          rintro e w7 ⟨b7, rfl, hb7, hK7⟩
          go_wp2_with fail
          go_ret
          exact ⟨b7, rfl, hb6.trans (hb7.mono hb6.size), by rw [HG.out, HE.out]; exact hK7⟩)
     ·have z1 : ((lv : Int) == 1) = false := by rw [beq_eq_false_iff_ne]; omega
      clear h0 h1 h2 HZ HO HW2 HLL hkl hls
      go_wp2_with (first
       | (refine wpList_rowLoad row16p rfl (.tmp 6) rfl rfl (pk_len pp) hB6 ?_)
       | fail)
      refine HBR.out.mono ?_
      rintro e w7 ⟨b7, rfl, hb7, hK7⟩
      go_wp2_with fail
      go_ret
      exact ⟨b7, rfl, hb6.trans (hb7.mono hb6.size), by rw [HG.out, HE.out]; exact hK7⟩
theorem del_br (w0 : Bs) (kids : Nat → Tri) (b : Nat) (a : UInt8) (r : Bs) (ha : a.toNat < 16) (hr : r.length ≤ 900) (w : World) (hk : KT w) (hpl : ∀ i, (pathT (updT kids a.toNat (delT (kids a.toNat) r) i)).length ≤ 900) (hT : KAt w (.br w0 kids) (some b))
  (ih : ∀ (p : Option Nat) (w : World), KT w → KAt w (kids a.toNat) p → Calls Tryz.prog 43 #[ptV p, .string ⟨List.toArray r⟩] w (DOut w.heap.size w (delT (kids a.toNat) r))) :
  Calls Tryz.prog 43 #[.pointer (some ⟨b, 0, none⟩), .string ⟨List.toArray (a :: r)⟩] w (KOut w.heap.size w (mendT w0 (updT kids a.toNat (delT (kids a.toNat) r)))) := by
 obtain ⟨hne, ps, hps, ⟨c0, c1, c2, _, _, _, c6⟩, hB⟩ := hT.open
 simp only [kindT, pathT, valT] at c0 c1 c2
 have HK := Lib.hid hk
 have HPS := Lib.hid hps
 have HPL := Lib.hid hpl
 have HIH := Lib.hid ih
 have rP := kn_ptrs hB
 have hbl := hB.lt
 have i1 : 0 ≤ (a.toNat : Int) ∧ (a.toNat : Int) < 16 := by omega
 have i2 : (1 : Int) ≤ (r.length : Int) + 1 := by omega
 generalize hG : mendT w0 (updT kids a.toNat (delT (kids a.toNat) r)) = gt
 have HG : Hid (gt = mendT w0 (updT kids a.toNat (delT (kids a.toNat) r))) := Lib.hid hG.symm
 clear hps hne hT hk c1 c6 hB hpl hG ih
 generalize delT (kids a.toNat) r = t2 at *
 go_enter Tryz.func43, Tryz.ntmps43
 go_wp2_with fail
 refine wpH_startB (w.heap.size) (by kernel_rfl) (fun hS => ?_)
 (refine hP 0 ?_ ⟨some 45, .move (.tmp 0), 66, "", #[], none⟩ hS ?_ ?_; rotate_left; focus (intro w; go_simp; try with_reducible rfl))
 try simp only [pna, pnb, pnc, pnd, pne]
 (refine hP 1 ?_ ⟨some 46, .nilCheck (.tmp 45), 0, "", #[], none⟩ hS ?_ ?_; rotate_left; focus (intro w; go_simp; try with_reducible rfl))
 try simp only [pna, pnb, pnc, pnd, pne]
 (refine hP 2 ?_ ⟨some 47, .fieldAddr 79 (.tmp 46) 0, 0, "", #[], none⟩ hS ?_ ?_; rotate_left; focus (intro w; go_simp; try with_reducible rfl))
 try simp only [pna, pnb, pnc, pnd, pne]
 (refine hP 3 ?_ ⟨some 48, .fieldAddr 76 (.tmp 47) 2, 0, "", #[], none⟩ hS ?_ ?_; rotate_left; focus (intro w; go_simp; try with_reducible rfl))
 try simp only [pna, pnb, pnc, pnd, pne]
 refine wpH_load 4 (.string ⟨List.toArray w0⟩) (oi := { dst := some 49, op := Op.load 9 (Operand.tmp 48), type := 9, pos := "knot.go:128", after := #[{ on := 3, ground := Ground.data }], guard := none }) rfl (by kernel_rfl) (by kernel_rfl) (by kernel_rfl) (by rfl) hS (fun _ _ _ h => h) (fun w' hb => (by have c := (hb.cell (p := ⟨b, 2, none⟩) hbl).trans c2; go_simp; try rfl)) ?_
 try simp only [pna, pnb, pnc, pnd, pne]
 (refine hP 5 ?_ ⟨some 50, .move (.tmp 0), 66, "", #[], none⟩ hS ?_ ?_; rotate_left; focus (intro w; go_simp; try with_reducible rfl))
 try simp only [pna, pnb, pnc, pnd, pne]
 (refine hP 6 ?_ ⟨some 51, .nilCheck (.tmp 50), 0, "", #[], none⟩ hS ?_ ?_; rotate_left; focus (intro w; go_simp; try with_reducible rfl))
 try simp only [pna, pnb, pnc, pnd, pne]
 (refine hP 7 ?_ ⟨some 52, .fieldAddr 79 (.tmp 51) 1, 0, "", #[], none⟩ hS ?_ ?_; rotate_left; focus (intro w; go_simp; try with_reducible rfl))
 try simp only [pna, pnb, pnc, pnd, pne]
 refine wpH_load 8 (.agg (pk ps).toArray) (oi := { dst := some 53, op := Op.load 77 (Operand.tmp 52), type := 77, pos := "knot.go:128", after := #[{ on := 7, ground := Ground.data }, { on := 10, ground := Ground.gcOnly Departure.lateStores }], guard := none }) rfl (by kernel_rfl) (by kernel_rfl) (by kernel_rfl) (by rfl) hS (fun _ _ _ h => h) (fun w' hb => exec_rowR row16p (.tmp 52) rfl rfl (pk_len ps) (rg_keep rP hbl hb)) ?_
 try simp only [pna, pnb, pnc, pnd, pne]
 refine wpH_op 9 (oi := { dst := some 6, op := Op.alloc 77, type := 0, pos := "knot.go:128", after := #[], guard := none }) rfl (by kernel_rfl) (by rfl) ?_
 refine wp_allocK 77 rfl (pk noP).toArray (fun w => by unfold execOp; simp only [pk_no]; go_simp) ?_
 intro m w5 hm B5 hb5
 have hlo := hm
 replace hS := hS.trans (hb5.mono (by show w.heap.size ≤ w.heap.size; exact Nat.le_refl _))
 refine ⟨hS, ?_⟩
 try simp only [pna, pnb, pnc, pnd, pne]
 (refine hP 10 ?_ ⟨some 5, .assign (.tmp 49), 9, "", #[], none⟩ hS ?_ ?_; rotate_left; focus (intro w; go_simp; try with_reducible rfl))
 try simp only [pna, pnb, pnc, pnd, pne]
 refine wpH_op 11 (oi := { dst := none, op := Op.store 77 (Operand.tmp 6) (Operand.tmp 53), type := 0, pos := "knot.go:128", after := #[{ on := 9, ground := Ground.data }, { on := 8, ground := Ground.data }, { on := 10, ground := Ground.chain }, { on := 0, ground := Ground.phase }, { on := 1, ground := Ground.phase }, { on := 2, ground := Ground.phase }, { on := 3, ground := Ground.phase }, { on := 4, ground := Ground.phase }, { on := 5, ground := Ground.phase }, { on := 6, ground := Ground.phase }, { on := 7, ground := Ground.phase }, { on := 8, ground := Ground.phase }, { on := 9, ground := Ground.phase }, { on := 10, ground := Ground.phase }], guard := none }) rfl (by kernel_rfl) (by rfl) ?_
 refine wp_rowS row16p (.tmp 6) (.tmp 53) rfl rfl rfl (pk_len ps) (pk_one ps) (pk_len noP) B5 ?_
 intro w3 B3 m6
 have hbw : Below w.heap.size w w3 := Below.mod hS m6 hS.size (by simpa using hlo)
 refine ⟨hbw, ?_⟩
 try simp only [pna, pnb, pnc, pnd, pne]
 refine wpAnyH_done (by kernel_rfl) ?_ _
 have hmw : w.heap.size ≤ m := by simpa using hlo
 have HT3 : Hid (∀ i, i < 16 → KAt w3 (kids i) (ps i)) := Lib.hid (fun i hi => (HPS.out i hi).keep hbw)
 have HB3 := Lib.hid B3
 have HBW := Lib.hid hbw
 clear hS B5 hb5 m6 hlo hm hbw
 go_wp2_with fail
 refine wpH_startM [m] (by kernel_rfl) (fun hS => ?_)
 (refine hP 0 ?_ ⟨some 56, .move (.tmp 1), 9, "", #[], none⟩ hS ?_ ?_; rotate_left; focus (intro w; go_simp; try with_reducible rfl))
 try simp only [pna, pnb, pnc, pnd, pne]
 (refine hP 1 ?_ ⟨some 57, .index 9 (.tmp 56) (.const (.int .i64 0)), 5, "", #[], none⟩ hS ?_ ?_; rotate_left; focus (intro w; go_simp; try with_reducible rfl))
 try simp only [pna, pnb, pnc, pnd, pne]
 (refine hP 2 ?_ ⟨some 58, .move (.tmp 1), 9, "", #[], none⟩ hS ?_ ?_; rotate_left; focus (intro w; go_simp; try with_reducible rfl))
 try simp only [pna, pnb, pnc, pnd, pne]
 (refine hP 3 ?_ ⟨some 59, .index 9 (.tmp 58) (.const (.int .i64 0)), 5, "", #[], none⟩ hS ?_ ?_; rotate_left; focus (intro w; go_simp; try with_reducible rfl))
 try simp only [pna, pnb, pnc, pnd, pne]
 (refine hP 4 ?_ ⟨some 60, .indexAddr 77 (.tmp 6) (.tmp 59), 0, "", #[], none⟩ hS ?_ ?_; rotate_left; focus (intro w; go_simp; try with_reducible rfl))
 try simp only [pna, pnb, pnc, pnd, pne]
 (refine hP 6 ?_ ⟨some 62, .move (.tmp 1), 9, "", #[], none⟩ hS ?_ ?_; rotate_left; focus (intro w; go_simp; try with_reducible rfl))
 try simp only [pna, pnb, pnc, pnd, pne]
 (refine hP 7 ?_ ⟨some 63, .slice 9 (.tmp 62) (some (.const (.int .i64 1))) none none, 9, "", #[], none⟩ hS ?_ ?_; rotate_left; focus (intro w; go_simp; try with_reducible rfl))
 try simp only [pna, pnb, pnc, pnd, pne]
 refine wpH_op 5 (oi := { dst := some 61, op := Op.load 66 (Operand.tmp 60), type := 66, pos := "knot.go:132", after := #[{ on := 4, ground := Ground.data }], guard := none }) rfl (by kernel_rfl) (by rfl) ?_
 refine wp_load1 66 (.tmp 60) rfl ⟨m, a.toNat, none⟩ rfl (ptV (ps a.toNat)) (load_ptr _ _ _ _ (pk_cell HB3.out.drew a.toNat ha)) ?_
 refine ⟨hS, ?_⟩
 try simp only [pna, pnb, pnc, pnd, pne]
 refine wpH_call 8 (oi := { dst := some 64, op := Op.call { callee := Callee.value (Operand.func 43), args := #[Operand.tmp 61, Operand.tmp 63], argTypes := #[66, 9] }, type := 66, pos := "knot.go:132", after := #[{ on := 5, ground := Ground.data }, { on := 7, ground := Ground.data }], guard := none }) rfl (by kernel_rfl) (by rfl) (HIH.out (ps a.toNat) _ (HK.out.keep HBW.out.drew) ((HT3.out a.toNat ha).keep (Below.refl _ _).drew)) ?_ ?_
 ·(go_simp; try rfl)
 rintro e w' ⟨p8, rfl, hbx, hK8⟩
 refine ⟨_, rfl, hS.trans (Mod.of_below hbx), ?_⟩
 replace hS := hS.trans (Mod.of_below hbx)
 try simp only [pna, pnb, pnc, pnd, pne]
 (refine hP 9 ?_ ⟨some 65, .indexAddr 77 (.tmp 6) (.tmp 57), 0, "", #[], none⟩ hS ?_ ?_; rotate_left; focus (intro w; go_simp; try with_reducible rfl))
 try simp only [pna, pnb, pnc, pnd, pne]
 refine wpH_op 10 (oi := { dst := none, op := Op.store 66 (Operand.tmp 65) (Operand.tmp 64), type := 0, pos := "knot.go:132", after := #[{ on := 9, ground := Ground.data }, { on := 8, ground := Ground.data }, { on := 8, ground := Ground.chain }, { on := 0, ground := Ground.phase }, { on := 1, ground := Ground.phase }, { on := 2, ground := Ground.phase }, { on := 3, ground := Ground.phase }, { on := 4, ground := Ground.phase }, { on := 5, ground := Ground.phase }, { on := 6, ground := Ground.phase }, { on := 7, ground := Ground.phase }, { on := 8, ground := Ground.phase }], guard := none }) rfl (by kernel_rfl) (by rfl) ?_
 refine wp_storeO (.tmp 65) (.tmp 64) rfl m a.toNat rfl p8 rfl _ (pk_cell (HB3.out.drew.keep hbx) a.toNat ha) ((HB3.out.drew.keep hbx).froz _) ?_
 refine ⟨hS.setCell (.inl (by simp)) _, ?_⟩
 try simp only [pna, pnb, pnc, pnd, pne]
 refine wpAnyH_done (by kernel_rfl) ?_ _
 have B4 := HB3.out.drew.keep hbx
 have hT4 := kat_upd (kat_other B4 a.toNat (ptV p8) (kat_keep hbx (kat_keep (Below.refl _ _).drew HT3.out))) a.toNat (hK8.other B4 a.toNat (ptV p8))
 have B6 := B4.set a.toNat (ptV p8)
 rw [pk_set _ _ _ ha] at B6
 have hb6 : Below w.heap.size w _ := ((HBW.out.drew).trans (hbx.mono HBW.out.size)).setCell (p := ⟨m, a.toNat, none⟩) hmw (ptV p8)
 clear hbx hK8 hS B4 B3
 generalize World.setCell _ ⟨m, a.toNat, none⟩ (ptV p8) = w6 at *
 have HT6 := Lib.hid hT4
 have HBm := Lib.hid B6
 clear hT4
 generalize updP ps a.toNat p8 = pp at *
 generalize updT kids a.toNat t2 = kk at *
 go_wp2_with (first
  | (refine wpList_rowLoad row16p rfl (.tmp 6) rfl rfl (pk_len pp) B6 ?_)
  | fail)
 go_loopw [67, 7, 8] (fun s67 s7 s8 wr => ∃ k : Nat, k ≤ 16 ∧ s67 = .int .i64 k ∧ s7 = .int .i64 (liveK kk k) ∧ s8 = .int .i64 (lastK kk k) ∧ Hid (wr = w6)) (fun s67 _ _ _ => 16 - (intOf s67).toNat)
 case atStart => exact ⟨0, by omega, rfl, rfl, rfl, Lib.hid (by trivial)⟩
 case round =>
  obtain ⟨k, hk16, rfl, rfl, rfl, HW⟩ := hrel
  have hww := HW.out.symm
  subst hww
  by_cases hlt : k < 16
  ·have hlt' : (k : Int) < 16 := by omega
   have hki := pk_index pp k hlt
   by_cases hkn : kk k = .nil
   ·have e1 : pp k = none := by
     have h1 := HT6.out k hlt
     rw [hkn] at h1
     exact h1.isNil
    obtain ⟨l1, l2⟩ := live_no' kk k hkn
    rw [e1, ptV_none] at hki
    have HL1 := Lib.hid l1
    have HL2 := Lib.hid l2
    clear l1 l2 hkn e1
    go_wp2_with fail
    exact ⟨⟨k + 1, by omega, by go_num, by rw [HL1.out], by rw [HL2.out], Lib.hid (by trivial)⟩, by simp [intOf]; omega⟩
   ·obtain ⟨c, e1⟩ := (HT6.out k hlt).isKnot hkn
    obtain ⟨l1, l2⟩ := live_one' kk k hkn
    have hll := live_le kk k
    rw [e1, ptV_some] at hki
    have HL1 := Lib.hid l1
    have HL2 := Lib.hid l2
    clear l1 l2 hkn e1
    go_wp2_with fail
    exact ⟨⟨k + 1, by omega, by go_num, by rw [HL1.out]; go_num, by rw [HL2.out], Lib.hid (by trivial)⟩, by simp [intOf]; omega⟩
  ·have hke : k = 16 := by omega
   subst hke
   have hll := live_le kk 16
   have hla := last_le kk 16
   have HZ := Lib.hid (mend_zero (v := w0) (f := kk))
   have HO := Lib.hid (mend_one (f := kk))
   have HW2 := Lib.hid (mend_two (v := w0) (f := kk))
   have HLL := Lib.hid (last_lt kk 16)
   generalize hlv : liveK kk 16 = lv at *
   generalize hls : lastK kk 16 = ls at *
   clear hlv hls
   by_cases h0 : lv = 0
   ·have z0 : ((lv : Int) == 0) = true := by simpa using h0
    have HE := Lib.hid (HZ.out h0)
    have HLF := Lib.hid (leaf_any [] w0 (by simp) w6 (HK.out.keep hb6))
    clear h0 HZ HO HW2 HLL
    go_wp2_with fail
    refine HLF.out.mono ?_
    rintro e w7 ⟨b7, rfl, hb7, hK7⟩
    go_wp2_with fail
    go_ret
    exact ⟨b7, rfl, hb6.trans (hb7.mono hb6.size), by rw [HG.out, HE.out]; exact hK7⟩
   ·have z0 : ((lv : Int) == 0) = false := by rw [beq_eq_false_iff_ne]; omega
    obtain ⟨hls, hkl⟩ := HLL.out h0
    by_cases h1 : lv = 1 ∧ w0 = []
    ·obtain ⟨h1, h2⟩ := h1
     first | subst h2 | clear h2
     have HE := Lib.hid (HO.out h1)
     have z1 : ((lv : Int) == 1) = true := by rw [beq_iff_eq]; omega
     obtain ⟨c, e1⟩ := (HT6.out ls hls).isKnot hkl
     have hpt := HT6.out ls hls
     rw [e1] at hpt
     have HJN := Lib.hid (fun W (h : KT W) hK => joined_any [UInt8.ofNat ls] (kk ls) c W h hK (by have := HPL.out ls; simp; omega))
     have HPT := Lib.hid hpt
     have hcell := pk_cell HBm.out ls hls
     rw [e1, ptV_some] at hcell
     have i1 : 0 ≤ (ls : Int) ∧ (ls : Int) < 16 := by omega
     have hw8 : IntKind.u8.wrap (ls : Int) = (ls : Int) := by rw [IntKind.wrap_u8]; omega
     have hml := HBm.out.lt
     clear h0 h1 HZ HO HW2 HLL hkl hpt e1 hls
     go_wp2_with fail
     refine wpH_start (by kernel_rfl) (fun hS => ?_)
     (refine hP 0 ?_ ⟨some 89, .move (.tmp 8), 3, "", #[], none⟩ hS ?_ ?_; rotate_left; focus (intro w; go_simp; try with_reducible rfl))
     try simp only [pna, pnb, pnc, pnd, pne]
     (refine hP 1 ?_ ⟨some 90, .convert 3 5 (.tmp 89), 5, "", #[], none⟩ hS ?_ ?_; rotate_left; focus (intro w; go_simp; try with_reducible rfl))
     try simp only [pna, pnb, pnc, pnd, pne]
     (refine hP 4 ?_ ⟨some 93, .move (.tmp 8), 3, "", #[], none⟩ hS ?_ ?_; rotate_left; focus (intro w; go_simp; try with_reducible rfl))
     try simp only [pna, pnb, pnc, pnd, pne]
     (refine hP 5 ?_ ⟨some 94, .indexAddr 77 (.tmp 6) (.tmp 93), 0, "", #[], none⟩ hS ?_ ?_; rotate_left; focus (intro w; go_simp; try with_reducible rfl))
     try simp only [pna, pnb, pnc, pnd, pne]
     refine wpH_load 6 (.pointer (some ⟨c, 0, none⟩)) (oi := { dst := some 95, op := Op.load 66 (Operand.tmp 94), type := 66, pos := "knot.go:144", after := #[{ on := 5, ground := Ground.data }], guard := none }) rfl (by kernel_rfl) (by kernel_rfl) (by kernel_rfl) (by rfl) hS (fun _ _ _ h => h) (fun w hb => (by have c := keepC hb hcell; go_simp; try rfl)) ?_
     try simp only [pna, pnb, pnc, pnd, pne]
     refine wpH_op 2 (oi := { dst := some 91, op := Op.buildSlice 59 1 #[(0, Operand.tmp 90)], type := 59, pos := "knot.go:144", after := #[{ on := 1, ground := Ground.data }], guard := none }) rfl (by kernel_rfl) (by rfl) ?_
     refine wp_newK 5 #[.int .u8 (ls : Int)] (fun m => .slice (some ⟨m, 0, none⟩) 1 1) (fun w => by go_simp; try rfl) ?_
     intro m1 wk hm1 hh hmk hbk
     replace hS := hS.trans (hbk.mono hS.size)
     refine ⟨hS, ?_⟩
     have hc1 : wk.cell? ⟨m1, 0, none⟩ = some (.int .u8 ((UInt8.ofNat ls).toNat : Int)) := by rw [u8_to ls (by omega)]; simp [World.cell?, hh]
     try simp only [pna, pnb, pnc, pnd, pne]
     refine wpH_op 3 (oi := { dst := some 92, op := Op.convert 59 9 (Operand.tmp 91), type := 9, pos := "knot.go:144", after := #[{ on := 2, ground := Ground.data }], guard := none }) rfl (by kernel_rfl) (by rfl) ?_
     refine wp_conv1 (.tmp 91) rfl m1 (UInt8.ofNat ls) rfl hc1 ?_
     refine ⟨hS, ?_⟩
     try simp only [pna, pnb, pnc, pnd, pne]
     refine wpH_call 7 (oi := { dst := some 96, op := Op.call { callee := Callee.value (Operand.func 63), args := #[Operand.tmp 92, Operand.tmp 95], argTypes := #[9, 66] }, type := 66, pos := "knot.go:144", after := #[{ on := 3, ground := Ground.data }, { on := 6, ground := Ground.data }], guard := none }) rfl (by kernel_rfl) (by rfl) (HJN.out _ (HK.out.keep (hb6.trans (hS.mono hb6.size))) (HPT.out.keep hS)) ?_ ?_
     ·(go_simp; try rfl)
     rintro e w' ⟨b7, rfl, hb7, hK7⟩
     refine ⟨_, rfl, hS.trans (hb7.mono hS.size), ?_⟩
     replace hS := hS.trans (hb7.mono hS.size)
     try simp only [pna, pnb, pnc, pnd, pne]
     (refine hP 8 ?_ ⟨some 4, .assign (.tmp 96), 66, "", #[], none⟩ hS ?_ ?_; rotate_left; focus (intro w; go_simp; try with_reducible rfl))
     try simp only [pna, pnb, pnc, pnd, pne]
     refine wpAnyH_done (by kernel_rfl) ?_ _
     go_wp2_with fail
     go_ret
     exact ⟨b7, rfl, hb6.trans (hS.mono hb6.size), by rw [HG.out, HE.out]; exact hK7⟩
    ·have HE := Lib.hid (HW2.out h0 h1)
     have HBR := Lib.hid (branch_any w0 kk pp w6 (HK.out.keep hb6) HT6.out)
     have hB6 := HBm.out
     by_cases h2 : lv = 1
     ·have z1 : ((lv : Int) == 1) = true := by rw [beq_iff_eq]; omega
      have hv : w0 ≠ [] := fun h => h1 ⟨h2, h⟩
      first
       | exact absurd rfl hv
       | (have hv1 : (w0 == []) = false := by simpa using hv
          have hv2 : (w0).isEmpty = false := by simpa using hv
          clear h0 h1 h2 hv HZ HO HW2 HLL hkl hls
          go_wp2_with (first
            | (refine wpList_rowLoad row16p rfl (.tmp 6) rfl rfl (pk_len pp) hB6 ?_)
            | fail)
          refine HBR.out.mono ?_
          rintro e w7 ⟨b7, rfl, hb7, hK7⟩
          go_wp2_with fail
          go_ret
          exact ⟨b7, rfl, hb6.trans (hb7.mono hb6.size), by rw [HG.out, HE.out]; exact hK7⟩)
     ·have z1 : ((lv : Int) == 1) = false := by rw [beq_eq_false_iff_ne]; omega
      clear h0 h1 h2 HZ HO HW2 HLL hkl hls
      go_wp2_with (first
       | (refine wpList_rowLoad row16p rfl (.tmp 6) rfl rfl (pk_len pp) hB6 ?_)
       | fail)
      refine HBR.out.mono ?_
      rintro e w7 ⟨b7, rfl, hb7, hK7⟩
      go_wp2_with fail
      go_ret
      exact ⟨b7, rfl, hb6.trans (hb7.mono hb6.size), by rw [HG.out, HE.out]; exact hK7⟩
theorem del_any : ∀ (t : Tri) (n : Nat), n ≤ 400 → ∀ (q : Bs), q.length ≤ n → fit q = true → okT t n → canT t → Pl.look t q ≠ [] → ∀ (p : Option Nat) (w : World), KT w → KAt w t p →
  Calls Tryz.prog 43 #[ptV p, .string ⟨List.toArray q⟩] w (DOut w.heap.size w (delT t q)) := by
 intro t
 induction t with
 | nil => intro n hn q hq hf ho hc h; exact absurd rfl h
 | leaf p0 v0 =>
  intro n hn q hq hf ho hc h p w hk hT
  obtain ⟨b, rfl⟩ := hT.isKnot (by simp)
  exact del_leaf p0 v0 b q w hT
 | ext p0 t1 ih =>
  intro n hn q hq hf ho hc h p w hk hT
  obtain ⟨b, rfl⟩ := hT.isKnot (by simp)
  have hql : q.take p0.length = p0 ∧ Pl.look t1 (q.drop p0.length) ≠ [] := by
   simp only [Pl.look] at h
   split at h
   ·exact ⟨by assumption, h⟩
   ·exact absurd rfl h
  have hlen : p0.length ≤ q.length := by
   have := congrArg List.length hql.1
   rw [List.length_take] at this
   omega
  have hd := del_law t1 (q.drop p0.length) _ ho.2.2.2 hc.2 hql.2
  refine (del_ext p0 t1 n hn b q ho hlen (hd.ne hc.1) hd.ok w hk hT (fun p' w' hk' hT' => ih (n - p0.length) (by omega) _ (by rw [List.length_drop]; omega) (fit_split q _ hf).2 ho.2.2.2 hc.2 hql.2 p' w' hk' hT')).mono ?_
  rintro e w' ⟨b', rfl, hb, hK⟩
  exact ⟨some b', rfl, hb, hK⟩
 | br w0 kids ih =>
  intro n hn q hq hf ho hc h p w hk hT
  obtain ⟨b, rfl⟩ := hT.isKnot (by simp)
  have hpath : ∀ i, (pathT (kids i)).length ≤ 900 := fun i => by
   rcases ho i with h2 | ⟨_, _, h3⟩
   ·rw [h2]; simp [pathT]
   ·have := (okT_path _ _ h3).1; omega
  cases q with
  | nil =>
   refine (del_brE w0 kids b w hk hpath hT).mono ?_
   rintro e w' ⟨b', rfl, hb, hK⟩
   exact ⟨some b', rfl, hb, hK⟩
  | cons a r =>
   have h1 := (fit_cons a r).1 hf
   simp only [List.length_cons] at hq
   have hla : Pl.look (kids a.toNat) r ≠ [] := h
   have hne : kids a.toNat ≠ .nil := fun e => by rw [e] at hla; exact hla rfl
   obtain ⟨_, hn1, hoa⟩ := (ho a.toNat).resolve_left hne
   have hd := del_law (kids a.toNat) r _ hoa (hc.2.2 _) hla
   refine (del_br w0 kids b a r h1.1 (by omega) w hk (fun i => ?_) hT (fun p' w' hk' hT' => ih a.toNat (n - 1) (by omega) r (by omega) h1.2 hoa (hc.2.2 _) hla p' w' hk' hT')).mono ?_
   ·simp only [updT]
    split
    ·have := (okT_path _ _ hd.ok).1; omega
    ·exact hpath i
   ·rintro e w' ⟨b', rfl, hb, hK⟩
    exact ⟨some b', rfl, hb, hK⟩
end Go.Proofs.YtjppbomngnomhaaGreatDoor
namespace Go.Proofs.YtjppbomngnomhaaGreatDoor
open Go.RowKit Pl
theorem isrc_blk {w : World} {m : Nat} {k v : Bs} {t : TypeId} (h : w.heap[m]? = some (.cells #[.string ⟨List.toArray k⟩, .string ⟨List.toArray v⟩] t)) : ISrc w m 0 [(k, v)] := by
 intro i hi
 have : i = 0 := by simp at hi; omega
 subst this
 exact ⟨by simp [World.cell?, h], by simp [World.cell?, h]⟩
end Go.Proofs.YtjppbomngnomhaaGreatDoor
namespace Go.Proofs.YtjppbomngnomhaaGreatDoor
namespace Pl
def inR (f e k : Bs) : Bool := !decide (k < f) && (e.isEmpty || decide (k < e))
def wI (f e : Bs) : List It → List It
 | [] => []
 | x :: r => if x.1 < f then wI f e r else if e ≠ [] ∧ ¬ x.1 < e then [] else x :: wI f e r
def allI (f e : Bs) (l : List It) : List It := l.filter fun x => inR f e x.1
theorem lt_of_not {a b : Bs} (h : ¬ a < b) (hn : a ≠ b) : b < a := by
 rcases Classical.em (b < a) with h1 | h1
 ·exact h1
 ·exact absurd (List.le_antisymm (List.not_lt.1 h1) (List.not_lt.1 h)) hn
theorem lt_ge {a b c : Bs} (h : a < b) (h2 : ¬ c < b) : a < c := by
 by_cases e : c = b
 ·rw [e]; exact h
 ·exact List.lt_trans h (lt_of_not h2 e)
theorem wI_all (f e : Bs) : ∀ (l : List It), Rise l → wI f e l = allI f e l
 | [], _ => rfl
 | x :: r, h => by
  unfold Rise at h
  rw [List.pairwise_cons] at h
  have ih := wI_all f e r h.2
  unfold wI allI
  rw [List.filter_cons]
  by_cases h1 : x.1 < f
  ·rw [if_pos h1, if_neg (by simp [inR, h1]), ih]; rfl
  ·rw [if_neg h1]
   by_cases h2 : e ≠ [] ∧ ¬ x.1 < e
   ·rw [if_pos h2, if_neg (by simp [inR, h2.1, h2.2])]
    symm
    rw [List.filter_eq_nil_iff]
    intro y hy
    have h3 := h.1 y hy
    have h4 : ¬ y.1 < e := fun h5 => h2.2 (List.lt_trans h3 h5)
    simp [inR, h2.1, h4]
   ·rw [if_neg h2, if_pos (by
     simp only [ne_eq, not_and, Classical.not_not] at h2
     by_cases h3 : e = []
     ·simp [inR, h1, h3]
     ·simp [inR, h1, h2 h3]), ih]
    rfl
theorem split_at (c : Bs) : ∀ (l : List It), Rise l → l = l.filter (fun x => decide (x.1 < c)) ++ l.filter (fun x => !decide (x.1 < c))
 | [], _ => rfl
 | x :: r, h => by
  unfold Rise at h
  rw [List.pairwise_cons] at h
  have ih := split_at c r h.2
  by_cases h1 : x.1 < c
  ·rw [List.filter_cons, if_pos (by simpa using h1), List.filter_cons, if_neg (by simp [h1]), List.cons_append, ← ih]
  ·have h2 : r.filter (fun x => decide (x.1 < c)) = [] := by
    rw [List.filter_eq_nil_iff]
    intro y hy
    simpa using fun h3 => h1 (List.lt_trans (h.1 y hy) h3)
   rw [h2] at ih
   rw [List.filter_cons, if_neg (by simpa using h1), h2, List.filter_cons, if_pos (by simp [h1]), List.nil_append]
   rw [List.nil_append] at ih
   rw [← ih]
theorem parts (f c e : Bs) (l : List It) (h : Rise l) (h1 : ¬ c < f) (h2 : e = [] ∨ ¬ e < c) (hc : c ≠ []) : allI f e l = allI f c l ++ allI c e l := by
 unfold allI
 conv => lhs; rw [split_at c l h]
 rw [List.filter_append, List.filter_filter, List.filter_filter]
 congr 1
 ·refine List.filter_congr fun x _ => ?_
  unfold inR
  by_cases h3 : x.1 < c
  ·have h4 : e.isEmpty = true ∨ x.1 < e := h2.imp (fun h => by simp [h]) (fun h => lt_ge h3 h)
   rcases h4 with h4 | h4 <;> simp [h3, h4]
  ·simp [h3, hc]
 ·refine List.filter_congr fun x _ => ?_
  unfold inR
  by_cases h3 : x.1 < c
  ·simp [h3]
  ·have h4 : ¬ x.1 < f := fun h5 => h3 (lt_ge h5 h1)
   simp [h3, h4]
def keyB (k : Bs) : Bool := decide (1 ≤ k.length) && decide (k.length ≤ 8)
def hasK (k : Bs) (l : List It) : Bool := l.any fun x => x.1 == k
def putE (l : List It) (k v : Bs) : Int := if keyB k = false then 1 else if v.length < 1 ∨ 32 < v.length ∨ (hasK k l = false ∧ 1024 ≤ l.length) then 2 else 0
structure GoodI (l : List It) : Prop where
 rise : Rise l
 keys : ∀ x ∈ l, x.1.length ≤ 8
 many : l.length ≤ 1024
theorem GoodI.nil : GoodI [] := ⟨by simp [Rise], by simp, by simp⟩
theorem insI_has : ∀ (k v : Bs) (l : List It), Rise l → hasK k l = true → (insI k v l).length = l.length
 | k, v, [], _, h => by simp [hasK] at h
 | k, v, x :: r, hr, h => by
  unfold Rise at hr
  rw [List.pairwise_cons] at hr
  unfold insI
  by_cases h1 : x.1 < k
  ·rw [if_pos h1]
   have h2 : hasK k r = true := by
    unfold hasK at h ⊢
    rw [List.any_cons] at h
    have : (x.1 == k) = false := by simpa using fun e => List.lt_irrefl _ (e ▸ h1)
    simpa [this] using h
   simp [insI_has k v r hr.2 h2]
  ·rw [if_neg h1]
   by_cases h2 : x.1 = k
   ·rw [if_pos h2]; simp
   ·exfalso
    have h3 := lt_of_not h1 h2
    unfold hasK at h
    rw [List.any_eq_true] at h
    obtain ⟨y, hy, e⟩ := h
    have e' : y.1 = k := by simpa using e
    rcases List.mem_cons.1 hy with rfl | hy
    ·exact h2 e'
    ·exact List.lt_irrefl _ (List.lt_trans h3 (e' ▸ hr.1 y hy))
theorem GoodI.put {l : List It} (h : GoodI l) (k v : Bs) (he : putE l k v = 0) : GoodI (insI k v l) ∧ k.length ≤ 8 ∧ v ≠ [] ∧ k ≠ [] := by
 unfold putE at he
 split at he
 ·cases he
 ·rename_i hk
  split at he
  ·cases he
  ·rename_i hv
   simp only [keyB, Bool.not_eq_false, Bool.and_eq_true, decide_eq_true_eq] at hk
   simp only [not_or, not_and] at hv
   refine ⟨⟨insI_rise _ _ _ h.rise, fun x hx => ?_, ?_⟩, hk.2, fun e => by rw [e] at hv; simp at hv, fun e => by rw [e] at hk; simp at hk⟩
   ·rcases (insI_mem k v l h.rise x).1 hx with h1 | h1
    ·rw [h1]; exact hk.2
    ·exact h.keys x h1.1
   ·cases hh : hasK k l with
    | true => rw [insI_has k v l h.rise hh]; exact h.many
    | false =>
     have h1 := hv.2.2 hh
     have h2 := insI_len k v l
     have h3 := h.many
     omega
theorem look_has {t : Tri} {L : List It} (h : RepT t L) (k : Bs) : look t (ofP k) = [] ↔ hasK k L = false := by
 have hm := rp_mem t 16 h.ok (ofP k)
 rw [h.items] at hm
 constructor
 ·intro e
  cases hh : hasK k L with
  | false => rfl
  | true =>
   exfalso
   unfold hasK at hh
   rw [List.any_eq_true] at hh
   obtain ⟨y, hy, e2⟩ := hh
   have e' : y.1 = k := by simpa using e2
   have := (hm y.2).1 (by unfold pathsI; rw [List.mem_map]; exact ⟨y, hy, by rw [e']⟩)
   rw [e] at this
   exact this.2 this.1.symm
 ·intro hh
  refine Classical.byContradiction fun hn => ?_
  have := (hm _).2 ⟨rfl, hn⟩
  unfold pathsI at this
  rw [List.mem_map] at this
  obtain ⟨y, hy, e⟩ := this
  have e1 : y.1 = k := ofP_inj (by injection e)
  have : hasK k L = true := by
   unfold hasK
   rw [List.any_eq_true]
   exact ⟨y, hy, by simpa using e1⟩
  rw [hh] at this
  cases this
end Pl
end Go.Proofs.YtjppbomngnomhaaGreatDoor
namespace Go.Proofs.YtjppbomngnomhaaGreatDoor
open Go.RowKit Pl
def TAt (w : World) (pt : Nat) (t : Tri) : Prop := ∃ kp, Blk w pt #[ptV kp] ∧ KAt w t kp
theorem TAt.keep {W w : World} (hb : Below W.heap.size W w) {pt : Nat} {t : Tri} (h : TAt W pt t) : TAt w pt t := by
 obtain ⟨kp, h1, h2⟩ := h
 exact ⟨kp, h1.keep hb, h2.keep hb⟩
theorem tlen_any (pt : Nat) (t : Tri) (hL : (rp t).length ≤ 100000) (w : World) (hT : TAt w pt t) :
  Calls Tryz.prog 46 #[.pointer (some ⟨pt, 0, none⟩)] w fun e w' => e = .returned (.int .i64 ((rp t).length)) ∧ w = w' := by
 obtain ⟨kp, hB, hK⟩ := hT
 have c0 := hB.cell 0
 cases kp with
 | none =>
  obtain rfl := hK.none'
  rw [show (rp .nil).length = 0 from rfl]
  rw [ptV_none] at c0
  have c1 : w.cell? ⟨pt, 0, none⟩ = some (.pointer none) := c0
  clear hB hK c0 hL
  go_enter Tryz.func46, Tryz.ntmps46
  go_wp2_with fail
  go_ret
  exact ⟨rfl, rfl⟩
 | some b =>
  obtain ⟨_, ps, _, ⟨_, _, _, _, _, d5, _⟩, _⟩ := hK.open
  rw [w64_small _ (by omega)] at d5
  have c1 : w.cell? ⟨pt, 0, none⟩ = some (.pointer (some ⟨b, 0, none⟩)) := c0
  clear hB hK c0
  generalize (rp t).length = n at *
  go_enter Tryz.func46, Tryz.ntmps46
  go_wp2_with fail
  go_ret
  exact ⟨rfl, rfl⟩
theorem tkeyed_any (k : Bs) (hk : k.length ≤ 9223372036854775807) (w : World) : Calls Tryz.prog 45 #[.string ⟨List.toArray k⟩] w fun e w' => e = .returned (.bool (keyB k)) ∧ w = w' := by
 generalize hz : keyB k = z
 have HZ := Lib.hid hz
 clear hz
 cases k with
 | nil =>
  have HE : Hid (z = false) := Lib.hid (by rw [← HZ.out]; rfl)
  go_enter Tryz.func45, Tryz.ntmps45
  go_wp2_with fail
  go_ret
  exact ⟨by rw [HE.out]; rfl, rfl⟩
 | cons a r =>
  by_cases h : (a :: r).length ≤ 8
  ·have HE : Hid (z = true) := Lib.hid (by rw [← HZ.out]; unfold keyB; simp at h ⊢; omega)
   have d : decide (((a :: r).length : Int) ≤ 8) = true := by simp only [decide_eq_true_eq]; omega
   clear HZ h
   generalize hg : (a :: r) = k at *
   have he : k.isEmpty = false := by rw [← hg]; rfl
   clear hg
   go_enter Tryz.func45, Tryz.ntmps45
   go_wp2_with fail
   go_ret
   exact ⟨by rw [HE.out]; rfl, rfl⟩
  ·have HE : Hid (z = false) := Lib.hid (by rw [← HZ.out]; unfold keyB; simp at h ⊢; omega)
   have d : decide (((a :: r).length : Int) ≤ 8) = false := by simp only [decide_eq_false_iff_not]; omega
   clear HZ h
   generalize hg : (a :: r) = k at *
   have he : k.isEmpty = false := by rw [← hg]; rfl
   clear hg
   go_enter Tryz.func45, Tryz.ntmps45
   go_wp2_with fail
   go_ret
   exact ⟨by rw [HE.out]; rfl, rfl⟩
end Go.Proofs.YtjppbomngnomhaaGreatDoor
namespace Go.Proofs.YtjppbomngnomhaaGreatDoor
namespace Pl
theorem putE_cases (L : List It) (k v : Bs) : (putE L k v = 1 ∧ keyB k = false) ∨ (putE L k v = 2 ∧ keyB k = true ∧ ((v.length < 1 ∨ 32 < v.length) ∨ ((1 ≤ v.length ∧ v.length ≤ 32) ∧ hasK k L = false ∧ 1024 ≤ L.length))) ∨
  (putE L k v = 0 ∧ keyB k = true ∧ (1 ≤ v.length ∧ v.length ≤ 32) ∧ (hasK k L = true ∨ L.length < 1024)) := by
 unfold putE
 by_cases h1 : keyB k = false
 ·exact .inl ⟨by rw [if_pos h1], h1⟩
 ·rw [if_neg h1]
  have h1' : keyB k = true := by simpa using h1
  by_cases h2 : v.length < 1 ∨ 32 < v.length ∨ (hasK k L = false ∧ 1024 ≤ L.length)
  ·rw [if_pos h2]
   refine .inr (.inl ⟨rfl, h1', ?_⟩)
   rcases h2 with h | h | h
   ·exact .inl (.inl h)
   ·exact .inl (.inr h)
   ·by_cases h3 : v.length < 1 ∨ 32 < v.length
    ·exact .inl h3
    ·exact .inr ⟨by omega, h⟩
  ·rw [if_neg h2]
   refine .inr (.inr ⟨rfl, h1', by omega, ?_⟩)
   by_cases h3 : hasK k L = true
   ·exact .inl h3
   ·right
    have h4 : hasK k L = false := by simpa using h3
    rcases Nat.lt_or_ge L.length 1024 with h5 | h5
    ·exact h5
    ·exact absurd (.inr (.inr ⟨h4, h5⟩)) h2
end Pl
end Go.Proofs.YtjppbomngnomhaaGreatDoor
