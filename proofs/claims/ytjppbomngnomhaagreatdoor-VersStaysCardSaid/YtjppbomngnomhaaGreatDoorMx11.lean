/- TDel, Walk. -/
import Derived.Test.YtjppbomngnomhaaGreatDoorMx9
import Derived.Test.YtjppbomngnomhaaGreatDoorMx10
set_option linter.unnecessarySimpa false
set_option linter.unusedSimpArgs false
set_option linter.unusedVariables false
set_option maxRecDepth 100000
set_option maxHeartbeats 32000000
namespace Go.Proofs.YtjppbomngnomhaaGreatDoor
open Go.RowKit Pl
def DOut (B : Nat) (w : World) (t : Tri) (e : Ending) (w' : World) : Prop := ∃ p, e = .returned (ptV p) ∧ Below B w w' ∧ KAt w' t p
theorem live_no' (f : Nat → Tri) (k : Nat) (h : f k = .nil) : liveK f (k + 1) = liveK f k ∧ lastK f (k + 1) = lastK f k := by
 simp only [liveK, lastK, (isN_iff _).2 h, if_true, and_self]
theorem live_one' (f : Nat → Tri) (k : Nat) (h : f k ≠ .nil) : liveK f (k + 1) = liveK f k + 1 ∧ lastK f (k + 1) = k := by
 simp only [liveK, lastK, (isN_not _).2 h, Bool.false_eq_true, if_false, and_self]
theorem last_le (f : Nat → Tri) : ∀ n, lastK f n ≤ n
 | 0 => Nat.le_refl _
 | n + 1 => by
  have := last_le f n
  unfold lastK
  split <;> omega
theorem mend_zero {v : Bs} {f : Nat → Tri} (h : liveK f 16 = 0) : mendT v f = .leaf [] v := if_pos h
theorem mend_one {f : Nat → Tri} (h : liveK f 16 = 1) : mendT [] f = joinT [UInt8.ofNat (lastK f 16)] (f (lastK f 16)) := by
 unfold mendT
 rw [if_neg (by omega), if_pos ⟨h, rfl⟩]
theorem mend_two {v : Bs} {f : Nat → Tri} (h0 : liveK f 16 ≠ 0) (h : ¬ (liveK f 16 = 1 ∧ v = [])) : mendT v f = .br v f := by
 unfold mendT
 rw [if_neg h0, if_neg h]
theorem del_leaf (p0 v0 : Bs) (b : Nat) (q : Bs) (w : World) (hT : KAt w (.leaf p0 v0) (some b)) :
  Calls Tryz.prog 43 #[.pointer (some ⟨b, 0, none⟩), .string ⟨List.toArray q⟩] w (DOut w.heap.size w .nil) := by
 obtain ⟨hne, ps, hps, ⟨c0, c1, c2, _, _, _, c6⟩, _⟩ := hT.open
 simp only [kindT] at c0
 clear hps hne c1 c2 c6 hT
 go_enter Tryz.func43, Tryz.ntmps43
 go_wp2_with fail
 go_ret
 exact ⟨none, rfl, Below.refl _ _, .nil⟩
theorem del_ext (p0 : Bs) (t1 : Tri) (n : Nat) (hn : n ≤ 400) (b : Nat) (q : Bs) (ho : okT (.ext p0 t1) n) (hl : p0.length ≤ q.length) (hne2 : delT t1 (q.drop p0.length) ≠ .nil) (hop : okT (delT t1 (q.drop p0.length)) (n - p0.length)) (w : World) (hk : KT w) (hT : KAt w (.ext p0 t1) (some b))
  (ih : ∀ (p : Option Nat) (w : World), KT w → KAt w t1 p → Calls Tryz.prog 43 #[ptV p, .string ⟨List.toArray (q.drop p0.length)⟩] w (DOut w.heap.size w (delT t1 (q.drop p0.length)))) :
  Calls Tryz.prog 43 #[.pointer (some ⟨b, 0, none⟩), .string ⟨List.toArray q⟩] w (KOut w.heap.size w (joinT p0 (delT t1 (q.drop p0.length)))) := by
 obtain ⟨hne, ps, hps, ⟨c0, c1, c2, _, _, _, c6⟩, _⟩ := hT.open
 simp only [kindT, pathT] at c0 c1
 obtain ⟨o1, o2, o3, o4⟩ := ho
 have hk0 := hps 0 (by omega)
 rw [show kidsOf (.ext p0 t1) 0 = t1 from by simp [kidsOf, updT]] at hk0
 have hpl := (okT_path _ _ hop).1
 have HJN := Lib.hid (fun W (h : KT W) (b' : Nat) (hK : KAt W (delT t1 (q.drop p0.length)) (some b')) => joined_any p0 _ b' W h hK (by omega))
 have HIH := Lib.hid ih
 have HK := Lib.hid hk
 have HK0 := Lib.hid hk0
 have HNE := Lib.hid hne2
 have hst : List.take (q.length - p0.length) (q.drop p0.length) = q.drop p0.length := List.take_of_length_le (by simp)
 have hci : (p0.length : Int) ≤ (q.length : Int) := by omega
 clear hps hne hT hk c2 ih hk0 o1 o2 o3 o4 hpl hne2 hop
 generalize delT t1 (q.drop p0.length) = t2 at *
 go_enter Tryz.func43, Tryz.ntmps43
 go_wp2_with fail
 refine wpH_start (by kernel_rfl) (fun hS => ?_)
 (refine hP 0 ?_ ⟨some 25, .move (.tmp 0), 66, "", #[], none⟩ hS ?_ ?_; rotate_left; focus (intro w; go_simp; try with_reducible rfl))
 try simp only [pna, pnb, pnc, pnd, pne]
 (refine hP 1 ?_ ⟨some 26, .nilCheck (.tmp 25), 0, "", #[], none⟩ hS ?_ ?_; rotate_left; focus (intro w; go_simp; try with_reducible rfl))
 try simp only [pna, pnb, pnc, pnd, pne]
 (refine hP 2 ?_ ⟨some 27, .fieldAddr 79 (.tmp 26) 0, 0, "", #[], none⟩ hS ?_ ?_; rotate_left; focus (intro w; go_simp; try with_reducible rfl))
 try simp only [pna, pnb, pnc, pnd, pne]
 (refine hP 3 ?_ ⟨some 28, .fieldAddr 76 (.tmp 27) 1, 0, "", #[], none⟩ hS ?_ ?_; rotate_left; focus (intro w; go_simp; try with_reducible rfl))
 try simp only [pna, pnb, pnc, pnd, pne]
 refine wpH_load 4 (.string ⟨List.toArray p0⟩) (oi := { dst := some 29, op := Op.load 9 (Operand.tmp 28), type := 9, pos := "knot.go:126", after := #[{ on := 3, ground := Ground.data }], guard := none }) rfl (by kernel_rfl) (by kernel_rfl) (by kernel_rfl) (by rfl) hS (fun _ _ _ h => h) (fun w hb => (by have c := keepC hb c1; go_simp; try rfl)) ?_
 try simp only [pna, pnb, pnc, pnd, pne]
 (refine hP 5 ?_ ⟨some 30, .move (.tmp 0), 66, "", #[], none⟩ hS ?_ ?_; rotate_left; focus (intro w; go_simp; try with_reducible rfl))
 try simp only [pna, pnb, pnc, pnd, pne]
 (refine hP 6 ?_ ⟨some 31, .nilCheck (.tmp 30), 0, "", #[], none⟩ hS ?_ ?_; rotate_left; focus (intro w; go_simp; try with_reducible rfl))
 try simp only [pna, pnb, pnc, pnd, pne]
 (refine hP 7 ?_ ⟨some 32, .fieldAddr 79 (.tmp 31) 1, 0, "", #[], none⟩ hS ?_ ?_; rotate_left; focus (intro w; go_simp; try with_reducible rfl))
 try simp only [pna, pnb, pnc, pnd, pne]
 (refine hP 8 ?_ ⟨some 33, .indexAddr 77 (.tmp 32) (.const (.int .i64 0)), 0, "", #[], none⟩ hS ?_ ?_; rotate_left; focus (intro w; go_simp; try with_reducible rfl))
 try simp only [pna, pnb, pnc, pnd, pne]
 refine wpH_load 9 (ptV (ps 0)) (oi := { dst := some 34, op := Op.load 66 (Operand.tmp 33), type := 66, pos := "knot.go:126", after := #[{ on := 8, ground := Ground.data }], guard := none }) rfl (by kernel_rfl) (by kernel_rfl) (by kernel_rfl) (by rfl) hS (fun _ _ _ h => h) (fun w hb => (by have c := keepC hb c6; go_simp; try rfl)) ?_
 try simp only [pna, pnb, pnc, pnd, pne]
 (refine hP 10 ?_ ⟨some 35, .move (.tmp 1), 9, "", #[], none⟩ hS ?_ ?_; rotate_left; focus (intro w; go_simp; try with_reducible rfl))
 try simp only [pna, pnb, pnc, pnd, pne]
 (refine hP 11 ?_ ⟨some 36, .move (.tmp 0), 66, "", #[], none⟩ hS ?_ ?_; rotate_left; focus (intro w; go_simp; try with_reducible rfl))
 try simp only [pna, pnb, pnc, pnd, pne]
 (refine hP 12 ?_ ⟨some 37, .nilCheck (.tmp 36), 0, "", #[], none⟩ hS ?_ ?_; rotate_left; focus (intro w; go_simp; try with_reducible rfl))
 try simp only [pna, pnb, pnc, pnd, pne]
 (refine hP 13 ?_ ⟨some 38, .fieldAddr 79 (.tmp 37) 0, 0, "", #[], none⟩ hS ?_ ?_; rotate_left; focus (intro w; go_simp; try with_reducible rfl))
 try simp only [pna, pnb, pnc, pnd, pne]
 (refine hP 14 ?_ ⟨some 39, .fieldAddr 76 (.tmp 38) 1, 0, "", #[], none⟩ hS ?_ ?_; rotate_left; focus (intro w; go_simp; try with_reducible rfl))
 try simp only [pna, pnb, pnc, pnd, pne]
 refine wpH_load 15 (.string ⟨List.toArray p0⟩) (oi := { dst := some 40, op := Op.load 9 (Operand.tmp 39), type := 9, pos := "knot.go:126", after := #[{ on := 14, ground := Ground.data }], guard := none }) rfl (by kernel_rfl) (by kernel_rfl) (by kernel_rfl) (by rfl) hS (fun _ _ _ h => h) (fun w hb => (by have c := keepC hb c1; go_simp; try rfl)) ?_
 try simp only [pna, pnb, pnc, pnd, pne]
 (refine hP 16 ?_ ⟨some 41, .call { callee := .builtin .len, args := #[.tmp 40], argTypes := #[9] }, 3, "", #[], none⟩ hS ?_ ?_; rotate_left; focus (intro w; go_simp; try with_reducible rfl))
 try simp only [pna, pnb, pnc, pnd, pne]
 (refine hP 17 ?_ ⟨some 42, .slice 9 (.tmp 35) (some (.tmp 41)) none none, 9, "", #[], none⟩ hS ?_ ?_; rotate_left; focus (intro w; go_simp; try with_reducible rfl))
 try simp only [pna, pnb, pnc, pnd, pne]
 refine wpH_call 18 (oi := { dst := some 43, op := Op.call { callee := Callee.value (Operand.func 43), args := #[Operand.tmp 34, Operand.tmp 42], argTypes := #[66, 9] }, type := 66, pos := "knot.go:126", after := #[{ on := 9, ground := Ground.data }, { on := 17, ground := Ground.data }], guard := none }) rfl (by kernel_rfl) (by rfl) (HIH.out (ps 0) _ (HK.out.keep (Below.refl _ _).drew) (HK0.out.keep (Below.refl _ _).drew)) ?_ ?_
 ·(go_simp; try rfl)
 rintro e w' ⟨p3, rfl, hb3, hK3⟩
 refine ⟨_, rfl, hS.trans (hb3.mono hS.size), ?_⟩
 replace hS := hS.trans (hb3.mono hS.size)
 have hb3' := (Below.refl w.heap.size w).drew.trans (hb3.mono (Below.refl w.heap.size w).drew.size)
 obtain ⟨b3, rfl⟩ := hK3.isKnot HNE.out
 try simp only [pna, pnb, pnc, pnd, pne]
 refine wpH_call 19 (oi := { dst := some 44, op := Op.call { callee := Callee.value (Operand.func 63), args := #[Operand.tmp 29, Operand.tmp 43], argTypes := #[9, 66] }, type := 66, pos := "knot.go:126", after := #[{ on := 4, ground := Ground.data }, { on := 18, ground := Ground.data }, { on := 18, ground := Ground.chain }], guard := none }) rfl (by kernel_rfl) (by rfl) (HJN.out _ (HK.out.keep hb3') b3 hK3) ?_ ?_
 ·(go_simp; try rfl)
 rintro e w' ⟨b4, rfl, hb4, hK4⟩
 refine ⟨_, rfl, hS.trans (hb4.mono hS.size), ?_⟩
 replace hS := hS.trans (hb4.mono hS.size)
 try simp only [pna, pnb, pnc, pnd, pne]
 (refine hP 20 ?_ ⟨some 4, .assign (.tmp 44), 66, "", #[], none⟩ hS ?_ ?_; rotate_left; focus (intro w; go_simp; try with_reducible rfl))
 try simp only [pna, pnb, pnc, pnd, pne]
 refine wpAnyH_done (by kernel_rfl) ?_ _
 go_wp2_with fail
 go_ret
 exact ⟨b4, rfl, hb3'.trans (hb4.mono hb3'.size), hK4⟩
theorem run_storePtrO (w : World) (b o : Nat) (q : Option Nat) (u : Value) (hc : w.cell? ⟨b, o, none⟩ = some u) (hf : w.frozen? ⟨b, o, none⟩ = false) :
  (Instr.storeAt 66 (.pointer (some ⟨b, o, none⟩)) (ptV q)).run Tryz.prog w = .ok () (w.setCell ⟨b, o, none⟩ (ptV q)) := by
 cases q <;> simp only [ptV_none, ptV_some] <;> go_simp
theorem wp_storeO {o : Oper} {a : Act} {w : World} {K : Act → World → Prop} {Q : Exit → Act → World → Prop} (x y : Operand) (ho : o.op = .store 66 x y) (b i : Nat) (hx : a.eval x = .pointer (some ⟨b, i, none⟩)) (q : Option Nat) (hy : a.eval y = ptV q)
  (u : Value) (hc : w.cell? ⟨b, i, none⟩ = some u) (hf : w.frozen? ⟨b, i, none⟩ = false) (h : K (a.put o.dst undef) (w.setCell ⟨b, i, none⟩ (ptV q))) : o.wp Tryz.prog a w K Q := by
 unfold Oper.wp execOp
 simp only [ho, hx, hy, Sem.run_bind, Sem.run_pure, Result.andThen_ok, run_storePtrO w b i q u hc hf]
 exact h
theorem wp_conv1 {o : Oper} {a : Act} {w : World} {K : Act → World → Prop} {Q : Exit → Act → World → Prop} (x : Operand) (ho : o.op = .convert 59 9 x) (g : Nat) (c : UInt8) (hx : a.eval x = .slice (some ⟨g, 0, none⟩) 1 1)
  (hc : w.cell? ⟨g, 0, none⟩ = some (.int .u8 (c.toNat : Int))) (h : K (a.put o.dst (.string ⟨List.toArray ([c])⟩)) w) : o.wp Tryz.prog a w K Q := by
 have hr := conv_str (P := Tryz.prog) (w := w) 59 5 9 Tryz.underlying59 Tryz.underlying5 Tryz.underlying9 g 0 1 1 [c] rfl (fun i hi => by
  have : i = 0 := by omega
  subst this
  exact hc)
 unfold Oper.wp execOp
 simp only [ho, hx, Sem.run_bind, Sem.run_pure, Result.andThen_ok, hr]
 exact h
theorem del_brE (w0 : Bs) (kids : Nat → Tri) (b : Nat) (w : World) (hk : KT w) (hpl : ∀ i, (pathT (kids i)).length ≤ 900) (hT : KAt w (.br w0 kids) (some b)) :
  Calls Tryz.prog 43 #[.pointer (some ⟨b, 0, none⟩), .string ⟨List.toArray []⟩] w (KOut w.heap.size w (mendT [] kids)) := by
 obtain ⟨hne, ps, hps, ⟨c0, c1, c2, _, _, _, c6⟩, hB⟩ := hT.open
 simp only [kindT, pathT, valT] at c0 c1 c2
 have HK := Lib.hid hk
 have HPS := Lib.hid hps
 have HPL := Lib.hid hpl
 have rP := kn_ptrs hB
 have hbl := hB.lt
 generalize hG : mendT [] kids = gt
 have HG : Hid (gt = mendT [] kids) := Lib.hid hG.symm
 clear hps hne hT hk c1 c6 hB hpl hG
 go_enter Tryz.func43, Tryz.ntmps43
 go_wp2_with fail
 refine wpH_startB (w.heap.size) (by kernel_rfl) (fun hS => ?_)
 (refine hP 0 ?_ ⟨some 45, .move (.tmp 0), 66, "", #[], none⟩ hS ?_ ?_; rotate_left; focus (intro w; go_simp; try with_reducible rfl))
 try simp only [pna, pnb, pnc, pnd, pne]
 (refine hP 1 ?_ ⟨some 46, .nilCheck (.tmp 45), 0, "", #[], none⟩ hS ?_ ?_; rotate_left; focus (intro w; go_simp; try with_reducible rfl))
 try simp only [pna, pnb, pnc, pnd, pne]
 (refine hP 2 ?_ ⟨some 47, .fieldAddr 79 (.tmp 46) 0, 0, "", #[], none⟩ hS ?_ ?_; rotate_left; focus (intro w; go_simp; try with_reducible rfl))
 try simp only [pna, pnb, pnc, pnd, pne]
 (refine hP 3 ?_ ⟨some 48, .fieldAddr 76 (.tmp 47) 2, 0, "", #[], none⟩ hS ?_ ?_; rotate_left; focus (intro w; go_simp; try with_reducible rfl))
 try simp only [pna, pnb, pnc, pnd, pne]
 refine wpH_load 4 (.string ⟨List.toArray w0⟩) (oi := { dst := some 49, op := Op.load 9 (Operand.tmp 48), type := 9, pos := "knot.go:128", after := #[{ on := 3, ground := Ground.data }], guard := none }) rfl (by kernel_rfl) (by kernel_rfl) (by kernel_rfl) (by rfl) hS (fun _ _ _ h => h) (fun w' hb => (by have c := (hb.cell (p := ⟨b, 2, none⟩) hbl).trans c2; go_simp; try rfl)) ?_
 try simp only [pna, pnb, pnc, pnd, pne]
 (refine hP 5 ?_ ⟨some 50, .move (.tmp 0), 66, "", #[], none⟩ hS ?_ ?_; rotate_left; focus (intro w; go_simp; try with_reducible rfl))
 try simp only [pna, pnb, pnc, pnd, pne]
 (refine hP 6 ?_ ⟨some 51, .nilCheck (.tmp 50), 0, "", #[], none⟩ hS ?_ ?_; rotate_left; focus (intro w; go_simp; try with_reducible rfl))
 try simp only [pna, pnb, pnc, pnd, pne]
 (refine hP 7 ?_ ⟨some 52, .fieldAddr 79 (.tmp 51) 1, 0, "", #[], none⟩ hS ?_ ?_; rotate_left; focus (intro w; go_simp; try with_reducible rfl))
 try simp only [pna, pnb, pnc, pnd, pne]
 refine wpH_load 8 (.agg (pk ps).toArray) (oi := { dst := some 53, op := Op.load 77 (Operand.tmp 52), type := 77, pos := "knot.go:128", after := #[{ on := 7, ground := Ground.data }, { on := 10, ground := Ground.gcOnly Departure.lateStores }], guard := none }) rfl (by kernel_rfl) (by kernel_rfl) (by kernel_rfl) (by rfl) hS (fun _ _ _ h => h) (fun w' hb => exec_rowR row16p (.tmp 52) rfl rfl (pk_len ps) (rg_keep rP hbl hb)) ?_
 try simp only [pna, pnb, pnc, pnd, pne]
 refine wpH_op 9 (oi := { dst := some 6, op := Op.alloc 77, type := 0, pos := "knot.go:128", after := #[], guard := none }) rfl (by kernel_rfl) (by rfl) ?_
 refine wp_allocK 77 rfl (pk noP).toArray (fun w => by unfold execOp; simp only [pk_no]; go_simp) ?_
 intro m w5 hm B5 hb5
 have hlo := hm
 replace hS := hS.trans (hb5.mono (by show w.heap.size ≤ w.heap.size; exact Nat.le_refl _))
 refine ⟨hS, ?_⟩
 try simp only [pna, pnb, pnc, pnd, pne]
 (refine hP 10 ?_ ⟨some 5, .assign (.tmp 49), 9, "", #[], none⟩ hS ?_ ?_; rotate_left; focus (intro w; go_simp; try with_reducible rfl))
 try simp only [pna, pnb, pnc, pnd, pne]
 refine wpH_op 11 (oi := { dst := none, op := Op.store 77 (Operand.tmp 6) (Operand.tmp 53), type := 0, pos := "knot.go:128", after := #[{ on := 9, ground := Ground.data }, { on := 8, ground := Ground.data }, { on := 10, ground := Ground.chain }, { on := 0, ground := Ground.phase }, { on := 1, ground := Ground.phase }, { on := 2, ground := Ground.phase }, { on := 3, ground := Ground.phase }, { on := 4, ground := Ground.phase }, { on := 5, ground := Ground.phase }, { on := 6, ground := Ground.phase }, { on := 7, ground := Ground.phase }, { on := 8, ground := Ground.phase }, { on := 9, ground := Ground.phase }, { on := 10, ground := Ground.phase }], guard := none }) rfl (by kernel_rfl) (by rfl) ?_
 refine wp_rowS row16p (.tmp 6) (.tmp 53) rfl rfl rfl (pk_len ps) (pk_one ps) (pk_len noP) B5 ?_
 intro w6 B6 m6
 have hb6 : Below w.heap.size w w6 := Below.mod hS m6 hS.size (by simpa using hlo)
 refine ⟨hb6, ?_⟩
 try simp only [pna, pnb, pnc, pnd, pne]
 refine wpAnyH_done (by kernel_rfl) ?_ _
 have HT6 : Hid (∀ i, i < 16 → KAt w6 (kids i) (ps i)) := Lib.hid (fun i hi => (HPS.out i hi).keep hb6)
 have HBm := Lib.hid B6
 clear hS B5 hb5 m6 hlo hm
 go_wp2_with (first
  | (refine wpList_rowLoad row16p rfl (.tmp 6) rfl rfl (pk_len ps) B6 ?_)
  | fail)
 generalize kids = kk at *
 generalize ps = pp at *
 go_loopw [67, 7, 8] (fun s67 s7 s8 wr => ∃ k : Nat, k ≤ 16 ∧ s67 = .int .i64 k ∧ s7 = .int .i64 (liveK kk k) ∧ s8 = .int .i64 (lastK kk k) ∧ Hid (wr = w6)) (fun s67 _ _ _ => 16 - (intOf s67).toNat)
 case atStart => exact ⟨0, by omega, rfl, rfl, rfl, Lib.hid (by trivial)⟩
 case round =>
  obtain ⟨k, hk16, rfl, rfl, rfl, HW⟩ := hrel
  have hww := HW.out.symm
  subst hww
  by_cases hlt : k < 16
  ·have hlt' : (k : Int) < 16 := by omega
   have hki := pk_index pp k hlt
   by_cases hkn : kk k = .nil
   ·have e1 : pp k = none := by
     have h1 := HT6.out k hlt
     rw [hkn] at h1
     exact h1.isNil
    obtain ⟨l1, l2⟩ := live_no' kk k hkn
    rw [e1, ptV_none] at hki
    have HL1 := Lib.hid l1
    have HL2 := Lib.hid l2
    clear l1 l2 hkn e1
    go_wp2_with fail
    exact ⟨⟨k + 1, by omega, by go_num, by rw [HL1.out], by rw [HL2.out], Lib.hid (by trivial)⟩, by simp [intOf]; omega⟩
   ·obtain ⟨c, e1⟩ := (HT6.out k hlt).isKnot hkn
    obtain ⟨l1, l2⟩ := live_one' kk k hkn
    have hll := live_le kk k
    rw [e1, ptV_some] at hki
    have HL1 := Lib.hid l1
    have HL2 := Lib.hid l2
    clear l1 l2 hkn e1
    go_wp2_with fail
    exact ⟨⟨k + 1, by omega, by go_num, by rw [HL1.out]; go_num, by rw [HL2.out], Lib.hid (by trivial)⟩, by simp [intOf]; omega⟩
  ·have hke : k = 16 := by omega
   subst hke
   have hll := live_le kk 16
   have hla := last_le kk 16
   have HZ := Lib.hid (mend_zero (v := ([] : Bs)) (f := kk))
   have HO := Lib.hid (mend_one (f := kk))
   have HW2 := Lib.hid (mend_two (v := ([] : Bs)) (f := kk))
   have HLL := Lib.hid (last_lt kk 16)
   generalize hlv : liveK kk 16 = lv at *
   generalize hls : lastK kk 16 = ls at *
   clear hlv hls
   by_cases h0 : lv = 0
   ·have z0 : ((lv : Int) == 0) = true := by simpa using h0
    have HE := Lib.hid (HZ.out h0)
    have HLF := Lib.hid (leaf_any [] ([] : Bs) (by simp) w6 (HK.out.keep hb6))
    clear h0 HZ HO HW2 HLL
    go_wp2_with fail
    refine HLF.out.mono ?_
    rintro e w7 ⟨b7, rfl, hb7, hK7⟩
    go_wp2_with fail
    go_ret
    exact ⟨b7, rfl, hb6.trans (hb7.mono hb6.size), by rw [HG.out, HE.out]; exact hK7⟩
   ·have z0 : ((lv : Int) == 0) = false := by rw [beq_eq_false_iff_ne]; omega
    obtain ⟨hls, hkl⟩ := HLL.out h0
    by_cases h1 : lv = 1 ∧ ([] : Bs) = []
    ·obtain ⟨h1, h2⟩ := h1
     first | subst h2 | clear h2
     have HE := Lib.hid (HO.out h1)
     have z1 : ((lv : Int) == 1) = true := by rw [beq_iff_eq]; omega
     obtain ⟨c, e1⟩ := (HT6.out ls hls).isKnot hkl
     have hpt := HT6.out ls hls
     rw [e1] at hpt
     have HJN := Lib.hid (fun W (h : KT W) hK => joined_any [UInt8.ofNat ls] (kk ls) c W h hK (by have := HPL.out ls; simp; omega))
     have HPT := Lib.hid hpt
     have hcell := pk_cell HBm.out ls hls
     rw [e1, ptV_some] at hcell
     have i1 : 0 ≤ (ls : Int) ∧ (ls : Int) < 16 := by omega
     have hw8 : IntKind.u8.wrap (ls : Int) = (ls : Int) := by rw [IntKind.wrap_u8]; omega
     have hml := HBm.out.lt
     clear h0 h1 HZ HO HW2 HLL hkl hpt e1 hls
     go_wp2_with fail
     refine wpH_start (by kernel_rfl) (fun hS => ?_)
     (refine hP 0 ?_ ⟨some 89, .move (.tmp 8), 3, "", #[], none⟩ hS ?_ ?_; rotate_left; focus (intro w; go_simp; try with_reducible rfl))
     try simp only [pna, pnb, pnc, pnd, pne]
     (refine hP 1 ?_ ⟨some 90, .convert 3 5 (.tmp 89), 5, "", #[], none⟩ hS ?_ ?_; rotate_left; focus (intro w; go_simp; try with_reducible rfl))
     try simp only [pna, pnb, pnc, pnd, pne]
     (refine hP 4 ?_ ⟨some 93, .move (.tmp 8), 3, "", #[], none⟩ hS ?_ ?_; rotate_left; focus (intro w; go_simp; try with_reducible rfl))
     try simp only [pna, pnb, pnc, pnd, pne]
     (refine hP 5 ?_ ⟨some 94, .indexAddr 77 (.tmp 6) (.tmp 93), 0, "", #[], none⟩ hS ?_ ?_; rotate_left; focus (intro w; go_simp; try with_reducible rfl))
     try simp only [pna, pnb, pnc, pnd, pne]
     refine wpH_load 6 (.pointer (some ⟨c, 0, none⟩)) (oi := { dst := some 95, op := Op.load 66 (Operand.tmp 94), type := 66, pos := "knot.go:144", after := #[{ on := 5, ground := Ground.data }], guard := none }) rfl (by kernel_rfl) (by kernel_rfl) (by kernel_rfl) (by rfl) hS (fun _ _ _ h => h) (fun w hb => (by have c := keepC hb hcell; go_simp; try rfl)) ?_
     try simp only [pna, pnb, pnc, pnd, pne]
     refine wpH_op 2 (oi := { dst := some 91, op := Op.buildSlice 59 1 #[(0, Operand.tmp 90)], type := 59, pos := "knot.go:144", after := #[{ on := 1, ground := Ground.data }], guard := none }) rfl (by kernel_rfl) (by rfl) ?_
     refine wp_newK 5 #[.int .u8 (ls : Int)] (fun m => .slice (some ⟨m, 0, none⟩) 1 1) (fun w => by go_simp; try rfl) ?_
     intro m1 wk hm1 hh hmk hbk
     replace hS := hS.trans (hbk.mono hS.size)
     refine ⟨hS, ?_⟩
     have hc1 : wk.cell? ⟨m1, 0, none⟩ = some (.int .u8 ((UInt8.ofNat ls).toNat : Int)) := by rw [u8_to ls (by omega)]; simp [World.cell?, hh]
     try simp only [pna, pnb, pnc, pnd, pne]
     refine wpH_op 3 (oi := { dst := some 92, op := Op.convert 59 9 (Operand.tmp 91), type := 9, pos := "knot.go:144", after := #[{ on := 2, ground := Ground.data }], guard := none }) rfl (by kernel_rfl) (by rfl) ?_
     refine wp_conv1 (.tmp 91) rfl m1 (UInt8.ofNat ls) rfl hc1 ?_
     refine ⟨hS, ?_⟩
     try simp only [pna, pnb, pnc, pnd, pne]
     refine wpH_call 7 (oi := { dst := some 96, op := Op.call { callee := Callee.value (Operand.func 63), args := #[Operand.tmp 92, Operand.tmp 95], argTypes := #[9, 66] }, type := 66, pos := "knot.go:144", after := #[{ on := 3, ground := Ground.data }, { on := 6, ground := Ground.data }], guard := none }) rfl (by kernel_rfl) (by rfl) (HJN.out _ (HK.out.keep (hb6.trans (hS.mono hb6.size))) (HPT.out.keep hS)) ?_ ?_
     ·(go_simp; try rfl)
     rintro e w' ⟨b7, rfl, hb7, hK7⟩
     refine ⟨_, rfl, hS.trans (hb7.mono hS.size), ?_⟩
     replace hS := hS.trans (hb7.mono hS.size)
     try simp only [pna, pnb, pnc, pnd, pne]
     (refine hP 8 ?_ ⟨some 4, .assign (.tmp 96), 66, "", #[], none⟩ hS ?_ ?_; rotate_left; focus (intro w; go_simp; try with_reducible rfl))
     try simp only [pna, pnb, pnc, pnd, pne]
     refine wpAnyH_done (by kernel_rfl) ?_ _
     go_wp2_with fail
     go_ret
     exact ⟨b7, rfl, hb6.trans (hS.mono hb6.size), by rw [HG.out, HE.out]; exact hK7⟩
    ·have HE := Lib.hid (HW2.out h0 h1)
     have HBR := Lib.hid (branch_any ([] : Bs) kk pp w6 (HK.out.keep hb6) HT6.out)
     have hB6 := HBm.out
     by_cases h2 : lv = 1
     ·have z1 : ((lv : Int) == 1) = true := by rw [beq_iff_eq]; omega
      have hv : ([] : Bs) ≠ [] := fun h => h1 ⟨h2, h⟩
      first
       | exact absurd rfl hv
       | (have hv1 : (([] : Bs) == []) = false := by simpa using hv
          have hv2 : (([] : Bs)).isEmpty = false := by simpa using hv
          clear h0 h1 h2 hv HZ HO HW2 HLL hkl hls
          go_wp2_with (first
            | (refine wpList_rowLoad row16p rfl (.tmp 6) rfl rfl (pk_len pp) hB6 ?_)
            | fail)
          refine HBR.out.mono ?_
          rintro e w7 ⟨b7, rfl, hb7, hK7⟩
          go_wp2_with fail
          go_ret
          exact ⟨b7, rfl, hb6.trans (hb7.mono hb6.size), by rw [HG.out, HE.out]; exact hK7⟩)
     ·have z1 : ((lv : Int) == 1) = false := by rw [beq_eq_false_iff_ne]; omega
      clear h0 h1 h2 HZ HO HW2 HLL hkl hls
      go_wp2_with (first
       | (refine wpList_rowLoad row16p rfl (.tmp 6) rfl rfl (pk_len pp) hB6 ?_)
       | fail)
      refine HBR.out.mono ?_
      rintro e w7 ⟨b7, rfl, hb7, hK7⟩
      go_wp2_with fail
      go_ret
      exact ⟨b7, rfl, hb6.trans (hb7.mono hb6.size), by rw [HG.out, HE.out]; exact hK7⟩
theorem del_br (w0 : Bs) (kids : Nat → Tri) (b : Nat) (a : UInt8) (r : Bs) (ha : a.toNat < 16) (hr : r.length ≤ 900) (w : World) (hk : KT w) (hpl : ∀ i, (pathT (updT kids a.toNat (delT (kids a.toNat) r) i)).length ≤ 900) (hT : KAt w (.br w0 kids) (some b))
  (ih : ∀ (p : Option Nat) (w : World), KT w → KAt w (kids a.toNat) p → Calls Tryz.prog 43 #[ptV p, .string ⟨List.toArray r⟩] w (DOut w.heap.size w (delT (kids a.toNat) r))) :
  Calls Tryz.prog 43 #[.pointer (some ⟨b, 0, none⟩), .string ⟨List.toArray (a :: r)⟩] w (KOut w.heap.size w (mendT w0 (updT kids a.toNat (delT (kids a.toNat) r)))) := by
 obtain ⟨hne, ps, hps, ⟨c0, c1, c2, _, _, _, c6⟩, hB⟩ := hT.open
 simp only [kindT, pathT, valT] at c0 c1 c2
 have HK := Lib.hid hk
 have HPS := Lib.hid hps
 have HPL := Lib.hid hpl
 have HIH := Lib.hid ih
 have rP := kn_ptrs hB
 have hbl := hB.lt
 have i1 : 0 ≤ (a.toNat : Int) ∧ (a.toNat : Int) < 16 := by omega
 have i2 : (1 : Int) ≤ (r.length : Int) + 1 := by omega
 generalize hG : mendT w0 (updT kids a.toNat (delT (kids a.toNat) r)) = gt
 have HG : Hid (gt = mendT w0 (updT kids a.toNat (delT (kids a.toNat) r))) := Lib.hid hG.symm
 clear hps hne hT hk c1 c6 hB hpl hG ih
 generalize delT (kids a.toNat) r = t2 at *
 go_enter Tryz.func43, Tryz.ntmps43
 go_wp2_with fail
 refine wpH_startB (w.heap.size) (by kernel_rfl) (fun hS => ?_)
 (refine hP 0 ?_ ⟨some 45, .move (.tmp 0), 66, "", #[], none⟩ hS ?_ ?_; rotate_left; focus (intro w; go_simp; try with_reducible rfl))
 try simp only [pna, pnb, pnc, pnd, pne]
 (refine hP 1 ?_ ⟨some 46, .nilCheck (.tmp 45), 0, "", #[], none⟩ hS ?_ ?_; rotate_left; focus (intro w; go_simp; try with_reducible rfl))
 try simp only [pna, pnb, pnc, pnd, pne]
 (refine hP 2 ?_ ⟨some 47, .fieldAddr 79 (.tmp 46) 0, 0, "", #[], none⟩ hS ?_ ?_; rotate_left; focus (intro w; go_simp; try with_reducible rfl))
 try simp only [pna, pnb, pnc, pnd, pne]
 (refine hP 3 ?_ ⟨some 48, .fieldAddr 76 (.tmp 47) 2, 0, "", #[], none⟩ hS ?_ ?_; rotate_left; focus (intro w; go_simp; try with_reducible rfl))
 try simp only [pna, pnb, pnc, pnd, pne]
 refine wpH_load 4 (.string ⟨List.toArray w0⟩) (oi := { dst := some 49, op := Op.load 9 (Operand.tmp 48), type := 9, pos := "knot.go:128", after := #[{ on := 3, ground := Ground.data }], guard := none }) rfl (by kernel_rfl) (by kernel_rfl) (by kernel_rfl) (by rfl) hS (fun _ _ _ h => h) (fun w' hb => (by have c := (hb.cell (p := ⟨b, 2, none⟩) hbl).trans c2; go_simp; try rfl)) ?_
 try simp only [pna, pnb, pnc, pnd, pne]
 (refine hP 5 ?_ ⟨some 50, .move (.tmp 0), 66, "", #[], none⟩ hS ?_ ?_; rotate_left; focus (intro w; go_simp; try with_reducible rfl))
 try simp only [pna, pnb, pnc, pnd, pne]
 (refine hP 6 ?_ ⟨some 51, .nilCheck (.tmp 50), 0, "", #[], none⟩ hS ?_ ?_; rotate_left; focus (intro w; go_simp; try with_reducible rfl))
 try simp only [pna, pnb, pnc, pnd, pne]
 (refine hP 7 ?_ ⟨some 52, .fieldAddr 79 (.tmp 51) 1, 0, "", #[], none⟩ hS ?_ ?_; rotate_left; focus (intro w; go_simp; try with_reducible rfl))
 try simp only [pna, pnb, pnc, pnd, pne]
 refine wpH_load 8 (.agg (pk ps).toArray) (oi := { dst := some 53, op := Op.load 77 (Operand.tmp 52), type := 77, pos := "knot.go:128", after := #[{ on := 7, ground := Ground.data }, { on := 10, ground := Ground.gcOnly Departure.lateStores }], guard := none }) rfl (by kernel_rfl) (by kernel_rfl) (by kernel_rfl) (by rfl) hS (fun _ _ _ h => h) (fun w' hb => exec_rowR row16p (.tmp 52) rfl rfl (pk_len ps) (rg_keep rP hbl hb)) ?_
 try simp only [pna, pnb, pnc, pnd, pne]
 refine wpH_op 9 (oi := { dst := some 6, op := Op.alloc 77, type := 0, pos := "knot.go:128", after := #[], guard := none }) rfl (by kernel_rfl) (by rfl) ?_
 refine wp_allocK 77 rfl (pk noP).toArray (fun w => by unfold execOp; simp only [pk_no]; go_simp) ?_
 intro m w5 hm B5 hb5
 have hlo := hm
 replace hS := hS.trans (hb5.mono (by show w.heap.size ≤ w.heap.size; exact Nat.le_refl _))
 refine ⟨hS, ?_⟩
 try simp only [pna, pnb, pnc, pnd, pne]
 (refine hP 10 ?_ ⟨some 5, .assign (.tmp 49), 9, "", #[], none⟩ hS ?_ ?_; rotate_left; focus (intro w; go_simp; try with_reducible rfl))
 try simp only [pna, pnb, pnc, pnd, pne]
 refine wpH_op 11 (oi := { dst := none, op := Op.store 77 (Operand.tmp 6) (Operand.tmp 53), type := 0, pos := "knot.go:128", after := #[{ on := 9, ground := Ground.data }, { on := 8, ground := Ground.data }, { on := 10, ground := Ground.chain }, { on := 0, ground := Ground.phase }, { on := 1, ground := Ground.phase }, { on := 2, ground := Ground.phase }, { on := 3, ground := Ground.phase }, { on := 4, ground := Ground.phase }, { on := 5, ground := Ground.phase }, { on := 6, ground := Ground.phase }, { on := 7, ground := Ground.phase }, { on := 8, ground := Ground.phase }, { on := 9, ground := Ground.phase }, { on := 10, ground := Ground.phase }], guard := none }) rfl (by kernel_rfl) (by rfl) ?_
 refine wp_rowS row16p (.tmp 6) (.tmp 53) rfl rfl rfl (pk_len ps) (pk_one ps) (pk_len noP) B5 ?_
 intro w3 B3 m6
 have hbw : Below w.heap.size w w3 := Below.mod hS m6 hS.size (by simpa using hlo)
 refine ⟨hbw, ?_⟩
 try simp only [pna, pnb, pnc, pnd, pne]
 refine wpAnyH_done (by kernel_rfl) ?_ _
 have hmw : w.heap.size ≤ m := by simpa using hlo
 have HT3 : Hid (∀ i, i < 16 → KAt w3 (kids i) (ps i)) := Lib.hid (fun i hi => (HPS.out i hi).keep hbw)
 have HB3 := Lib.hid B3
 have HBW := Lib.hid hbw
 clear hS B5 hb5 m6 hlo hm hbw
 go_wp2_with fail
 refine wpH_startM [m] (by kernel_rfl) (fun hS => ?_)
 (refine hP 0 ?_ ⟨some 56, .move (.tmp 1), 9, "", #[], none⟩ hS ?_ ?_; rotate_left; focus (intro w; go_simp; try with_reducible rfl))
 try simp only [pna, pnb, pnc, pnd, pne]
 (refine hP 1 ?_ ⟨some 57, .index 9 (.tmp 56) (.const (.int .i64 0)), 5, "", #[], none⟩ hS ?_ ?_; rotate_left; focus (intro w; go_simp; try with_reducible rfl))
 try simp only [pna, pnb, pnc, pnd, pne]
 (refine hP 2 ?_ ⟨some 58, .move (.tmp 1), 9, "", #[], none⟩ hS ?_ ?_; rotate_left; focus (intro w; go_simp; try with_reducible rfl))
 try simp only [pna, pnb, pnc, pnd, pne]
 (refine hP 3 ?_ ⟨some 59, .index 9 (.tmp 58) (.const (.int .i64 0)), 5, "", #[], none⟩ hS ?_ ?_; rotate_left; focus (intro w; go_simp; try with_reducible rfl))
 try simp only [pna, pnb, pnc, pnd, pne]
 (refine hP 4 ?_ ⟨some 60, .indexAddr 77 (.tmp 6) (.tmp 59), 0, "", #[], none⟩ hS ?_ ?_; rotate_left; focus (intro w; go_simp; try with_reducible rfl))
 try simp only [pna, pnb, pnc, pnd, pne]
 (refine hP 6 ?_ ⟨some 62, .move (.tmp 1), 9, "", #[], none⟩ hS ?_ ?_; rotate_left; focus (intro w; go_simp; try with_reducible rfl))
 try simp only [pna, pnb, pnc, pnd, pne]
 (refine hP 7 ?_ ⟨some 63, .slice 9 (.tmp 62) (some (.const (.int .i64 1))) none none, 9, "", #[], none⟩ hS ?_ ?_; rotate_left; focus (intro w; go_simp; try with_reducible rfl))
 try simp only [pna, pnb, pnc, pnd, pne]
 refine wpH_op 5 (oi := { dst := some 61, op := Op.load 66 (Operand.tmp 60), type := 66, pos := "knot.go:132", after := #[{ on := 4, ground := Ground.data }], guard := none }) rfl (by kernel_rfl) (by rfl) ?_
 refine wp_load1 66 (.tmp 60) rfl ⟨m, a.toNat, none⟩ rfl (ptV (ps a.toNat)) (load_ptr _ _ _ _ (pk_cell HB3.out.drew a.toNat ha)) ?_
 refine ⟨hS, ?_⟩
 try simp only [pna, pnb, pnc, pnd, pne]
 refine wpH_call 8 (oi := { dst := some 64, op := Op.call { callee := Callee.value (Operand.func 43), args := #[Operand.tmp 61, Operand.tmp 63], argTypes := #[66, 9] }, type := 66, pos := "knot.go:132", after := #[{ on := 5, ground := Ground.data }, { on := 7, ground := Ground.data }], guard := none }) rfl (by kernel_rfl) (by rfl) (HIH.out (ps a.toNat) _ (HK.out.keep HBW.out.drew) ((HT3.out a.toNat ha).keep (Below.refl _ _).drew)) ?_ ?_
 ·(go_simp; try rfl)
 rintro e w' ⟨p8, rfl, hbx, hK8⟩
 refine ⟨_, rfl, hS.trans (Mod.of_below hbx), ?_⟩
 replace hS := hS.trans (Mod.of_below hbx)
 try simp only [pna, pnb, pnc, pnd, pne]
 (refine hP 9 ?_ ⟨some 65, .indexAddr 77 (.tmp 6) (.tmp 57), 0, "", #[], none⟩ hS ?_ ?_; rotate_left; focus (intro w; go_simp; try with_reducible rfl))
 try simp only [pna, pnb, pnc, pnd, pne]
 refine wpH_op 10 (oi := { dst := none, op := Op.store 66 (Operand.tmp 65) (Operand.tmp 64), type := 0, pos := "knot.go:132", after := #[{ on := 9, ground := Ground.data }, { on := 8, ground := Ground.data }, { on := 8, ground := Ground.chain }, { on := 0, ground := Ground.phase }, { on := 1, ground := Ground.phase }, { on := 2, ground := Ground.phase }, { on := 3, ground := Ground.phase }, { on := 4, ground := Ground.phase }, { on := 5, ground := Ground.phase }, { on := 6, ground := Ground.phase }, { on := 7, ground := Ground.phase }, { on := 8, ground := Ground.phase }], guard := none }) rfl (by kernel_rfl) (by rfl) ?_
 refine wp_storeO (.tmp 65) (.tmp 64) rfl m a.toNat rfl p8 rfl _ (pk_cell (HB3.out.drew.keep hbx) a.toNat ha) ((HB3.out.drew.keep hbx).froz _) ?_
 refine ⟨hS.setCell (.inl (by simp)) _, ?_⟩
 try simp only [pna, pnb, pnc, pnd, pne]
 refine wpAnyH_done (by kernel_rfl) ?_ _
 have B4 := HB3.out.drew.keep hbx
 have hT4 := kat_upd (kat_other B4 a.toNat (ptV p8) (kat_keep hbx (kat_keep (Below.refl _ _).drew HT3.out))) a.toNat (hK8.other B4 a.toNat (ptV p8))
 have B6 := B4.set a.toNat (ptV p8)
 rw [pk_set _ _ _ ha] at B6
 have hb6 : Below w.heap.size w _ := ((HBW.out.drew).trans (hbx.mono HBW.out.size)).setCell (p := ⟨m, a.toNat, none⟩) hmw (ptV p8)
 clear hbx hK8 hS B4 B3
 generalize World.setCell _ ⟨m, a.toNat, none⟩ (ptV p8) = w6 at *
 have HT6 := Lib.hid hT4
 have HBm := Lib.hid B6
 clear hT4
 generalize updP ps a.toNat p8 = pp at *
 generalize updT kids a.toNat t2 = kk at *
 go_wp2_with (first
  | (refine wpList_rowLoad row16p rfl (.tmp 6) rfl rfl (pk_len pp) B6 ?_)
  | fail)
 go_loopw [67, 7, 8] (fun s67 s7 s8 wr => ∃ k : Nat, k ≤ 16 ∧ s67 = .int .i64 k ∧ s7 = .int .i64 (liveK kk k) ∧ s8 = .int .i64 (lastK kk k) ∧ Hid (wr = w6)) (fun s67 _ _ _ => 16 - (intOf s67).toNat)
 case atStart => exact ⟨0, by omega, rfl, rfl, rfl, Lib.hid (by trivial)⟩
 case round =>
  obtain ⟨k, hk16, rfl, rfl, rfl, HW⟩ := hrel
  have hww := HW.out.symm
  subst hww
  by_cases hlt : k < 16
  ·have hlt' : (k : Int) < 16 := by omega
   have hki := pk_index pp k hlt
   by_cases hkn : kk k = .nil
   ·have e1 : pp k = none := by
     have h1 := HT6.out k hlt
     rw [hkn] at h1
     exact h1.isNil
    obtain ⟨l1, l2⟩ := live_no' kk k hkn
    rw [e1, ptV_none] at hki
    have HL1 := Lib.hid l1
    have HL2 := Lib.hid l2
    clear l1 l2 hkn e1
    go_wp2_with fail
    exact ⟨⟨k + 1, by omega, by go_num, by rw [HL1.out], by rw [HL2.out], Lib.hid (by trivial)⟩, by simp [intOf]; omega⟩
   ·obtain ⟨c, e1⟩ := (HT6.out k hlt).isKnot hkn
    obtain ⟨l1, l2⟩ := live_one' kk k hkn
    have hll := live_le kk k
    rw [e1, ptV_some] at hki
    have HL1 := Lib.hid l1
    have HL2 := Lib.hid l2
    clear l1 l2 hkn e1
    go_wp2_with fail
    exact ⟨⟨k + 1, by omega, by go_num, by rw [HL1.out]; go_num, by rw [HL2.out], Lib.hid (by trivial)⟩, by simp [intOf]; omega⟩
  ·have hke : k = 16 := by omega
   subst hke
   have hll := live_le kk 16
   have hla := last_le kk 16
   have HZ := Lib.hid (mend_zero (v := w0) (f := kk))
   have HO := Lib.hid (mend_one (f := kk))
   have HW2 := Lib.hid (mend_two (v := w0) (f := kk))
   have HLL := Lib.hid (last_lt kk 16)
   generalize hlv : liveK kk 16 = lv at *
   generalize hls : lastK kk 16 = ls at *
   clear hlv hls
   by_cases h0 : lv = 0
   ·have z0 : ((lv : Int) == 0) = true := by simpa using h0
    have HE := Lib.hid (HZ.out h0)
    have HLF := Lib.hid (leaf_any [] w0 (by simp) w6 (HK.out.keep hb6))
    clear h0 HZ HO HW2 HLL
    go_wp2_with fail
    refine HLF.out.mono ?_
    rintro e w7 ⟨b7, rfl, hb7, hK7⟩
    go_wp2_with fail
    go_ret
    exact ⟨b7, rfl, hb6.trans (hb7.mono hb6.size), by rw [HG.out, HE.out]; exact hK7⟩
   ·have z0 : ((lv : Int) == 0) = false := by rw [beq_eq_false_iff_ne]; omega
    obtain ⟨hls, hkl⟩ := HLL.out h0
    by_cases h1 : lv = 1 ∧ w0 = []
    ·obtain ⟨h1, h2⟩ := h1
     first | subst h2 | clear h2
     have HE := Lib.hid (HO.out h1)
     have z1 : ((lv : Int) == 1) = true := by rw [beq_iff_eq]; omega
     obtain ⟨c, e1⟩ := (HT6.out ls hls).isKnot hkl
     have hpt := HT6.out ls hls
     rw [e1] at hpt
     have HJN := Lib.hid (fun W (h : KT W) hK => joined_any [UInt8.ofNat ls] (kk ls) c W h hK (by have := HPL.out ls; simp; omega))
     have HPT := Lib.hid hpt
     have hcell := pk_cell HBm.out ls hls
     rw [e1, ptV_some] at hcell
     have i1 : 0 ≤ (ls : Int) ∧ (ls : Int) < 16 := by omega
     have hw8 : IntKind.u8.wrap (ls : Int) = (ls : Int) := by rw [IntKind.wrap_u8]; omega
     have hml := HBm.out.lt
     clear h0 h1 HZ HO HW2 HLL hkl hpt e1 hls
     go_wp2_with fail
     refine wpH_start (by kernel_rfl) (fun hS => ?_)
     (refine hP 0 ?_ ⟨some 89, .move (.tmp 8), 3, "", #[], none⟩ hS ?_ ?_; rotate_left; focus (intro w; go_simp; try with_reducible rfl))
     try simp only [pna, pnb, pnc, pnd, pne]
     (refine hP 1 ?_ ⟨some 90, .convert 3 5 (.tmp 89), 5, "", #[], none⟩ hS ?_ ?_; rotate_left; focus (intro w; go_simp; try with_reducible rfl))
     try simp only [pna, pnb, pnc, pnd, pne]
     (refine hP 4 ?_ ⟨some 93, .move (.tmp 8), 3, "", #[], none⟩ hS ?_ ?_; rotate_left; focus (intro w; go_simp; try with_reducible rfl))
     try simp only [pna, pnb, pnc, pnd, pne]
     (refine hP 5 ?_ ⟨some 94, .indexAddr 77 (.tmp 6) (.tmp 93), 0, "", #[], none⟩ hS ?_ ?_; rotate_left; focus (intro w; go_simp; try with_reducible rfl))
     try simp only [pna, pnb, pnc, pnd, pne]
     refine wpH_load 6 (.pointer (some ⟨c, 0, none⟩)) (oi := { dst := some 95, op := Op.load 66 (Operand.tmp 94), type := 66, pos := "knot.go:144", after := #[{ on := 5, ground := Ground.data }], guard := none }) rfl (by kernel_rfl) (by kernel_rfl) (by kernel_rfl) (by rfl) hS (fun _ _ _ h => h) (fun w hb => (by have c := keepC hb hcell; go_simp; try rfl)) ?_
     try simp only [pna, pnb, pnc, pnd, pne]
     refine wpH_op 2 (oi := { dst := some 91, op := Op.buildSlice 59 1 #[(0, Operand.tmp 90)], type := 59, pos := "knot.go:144", after := #[{ on := 1, ground := Ground.data }], guard := none }) rfl (by kernel_rfl) (by rfl) ?_
     refine wp_newK 5 #[.int .u8 (ls : Int)] (fun m => .slice (some ⟨m, 0, none⟩) 1 1) (fun w => by go_simp; try rfl) ?_
     intro m1 wk hm1 hh hmk hbk
     replace hS := hS.trans (hbk.mono hS.size)
     refine ⟨hS, ?_⟩
     have hc1 : wk.cell? ⟨m1, 0, none⟩ = some (.int .u8 ((UInt8.ofNat ls).toNat : Int)) := by rw [u8_to ls (by omega)]; simp [World.cell?, hh]
     try simp only [pna, pnb, pnc, pnd, pne]
     refine wpH_op 3 (oi := { dst := some 92, op := Op.convert 59 9 (Operand.tmp 91), type := 9, pos := "knot.go:144", after := #[{ on := 2, ground := Ground.data }], guard := none }) rfl (by kernel_rfl) (by rfl) ?_
     refine wp_conv1 (.tmp 91) rfl m1 (UInt8.ofNat ls) rfl hc1 ?_
     refine ⟨hS, ?_⟩
     try simp only [pna, pnb, pnc, pnd, pne]
     refine wpH_call 7 (oi := { dst := some 96, op := Op.call { callee := Callee.value (Operand.func 63), args := #[Operand.tmp 92, Operand.tmp 95], argTypes := #[9, 66] }, type := 66, pos := "knot.go:144", after := #[{ on := 3, ground := Ground.data }, { on := 6, ground := Ground.data }], guard := none }) rfl (by kernel_rfl) (by rfl) (HJN.out _ (HK.out.keep (hb6.trans (hS.mono hb6.size))) (HPT.out.keep hS)) ?_ ?_
     ·(go_simp; try rfl)
     rintro e w' ⟨b7, rfl, hb7, hK7⟩
     refine ⟨_, rfl, hS.trans (hb7.mono hS.size), ?_⟩
     replace hS := hS.trans (hb7.mono hS.size)
     try simp only [pna, pnb, pnc, pnd, pne]
     (refine hP 8 ?_ ⟨some 4, .assign (.tmp 96), 66, "", #[], none⟩ hS ?_ ?_; rotate_left; focus (intro w; go_simp; try with_reducible rfl))
     try simp only [pna, pnb, pnc, pnd, pne]
     refine wpAnyH_done (by kernel_rfl) ?_ _
     go_wp2_with fail
     go_ret
     exact ⟨b7, rfl, hb6.trans (hS.mono hb6.size), by rw [HG.out, HE.out]; exact hK7⟩
    ·have HE := Lib.hid (HW2.out h0 h1)
     have HBR := Lib.hid (branch_any w0 kk pp w6 (HK.out.keep hb6) HT6.out)
     have hB6 := HBm.out
     by_cases h2 : lv = 1
     ·have z1 : ((lv : Int) == 1) = true := by rw [beq_iff_eq]; omega
      have hv : w0 ≠ [] := fun h => h1 ⟨h2, h⟩
      first
       | exact absurd rfl hv
       | (have hv1 : (w0 == []) = false := by simpa using hv
          have hv2 : (w0).isEmpty = false := by simpa using hv
          clear h0 h1 h2 hv HZ HO HW2 HLL hkl hls
          go_wp2_with (first
            | (refine wpList_rowLoad row16p rfl (.tmp 6) rfl rfl (pk_len pp) hB6 ?_)
            | fail)
          refine HBR.out.mono ?_
          rintro e w7 ⟨b7, rfl, hb7, hK7⟩
          go_wp2_with fail
          go_ret
          exact ⟨b7, rfl, hb6.trans (hb7.mono hb6.size), by rw [HG.out, HE.out]; exact hK7⟩)
     ·have z1 : ((lv : Int) == 1) = false := by rw [beq_eq_false_iff_ne]; omega
      clear h0 h1 h2 HZ HO HW2 HLL hkl hls
      go_wp2_with (first
       | (refine wpList_rowLoad row16p rfl (.tmp 6) rfl rfl (pk_len pp) hB6 ?_)
       | fail)
      refine HBR.out.mono ?_
      rintro e w7 ⟨b7, rfl, hb7, hK7⟩
      go_wp2_with fail
      go_ret
      exact ⟨b7, rfl, hb6.trans (hb7.mono hb6.size), by rw [HG.out, HE.out]; exact hK7⟩
theorem del_any : ∀ (t : Tri) (n : Nat), n ≤ 400 → ∀ (q : Bs), q.length ≤ n → fit q = true → okT t n → canT t → Pl.look t q ≠ [] → ∀ (p : Option Nat) (w : World), KT w → KAt w t p →
  Calls Tryz.prog 43 #[ptV p, .string ⟨List.toArray q⟩] w (DOut w.heap.size w (delT t q)) := by
 intro t
 induction t with
 | nil => intro n hn q hq hf ho hc h; exact absurd rfl h
 | leaf p0 v0 =>
  intro n hn q hq hf ho hc h p w hk hT
  obtain ⟨b, rfl⟩ := hT.isKnot (by simp)
  exact del_leaf p0 v0 b q w hT
 | ext p0 t1 ih =>
  intro n hn q hq hf ho hc h p w hk hT
  obtain ⟨b, rfl⟩ := hT.isKnot (by simp)
  have hql : q.take p0.length = p0 ∧ Pl.look t1 (q.drop p0.length) ≠ [] := by
   simp only [Pl.look] at h
   split at h
   ·exact ⟨by assumption, h⟩
   ·exact absurd rfl h
  have hlen : p0.length ≤ q.length := by
   have := congrArg List.length hql.1
   rw [List.length_take] at this
   omega
  have hd := del_law t1 (q.drop p0.length) _ ho.2.2.2 hc.2 hql.2
  refine (del_ext p0 t1 n hn b q ho hlen (hd.ne hc.1) hd.ok w hk hT (fun p' w' hk' hT' => ih (n - p0.length) (by omega) _ (by rw [List.length_drop]; omega) (fit_split q _ hf).2 ho.2.2.2 hc.2 hql.2 p' w' hk' hT')).mono ?_
  rintro e w' ⟨b', rfl, hb, hK⟩
  exact ⟨some b', rfl, hb, hK⟩
 | br w0 kids ih =>
  intro n hn q hq hf ho hc h p w hk hT
  obtain ⟨b, rfl⟩ := hT.isKnot (by simp)
  have hpath : ∀ i, (pathT (kids i)).length ≤ 900 := fun i => by
   rcases ho i with h2 | ⟨_, _, h3⟩
   ·rw [h2]; simp [pathT]
   ·have := (okT_path _ _ h3).1; omega
  cases q with
  | nil =>
   refine (del_brE w0 kids b w hk hpath hT).mono ?_
   rintro e w' ⟨b', rfl, hb, hK⟩
   exact ⟨some b', rfl, hb, hK⟩
  | cons a r =>
   have h1 := (fit_cons a r).1 hf
   simp only [List.length_cons] at hq
   have hla : Pl.look (kids a.toNat) r ≠ [] := h
   have hne : kids a.toNat ≠ .nil := fun e => by rw [e] at hla; exact hla rfl
   obtain ⟨_, hn1, hoa⟩ := (ho a.toNat).resolve_left hne
   have hd := del_law (kids a.toNat) r _ hoa (hc.2.2 _) hla
   refine (del_br w0 kids b a r h1.1 (by omega) w hk (fun i => ?_) hT (fun p' w' hk' hT' => ih a.toNat (n - 1) (by omega) r (by omega) h1.2 hoa (hc.2.2 _) hla p' w' hk' hT')).mono ?_
   ·simp only [updT]
    split
    ·have := (okT_path _ _ hd.ok).1; omega
    ·exact hpath i
   ·rintro e w' ⟨b', rfl, hb, hK⟩
    exact ⟨some b', rfl, hb, hK⟩
end Go.Proofs.YtjppbomngnomhaaGreatDoor
namespace Go.Proofs.YtjppbomngnomhaaGreatDoor
open Go.RowKit Pl
def itemsT (place : Bs) (t : Tri) : List It := (rp t).map fun x => (keyP (place ++ x.1), x.2)
def ownI (place : Bs) (t : Tri) : List It := if valT t = [] then [] else [(keyP (place ++ pathT t), valT t)]
def kidI (place : Bs) (f : Nat → Tri) (k : Nat) : List It := (List.range k).flatMap fun i => itemsT (place ++ [UInt8.ofNat i]) (f i)
theorem kidI_succ (place : Bs) (f : Nat → Tri) (k : Nat) : kidI place f (k + 1) = kidI place f k ++ itemsT (place ++ [UInt8.ofNat k]) (f k) := by
 simp [kidI, List.range_succ]
theorem kidI_no (place : Bs) : ∀ k, kidI place noT k = []
 | 0 => rfl
 | k + 1 => by rw [kidI_succ, kidI_no place k]; rfl
theorem items_ext (place p : Bs) (t : Tri) : itemsT place (.ext p t) = itemsT (place ++ p) t := by
 simp [itemsT, rp, List.map_map, Function.comp_def]
theorem items_on (place : Bs) (t : Tri) (h : t ≠ .nil) (hk : kindT t ≠ 2) : itemsT place t = ownI place t ++ kidI place (kidsOf t) 16 := by
 cases t with
 | nil => exact absurd rfl h
 | ext p t => simp [kindT] at hk
 | leaf p v =>
  rw [show kidsOf (.leaf p v) = noT from rfl, kidI_no, List.append_nil]
  simp only [itemsT, rp, ownI, valT, pathT]
  by_cases hv : v = [] <;> simp [hv]
 | br v kids =>
  simp only [itemsT, rp, ownI, valT, pathT, kidsOf, kidI, List.map_append, List.map_flatMap, List.map_map, Function.comp_def]
  congr 1
  ·by_cases hv : v = [] <;> simp [hv]
  ·simp
theorem items_len (place : Bs) (t : Tri) : (itemsT place t).length = (rp t).length := by simp [itemsT]
theorem own_len (place : Bs) (t : Tri) : (ownI place t).length ≤ 1 := by unfold ownI; split <;> simp
theorem kidI_len (place : Bs) (f : Nat → Tri) : ∀ k, (kidI place f k).length = cntT f k
 | 0 => rfl
 | k + 1 => by rw [kidI_succ, List.length_append, kidI_len place f k, items_len, cntT]
theorem cntT_le (f : Nat → Tri) (k n : Nat) (h : k ≤ n) : cntT f k ≤ cntT f n := by
 induction n with
 | zero =>
  have : k = 0 := by omega
  subst this; exact Nat.le_refl _
 | succ n ih =>
  rcases Nat.lt_or_ge k (n + 1) with h1 | h1
  ·have := ih (by omega)
   rw [cntT]; omega
  ·have : k = n + 1 := by omega
   subst this; exact Nat.le_refl _
structure Out (w0 : World) (w : World) (l : List It) : Prop where
 below : Below w0.heap.size w0 w
 row : ∃ v, w.cell? ⟨w0.heap.size, 0, none⟩ = some v ∧ IRow w (w0.heap.size + 1) v l
 froz : w.frozen? ⟨w0.heap.size, 0, none⟩ = false
 lt : w0.heap.size < w.heap.size
theorem Out.keep {w0 W w : World} {l : List It} (h : Out w0 W l) (hb : Below W.heap.size W w) : Out w0 w l := by
 obtain ⟨v, h1, h2⟩ := h.row
 exact ⟨h.below.trans (hb.mono (Nat.le_of_lt h.lt)), ⟨v, keepC hb h1, h2.keep hb⟩, keepF hb h.lt h.froz, Nat.lt_of_lt_of_le h.lt hb.size⟩
theorem load_sl (w : World) (ad : Addr) (a : Option Addr) (n c : Nat) (h : w.cell? ad = some (.slice a n c)) : (loadVar 27 ad).run Tryz.prog w = .ok (.slice a n c) w := by
 go_simp
theorem run_storeSl (w : World) (b o : Nat) (a : Option Addr) (n c : Nat) (u : Value) (hc : w.cell? ⟨b, o, none⟩ = some u) (hf : w.frozen? ⟨b, o, none⟩ = false) :
  (Instr.storeAt 27 (.pointer (some ⟨b, o, none⟩)) (.slice a n c)).run Tryz.prog w = .ok () (w.setCell ⟨b, o, none⟩ (.slice a n c)) := by
 go_simp
theorem wp_storeSl {o : Oper} {a : Act} {w : World} {K : Act → World → Prop} {Q : Exit → Act → World → Prop} (x y : Operand) (ho : o.op = .store 27 x y) (b i : Nat) (hx : a.eval x = .pointer (some ⟨b, i, none⟩)) (q : Option Addr) (n c : Nat) (hy : a.eval y = .slice q n c)
  (u : Value) (hc : w.cell? ⟨b, i, none⟩ = some u) (hf : w.frozen? ⟨b, i, none⟩ = false) (h : K (a.put o.dst undef) (w.setCell ⟨b, i, none⟩ (.slice q n c))) : o.wp Tryz.prog a w K Q := by
 unfold Oper.wp execOp
 simp only [ho, hx, hy, Sem.run_bind, Sem.run_pure, Result.andThen_ok, run_storeSl w b i q n c u hc hf]
 exact h
theorem isrc_blk {w : World} {m : Nat} {k v : Bs} {t : TypeId} (h : w.heap[m]? = some (.cells #[.string ⟨List.toArray k⟩, .string ⟨List.toArray v⟩] t)) : ISrc w m 0 [(k, v)] := by
 intro i hi
 have : i = 0 := by simp at hi; omega
 subst this
 exact ⟨by simp [World.cell?, h], by simp [World.cell?, h]⟩
def OutP (w0 w : World) (l : List It) (r : Value) (e : Ending) (w' : World) : Prop := e = .returned r ∧ Below w0.heap.size w w' ∧ Out w0 w' l
theorem visit_any (w0 : World) (t : Tri) (b : Nat) (hT : KAt w0 t (some b)) (place : Bs) (l : List It) (hp : place.length + (pathT t).length ≤ 100000) (hl : l.length ≤ 1000000) (w : World) (hO : Out w0 w l) :
  Calls Tryz.prog 33 #[.string ⟨List.toArray place⟩, .pointer (some ⟨b, 0, none⟩), .pointer (some ⟨w0.heap.size, 0, none⟩)] w (OutP w0 w (l ++ ownI place t) (.bool true)) := by
 obtain ⟨hne, ps, hps, ⟨c0, c1, c2, _, _, _, c6⟩, hB⟩ := hT.open
 have hb0 := hO.below
 have hbl := hB.lt
 replace c1 := keepC hb0 c1
 replace c2 := keepC hb0 c2
 clear hps hB c0 c6 hne hT
 by_cases hv : valT t = []
 ·rw [show ownI place t = [] from by simp [ownI, hv], List.append_nil]
  rw [hv] at c2
  clear hv
  go_enter Tryz.func33, Tryz.ntmps33
  go_wp2_with fail
  go_ret
  exact ⟨rfl, Below.refl _ _, hO⟩
 ·rw [show ownI place t = [(keyP (place ++ pathT t), valT t)] from by simp [ownI, hv]]
  have hv1 : (valT t).isEmpty = false := by simpa using hv
  have HKY := Lib.hid (nkey_any (place ++ pathT t) (by simp; omega))
  clear hv
  generalize valT t = vt at *
  generalize pathT t = pt at *
  generalize keyP (place ++ pt) = ky at *
  have HO := Lib.hid hO
  clear hO
  go_enter Tryz.func33, Tryz.ntmps33
  go_wp2_with fail
  refine (HKY.out _).mono ?_
  rintro e w1 ⟨cc, rfl, hb1⟩
  have hO1 := HO.out.keep hb1
  have d2 := keepC hb1 c2
  have hs1 := hb1.size
  have hw1 : Below w0.heap.size w w1 := hb1.mono (Nat.le_of_lt HO.out.lt)
  obtain ⟨v, e1, r1⟩ := hO1.row
  obtain ⟨va, vc, rfl⟩ := r1.form
  have f1 := hO1.froz
  have HO1 := Lib.hid hO1
  clear hb1 hO1 c1 c2
  have hcell0 : w1.drew.cell? ⟨w0.heap.size, 0, none⟩ = some (.slice va l.length vc) := e1
  have hrow0 : IRow w1.drew (w0.heap.size + 1) (.slice va l.length vc) l := r1.keep (Below.refl _ _).drew
  have hfz0 : w1.drew.frozen? ⟨w0.heap.size, 0, none⟩ = false := f1
  have HC0 := Lib.hid hcell0
  have HR0 := Lib.hid hrow0
  have HF0 := Lib.hid hfz0
  have HD2 := Lib.hid d2
  clear e1 r1 f1 hcell0 hrow0 hfz0 d2
  go_wp2_with fail
  refine wpH_startB (w0.heap.size) (by kernel_rfl) (fun hS => ?_)
  have hcell := HC0
  have hrow := HR0
  have hfz := HF0
  have hlo : w0.heap.size < w1.drew.heap.size := HO1.out.lt
  (refine hP 1 ?_ ⟨some 26, .move (.tmp 6), 9, "", #[], none⟩ hS ?_ ?_; rotate_left; focus (intro w; go_simp; try with_reducible rfl))
  try simp only [pna, pnb, pnc, pnd, pne]
  (refine hP 2 ?_ ⟨some 27, .move (.tmp 1), 66, "", #[], none⟩ hS ?_ ?_; rotate_left; focus (intro w; go_simp; try with_reducible rfl))
  try simp only [pna, pnb, pnc, pnd, pne]
  (refine hP 3 ?_ ⟨some 28, .nilCheck (.tmp 27), 0, "", #[], none⟩ hS ?_ ?_; rotate_left; focus (intro w; go_simp; try with_reducible rfl))
  try simp only [pna, pnb, pnc, pnd, pne]
  (refine hP 4 ?_ ⟨some 29, .fieldAddr 79 (.tmp 28) 0, 0, "", #[], none⟩ hS ?_ ?_; rotate_left; focus (intro w; go_simp; try with_reducible rfl))
  try simp only [pna, pnb, pnc, pnd, pne]
  (refine hP 5 ?_ ⟨some 30, .fieldAddr 76 (.tmp 29) 2, 0, "", #[], none⟩ hS ?_ ?_; rotate_left; focus (intro w; go_simp; try with_reducible rfl))
  try simp only [pna, pnb, pnc, pnd, pne]
  refine wpH_load 6 (.string ⟨List.toArray vt⟩) (oi := { dst := some 31, op := Op.load 9 (Operand.tmp 30), type := 9, pos := "trie.go:87", after := #[{ on := 5, ground := Ground.data }], guard := none }) rfl (by kernel_rfl) (by kernel_rfl) (by kernel_rfl) (by rfl) hS (fun _ _ _ h => h) (fun w hb => (by have c := (hb.cell (p := ⟨b, 2, none⟩) hbl).trans HD2.out; go_simp; try rfl)) ?_
  try simp only [pna, pnb, pnc, pnd, pne]
  (refine hP 7 ?_ ⟨some 32, .build 43 #[(0, .tmp 26), (1, .tmp 31)], 43, "", #[], none⟩ hS ?_ ?_; rotate_left; focus (intro w; go_simp; try with_reducible rfl))
  try simp only [pna, pnb, pnc, pnd, pne]
  refine wpAnyH_all (rs := [0, 8]) (by kernel_rfl) (by simp) (fun jj hjj => ?_)
  simp only [List.mem_cons, List.not_mem_nil, or_false] at hjj
  rcases hjj with rfl | rfl
  refine wpO_op (oi := { dst := some 25, op := Op.load 27 (Operand.tmp 2), type := 27, pos := "trie.go:87", after := #[], guard := none }) rfl (by rfl) ?_
  refine wp_load1 27 (.tmp 2) rfl ⟨w0.heap.size, 0, none⟩ rfl (.slice va l.length vc) (load_sl _ _ _ _ _ hcell.out) ?_
  refine ⟨hS, ?_⟩
  try simp only [pna, pnb, pnc, pnd, pne]
  refine wpH_op 8 (oi := { dst := some 33, op := Op.buildSlice 27 1 #[(0, Operand.tmp 32)], type := 27, pos := "trie.go:87", after := #[{ on := 7, ground := Ground.data }], guard := none }) rfl (by kernel_rfl) (by rfl) ?_
  refine wp_newK 43 #[.string ⟨List.toArray ky⟩, .string ⟨List.toArray vt⟩] (fun m => .slice (some ⟨m, 0, none⟩) 1 1) (fun w => by go_simp; try rfl) ?_
  intro m wk hm hh hmk hbk
  replace hS := hS.trans (hbk.mono (Nat.le_of_lt hlo))
  refine ⟨hS, ?_⟩
  replace hcell := Lib.hid (keepC hbk hcell.out)
  replace hrow := Lib.hid (hrow.out.keep hbk)
  replace hfz := Lib.hid (keepF hbk hlo hfz.out)
  replace hlo := Nat.lt_of_lt_of_le hlo hbk.size
  replace hh := Lib.hid hh
  try simp only [pna, pnb, pnc, pnd, pne]
  refine wpH_op 9 (oi := { dst := some 34, op := Op.call { callee := Callee.builtin Builtin.append, args := #[Operand.tmp 25, Operand.tmp 33], argTypes := #[27, 27] }, type := 27, pos := "trie.go:87", after := #[{ on := 0, ground := Ground.data }, { on := 8, ground := Ground.data }], guard := none }) rfl (by kernel_rfl) (by rfl) ?_
  refine wp_appI (.tmp 25) (.tmp 33) rfl (w0.heap.size + 1) _ l rfl hrow.out m 0 1 1 [(ky, vt)] rfl rfl (isrc_blk hh.out) (by omega) hlo ?_
  intro v2 wa hrow2 hba
  replace hS := hS.trans (hba.mono (Nat.le_succ _))
  refine ⟨hS, ?_⟩
  replace hcell := Lib.hid ((hba.cell (p := ⟨w0.heap.size, 0, none⟩) (Nat.lt_succ_self _)).trans hcell.out)
  replace hfz := Lib.hid ((hba.frozen (p := ⟨w0.heap.size, 0, none⟩) (Nat.lt_succ_self _)).trans hfz.out)
  replace hlo := Nat.lt_of_lt_of_le hlo hba.size
  obtain ⟨v2a, v2c, rfl⟩ := hrow2.form
  replace hrow2 := Lib.hid hrow2
  try simp only [pna, pnb, pnc, pnd, pne]
  refine wpH_op 10 (oi := { dst := none, op := Op.store 27 (Operand.tmp 2) (Operand.tmp 34), type := 0, pos := "trie.go:87", after := #[{ on := 9, ground := Ground.data }, { on := 9, ground := Ground.chain }, { on := 0, ground := Ground.phase }, { on := 1, ground := Ground.phase }, { on := 2, ground := Ground.phase }, { on := 3, ground := Ground.phase }, { on := 4, ground := Ground.phase }, { on := 5, ground := Ground.phase }, { on := 6, ground := Ground.phase }, { on := 7, ground := Ground.phase }, { on := 8, ground := Ground.phase }, { on := 9, ground := Ground.phase }], guard := none }) rfl (by kernel_rfl) (by rfl) ?_
  refine wp_storeSl (.tmp 2) (.tmp 34) rfl w0.heap.size 0 rfl v2a _ v2c rfl _ hcell.out hfz.out ?_
  refine ⟨hS.setCell (p := ⟨w0.heap.size, 0, none⟩) (Nat.le_refl _) _, ?_⟩
  replace hS := hS.setCell (p := ⟨w0.heap.size, 0, none⟩) (Nat.le_refl _) (.slice v2a (l ++ [(ky, vt)]).length v2c)
  have hrow3 := Lib.hid (hrow2.out.kept (w' := World.setCell _ ⟨w0.heap.size, 0, none⟩ (.slice v2a (l ++ [(ky, vt)]).length v2c)) (fun k hk => (Below.heap_setCell _ _ _ _ (by have := hrow2.out.own k hk; simp; omega))))
  try simp only [pna, pnb, pnc, pnd, pne]
  refine wpAnyH_done (by kernel_rfl) ?_ _
  go_wp2_with fail
  go_ret
  exact ⟨rfl, hw1.trans hS, ⟨HO1.out.below.trans hS, ⟨_, World.cell?_setCell_same _ _ _ hcell.out, hrow3.out⟩, (World.frozen?_setCell _ _ _ _).trans hfz.out, by simpa [World.setCell] using hlo⟩⟩
  refine wpO_op (oi := { dst := some 33, op := Op.buildSlice 27 1 #[(0, Operand.tmp 32)], type := 27, pos := "trie.go:87", after := #[{ on := 7, ground := Ground.data }], guard := none }) rfl (by rfl) ?_
  refine wp_newK 43 #[.string ⟨List.toArray ky⟩, .string ⟨List.toArray vt⟩] (fun m => .slice (some ⟨m, 0, none⟩) 1 1) (fun w => by go_simp; try rfl) ?_
  intro m wk hm hh hmk hbk
  replace hS := hS.trans (hbk.mono (Nat.le_of_lt hlo))
  refine ⟨hS, ?_⟩
  replace hcell := Lib.hid (keepC hbk hcell.out)
  replace hrow := Lib.hid (hrow.out.keep hbk)
  replace hfz := Lib.hid (keepF hbk hlo hfz.out)
  replace hlo := Nat.lt_of_lt_of_le hlo hbk.size
  replace hh := Lib.hid hh
  try simp only [pna, pnb, pnc, pnd, pne]
  refine wpH_op 0 (oi := { dst := some 25, op := Op.load 27 (Operand.tmp 2), type := 27, pos := "trie.go:87", after := #[], guard := none }) rfl (by kernel_rfl) (by rfl) ?_
  refine wp_load1 27 (.tmp 2) rfl ⟨w0.heap.size, 0, none⟩ rfl (.slice va l.length vc) (load_sl _ _ _ _ _ hcell.out) ?_
  refine ⟨hS, ?_⟩
  try simp only [pna, pnb, pnc, pnd, pne]
  refine wpH_op 9 (oi := { dst := some 34, op := Op.call { callee := Callee.builtin Builtin.append, args := #[Operand.tmp 25, Operand.tmp 33], argTypes := #[27, 27] }, type := 27, pos := "trie.go:87", after := #[{ on := 0, ground := Ground.data }, { on := 8, ground := Ground.data }], guard := none }) rfl (by kernel_rfl) (by rfl) ?_
  refine wp_appI (.tmp 25) (.tmp 33) rfl (w0.heap.size + 1) _ l rfl hrow.out m 0 1 1 [(ky, vt)] rfl rfl (isrc_blk hh.out) (by omega) hlo ?_
  intro v2 wa hrow2 hba
  replace hS := hS.trans (hba.mono (Nat.le_succ _))
  refine ⟨hS, ?_⟩
  replace hcell := Lib.hid ((hba.cell (p := ⟨w0.heap.size, 0, none⟩) (Nat.lt_succ_self _)).trans hcell.out)
  replace hfz := Lib.hid ((hba.frozen (p := ⟨w0.heap.size, 0, none⟩) (Nat.lt_succ_self _)).trans hfz.out)
  replace hlo := Nat.lt_of_lt_of_le hlo hba.size
  obtain ⟨v2a, v2c, rfl⟩ := hrow2.form
  replace hrow2 := Lib.hid hrow2
  try simp only [pna, pnb, pnc, pnd, pne]
  refine wpH_op 10 (oi := { dst := none, op := Op.store 27 (Operand.tmp 2) (Operand.tmp 34), type := 0, pos := "trie.go:87", after := #[{ on := 9, ground := Ground.data }, { on := 9, ground := Ground.chain }, { on := 0, ground := Ground.phase }, { on := 1, ground := Ground.phase }, { on := 2, ground := Ground.phase }, { on := 3, ground := Ground.phase }, { on := 4, ground := Ground.phase }, { on := 5, ground := Ground.phase }, { on := 6, ground := Ground.phase }, { on := 7, ground := Ground.phase }, { on := 8, ground := Ground.phase }, { on := 9, ground := Ground.phase }], guard := none }) rfl (by kernel_rfl) (by rfl) ?_
  refine wp_storeSl (.tmp 2) (.tmp 34) rfl w0.heap.size 0 rfl v2a _ v2c rfl _ hcell.out hfz.out ?_
  refine ⟨hS.setCell (p := ⟨w0.heap.size, 0, none⟩) (Nat.le_refl _) _, ?_⟩
  replace hS := hS.setCell (p := ⟨w0.heap.size, 0, none⟩) (Nat.le_refl _) (.slice v2a (l ++ [(ky, vt)]).length v2c)
  have hrow3 := Lib.hid (hrow2.out.kept (w' := World.setCell _ ⟨w0.heap.size, 0, none⟩ (.slice v2a (l ++ [(ky, vt)]).length v2c)) (fun k hk => (Below.heap_setCell _ _ _ _ (by have := hrow2.out.own k hk; simp; omega))))
  try simp only [pna, pnb, pnc, pnd, pne]
  refine wpAnyH_done (by kernel_rfl) ?_ _
  go_wp2_with fail
  go_ret
  exact ⟨rfl, hw1.trans hS, ⟨HO1.out.below.trans hS, ⟨_, World.cell?_setCell_same _ _ _ hcell.out, hrow3.out⟩, (World.frozen?_setCell _ _ _ _).trans hfz.out, by simpa [World.setCell] using hlo⟩⟩
end Go.Proofs.YtjppbomngnomhaaGreatDoor
