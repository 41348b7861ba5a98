/- PutA, RowAt, DelP. -/
import Derived.Test.YtjppbomngnomhaaGreatDoorMv8
set_option linter.unnecessarySimpa false
set_option linter.unusedSimpArgs false
set_option linter.unusedVariables false
set_option maxRecDepth 100000
set_option maxHeartbeats 32000000
namespace Go.Proofs.YtjppbomngnomhaaGreatDoor
open Go.RowKit Pl
theorem put_leaf (p0 w0 : Bs) (n : Nat) (hn : n ≤ 400) (b : Nat) (q v : Bs) (hq : q.length ≤ n) (ho : okT (.leaf p0 w0) n) (h1 : common p0 q = p0.length) (h2 : common p0 q = q.length) (w : World) (hk : KT w) (hT : KAt w (.leaf p0 w0) (some b)) :
  Calls Tryz.prog 48 #[.pointer (some ⟨b, 0, none⟩), .string ⟨List.toArray q⟩, .string ⟨List.toArray v⟩] w (KOut w.heap.size w (.leaf q v)) := by
 obtain ⟨hne, ps, hps, ⟨c0, c1, c2, _, _, _, c6⟩, _⟩ := hT.open
 simp only [kindT, pathT] at c0 c1
 have hop := ho.2
 have hcm := fun W => ncommon_any p0 q (by omega) (by omega) W
 rw [h1] at h2
 rw [h1] at hcm
 have e1 : (p0.length : Int) = (q.length : Int) := by omega
 have HCM := Lib.hid hcm
 have HLF := Lib.hid (fun W (h : KT W) => leaf_any q v (by omega) W h)
 have HK := Lib.hid hk
 have hw2 : ((p0.length : Int) == (q.length : Int)) = true := by simpa using e1
 clear hcm hps hne hT hk c2 c6 ho h1 h2 e1
 go_enter Tryz.func48, Tryz.ntmps48
 go_wp2_with fail
 refine (HCM.out _).mono ?_
 rintro e w1 ⟨rfl, n1, rfl⟩
 have hb1 : Below w.heap.size w (w.drewN n1) := below_drewN (Below.refl _ _) _
 go_wp2_with fail
 refine (HLF.out _ (HK.out.keep hb1)).mono ?_
 rintro e w2 ⟨b2, rfl, hb2, hK2⟩
 go_wp2_with fail
 go_ret
 exact ⟨b2, rfl, hb1.trans (hb2.mono hb1.size), hK2⟩
theorem put_ext (p0 : Bs) (t1 : Tri) (n : Nat) (hn : n ≤ 400) (b : Nat) (q v : Bs) (hq : q.length ≤ n) (hf : fit q = true) (ho : okT (.ext p0 t1) n) (h1 : common p0 q = p0.length) (w : World) (hk : KT w) (hT : KAt w (.ext p0 t1) (some b))
  (ih : ∀ (p : Option Nat) (w : World), KT w → KAt w t1 p → Calls Tryz.prog 48 #[ptV p, .string ⟨List.toArray (q.drop p0.length)⟩, .string ⟨List.toArray v⟩] w (KOut w.heap.size w (putT t1 (q.drop p0.length) v))) :
  Calls Tryz.prog 48 #[.pointer (some ⟨b, 0, none⟩), .string ⟨List.toArray q⟩, .string ⟨List.toArray v⟩] w (KOut w.heap.size w (joinT p0 (putT t1 (q.drop p0.length) v))) := by
 obtain ⟨hne, ps, hps, ⟨c0, c1, c2, _, _, _, c6⟩, _⟩ := hT.open
 simp only [kindT, pathT] at c0 c1
 obtain ⟨o1, o2, o3, o4⟩ := ho
 have hcl := common_le p0 q
 rw [h1] at hcl
 have hcm := fun W => ncommon_any p0 q (by omega) (by omega) W
 rw [h1] at hcm
 have hk0 := hps 0 (by omega)
 rw [show kidsOf (.ext p0 t1) 0 = t1 from by simp [kidsOf, updT]] at hk0
 have hokp := okT_put t1 (q.drop p0.length) v (n - p0.length) o4 (fit_split q _ hf).2 (by rw [List.length_drop]; omega)
 have hpl := (okT_path _ _ hokp.1).1
 have HCM := Lib.hid hcm
 have HJN := Lib.hid (fun W (h : KT W) (b' : Nat) (hK : KAt W (putT t1 (q.drop p0.length) v) (some b')) => joined_any p0 _ b' W h hK (by omega))
 have HIH := Lib.hid ih
 have HK := Lib.hid hk
 have HK0 := Lib.hid hk0
 have hst : List.take (q.length - p0.length) (q.drop p0.length) = q.drop p0.length := List.take_of_length_le (by simp)
 have hci : (p0.length : Int) ≤ (q.length : Int) := by omega
 clear hcm hps hne hT hk c2 h1 ih hk0 hokp o3 o4 hpl o2
 generalize putT t1 (q.drop p0.length) v = t2 at *
 go_enter Tryz.func48, Tryz.ntmps48
 go_wp2_with fail
 refine (HCM.out _).mono ?_
 rintro e w1 ⟨rfl, n1, rfl⟩
 have hb1 : Below w.heap.size w (w.drewN n1) := below_drewN (Below.refl _ _) _
 have d1 := keepC hb1 c1
 have d6 := keepC hb1 c6
 go_wp2_with fail
 refine wpH_start (by kernel_rfl) (fun hS => ?_)
 (refine hP 0 ?_ ⟨some 86, .move (.tmp 0), 66, "", #[], none⟩ hS ?_ ?_; rotate_left; focus (intro w; go_simp; try with_reducible rfl))
 try simp only [pna, pnb, pnc, pnd, pne]
 (refine hP 1 ?_ ⟨some 87, .nilCheck (.tmp 86), 0, "", #[], none⟩ hS ?_ ?_; rotate_left; focus (intro w; go_simp; try with_reducible rfl))
 try simp only [pna, pnb, pnc, pnd, pne]
 (refine hP 2 ?_ ⟨some 88, .fieldAddr 79 (.tmp 87) 0, 0, "", #[], none⟩ hS ?_ ?_; rotate_left; focus (intro w; go_simp; try with_reducible rfl))
 try simp only [pna, pnb, pnc, pnd, pne]
 (refine hP 3 ?_ ⟨some 89, .fieldAddr 76 (.tmp 88) 1, 0, "", #[], none⟩ hS ?_ ?_; rotate_left; focus (intro w; go_simp; try with_reducible rfl))
 try simp only [pna, pnb, pnc, pnd, pne]
 refine wpH_load 4 (.string ⟨List.toArray p0⟩) (oi := { dst := some 90, op := Op.load 9 (Operand.tmp 89), type := 9, pos := "knot.go:92", after := #[{ on := 3, ground := Ground.data }], guard := none }) rfl (by kernel_rfl) (by kernel_rfl) (by kernel_rfl) (by rfl) hS (fun _ _ _ h => h) (fun w hb => (by have c := keepC hb d1; go_simp; try rfl)) ?_
 try simp only [pna, pnb, pnc, pnd, pne]
 (refine hP 5 ?_ ⟨some 91, .move (.tmp 0), 66, "", #[], none⟩ hS ?_ ?_; rotate_left; focus (intro w; go_simp; try with_reducible rfl))
 try simp only [pna, pnb, pnc, pnd, pne]
 (refine hP 6 ?_ ⟨some 92, .nilCheck (.tmp 91), 0, "", #[], none⟩ hS ?_ ?_; rotate_left; focus (intro w; go_simp; try with_reducible rfl))
 try simp only [pna, pnb, pnc, pnd, pne]
 (refine hP 7 ?_ ⟨some 93, .fieldAddr 79 (.tmp 92) 1, 0, "", #[], none⟩ hS ?_ ?_; rotate_left; focus (intro w; go_simp; try with_reducible rfl))
 try simp only [pna, pnb, pnc, pnd, pne]
 (refine hP 8 ?_ ⟨some 94, .indexAddr 77 (.tmp 93) (.const (.int .i64 0)), 0, "", #[], none⟩ hS ?_ ?_; rotate_left; focus (intro w; go_simp; try with_reducible rfl))
 try simp only [pna, pnb, pnc, pnd, pne]
 refine wpH_load 9 (ptV (ps 0)) (oi := { dst := some 95, op := Op.load 66 (Operand.tmp 94), type := 66, pos := "knot.go:92", after := #[{ on := 8, ground := Ground.data }], guard := none }) rfl (by kernel_rfl) (by kernel_rfl) (by kernel_rfl) (by rfl) hS (fun _ _ _ h => h) (fun w hb => (by have c := keepC hb d6; go_simp; try rfl)) ?_
 try simp only [pna, pnb, pnc, pnd, pne]
 (refine hP 10 ?_ ⟨some 96, .move (.tmp 1), 9, "", #[], none⟩ hS ?_ ?_; rotate_left; focus (intro w; go_simp; try with_reducible rfl))
 try simp only [pna, pnb, pnc, pnd, pne]
 (refine hP 11 ?_ ⟨some 97, .move (.tmp 7), 3, "", #[], none⟩ hS ?_ ?_; rotate_left; focus (intro w; go_simp; try with_reducible rfl))
 try simp only [pna, pnb, pnc, pnd, pne]
 (refine hP 12 ?_ ⟨some 98, .slice 9 (.tmp 96) (some (.tmp 97)) none none, 9, "", #[], none⟩ hS ?_ ?_; rotate_left; focus (intro w; go_simp; try with_reducible rfl))
 try simp only [pna, pnb, pnc, pnd, pne]
 (refine hP 13 ?_ ⟨some 99, .move (.tmp 2), 9, "", #[], none⟩ hS ?_ ?_; rotate_left; focus (intro w; go_simp; try with_reducible rfl))
 try simp only [pna, pnb, pnc, pnd, pne]
 refine wpH_call 14 (oi := { dst := some 100, op := Op.call { callee := Callee.value (Operand.func 48), args := #[Operand.tmp 95, Operand.tmp 98, Operand.tmp 99], argTypes := #[66, 9, 9] }, type := 66, pos := "knot.go:92", after := #[{ on := 9, ground := Ground.data }, { on := 12, ground := Ground.data }, { on := 13, ground := Ground.data }], guard := none }) rfl (by kernel_rfl) (by rfl) (HIH.out (ps 0) _ (HK.out.keep hb1.drew) (HK0.out.keep hb1.drew)) ?_ ?_
 ·(go_simp; try rfl)
 rintro e w' ⟨b3, rfl, hb3, hK3⟩
 refine ⟨_, rfl, hS.trans (hb3.mono hS.size), ?_⟩
 replace hS := hS.trans (hb3.mono hS.size)
 have hb3' := hb1.drew.trans (hb3.mono hb1.drew.size)
 try simp only [pna, pnb, pnc, pnd, pne]
 refine wpH_call 15 (oi := { dst := some 101, op := Op.call { callee := Callee.value (Operand.func 63), args := #[Operand.tmp 90, Operand.tmp 100], argTypes := #[9, 66] }, type := 66, pos := "knot.go:92", after := #[{ on := 4, ground := Ground.data }, { on := 14, ground := Ground.data }, { on := 14, ground := Ground.chain }], guard := none }) rfl (by kernel_rfl) (by rfl) (HJN.out _ (HK.out.keep hb3') b3 hK3) ?_ ?_
 ·(go_simp; try rfl)
 rintro e w' ⟨b4, rfl, hb4, hK4⟩
 refine ⟨_, rfl, hS.trans (hb4.mono hS.size), ?_⟩
 replace hS := hS.trans (hb4.mono hS.size)
 try simp only [pna, pnb, pnc, pnd, pne]
 (refine hP 16 ?_ ⟨some 6, .assign (.tmp 101), 66, "", #[], none⟩ hS ?_ ?_; rotate_left; focus (intro w; go_simp; try with_reducible rfl))
 try simp only [pna, pnb, pnc, pnd, pne]
 refine wpAnyH_done (by kernel_rfl) ?_ _
 go_wp2_with fail
 go_ret
 exact ⟨b4, rfl, hb3'.trans (hb4.mono hb3'.size), hK4⟩
theorem put_brE (w0 : Bs) (kids : Nat → Tri) (b : Nat) (v : Bs) (w : World) (hk : KT w) (hT : KAt w (.br w0 kids) (some b)) :
  Calls Tryz.prog 48 #[.pointer (some ⟨b, 0, none⟩), .string ⟨List.toArray []⟩, .string ⟨List.toArray v⟩] w (KOut w.heap.size w (.br v kids)) := by
 obtain ⟨hne, ps, hps, ⟨c0, c1, c2, _, _, _, c6⟩, hB⟩ := hT.open
 simp only [kindT, pathT] at c0 c1
 have HCM := Lib.hid (fun W => ncommon_any [] [] (by simp) (by simp) W)
 have HBR := Lib.hid (fun W (h : KT W) hK => branch_any v kids ps W h hK)
 have HK := Lib.hid hk
 have HPS := Lib.hid hps
 have HB := Lib.hid hB
 clear hps hne hT hk c2 c6 hB
 go_enter Tryz.func48, Tryz.ntmps48
 go_wp2_with fail
 refine (HCM.out _).mono ?_
 rintro e w1 ⟨rfl, n1, rfl⟩
 have hb1 : Below w.heap.size w (w.drewN n1) := below_drewN (Below.refl _ _) _
 have hB1 := HB.out.keep hb1
 rw [show common [] [] = 0 from rfl]
 go_wp2_with (first
  | (refine wpList_knPtrs rfl (.tmp 44) rfl rfl hB1 ?_)
  | fail)
 refine (HBR.out _ (HK.out.keep hb1) (fun i hi => (HPS.out i hi).keep hb1)).mono ?_
 rintro e w2 ⟨b2, rfl, hb2, hK2⟩
 go_wp2_with fail
 go_ret
 exact ⟨b2, rfl, hb1.trans (hb2.mono hb1.size), hK2⟩
theorem put_br (w0 : Bs) (kids : Nat → Tri) (b : Nat) (a : UInt8) (r v : Bs) (ha : a.toNat < 16) (hr : r.length ≤ 900) (w : World) (hk : KT w) (hT : KAt w (.br w0 kids) (some b))
  (ih : ∀ (p : Option Nat) (w : World), KT w → KAt w (kids a.toNat) p → Calls Tryz.prog 48 #[ptV p, .string ⟨List.toArray r⟩, .string ⟨List.toArray v⟩] w (KOut w.heap.size w (putT (kids a.toNat) r v))) :
  Calls Tryz.prog 48 #[.pointer (some ⟨b, 0, none⟩), .string ⟨List.toArray (a :: r)⟩, .string ⟨List.toArray v⟩] w (KOut w.heap.size w (.br w0 (updT kids a.toNat (putT (kids a.toNat) r v)))) := by
 obtain ⟨hne, ps, hps, ⟨c0, c1, c2, _, _, _, c6⟩, hB⟩ := hT.open
 simp only [kindT, pathT, valT] at c0 c1 c2
 have HCM := Lib.hid (fun W => ncommon_any [] (a :: r) (by simp) (by simp; omega) W)
 have HIH := Lib.hid ih
 have HK := Lib.hid hk
 have HPS := Lib.hid hps
 have HB := Lib.hid hB
 have hbl := hB.lt
 have HC2 := Lib.hid c2
 have i1 : 0 ≤ (a.toNat : Int) ∧ (a.toNat : Int) < 16 := by omega
 have i2 : (1 : Int) ≤ (r.length : Int) + 1 := by omega
 clear hps hne hT hk c2 c6 hB ih
 generalize putT (kids a.toNat) r v = t2 at *
 go_enter Tryz.func48, Tryz.ntmps48
 go_wp2_with fail
 refine (HCM.out _).mono ?_
 rintro e w1 ⟨rfl, n1, rfl⟩
 have hb1 : Below w.heap.size w (w.drewN n1) := below_drewN (Below.refl _ _) _
 have hB1 := HB.out.keep hb1
 have hsz : (w.drewN n1).heap.size = w.heap.size := rfl
 rw [show common [] (a :: r) = 0 from rfl]
 go_wp2_with (first
  | (refine wpList_knPtrs rfl (.tmp 56) rfl rfl hB1 ?_)
  | (refine wpList_allocP rfl rfl ?_
     intro m w2 hm B2 hb2)
  | (refine wpList_rowStore row16p rfl rfl (.tmp 9) (.tmp 57) rfl rfl rfl (pk_len ps) (pk_one ps) (pk_len noP) B2 ?_
     intro w3 B3 m3)
  | fail)
 have hmw : w.heap.size ≤ m := hm
 have hb12 : Below w.heap.size w w2 := hb1.trans hb2
 have hs12 := hb12.size
 have hbw : Below w.heap.size w w3 := Below.mod hb12 m3 (by omega) (by simp; omega)
 have hT3 := kat_keep hbw HPS.out
 have HB3 := Lib.hid B3
 have HBW := Lib.hid hbw
 have HT3 := Lib.hid hT3
 have hbm : b < m := by omega
 clear hb1 hB1 hsz hb2 B2 m3 B3 hbw hT3 c0 c1 hb12 hs12 hm
 refine wpH_startM [m] (by kernel_rfl) (fun hS => ?_)
 (refine hP 0 ?_ ⟨some 58, .move (.tmp 1), 9, "", #[], none⟩ hS ?_ ?_; rotate_left; focus (intro w; go_simp; try with_reducible rfl))
 try simp only [pna, pnb, pnc, pnd, pne]
 (refine hP 1 ?_ ⟨some 59, .index 9 (.tmp 58) (.const (.int .i64 0)), 5, "", #[], none⟩ hS ?_ ?_; rotate_left; focus (intro w; go_simp; try with_reducible rfl))
 try simp only [pna, pnb, pnc, pnd, pne]
 (refine hP 2 ?_ ⟨some 60, .move (.tmp 1), 9, "", #[], none⟩ hS ?_ ?_; rotate_left; focus (intro w; go_simp; try with_reducible rfl))
 try simp only [pna, pnb, pnc, pnd, pne]
 (refine hP 3 ?_ ⟨some 61, .index 9 (.tmp 60) (.const (.int .i64 0)), 5, "", #[], none⟩ hS ?_ ?_; rotate_left; focus (intro w; go_simp; try with_reducible rfl))
 try simp only [pna, pnb, pnc, pnd, pne]
 (refine hP 4 ?_ ⟨some 62, .indexAddr 77 (.tmp 9) (.tmp 61), 0, "", #[], none⟩ hS ?_ ?_; rotate_left; focus (intro w; go_simp; try with_reducible rfl))
 try simp only [pna, pnb, pnc, pnd, pne]
 (refine hP 6 ?_ ⟨some 64, .move (.tmp 1), 9, "", #[], none⟩ hS ?_ ?_; rotate_left; focus (intro w; go_simp; try with_reducible rfl))
 try simp only [pna, pnb, pnc, pnd, pne]
 (refine hP 7 ?_ ⟨some 65, .slice 9 (.tmp 64) (some (.const (.int .i64 1))) none none, 9, "", #[], none⟩ hS ?_ ?_; rotate_left; focus (intro w; go_simp; try with_reducible rfl))
 try simp only [pna, pnb, pnc, pnd, pne]
 (refine hP 8 ?_ ⟨some 66, .move (.tmp 2), 9, "", #[], none⟩ hS ?_ ?_; rotate_left; focus (intro w; go_simp; try with_reducible rfl))
 try simp only [pna, pnb, pnc, pnd, pne]
 refine wpH_op 5 (oi := { dst := some 63, op := Op.load 66 (Operand.tmp 62), type := 66, pos := "knot.go:89", after := #[{ on := 4, ground := Ground.data }], guard := none }) rfl (by kernel_rfl) (by rfl) ?_
 refine wp_load1 66 (.tmp 62) rfl ⟨m, a.toNat, none⟩ rfl (ptV (ps a.toNat)) (load_ptr _ _ _ _ (pk_cell HB3.out.drew a.toNat ha)) ?_
 refine ⟨hS, ?_⟩
 try simp only [pna, pnb, pnc, pnd, pne]
 refine wpH_call 9 (oi := { dst := some 67, op := Op.call { callee := Callee.value (Operand.func 48), args := #[Operand.tmp 63, Operand.tmp 65, Operand.tmp 66], argTypes := #[66, 9, 9] }, type := 66, pos := "knot.go:89", after := #[{ on := 5, ground := Ground.data }, { on := 7, ground := Ground.data }, { on := 8, ground := Ground.data }], guard := none }) rfl (by kernel_rfl) (by rfl) (HIH.out (ps a.toNat) _ (HK.out.keep HBW.out.drew) ((HT3.out a.toNat ha).keep (Below.refl _ _).drew)) ?_ ?_
 ·(go_simp; try rfl)
 rintro e w' ⟨b8, rfl, hbx, hK8⟩
 refine ⟨_, rfl, hS.trans (Mod.of_below hbx), ?_⟩
 replace hS := hS.trans (Mod.of_below hbx)
 try simp only [pna, pnb, pnc, pnd, pne]
 (refine hP 10 ?_ ⟨some 68, .indexAddr 77 (.tmp 9) (.tmp 59), 0, "", #[], none⟩ hS ?_ ?_; rotate_left; focus (intro w; go_simp; try with_reducible rfl))
 try simp only [pna, pnb, pnc, pnd, pne]
 refine wpH_op 11 (oi := { dst := none, op := Op.store 66 (Operand.tmp 68) (Operand.tmp 67), type := 0, pos := "knot.go:89", after := #[{ on := 10, ground := Ground.data }, { on := 9, ground := Ground.data }, { on := 9, ground := Ground.chain }, { on := 0, ground := Ground.phase }, { on := 1, ground := Ground.phase }, { on := 2, ground := Ground.phase }, { on := 3, ground := Ground.phase }, { on := 4, ground := Ground.phase }, { on := 5, ground := Ground.phase }, { on := 6, ground := Ground.phase }, { on := 7, ground := Ground.phase }, { on := 8, ground := Ground.phase }, { on := 9, ground := Ground.phase }], guard := none }) rfl (by kernel_rfl) (by rfl) ?_
 refine wp_storeP (.tmp 68) (.tmp 67) rfl m a.toNat rfl (some ⟨b8, 0, none⟩) rfl _ (pk_cell (HB3.out.drew.keep hbx) a.toNat ha) ((HB3.out.drew.keep hbx).froz _) ?_
 refine ⟨hS.setCell (.inl (by simp)) _, ?_⟩
 try simp only [pna, pnb, pnc, pnd, pne]
 refine wpAnyH_done (by kernel_rfl) ?_ _
 have B4 := HB3.out.drew.keep hbx
 have hT4 := kat_upd (kat_other B4 a.toNat (.pointer (some ⟨b8, 0, none⟩)) (kat_keep hbx (kat_keep (Below.refl _ _).drew HT3.out))) a.toNat (hK8.other B4 a.toNat (.pointer (some ⟨b8, 0, none⟩)))
 have B5 := B4.set a.toNat (ptV (some b8))
 rw [pk_set _ _ _ ha, ptV_some] at B5
 have hb5 : Below w.heap.size w _ := ((HBW.out.drew).trans (hbx.mono HBW.out.size)).setCell (p := ⟨m, a.toNat, none⟩) hmw (.pointer (some ⟨b8, 0, none⟩))
 clear hbx hK8 hS B4
 generalize World.setCell _ ⟨m, a.toNat, none⟩ (.pointer (some ⟨b8, 0, none⟩)) = w5 at *
 have HT5 := Lib.hid hT4
 clear hT4
 go_wp2_with fail
 refine wp_tail 6 (by kernel_rfl) (by kernel_rfl) ?_
 intro w6 hw6
 have B6 := B5.drew
 have hb6 := hb5.drew
 have HT6 := Lib.hid (kat_keep (Below.refl w5.heap.size w5).drew HT5.out)
 rw [← hw6] at B6 hb6 HT6
 have d2 := keepC hb6 HC2.out
 clear hw6 B5 hb5 HT5
 simp only [List.take_succ_cons, List.take_zero, List.drop_succ_cons, List.drop_zero]
 repeat (first
  | (refine wpStill_rowLoadAt row16p rfl (.tmp 9) rfl rfl (pk_len (updP ps a.toNat (some b8))) B6.range ?_)
  | still_step)
 refine wpStill_nil ?_
 go_wp2_with fail
 refine (branch_any w0 (updT kids a.toNat t2) _ w6 (HK.out.keep hb6) HT6.out).mono ?_
 rintro e w7 ⟨b7, rfl, hb7, hK7⟩
 go_wp2_with fail
 go_ret
 exact ⟨b7, rfl, hb6.trans (hb7.mono hb6.size), hK7⟩
theorem put_any (v : Bs) : ∀ (t : Tri) (n : Nat), n ≤ 400 → ∀ (q : Bs), q.length ≤ n → fit q = true → okT t n → ∀ (p : Option Nat) (w : World), KT w → KAt w t p →
  Calls Tryz.prog 48 #[ptV p, .string ⟨List.toArray q⟩, .string ⟨List.toArray v⟩] w (KOut w.heap.size w (putT t q v)) := by
 intro t
 induction t with
 | nil =>
  intro n hn q hq hf ho p w hk hT
  obtain rfl := hT.isNil
  have HLF := Lib.hid (leaf_any q v (by omega) w hk)
  clear hk hT
  show Calls Tryz.prog 48 #[.pointer none, .string ⟨List.toArray q⟩, .string ⟨List.toArray v⟩] w (KOut w.heap.size w (.leaf q v))
  go_enter Tryz.func48, Tryz.ntmps48
  go_wp2_with fail
  refine HLF.out.mono ?_
  rintro e w2 ⟨b2, rfl, hb2, hK2⟩
  go_wp2_with fail
  go_ret
  exact ⟨b2, rfl, hb2, hK2⟩
 | leaf p0 w0 =>
  intro n hn q hq hf ho p w hk hT
  obtain ⟨b, rfl⟩ := hT.isKnot (by simp)
  by_cases h : common p0 q = p0.length ∧ common p0 q = q.length
  ·rw [show putT (.leaf p0 w0) q v = .leaf q v from by rw [putT, if_pos h]]
   exact put_leaf p0 w0 n hn b q v hq ho h.1 h.2 w hk hT
  ·rw [show putT (.leaf p0 w0) q v = joinT (q.take (common p0 q)) (partedT (.leaf p0 w0) (common p0 q) (q.drop (common p0 q)) v) from by rw [putT, if_neg h]; rfl]
   exact put_parted (.leaf p0 w0) n hn b q v hq hf ho (.inl ⟨rfl, h⟩) w hk hT
 | ext p0 t1 ih =>
  intro n hn q hq hf ho p w hk hT
  obtain ⟨b, rfl⟩ := hT.isKnot (by simp)
  by_cases h : common p0 q = p0.length
  ·rw [show putT (.ext p0 t1) q v = joinT p0 (putT t1 (q.drop p0.length) v) from by rw [putT, if_pos h, h]]
   exact put_ext p0 t1 n hn b q v hq hf ho h w hk hT (fun p' w' hk' hT' => ih (n - p0.length) (by omega) _ (by rw [List.length_drop]; omega) (fit_split q _ hf).2 ho.2.2.2 p' w' hk' hT')
  ·rw [show putT (.ext p0 t1) q v = joinT (q.take (common p0 q)) (partedT (.ext p0 t1) (common p0 q) (q.drop (common p0 q)) v) from by rw [putT, if_neg h]; rfl]
   exact put_parted (.ext p0 t1) n hn b q v hq hf ho (.inr ⟨rfl, h⟩) w hk hT
 | br w0 kids ih =>
  intro n hn q hq hf ho p w hk hT
  obtain ⟨b, rfl⟩ := hT.isKnot (by simp)
  cases q with
  | nil => exact put_brE w0 kids b v w hk hT
  | cons a r =>
   have h1 := (fit_cons a r).1 hf
   simp only [List.length_cons] at hq
   have hoa : okT (kids a.toNat) (n - 1) := by
    rcases ho a.toNat with h2 | h2
    ·rw [h2]; trivial
    ·exact h2.2.2
   exact put_br w0 kids b a r v h1.1 (by omega) w hk hT (fun p' w' hk' hT' => ih a.toNat (n - 1) (by omega) r (by omega) h1.2 hoa p' w' hk' hT')
end Go.Proofs.YtjppbomngnomhaaGreatDoor
namespace Go.Proofs.YtjppbomngnomhaaGreatDoor
open Go.RowKit
theorem rg_keep {W w : World} {b o : Nat} {cs : List Value} (h : W.rangeAt b o cs) (hlt : b < W.heap.size) (hb : Below W.heap.size W w) : w.rangeAt b o cs := by
 intro j v hj
 exact (hb.cell (p := ⟨b, o + j, none⟩) hlt).trans (h j v hj)
theorem row_varR {P : Program} {T : TypeId} {n : Nat} (hT : RowT P T n) (w : World) {b off : Nat} {vs : List Value} (hl : vs.length = n) (hR : w.rangeAt b off vs) : (loadVar T ⟨b, off, none⟩).run P w = .ok (.agg vs.toArray) w := by
 obtain ⟨⟨d, h1, h2⟩, h3⟩ := hT
 exact run_loadVar_mid w b off T vs d hR h1 h2 (by rw [hl]; exact h3)
theorem exec_rowR {P : Program} {T : TypeId} {n : Nat} (hT : RowT P T n) {o : Oper} {a : Act} {w : World} (x : Operand) (ho : o.op = .load T x) {b off : Nat} (hx : a.eval x = .pointer (some ⟨b, off, none⟩)) {vs : List Value} (hl : vs.length = n) (hR : w.rangeAt b off vs) : (execOp a.eval o).run P w = .ok (.value (.agg vs.toArray)) w := by
 unfold execOp
 simp only [ho, hx, Instr.loadAt, Instr.sureAddr, Sem.run_bind, Sem.run_pure, Result.andThen_ok, row_varR hT w hl hR]
section
variable {P : Program} {T : TypeId} {n : Nat} {ops : Array Oper} {rest : List Oper} {op : Oper} {a : Act} {w : World} {Q : Exit → Act → World → Prop}
theorem wpList_rowRG (hT : RowT P T n) (hw : Region.wanted op (yielded ops a.tmps) = true) (x : Operand) (ho : op.op = .load T x) {b o : Nat} (hx : a.eval x = .pointer (some ⟨b, o, none⟩)) {vs : List Value} (hl : vs.length = n) (hB : w.rangeAt b o vs)
  (h : wpList P ops Q rest (a.put op.dst (.agg vs.toArray)) w) : wpList P ops Q (op :: rest) a w := by
 obtain ⟨⟨d, h1, h2⟩, h3⟩ := hT
 refine wpList_step fun K hK => ?_
 rw [if_pos hw]
 exact wp_load_mid T x ho b o hx vs d hB h1 h2 (by rw [hl]; exact h3) (hK _ _ h)
end
section
variable {P : Program} {T : TypeId} {n : Nat} {op : Oper} {a : Act} {w : World} {K : Act → World → Prop} {Q : Exit → Act → World → Prop}
theorem wp_rowS (hT : RowT P T n) (x y : Operand) (ho : op.op = .store T x y) {b : Nat} (hx : a.eval x = .pointer (some ⟨b, 0, none⟩)) {vs : List Value} (hy : a.eval y = .agg vs.toArray) (hl : vs.length = n) (h1 : ∀ v ∈ vs, v.oneCell' = true)
  {us : List Value} (hlu : us.length = n) (hB : Blk w b us.toArray)
  (h : ∀ w', Blk w' b vs.toArray → Mod [b] w w' → K (a.put op.dst undef) w') : op.wp P a w K Q := by
 obtain ⟨_, h3⟩ := hT
 have ht : w.there b 0 vs.length := fun j hj => by
  rw [Nat.zero_add, hB.cell, hB.froz]
  simp; omega
 refine wp_store_mid T x y ho b 0 _ hx hy (by simpa using ht) (by simp [hl, h3]) (all_oneCell_toArray h1) ?_
 refine h _ ⟨fun o => ?_, fun o => by rw [World.frozen?_setCells]; exact hB.froz o, ?_⟩ (Mod.setCellsL b _ 0 w)
 ·by_cases ho : o < vs.length
  ·have := World.cell?_setCells_in b vs 0 w (fun i hi => (ht i hi).1) o ho
   rw [Nat.zero_add] at this
   simp only [List.getElem?_toArray]
   rw [List.getElem?_eq_getElem ho]
   exact this
  ·rw [World.cell?_setCells_out b _ 0 w _ (fun _ _ => .inr (by simp at ho ⊢; omega)), hB.cell]
   simp at ho ⊢
   rw [List.getElem?_eq_none (by omega), List.getElem?_eq_none (by omega)]
 ·exact Nat.lt_of_lt_of_le hB.lt (Mod.setCellsL b _ 0 w).size
end
end Go.Proofs.YtjppbomngnomhaaGreatDoor
namespace Go.Proofs.YtjppbomngnomhaaGreatDoor
namespace Pl
def isN : Tri → Bool
 | .nil => true
 | _ => false
theorem isN_iff (t : Tri) : isN t = true ↔ t = .nil := by cases t <;> simp [isN]
theorem isN_not (t : Tri) : isN t = false ↔ t ≠ .nil := by cases t <;> simp [isN]
def liveK (f : Nat → Tri) : Nat → Nat
 | 0 => 0
 | n + 1 => if isN (f n) then liveK f n else liveK f n + 1
def lastK (f : Nat → Tri) : Nat → Nat
 | 0 => 0
 | n + 1 => if isN (f n) then lastK f n else n
theorem live_zero (f : Nat → Tri) : ∀ n, liveK f n = 0 → ∀ i, i < n → f i = .nil
 | 0, _, i, hi => by omega
 | n + 1, h, i, hi => by
  unfold liveK at h
  split at h
  ·rename_i hn
   rcases Nat.lt_or_ge i n with h1 | h1
   ·exact live_zero f n h i h1
   ·obtain rfl : i = n := by omega
    exact (isN_iff _).1 hn
  ·omega
theorem last_lt (f : Nat → Tri) : ∀ n, liveK f n ≠ 0 → lastK f n < n ∧ f (lastK f n) ≠ .nil
 | 0, h => absurd rfl h
 | n + 1, h => by
  unfold liveK at h
  unfold lastK
  split
  ·rename_i hn
   rw [if_pos hn] at h
   have := last_lt f n h
   exact ⟨by omega, this.2⟩
  ·rename_i hn
   exact ⟨by omega, fun e => hn ((isN_iff _).2 e)⟩
theorem live_one (f : Nat → Tri) : ∀ n, liveK f n = 1 → ∀ i, i < n → i ≠ lastK f n → f i = .nil
 | 0, h, i, hi, _ => by omega
 | n + 1, h, i, hi, hne => by
  unfold liveK at h
  unfold lastK at hne
  split at h
  ·rename_i hn
   rw [if_pos hn] at hne
   rcases Nat.lt_or_ge i n with h1 | h1
   ·exact live_one f n h i h1 hne
   ·obtain rfl : i = n := by omega
    exact (isN_iff _).1 hn
  ·rename_i hn
   rw [if_neg hn] at hne
   exact live_zero f n (by omega) i (by omega)
theorem live_le (f : Nat → Tri) : ∀ n, liveK f n ≤ n
 | 0 => Nat.le_refl _
 | n + 1 => by
  have := live_le f n
  unfold liveK
  split <;> omega
theorem updT_eq (f : Nat → Tri) (k : Nat) (t : Tri) : updT f k t k = t := if_pos rfl
theorem updT_ne (f : Nat → Tri) (k : Nat) (t : Tri) (i : Nat) (h : i ≠ k) : updT f k t i = f i := if_neg h
theorem live_out (f : Nat → Tri) (k : Nat) (t : Tri) : ∀ n, n ≤ k → liveK (updT f k t) n = liveK f n
 | 0, _ => rfl
 | n + 1, h => by
  have e := updT_ne f k t n (by omega)
  have ih := live_out f k t n (by omega)
  simp only [liveK, e, ih]
theorem live_put (f : Nat → Tri) (k : Nat) (t : Tri) (ht : t ≠ .nil) : ∀ n, k < n → liveK (updT f k t) n = if isN (f k) then liveK f n + 1 else liveK f n
 | 0, h => by omega
 | n + 1, h => by
  by_cases hk : k = n
  ·subst hk
   simp only [liveK, live_out f k t k (Nat.le_refl _), updT_eq, (isN_not t).2 ht]
   cases isN (f k) <;> simp
  ·have e := updT_ne f k t n (fun e => hk e.symm)
   have ih := live_put f k t ht n (by omega)
   simp only [liveK, e, ih]
   cases isN (f k) <;> cases isN (f n) <;> simp
theorem live_cut (f : Nat → Tri) (k : Nat) : ∀ n, k < n → liveK f n ≤ liveK (updT f k .nil) n + 1
 | 0, h => by omega
 | n + 1, h => by
  by_cases hk : k = n
  ·subst hk
   simp only [liveK, live_out f k .nil k (Nat.le_refl _), updT_eq]
   split <;> split <;> omega
  ·have e := updT_ne f k .nil n (fun e => hk e.symm)
   have ih := live_cut f k n (by omega)
   simp only [liveK, e]
   split <;> omega
theorem live_same (f : Nat → Tri) (k : Nat) (t : Tri) (ht : t ≠ .nil) (hf : f k ≠ .nil) (n : Nat) (h : k < n) : liveK (updT f k t) n = liveK f n := by
 rw [live_put f k t ht n h, (isN_not _).2 hf]; simp
theorem live_pos (f : Nat → Tri) (i n : Nat) (hi : i < n) (h : f i ≠ .nil) : 1 ≤ liveK f n := by
 rcases Nat.eq_zero_or_pos (liveK f n) with h0 | h0
 ·exact absurd (live_zero f n h0 i hi) h
 ·exact h0
def mendT (v : Bs) (kids : Nat → Tri) : Tri :=
 if liveK kids 16 = 0 then .leaf [] v
 else if liveK kids 16 = 1 ∧ v = [] then joinT [UInt8.ofNat (lastK kids 16)] (kids (lastK kids 16))
 else .br v kids
def delT : Tri → Bs → Tri
 | .nil, _ => .nil
 | .leaf _ _, _ => .nil
 | .ext p t, q => joinT p (delT t (q.drop p.length))
 | .br v kids, q => match q with
  | [] => mendT [] kids
  | a :: r => mendT v (updT kids a.toNat (delT (kids a.toNat) r))
def isB : Tri → Bool
 | .br _ _ => true
 | _ => false
def hasV (v : Bs) : Nat := if v = [] then 0 else 1
def canT : Tri → Prop
 | .nil => True
 | .leaf _ v => v ≠ [] ∧ v.length ≤ 32
 | .ext _ t => isB t = true ∧ canT t
 | .br v kids => v.length ≤ 32 ∧ 2 ≤ liveK kids 16 + hasV v ∧ ∀ i, canT (kids i)
theorem join_ne (p : Bs) (t : Tri) (h : t ≠ .nil) : joinT p t ≠ .nil := by
 cases t with
 | nil => exact absurd rfl h
 | leaf q v => simp only [joinT]; split <;> simp
 | ext q t => simp only [joinT]; split <;> simp
 | br v kids => simp only [joinT]; split <;> simp
theorem can_join (p : Bs) (t : Tri) (hn : t ≠ .nil) (h : canT t) : canT (joinT p t) := by
 by_cases hp : p = []
 ·subst hp; rw [joinT_nil]; exact h
 ·cases t with
  | nil => exact absurd rfl hn
  | leaf q v => simp only [joinT, hp, if_false]; exact h
  | ext q t => simp only [joinT, hp, if_false]; exact h
  | br v kids => simp only [joinT, hp, if_false]; exact ⟨rfl, h⟩
theorem can_old (f : Bs → Tri) (old : Bs) (h : ∀ r, canT (f r)) : ∀ i, canT (oldK f old i) := by
 intro i
 cases old with
 | nil => trivial
 | cons c r =>
  simp only [oldK, updT]
  split
  ·exact h r
  ·trivial
theorem can_part (own old q v : Bs) (f : Bs → Tri) (hf : ∀ r, canT (f r)) (hfn : ∀ r, f r ≠ .nil) (hv : v ≠ []) (hvl : v.length ≤ 32) (hol : own.length ≤ 32)
  (ho : old = [] → own ≠ [] ∧ q ≠ []) (hc : ∀ c r, old = c :: r → c.toNat < 16) (hq : ∀ c r, q = c :: r → c.toNat < 16) (hd : ∀ c d r s, old = c :: r → q = d :: s → c ≠ d) : canT (partT own (oldK f old) q v) := by
 have hk := can_old f old hf
 cases q with
 | nil =>
  cases old with
  | nil => exact absurd rfl (ho rfl).2
  | cons c r =>
   refine ⟨hvl, ?_, hk⟩
   have : 1 ≤ liveK (oldK f (c :: r)) 16 := live_pos _ c.toNat 16 (hc c r rfl) (by simp only [oldK, updT, if_true]; exact hfn r)
   simp only [hasV, hv, if_false]
   omega
 | cons a s =>
  have ha := hq a s rfl
  refine ⟨hol, ?_, fun i => ?_⟩
  ·rw [live_put _ _ _ (by simp) 16 ha]
   cases old with
   | nil =>
    have := (ho rfl).1
    simp only [hasV, this, if_false, oldK, noT, isN, if_true]
    omega
   | cons c r =>
    have hcd := hd c a r s rfl rfl
    have h1 : oldK f (c :: r) a.toNat = .nil := by
     simp only [oldK, updT]
     rw [if_neg (fun e => hcd (u8_eq e.symm))]
     rfl
    have : 1 ≤ liveK (oldK f (c :: r)) 16 := live_pos _ c.toNat 16 (hc c r rfl) (by simp only [oldK, updT, if_true]; exact hfn r)
    rw [h1]
    simp only [isN, if_true]
    omega
  ·simp only [updT]
   split
   ·exact ⟨hv, hvl⟩
   ·exact hk i
theorem part_isB (own q v : Bs) (kids : Nat → Tri) : isB (partT own kids q v) = true := by cases q <;> rfl
theorem isB_ne {t : Tri} (h : isB t = true) : t ≠ .nil := by rintro rfl; cases h
theorem put_isB (t : Tri) (q v : Bs) (h : isB t = true) : isB (putT t q v) = true := by
 cases t with
 | br w kids => cases q <;> rfl
 | _ => cases h
theorem fit_head {c : UInt8} {r p : Bs} (n : Nat) (hp : fit p = true) (h : p.drop n = c :: r) : c.toNat < 16 :=
 ((fit_cons c r).1 (h ▸ (fit_split p n hp).2)).1
theorem can_put : ∀ (t : Tri) (q v : Bs) (n : Nat), okT t n → canT t → fit q = true → v ≠ [] → v.length ≤ 32 → canT (putT t q v)
 | .nil, q, v, n, _, _, _, hv, hl => ⟨hv, hl⟩
 | .leaf p w, q, v, n, hk, hc, hq, hv, hl => by
  have hn := common_next p q
  have hcl := common_le p q
  unfold putT
  generalize common p q = c at *
  by_cases h : c = p.length ∧ c = q.length
  ·rw [if_pos h]; exact ⟨hv, hl⟩
  ·rw [if_neg h]
   refine can_join _ _ (isB_ne (part_isB _ _ _ _)) (can_part _ _ _ _ _ (fun r => hc) (fun r => by simp) hv hl ?_ ?_ (fun c' r e => fit_head c hk.1 e) (fun c' r e => fit_head c hq e) (fun a b r s h1 h2 => hn a b r s h1 h2))
   ·unfold ownT; split
    ·exact hc.2
    ·simp
   ·intro e
    refine ⟨by unfold ownT; rw [if_pos e]; exact hc.1, fun e2 => h ?_⟩
    rw [List.drop_eq_nil_iff] at e e2
    omega
 | .ext p t, q, v, n, hk, hc, hq, hv, hl => by
  have hn := common_next p q
  have hcl := common_le p q
  unfold putT
  generalize common p q = c at *
  by_cases h : c = p.length
  ·rw [if_pos h]
   exact can_join _ _ (isB_ne (put_isB t _ v hc.1)) (can_put t _ v _ hk.2.2.2 hc.2 (fit_split q c hq).2 hv hl)
  ·rw [if_neg h]
   refine can_join _ _ (isB_ne (part_isB _ _ _ _)) (can_part _ _ _ _ _ (fun r => can_join r t hk.2.2.1.1 hc.2) (fun r => join_ne r t hk.2.2.1.1) hv hl (by simp) ?_ (fun c' r e => fit_head c hk.1 e) (fun c' r e => fit_head c hq e) (fun a b r s h1 h2 => hn a b r s h1 h2))
   intro e
   rw [List.drop_eq_nil_iff] at e
   omega
 | .br w kids, q, v, n, hk, hc, hq, hv, hl => by
  cases q with
  | nil =>
   refine ⟨hl, ?_, hc.2.2⟩
   have h1 := hc.2.1
   have h2 : hasV w ≤ 1 := by unfold hasV; split <;> omega
   have h3 : hasV v = 1 := by simp [hasV, hv]
   omega
  | cons a r =>
   have h1 := (fit_cons a r).1 hq
   have hka : okT (kids a.toNat) (n - 1) := by
    rcases hk a.toNat with h2 | h2
    ·rw [h2]; trivial
    ·exact h2.2.2
   refine ⟨hc.1, ?_, fun i => ?_⟩
   ·have hpn := (okT_put (kids a.toNat) r v (max (n - 1) r.length) (okT_mono _ _ _ (by omega) hka) h1.2 (by omega)).2
    rw [live_put _ _ _ hpn 16 h1.1]
    have := hc.2.1
    split <;> omega
   ·simp only [updT]
    split
    ·exact can_put (kids a.toNat) r v (n - 1) hka (hc.2.2 _) h1.2 hv hl
    ·exact hc.2.2 i
theorem okT_out {v : Bs} {kids : Nat → Tri} {n : Nat} (h : okT (.br v kids) n) : ∀ i, 16 ≤ i → kids i = .nil := fun i hi => (h i).resolve_right (fun x => by omega)
theorem mend_ne (v : Bs) (kids : Nat → Tri) : mendT v kids ≠ .nil := by
 unfold mendT
 split
 ·simp
 ·rename_i h0
  split
  ·exact join_ne _ _ (last_lt kids 16 h0).2
  ·simp
theorem look_mend (v : Bs) (kids : Nat → Tri) (ho : ∀ i, 16 ≤ i → kids i = .nil) (x : Bs) : look (mendT v kids) x = look (.br v kids) x := by
 unfold mendT
 split
 ·rename_i h0
  have hz : ∀ i, kids i = .nil := fun i => by
   rcases Nat.lt_or_ge i 16 with h | h
   ·exact live_zero kids 16 h0 i h
   ·exact ho i h
  cases x with
  | nil => simp [look]
  | cons a r => simp [look, hz]
 ·rename_i h0
  split
  ·rename_i h1
   obtain ⟨h1, rfl⟩ := h1
   have hl := last_lt kids 16 h0
   have hz := live_one kids 16 h1
   generalize lastK kids 16 = k at *
   rw [look_join]
   cases x with
   | nil => simp [look]
   | cons a r =>
    simp only [look, List.length_singleton, List.take_succ_cons, List.take_zero, List.drop_succ_cons, List.drop_zero]
    by_cases h : a.toNat = k
    ·subst h
     simp
    ·rw [if_neg (by intro e; injection e with e _; rw [e, UInt8.toNat_ofNat'] at h; omega)]
     have : kids a.toNat = .nil := by
      rcases Nat.lt_or_ge a.toNat 16 with h2 | h2
      ·exact hz _ h2 h
      ·exact ho _ h2
     rw [this]; rfl
  ·rfl
theorem ok_mend (v : Bs) (kids : Nat → Tri) (n : Nat) (h : okT (.br v kids) n) : okT (mendT v kids) n := by
 unfold mendT
 split
 ·exact ⟨rfl, by simp⟩
 ·rename_i h0
  split
  ·have hl := last_lt kids 16 h0
   have hk := (h (lastK kids 16)).resolve_left hl.2
   refine (okT_join _ _ n ?_ (by simpa using hk.2.1) hl.2 (by simpa using hk.2.2)).1
   rw [fit_cons]
   exact ⟨by rw [UInt8.toNat_ofNat']; omega, rfl⟩
  ·exact h
theorem can_mend (v : Bs) (kids : Nat → Tri) (hv : v.length ≤ 32) (hc : ∀ i, canT (kids i)) (h : 1 ≤ liveK kids 16 + hasV v) : canT (mendT v kids) := by
 unfold mendT
 split
 ·rename_i h0
  refine ⟨fun e => ?_, hv⟩
  subst e
  simp [hasV] at h
  omega
 ·rename_i h0
  split
  ·exact can_join _ _ (last_lt kids 16 h0).2 (hc _)
  ·rename_i h1
   refine ⟨hv, ?_, hc⟩
   by_cases e : v = []
   ·subst e
    simp [hasV]
    have : liveK kids 16 ≠ 1 := fun e => h1 ⟨e, rfl⟩
    omega
   ·simp [hasV, e]; omega
structure DelT (t : Tri) (q : Bs) (n : Nat) : Prop where
 ok : okT (delT t q) n
 can : canT (delT t q)
 ne : isB t = true → delT t q ≠ .nil
 look : ∀ x, look (delT t q) x = if x = q then [] else look t x
theorem del_law : ∀ (t : Tri) (q : Bs) (n : Nat), okT t n → canT t → look t q ≠ [] → DelT t q n
 | .nil, q, n, _, _, h => absurd rfl h
 | .leaf p v, q, n, hk, hc, h => by
  have hq : q = p := by
   simp only [look] at h
   split at h
   ·assumption
   ·exact absurd rfl h
  subst hq
  refine ⟨trivial, trivial, fun h => (by cases h), fun x => ?_⟩
  simp only [delT, look]
  split <;> simp [*]
 | .ext p t, q, n, hk, hc, h => by
  have hq : q.take p.length = p ∧ look t (q.drop p.length) ≠ [] := by
   simp only [look] at h
   split at h
   ·exact ⟨by assumption, h⟩
   ·exact absurd rfl h
  have ih := del_law t _ _ hk.2.2.2 hc.2 hq.2
  have hne := ih.ne hc.1
  refine ⟨(okT_join _ _ n hk.1 hk.2.1 hne ih.ok).1, can_join _ _ hne ih.can, fun h => (by cases h), fun x => ?_⟩
  simp only [delT]
  rw [look_join, ih.look]
  simp only [look]
  by_cases h1 : x.take p.length = p
  ·rw [if_pos h1, if_pos h1]
   have e1 : x = q ↔ x.drop p.length = q.drop p.length := by rw [cut_eq p.length]; simp [h1, hq.1]
   simp only [e1]
  ·rw [if_neg h1, if_neg h1, if_neg (fun e => h1 (by rw [e]; exact hq.1))]
 | .br w kids, q, n, hk, hc, h => by
  cases q with
  | nil =>
   have ho := okT_out hk
   have hw : w ≠ [] := h
   refine ⟨ok_mend _ _ _ hk, can_mend _ _ (by simp) hc.2.2 ?_, fun _ => mend_ne _ _, fun x => ?_⟩
   ·have := hc.2.1
    have h2 : hasV w ≤ 1 := by unfold hasV; split <;> omega
    omega
   ·simp only [delT]
    rw [look_mend _ _ ho]
    cases x <;> simp [look]
  | cons a r =>
   simp only [look] at h
   have hne : kids a.toNat ≠ .nil := fun e => by rw [e] at h; exact h rfl
   obtain ⟨ha, hn1, hoa⟩ := (hk a.toNat).resolve_left hne
   have ih := del_law (kids a.toNat) r (n - 1) hoa (hc.2.2 _) h
   have hk2 : okT (.br w (updT kids a.toNat (delT (kids a.toNat) r))) n := fun i => by
    simp only [updT]
    split
    ·rename_i e; subst e; exact .inr ⟨ha, hn1, ih.ok⟩
    ·exact hk i
   refine ⟨ok_mend _ _ _ hk2, can_mend _ _ hc.1 (fun i => ?_) ?_, fun _ => mend_ne _ _, fun x => ?_⟩
   ·simp only [updT]
    split
    ·exact ih.can
    ·exact hc.2.2 i
   ·have h2 := hc.2.1
    by_cases hd : delT (kids a.toNat) r = .nil
    ·rw [hd]
     have := live_cut kids a.toNat 16 ha
     omega
    ·rw [live_same _ _ _ hd hne 16 ha]; omega
   ·simp only [delT]
    rw [look_mend _ _ (okT_out hk2)]
    cases x with
    | nil => simp [look]
    | cons b s =>
     simp only [look, updT]
     by_cases hb : b.toNat = a.toNat
     ·have := u8_eq hb
      subst this
      rw [if_pos rfl, ih.look]
      simp
     ·rw [if_neg hb, if_neg (by intro e; injection e with e _; subst e; exact hb rfl)]
def outI (q : Bs) (l : List It) : List It := l.filter fun x => x.1 != q
theorem rp_del (t : Tri) (q : Bs) (n : Nat) (hk : okT t n) (hc : canT t) (h : look t q ≠ []) : rp (delT t q) = outI q (rp t) := by
 have hd := del_law t q n hk hc h
 refine rise_eq _ _ (rp_sorted _) (List.Pairwise.filter _ (rp_sorted t)) ?_
 rintro ⟨x, y⟩
 rw [rp_mem _ n hd.ok, outI, List.mem_filter, rp_mem t n hk, hd.look]
 by_cases e : x = q
 ·subst e; simp
 ·simp [e]
theorem outI_paths (k : Bs) : ∀ (l : List It), outI (ofP k) (pathsI l) = pathsI (outI k l)
 | [] => rfl
 | x :: r => by
  have ih := outI_paths k r
  unfold pathsI outI at ih ⊢
  simp only [List.map_cons, List.filter_cons, ih]
  by_cases h : x.1 = k
  ·subst h; simp
  ·have h1 : (x.1 != k) = true := by simpa using h
   have h2 : (ofP x.1 != ofP k) = true := by simpa using fun e => h (ofP_inj e)
   rw [h1, h2]; rfl
theorem RepT.del {t : Tri} {L : List It} (h : RepT t L) (hc : canT t) (k : Bs) (hk : look t (ofP k) ≠ []) : RepT (delT t (ofP k)) (outI k L) :=
 ⟨(del_law t _ 16 h.ok hc hk).ok, by rw [rp_del t _ 16 h.ok hc hk, h.items, outI_paths]⟩
end Pl
end Go.Proofs.YtjppbomngnomhaaGreatDoor
