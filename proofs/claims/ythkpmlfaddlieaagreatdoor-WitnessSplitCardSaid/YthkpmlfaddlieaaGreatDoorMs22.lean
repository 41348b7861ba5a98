/- Acc, OwnS, Fits. -/
import Derived.Test.YthkpmlfaddlieaaGreatDoorMs21
set_option linter.unnecessarySimpa false
set_option linter.unusedSimpArgs false
set_option linter.unusedVariables false
set_option maxRecDepth 100000
set_option maxHeartbeats 32000000
namespace Go.Proofs.YthkpmlfaddlieaaGreatDoor
open Go.RowKit Go.Shelf Pl
def trv (h : Hd) (sk ms : Value) (ta : Int) : List Value := [.int .i64 h.height, .int .i64 h.epoch, .int .i64 h.view, .bool h.last, .string ⟨List.toArray h.parent⟩, .string ⟨List.toArray h.state⟩, .string ⟨List.toArray h.receipts⟩, .string ⟨List.toArray h.txs⟩, .string ⟨List.toArray h.members⟩, .string ⟨List.toArray h.next⟩, sk, ms, .int .i64 ta]
theorem row_tr : RowT Tryz.prog 67 13 := RowT.mk' Tryz.underlying67 rfl (by kernel_rfl)
theorem trv_one (h : Hd) (a : Option Addr) (n c : Nat) (a2 : Option Addr) (n2 c2 : Nat) (ta : Int) : ∀ u ∈ trv h (.slice a n c) (.slice a2 n2 c2) ta, u.oneCell' = true := by
 intro u hu
 simp only [trv, List.mem_cons, List.not_mem_nil, or_false] at hu
 rcases hu with rfl | rfl | rfl | rfl | rfl | rfl | rfl | rfl | rfl | rfl | rfl | rfl | rfl <;> rfl
theorem trv_head {w : World} {b : Nat} {h : Hd} {sk ms : Value} {ta : Int} (B : Blk w b (trv h sk ms ta).toArray) : w.rangeAt b 0 (hcs h sk) := fun j v hj => by
 have hl := (List.getElem?_eq_some_iff.1 hj).1
 rw [Nat.zero_add, B.cell j]
 simp only [List.getElem?_toArray]
 rw [show trv h sk ms ta = hcs h sk ++ [ms, .int .i64 ta] from rfl, List.getElem?_append_left hl]
 exact hj
theorem trv_cells {w : World} {b : Nat} {h : Hd} {sk ms : Value} {ta : Int} (B : Blk w b (trv h sk ms ta).toArray) : w.cell? ⟨b, 0, none⟩ = some (.int .i64 h.height) ∧ w.cell? ⟨b, 11, none⟩ = some ms := ⟨B.cell 0, B.cell 11⟩
def accC (T : Hd) (S : List (Bs × Int)) (ht : Int) (h : Hd) (nx : List (Bs × Int)) (d : Bs) (ns : List Bs) (L : List Sg) : Int :=
 if fineT ⟨T, S, 0⟩ = false then 3 else if tlP ht h nx d ns = false then 360 else if plP T h ≠ 0 then plP T h else if dgM nx ≠ h.next then 50
 else if (lnkP h T.height).2 = 0 ∧ (lnkP h T.height).1 ≠ dgH T then 200 else if d ≠ dgH h then 360 else goodC 6 S d ns L
theorem acc_any (T : Hd) (S : List (Bs × Int)) (tk tm : Value) (ht : Int) (h : Hd) (hk0 : Value) (nx : List (Bs × Int)) (d : Bs) (ns : List Bs) (hv nv sg : Value) (base p : Nat) (L : List Sg) (w : World)
  (hTK : SS w tk T.skips) (hTM : MS w tm S) (hR : AnsR w h hk0 nx ns hv nv sg) (hnx : nx.length ≤ 1000000) (hTb : Tab w base p L) (hKT : KT w) :
  Calls Tryz.prog 19 #[.agg (trv T tk tm 0).toArray, .agg (acs ht hv nv d sg).toArray, .int .i64 0, .pointer (some ⟨p, 0, none⟩)] w fun e w' => Below w.heap.size w w' ∧
   (accC T S ht h nx d ns L ≠ 0 → e = .returned (.tuple #[.agg (trv hdZ (.slice none 0 0) (.slice none 0 0) 0).toArray, .int .i64 (accC T S ht h nx d ns L)])) ∧
   (accC T S ht h nx d ns L = 0 → ∃ sk' ms', e = .returned (.tuple #[.agg (trv h sk' ms' 0).toArray, .int .i64 0]) ∧ SRow w' w.heap.size sk' h.skips ∧ MRow w' w.heap.size ms' nx) := by
 obtain ⟨ka, kc, rfl⟩ := hTK.form
 obtain ⟨ma, mc, rfl⟩ := hTM.form
 obtain ⟨⟨k1, rfl, K1⟩, hnx0, hsg, hsk⟩ := id hR
 obtain ⟨na, nc, rfl⟩ := hnx0.form
 obtain ⟨sa, sc, rfl⟩ := hsg.form
 obtain ⟨kb, kd, rfl⟩ := hsk.form
 have hb0 : Below w.heap.size w (((w.alloc (.cells (trv T (.slice ka T.skips.length kc) (.slice ma S.length mc) 0).toArray 67)).alloc (.cells (acs ht (.slice (some ⟨k1, 0, none⟩) 1 1) (.slice na nx.length nc) d (.slice sa ns.length sc)).toArray 42)).alloc (.cells (trv hdZ (.slice none 0 0) (.slice none 0 0) 0).toArray 67)) := Below.allocS (Below.allocS (Below.allocS (Below.refl _ _) _) _) _
 have B4 : Blk (((w.alloc (.cells (trv T (.slice ka T.skips.length kc) (.slice ma S.length mc) 0).toArray 67)).alloc (.cells (acs ht (.slice (some ⟨k1, 0, none⟩) 1 1) (.slice na nx.length nc) d (.slice sa ns.length sc)).toArray 42)).alloc (.cells (trv hdZ (.slice none 0 0) (.slice none 0 0) 0).toArray 67)) w.heap.size (trv T (.slice ka T.skips.length kc) (.slice ma S.length mc) 0).toArray := ((Blk.new _ _ _).alloc _).alloc _
 have B5 : Blk (((w.alloc (.cells (trv T (.slice ka T.skips.length kc) (.slice ma S.length mc) 0).toArray 67)).alloc (.cells (acs ht (.slice (some ⟨k1, 0, none⟩) 1 1) (.slice na nx.length nc) d (.slice sa ns.length sc)).toArray 42)).alloc (.cells (trv hdZ (.slice none 0 0) (.slice none 0 0) 0).toArray 67)) (w.heap.size + 1) (acs ht (.slice (some ⟨k1, 0, none⟩) 1 1) (.slice na nx.length nc) d (.slice sa ns.length sc)).toArray := (Blk.new' (by simp)).alloc _
 have B8 : Blk (((w.alloc (.cells (trv T (.slice ka T.skips.length kc) (.slice ma S.length mc) 0).toArray 67)).alloc (.cells (acs ht (.slice (some ⟨k1, 0, none⟩) 1 1) (.slice na nx.length nc) d (.slice sa ns.length sc)).toArray 42)).alloc (.cells (trv hdZ (.slice none 0 0) (.slice none 0 0) 0).toArray 67)) (w.heap.size + 1 + 1) (trv hdZ (.slice none 0 0) (.slice none 0 0) 0).toArray := Blk.new' (by simp)
 have T8 : Typ (((w.alloc (.cells (trv T (.slice ka T.skips.length kc) (.slice ma S.length mc) 0).toArray 67)).alloc (.cells (acs ht (.slice (some ⟨k1, 0, none⟩) 1 1) (.slice na nx.length nc) d (.slice sa ns.length sc)).toArray 42)).alloc (.cells (trv hdZ (.slice none 0 0) (.slice none 0 0) 0).toArray 67)) (w.heap.size + 1 + 1) 67 := Typ.new' (by simp)
 have q1 := tr_check T.height T.epoch T.view T.last T.parent T.state T.receipts T.txs T.members T.next T.skips (.slice ka T.skips.length kc) S (.slice ma S.length mc) 0 _ (hTK.keep hb0) (hTM.keep hb0) (hKT.keep hb0)
 have hs3 : w.heap.size + 3 ≤ (((w.alloc (.cells (trv T (.slice ka T.skips.length kc) (.slice ma S.length mc) 0).toArray 67)).alloc (.cells (acs ht (.slice (some ⟨k1, 0, none⟩) 1 1) (.slice na nx.length nc) d (.slice sa ns.length sc)).toArray 42)).alloc (.cells (trv hdZ (.slice none 0 0) (.slice none 0 0) 0).toArray 67)).heap.size := by simp
 have HTK := Lib.hid hTK
 have HTM := Lib.hid hTM
 have HRR := Lib.hid hR
 have HNX := Lib.hid hnx0
 have HSG := Lib.hid hsg
 have HSK := Lib.hid hsk
 have HTB := Lib.hid hTb
 have HKT := Lib.hid hKT
 clear hTK hTM hR hnx0 hsg hsk hTb hKT K1
 rw [show fineT (⟨⟨T.height, T.epoch, T.view, T.last, T.parent, T.state, T.receipts, T.txs, T.members, T.next, T.skips⟩, S, 0⟩ : Tr) = fineT ⟨T, S, 0⟩ from rfl] at q1
 have r4 := B4.range
 cases hf : fineT ⟨T, S, 0⟩
 ·have HR : Hid (accC T S ht h nx d ns L = 3) := Lib.hid (by unfold accC; rw [hf]; rfl)
  rw [hf] at q1
  clear hf
  go_enter Tryz.func19, Tryz.ntmps19
  go_wp2_with (first | (refine wpList_rowR row_tr rfl (.tmp 4) rfl rfl (vs := trv T (.slice ka T.skips.length kc) (.slice ma S.length mc) 0) rfl r4 ?_) | fail)
  refine q1.mono ?_
  rintro e w1 ⟨rfl, hb⟩
  have g : (codeT false != 0) = true := by decide
  have hb1 := hb0.trans (hb.mono hb0.size)
  have B8 := B8.keep hb
  have T8 := T8.keep hb
  go_wp2_with (first
   | (refine wpList_rowStoreT row_tr rfl rfl (.tmp 8) (.tmp 27) rfl rfl (vs := trv hdZ (.slice none 0 0) (.slice none 0 0) 0) rfl rfl (trv_one _ _ _ _ _ _ _ _) (us := trv hdZ (.slice none 0 0) (.slice none 0 0) 0) rfl B8 T8 ?_; intro wz Nz Tz mz)
   | fail)
  refine bodyPost_ret (results_cell_tmp2 rfl _ _ _ _ rfl (row_loadVar row_tr _ rfl Nz)) rfl ?_
  exact ⟨Below.mod hb1 mz hb1.size (by simp; omega), fun _ => by rw [HR.out]; rfl, fun e => absurd e (by rw [HR.out]; first | decide | exact HNZ.out)⟩
 rw [hf] at q1
 have HF := Lib.hid hf
 have hfp : 0 ≤ T.epoch ∧ T.epoch ≤ 1048576 := by
  have h1 : fineH T = true := by
   unfold fineT at hf
   simp only [Bool.and_eq_true] at hf
   exact hf.1.1.1
  exact (fine_parts h1).en
 clear hf
 go_enter Tryz.func19, Tryz.ntmps19
 go_wp2_with (first | (refine wpList_rowR row_tr rfl (.tmp 4) rfl rfl (vs := trv T (.slice ka T.skips.length kc) (.slice ma S.length mc) 0) rfl r4 ?_) | fail)
 refine q1.mono ?_
 rintro e w1 ⟨rfl, hb⟩
 have g : (codeT true != 0) = false := by decide
 have hb1 := hb0.trans (hb.mono hb0.size)
 have B4 := B4.keep hb
 have B5 := B5.keep hb
 have B8 := B8.keep hb
 have T8 := T8.keep hb
 have hs1 : w.heap.size + 3 ≤ w1.heap.size := Nat.le_trans hs3 hb.size
 have r5 := B5.range
 have q2 := atold_any ht h (.slice kb h.skips.length kd) nx d ns (.slice (some ⟨k1, 0, none⟩) 1 1) (.slice na nx.length nc) (.slice sa ns.length sc) w1 (HRR.out.keep hb1)
 clear q1 hb hb0 r4 hs3
 go_wp2_with (first | (refine wpList_rowR row_ans rfl (.tmp 5) rfl rfl (vs := acs ht (.slice (some ⟨k1, 0, none⟩) 1 1) (.slice na nx.length nc) d (.slice sa ns.length sc)) rfl r5 ?_) | fail)
 refine q2.mono ?_
 rintro e w2 ⟨hy, hn, hb⟩
 have hb2 := hb1.trans (hb.mono hb1.size)
 have B4 := B4.keep hb
 have B5 := B5.keep hb
 have B8 := B8.keep hb
 have T8 := T8.keep hb
 have hs2 : w.heap.size + 3 ≤ w2.heap.size := Nat.le_trans hs1 hb.size
 have hx2 : Below w2.heap.size w2 (w2.alloc (.cells (hcs hdZ (.slice none 0 0)).toArray 48)) := Below.allocS (Below.refl _ _) _
 clear q2 hb hb1 r5 hs1
 cases htl : tlP ht h nx d ns
 ·have HR : Hid (accC T S ht h nx d ns L = 360) := Lib.hid (by unfold accC; rw [HF.out, htl]; rfl)
  have he := hn htl
  subst he
  clear hy hn htl
  go_upto_region 5 with (first
   | (refine wpList_rowStoreT row_head rfl rfl (.tmp 10) (.tmp 31) rfl rfl (vs := hcs hdZ (.slice none 0 0)) rfl rfl (hcs_one _ _ _ _) (us := hcs hdZ (.slice none 0 0)) rfl (Blk.new' rfl) (Typ.new' rfl) ?_; intro w3 N10 T10 m3)
   | fail)
  have hb23 : Below w2.heap.size w2 w3 := Below.mod hx2 m3 (by simp) (by simp)
  have hb3 := hb2.trans (hb23.mono hb2.size)
  have B8 := B8.keep hb23
  have T8 := T8.keep hb23
  go_wp2_with (first
   | (refine wpList_rowStoreT row_tr rfl rfl (.tmp 8) (.tmp 35) rfl rfl (vs := trv hdZ (.slice none 0 0) (.slice none 0 0) 0) rfl rfl (trv_one _ _ _ _ _ _ _ _) (us := trv hdZ (.slice none 0 0) (.slice none 0 0) 0) rfl B8 T8 ?_; intro wz Nz Tz mz)
   | fail)
  refine bodyPost_ret (results_cell_tmp2 rfl _ _ _ _ rfl (row_loadVar row_tr _ rfl Nz)) rfl ?_
  exact ⟨Below.mod hb3 mz hb3.size (by simp; omega), fun _ => by rw [HR.out]; rfl, fun e => absurd e (by rw [HR.out]; first | decide | exact HNZ.out)⟩
 have he := hy htl
 subst he
 have HTL := Lib.hid htl
 clear hy hn htl
 go_upto_region 6 with (first
  | (refine wpList_rowStoreT row_head rfl rfl (.tmp 10) (.tmp 31) rfl rfl (vs := hcs h (.slice kb h.skips.length kd)) rfl rfl (hcs_one _ _ _ _) (us := hcs hdZ (.slice none 0 0)) rfl (Blk.new' rfl) (Typ.new' rfl) ?_; intro w3 N10 T10 m3)
  | fail)
 have hb23 : Below w2.heap.size w2 w3 := Below.mod hx2 m3 (by simp) (by simp)
 have hb3 := hb2.trans (hb23.mono hb2.size)
 have B4 := B4.keep hb23
 have B5 := B5.keep hb23
 have B8 := B8.keep hb23
 have T8 := T8.keep hb23
 have hs3 : w.heap.size + 3 ≤ w3.heap.size := Nat.le_trans hs2 hb23.size
 generalize hk10 : w2.heap.size = k10 at *
 have hk10b : w.heap.size + 3 ≤ k10 := by omega
 have rT := trv_head B4
 have r10 := N10.range
 have q3 := place_any T h ka kb T.skips.length kc h.skips.length kd w3 hfp
 clear hx2 hb23 m3 hb2 hs2 hk10
 go_wp2_with (first
  | (refine wpList_rowR row_head rfl (.tmp 36) rfl rfl (vs := hcs T (.slice ka T.skips.length kc)) rfl rT ?_)
  | (refine wpList_rowR row_head rfl (.tmp 10) rfl rfl (vs := hcs h (.slice kb h.skips.length kd)) rfl r10 ?_)
  | fail)
 refine q3.mono ?_
 rintro e w4 ⟨rfl, hb⟩
 have hb4 := hb3.trans (hb.mono hb3.size)
 have B4 := B4.keep hb
 have B5 := B5.keep hb
 have B8 := B8.keep hb
 have T8 := T8.keep hb
 have N10 := N10.keep hb
 clear q3 hb hb3 rT r10
 generalize hpl : plP T h = pl at *
 have HPL := Lib.hid hpl
 clear hpl
 by_cases hp0 : pl = 0
 rotate_left
 ·have HR : Hid (accC T S ht h nx d ns L = pl) := Lib.hid (by unfold accC; rw [if_neg (by rw [HF.out]; decide), if_neg (by rw [HTL.out]; decide), if_pos (by rw [HPL.out]; exact hp0), HPL.out])
  have HNZ : Hid (pl ≠ 0) := Lib.hid hp0
  have g2 : (pl != 0) = true := by simpa using hp0
  clear hp0
  go_wp2_with (first
   | (refine wpList_rowStoreT row_tr rfl rfl (.tmp 8) (.tmp 42) rfl rfl (vs := trv hdZ (.slice none 0 0) (.slice none 0 0) 0) rfl rfl (trv_one _ _ _ _ _ _ _ _) (us := trv hdZ (.slice none 0 0) (.slice none 0 0) 0) rfl B8 T8 ?_; intro wz Nz Tz mz)
   | fail)
  refine bodyPost_ret (results_cell_tmp2 rfl _ _ _ _ rfl (row_loadVar row_tr _ rfl Nz)) rfl ?_
  exact ⟨Below.mod hb4 mz hb4.size (by simp; omega), fun _ => by rw [HR.out]; rfl, fun e => absurd e (by rw [HR.out]; first | decide | exact HNZ.out)⟩
 subst hp0
 have c54 := (acs_cells B5).2.2.2.2.1
 obtain ⟨_, _, _, _, e9, _⟩ := hcs_cells N10
 have qd := fun W (hW : Below w4.heap.size w4 W) => mdigest_any (.slice na nx.length nc) nx W (HNX.out.keep (hb4.trans (hW.mono hb4.size))) (HKT.out.keep (hb4.trans (hW.mono hb4.size)))
 have hl5 := B5.lt
 have hl10 := N10.lt
 generalize hdg : dgM nx = dx at *
 have HDX := Lib.hid hdg
 clear hdg
 have HPRE : Hid (accC T S ht h nx d ns L = if dx ≠ h.next then 50 else if (lnkP h T.height).2 = 0 ∧ (lnkP h T.height).1 ≠ dgH T then 200 else if d ≠ dgH h then 360 else goodC 6 S d ns L) := Lib.hid (by unfold accC; rw [if_neg (by rw [HF.out]; decide), if_neg (by rw [HTL.out]; decide), if_neg (by rw [HPL.out]; simp), HDX.out])
 by_cases hdn : dx = h.next
 rotate_left
 ·have HR : Hid (accC T S ht h nx d ns L = 50) := Lib.hid (by rw [HPRE.out, if_pos hdn])
  have g3 : (dx == h.next) = false := by simpa using hdn
  clear hdn
  go_upto_region 9 with fail
  refine wpH_start (by kernel_rfl) (fun hS => ?_)
  (refine hP 0 ?_ ⟨some 44, .fieldAddr 42 (.tmp 5) 4, 0, "", #[], none⟩ hS ?_ ?_; rotate_left; focus (intro w; go_simp; try with_reducible rfl))
  try simp only [pna, pnb, pnc, pnd, pne]
  refine wpH_load 1 (.slice na nx.length nc) (oi := ⟨some 45,.load 23 (.tmp 44),23,"accept.go:57",#[⟨0,.data⟩],none⟩) rfl (by kernel_rfl) (by kernel_rfl) (by kernel_rfl) (by rfl) hS (fun _ _ _ h => h) (fun w' hb2 => (by have c := (hb2.cell (p := ⟨w.heap.size + 1, 4, none⟩) hl5).trans c54; go_simp; try rfl)) ?_
  try simp only [pna, pnb, pnc, pnd, pne]
  (refine hP 3 ?_ ⟨some 47, .fieldAddr 48 (.tmp 10) 9, 0, "", #[], none⟩ hS ?_ ?_; rotate_left; focus (intro w; go_simp; try with_reducible rfl))
  try simp only [pna, pnb, pnc, pnd, pne]
  refine wpH_load 4 (.string ⟨List.toArray h.next⟩) (oi := ⟨some 48,.load 9 (.tmp 47),9,"accept.go:57",#[⟨3,.data⟩],none⟩) rfl (by kernel_rfl) (by kernel_rfl) (by kernel_rfl) (by rfl) hS (fun _ _ _ h => h) (fun w' hb2 => (by have c := (hb2.cell (p := ⟨k10, 9, none⟩) hl10).trans e9; go_simp; try rfl)) ?_
  try simp only [pna, pnb, pnc, pnd, pne]
  refine wpH_call 2 (oi := ⟨some 46,.call { callee := .value (.func 25), args := #[.tmp 45], argTypes := #[23] },9,"accept.go:57",#[⟨1,.data⟩],none⟩) rfl (by kernel_rfl) (by rfl) (qd _ hS) ?_ ?_
  ·(go_simp; try rfl)
  rintro e w' ⟨rfl, hbx⟩
  refine ⟨_, rfl, hS.trans (hbx.mono hS.size), ?_⟩
  replace hS := hS.trans (hbx.mono hS.size)
  try simp only [pna, pnb, pnc, pnd, pne]
  (refine hP 5 ?_ ⟨some 49, .binOp .neq 9 (.tmp 46) (.tmp 48) 9, 4, "", #[], none⟩ hS ?_ ?_; rotate_left; focus (intro w; go_simp; try with_reducible rfl))
  try simp only [pna, pnb, pnc, pnd, pne]
  refine wpAnyH_done (by kernel_rfl) ?_ _
  obtain ⟨w5, hw5⟩ := Below.name hS
  subst hw5
  have hb5 := hb4.trans (hS.mono hb4.size)
  have B8 := B8.keep hS
  have T8 := T8.keep hS
  clear hS
  go_wp2_with (first
   | (refine wpList_rowStoreT row_tr rfl rfl (.tmp 8) (.tmp 50) rfl rfl (vs := trv hdZ (.slice none 0 0) (.slice none 0 0) 0) rfl rfl (trv_one _ _ _ _ _ _ _ _) (us := trv hdZ (.slice none 0 0) (.slice none 0 0) 0) rfl B8 T8 ?_; intro wz Nz Tz mz)
   | fail)
  refine bodyPost_ret (results_cell_tmp2 rfl _ _ _ _ rfl (row_loadVar row_tr _ rfl Nz)) rfl ?_
  exact ⟨Below.mod hb5 mz hb5.size (by simp; omega), fun _ => by rw [HR.out]; rfl, fun e => absurd e (by rw [HR.out]; first | decide | exact HNZ.out)⟩
 have HPRE2 : Hid (accC T S ht h nx d ns L = if (lnkP h T.height).2 = 0 ∧ (lnkP h T.height).1 ≠ dgH T then 200 else if d ≠ dgH h then 360 else goodC 6 S d ns L) := Lib.hid (by rw [HPRE.out, if_neg (by simpa using hdn)])
 have g3 : (dx == h.next) = true := by simpa using hdn
 clear hdn HPRE
 go_upto_region 9 with fail
 refine wpH_start (by kernel_rfl) (fun hS => ?_)
 (refine hP 0 ?_ ⟨some 44, .fieldAddr 42 (.tmp 5) 4, 0, "", #[], none⟩ hS ?_ ?_; rotate_left; focus (intro w; go_simp; try with_reducible rfl))
 try simp only [pna, pnb, pnc, pnd, pne]
 refine wpH_load 1 (.slice na nx.length nc) (oi := ⟨some 45,.load 23 (.tmp 44),23,"accept.go:57",#[⟨0,.data⟩],none⟩) rfl (by kernel_rfl) (by kernel_rfl) (by kernel_rfl) (by rfl) hS (fun _ _ _ h => h) (fun w' hb2 => (by have c := (hb2.cell (p := ⟨w.heap.size + 1, 4, none⟩) hl5).trans c54; go_simp; try rfl)) ?_
 try simp only [pna, pnb, pnc, pnd, pne]
 (refine hP 3 ?_ ⟨some 47, .fieldAddr 48 (.tmp 10) 9, 0, "", #[], none⟩ hS ?_ ?_; rotate_left; focus (intro w; go_simp; try with_reducible rfl))
 try simp only [pna, pnb, pnc, pnd, pne]
 refine wpH_load 4 (.string ⟨List.toArray h.next⟩) (oi := ⟨some 48,.load 9 (.tmp 47),9,"accept.go:57",#[⟨3,.data⟩],none⟩) rfl (by kernel_rfl) (by kernel_rfl) (by kernel_rfl) (by rfl) hS (fun _ _ _ h => h) (fun w' hb2 => (by have c := (hb2.cell (p := ⟨k10, 9, none⟩) hl10).trans e9; go_simp; try rfl)) ?_
 try simp only [pna, pnb, pnc, pnd, pne]
 refine wpH_call 2 (oi := ⟨some 46,.call { callee := .value (.func 25), args := #[.tmp 45], argTypes := #[23] },9,"accept.go:57",#[⟨1,.data⟩],none⟩) rfl (by kernel_rfl) (by rfl) (qd _ hS) ?_ ?_
 ·(go_simp; try rfl)
 rintro e w' ⟨rfl, hbx⟩
 refine ⟨_, rfl, hS.trans (hbx.mono hS.size), ?_⟩
 replace hS := hS.trans (hbx.mono hS.size)
 try simp only [pna, pnb, pnc, pnd, pne]
 (refine hP 5 ?_ ⟨some 49, .binOp .neq 9 (.tmp 46) (.tmp 48) 9, 4, "", #[], none⟩ hS ?_ ?_; rotate_left; focus (intro w; go_simp; try with_reducible rfl))
 try simp only [pna, pnb, pnc, pnd, pne]
 refine wpAnyH_done (by kernel_rfl) ?_ _
 obtain ⟨w5, hw5⟩ := Below.name hS
 subst hw5
 have hb5 := hb4.trans (hS.mono hb4.size)
 have hb := hS
 have B4 := B4.keep hb
 have B5 := B5.keep hb
 have B8 := B8.keep hb
 have T8 := T8.keep hb
 have N10 := N10.keep hb
 clear hS hb hb4 c54 e9 qd g3
 have r10 := N10.range
 have rT := trv_head B4
 have t0 := (trv_cells B4).1
 have q5 := link_any h T.height kb kd w5 (HSK.out.keep hb5)
 generalize hlk : lnkP h T.height = lk at *
 obtain ⟨l1, l2⟩ := lk
 simp only at q5
 have HLK := Lib.hid hlk
 clear hlk
 have HPRE3 : Hid (accC T S ht h nx d ns L = if l2 = 0 ∧ l1 ≠ dgH T then 200 else if d ≠ dgH h then 360 else goodC 6 S d ns L) := Lib.hid (by have := HPRE2.out; exact this)
 clear HPRE2
 go_wp2_with (first
  | (refine wpList_rowR row_head rfl (.tmp 10) rfl rfl (vs := hcs h (.slice kb h.skips.length kd)) rfl r10 ?_)
  | fail)
 refine q5.mono ?_
 rintro e w6 ⟨rfl, hb⟩
 have hb6 := hb5.trans (hb.mono hb5.size)
 have B4 := B4.keep hb
 have B5 := B5.keep hb
 have B8 := B8.keep hb
 have T8 := T8.keep hb
 have N10 := N10.keep hb
 clear hb q5 r10 rT t0 hb5
 have rT := trv_head B4
 have qT := fun W (hW : Below w6.heap.size w6 W) => hd_digest T.height T.epoch T.view T.last T.parent T.state T.receipts T.txs T.members T.next T.skips ka kc W (HTK.out.keep (hb6.trans (hW.mono hb6.size))) (HKT.out.keep (hb6.trans (hW.mono hb6.size)))
 rw [show dgH (⟨T.height, T.epoch, T.view, T.last, T.parent, T.state, T.receipts, T.txs, T.members, T.next, T.skips⟩ : Hd) = dgH T from rfl] at qT
 generalize dgH T = dT at *
 go_upto_region 12 with fail
 go_cut [67] (fun s67 wx => s67 = .bool (decide (l2 = 0 ∧ l1 ≠ dT)) ∧ Hid (Below w6.heap.size w6 wx))
 case first =>
  by_cases h20 : l2 = 0
  ·have g20 : (l2 == 0) = true := by simpa using h20
   have H20 := Lib.hid h20
   clear h20
   have gA : (l1 == dT) = decide (l1 = dT) := by by_cases h : l1 = dT <;> simp [h]
   go_wp2_with (first | (refine wpList_rowRG row_head (by rfl) (.tmp 63) rfl rfl (vs := hcs T (.slice ka T.skips.length kc)) rfl rT ?_) | fail)
   refine (qT _ (Below.refl _ _)).mono ?_
   rintro e w7 ⟨rfl, hb7⟩
   by_cases hl1 : l1 = dT
   ·have g4 : (l1 == dT) = true := by simpa using hl1
    have HL1 := Lib.hid hl1
    clear gA hl1
    go_wp2_with fail
    go_meet
    exact ⟨by simp [HL1.out, H20.out], Lib.hid hb7⟩
   ·have g4 : (l1 == dT) = false := by simpa using hl1
    have HL1 := Lib.hid hl1
    clear gA hl1
    go_wp2_with fail
    go_meet
    exact ⟨by simp [HL1.out, H20.out], Lib.hid hb7⟩
  ·have g4 : (l2 == 0) = false := by simpa using h20
   go_wp2_with fail
   go_meet
   exact ⟨by simp [h20], Lib.hid (Below.refl _ _)⟩
 case rest =>
  obtain ⟨rfl, HB7⟩ := hcut
  obtain ⟨w7, hw7⟩ : ∃ w', w' = wc := ⟨_, rfl⟩
  subst hw7
  have hb := HB7.out
  have hb7 := hb6.trans (hb.mono hb6.size)
  have B4 := B4.keep hb
  have B5 := B5.keep hb
  have B8 := B8.keep hb
  have T8 := T8.keep hb
  have N10 := N10.keep hb
  clear hb hb6 HB7 qT rT
  by_cases hlb : l2 = 0 ∧ l1 ≠ dT
  ·have HR : Hid (accC T S ht h nx d ns L = 200) := Lib.hid (by rw [HPRE3.out, if_pos hlb])
   have g4 : decide (l2 = 0 ∧ l1 ≠ dT) = true := by simpa using hlb
   rw [g4]
   clear g4 hlb
   go_wp2_with (first
    | (refine wpList_rowStoreT row_tr rfl rfl (.tmp 8) (.tmp 68) rfl rfl (vs := trv hdZ (.slice none 0 0) (.slice none 0 0) 0) rfl rfl (trv_one _ _ _ _ _ _ _ _) (us := trv hdZ (.slice none 0 0) (.slice none 0 0) 0) rfl B8 T8 ?_; intro wz Nz Tz mz)
    | fail)
   refine bodyPost_ret (results_cell_tmp2 rfl _ _ _ _ rfl (row_loadVar row_tr _ rfl Nz)) rfl ?_
   exact ⟨Below.mod hb7 mz hb7.size (by simp; omega), fun _ => by rw [HR.out]; rfl, fun e => absurd e (by rw [HR.out]; first | decide | exact HNZ.out)⟩
  have HPRE4 : Hid (accC T S ht h nx d ns L = if d ≠ dgH h then 360 else goodC 6 S d ns L) := Lib.hid (by rw [HPRE3.out, if_neg hlb])
  have g4 : decide (l2 = 0 ∧ l1 ≠ dT) = false := by simpa using hlb
  rw [g4]
  clear g4 hlb HPRE3
  go_upto_region 14 with fail
  have c5d := (acs_cells B5).2.2.2.2.2.1
  have hl5 := B5.lt
  have qh := fun W (hW : Below w7.heap.size w7 W) => hd_digest h.height h.epoch h.view h.last h.parent h.state h.receipts h.txs h.members h.next h.skips kb kd W (HSK.out.keep (hb7.trans (hW.mono hb7.size))) (HKT.out.keep (hb7.trans (hW.mono hb7.size)))
  rw [show dgH (⟨h.height, h.epoch, h.view, h.last, h.parent, h.state, h.receipts, h.txs, h.members, h.next, h.skips⟩ : Hd) = dgH h from rfl] at qh
  generalize dgH h = dh at *
  by_cases hdd : d = dh
  rotate_left
  ·have HR : Hid (accC T S ht h nx d ns L = 360) := Lib.hid (by rw [HPRE4.out, if_pos hdd])
   have g5 : (d == dh) = false := by simpa using hdd
   clear hdd
   refine wpH_start (by kernel_rfl) (fun hS => ?_)
   (refine hP 0 ?_ ⟨some 69, .fieldAddr 42 (.tmp 5) 5, 0, "", #[], none⟩ hS ?_ ?_; rotate_left; focus (intro w; go_simp; try with_reducible rfl))
   try simp only [pna, pnb, pnc, pnd, pne]
   (refine hP 1 ?_ ⟨some 70, .fieldAddr 37 (.tmp 69) 0, 0, "", #[], none⟩ hS ?_ ?_; rotate_left; focus (intro w; go_simp; try with_reducible rfl))
   try simp only [pna, pnb, pnc, pnd, pne]
   refine wpH_load 2 (.string ⟨d.toArray⟩) (oi := ⟨some 71,.load 9 (.tmp 70),9,"accept.go:63",#[⟨1,.data⟩],none⟩) rfl (by kernel_rfl) (by kernel_rfl) (by kernel_rfl) (by rfl) hS (fun _ _ _ h => h) (fun w' hb2 => (by have c := (hb2.cell (p := ⟨w.heap.size + 1, 5, none⟩) hl5).trans c5d; go_simp; try rfl)) ?_
   try simp only [pna, pnb, pnc, pnd, pne]
   refine wpH_row row_head 3 (oi := ⟨some 72,.load 48 (.tmp 10),48,"accept.go:63",#[],none⟩) rfl (by kernel_rfl) (by kernel_rfl) (by kernel_rfl) (by rfl) hS (vs := hcs h (.slice kb h.skips.length kd)) (fun _ _ _ h => h) (.tmp 10) rfl rfl (rfl) (fun w' hb2 => N10.keep hb2) ?_
   try simp only [pna, pnb, pnc, pnd, pne]
   refine wpH_call 4 (oi := ⟨some 73,.call { callee := .value (.func 21), args := #[.tmp 72], argTypes := #[48] },9,"accept.go:63",#[⟨3,.data⟩],none⟩) rfl (by kernel_rfl) (by rfl) (qh _ hS) ?_ ?_
   ·(go_simp; try rfl)
   rintro e w' ⟨rfl, hbx⟩
   refine ⟨_, rfl, hS.trans (hbx.mono hS.size), ?_⟩
   replace hS := hS.trans (hbx.mono hS.size)
   try simp only [pna, pnb, pnc, pnd, pne]
   (refine hP 5 ?_ ⟨some 74, .binOp .neq 9 (.tmp 71) (.tmp 73) 9, 4, "", #[], none⟩ hS ?_ ?_; rotate_left; focus (intro w; go_simp; try with_reducible rfl))
   try simp only [pna, pnb, pnc, pnd, pne]
   refine wpAnyH_done (by kernel_rfl) ?_ _
   obtain ⟨w8, hw8⟩ := Below.name hS
   subst hw8
   have hb8 := hb7.trans (hS.mono hb7.size)
   have B8 := B8.keep hS
   have T8 := T8.keep hS
   clear hS
   go_wp2_with (first
    | (refine wpList_rowStoreT row_tr rfl rfl (.tmp 8) (.tmp 75) rfl rfl (vs := trv hdZ (.slice none 0 0) (.slice none 0 0) 0) rfl rfl (trv_one _ _ _ _ _ _ _ _) (us := trv hdZ (.slice none 0 0) (.slice none 0 0) 0) rfl B8 T8 ?_; intro wz Nz Tz mz)
    | fail)
   refine bodyPost_ret (results_cell_tmp2 rfl _ _ _ _ rfl (row_loadVar row_tr _ rfl Nz)) rfl ?_
   exact ⟨Below.mod hb8 mz hb8.size (by simp; omega), fun _ => by rw [HR.out]; rfl, fun e => absurd e (by rw [HR.out]; first | decide | exact HNZ.out)⟩
  have HPRE5 : Hid (accC T S ht h nx d ns L = goodC 6 S d ns L) := Lib.hid (by rw [HPRE4.out, if_neg (by simpa using hdd)])
  have g5 : (d == dh) = true := by simpa using hdd
  clear hdd HPRE4
  refine wpH_start (by kernel_rfl) (fun hS => ?_)
  (refine hP 0 ?_ ⟨some 69, .fieldAddr 42 (.tmp 5) 5, 0, "", #[], none⟩ hS ?_ ?_; rotate_left; focus (intro w; go_simp; try with_reducible rfl))
  try simp only [pna, pnb, pnc, pnd, pne]
  (refine hP 1 ?_ ⟨some 70, .fieldAddr 37 (.tmp 69) 0, 0, "", #[], none⟩ hS ?_ ?_; rotate_left; focus (intro w; go_simp; try with_reducible rfl))
  try simp only [pna, pnb, pnc, pnd, pne]
  refine wpH_load 2 (.string ⟨d.toArray⟩) (oi := ⟨some 71,.load 9 (.tmp 70),9,"accept.go:63",#[⟨1,.data⟩],none⟩) rfl (by kernel_rfl) (by kernel_rfl) (by kernel_rfl) (by rfl) hS (fun _ _ _ h => h) (fun w' hb2 => (by have c := (hb2.cell (p := ⟨w.heap.size + 1, 5, none⟩) hl5).trans c5d; go_simp; try rfl)) ?_
  try simp only [pna, pnb, pnc, pnd, pne]
  refine wpH_row row_head 3 (oi := ⟨some 72,.load 48 (.tmp 10),48,"accept.go:63",#[],none⟩) rfl (by kernel_rfl) (by kernel_rfl) (by kernel_rfl) (by rfl) hS (vs := hcs h (.slice kb h.skips.length kd)) (fun _ _ _ h => h) (.tmp 10) rfl rfl (rfl) (fun w' hb2 => N10.keep hb2) ?_
  try simp only [pna, pnb, pnc, pnd, pne]
  refine wpH_call 4 (oi := ⟨some 73,.call { callee := .value (.func 21), args := #[.tmp 72], argTypes := #[48] },9,"accept.go:63",#[⟨3,.data⟩],none⟩) rfl (by kernel_rfl) (by rfl) (qh _ hS) ?_ ?_
  ·(go_simp; try rfl)
  rintro e w' ⟨rfl, hbx⟩
  refine ⟨_, rfl, hS.trans (hbx.mono hS.size), ?_⟩
  replace hS := hS.trans (hbx.mono hS.size)
  try simp only [pna, pnb, pnc, pnd, pne]
  (refine hP 5 ?_ ⟨some 74, .binOp .neq 9 (.tmp 71) (.tmp 73) 9, 4, "", #[], none⟩ hS ?_ ?_; rotate_left; focus (intro w; go_simp; try with_reducible rfl))
  try simp only [pna, pnb, pnc, pnd, pne]
  refine wpAnyH_done (by kernel_rfl) ?_ _
  obtain ⟨w8, hw8⟩ := Below.name hS
  subst hw8
  have hb8 := hb7.trans (hS.mono hb7.size)
  have hb := hS
  have B4 := B4.keep hb
  have B5 := B5.keep hb
  have B8 := B8.keep hb
  have T8 := T8.keep hb
  have N10 := N10.keep hb
  clear hS hb hb7 qh g5 c5d
  have c11 := (trv_cells B4).2
  obtain ⟨_, _, _, _, _, a5, a6, _⟩ := acs_cells B5
  have q7 := ccheck_any 6 (.slice ma S.length mc) (.agg #[.string ⟨d.toArray⟩, .slice sa ns.length sc]) S d ns base p L w8 (HTM.out.keep hb8) ⟨_, rfl, HSG.out.keep hb8⟩ (HTB.out.keep hb8) (HKT.out.keep hb8)
  generalize hgc : goodC 6 S d ns L = gc at *
  go_wp2_with fail
  refine q7.mono ?_
  rintro e w9 ⟨rfl, hb⟩
  have hb9 := hb8.trans (hb.mono hb8.size)
  have B4 := B4.keep hb
  have B5 := B5.keep hb
  have B8 := B8.keep hb
  have T8 := T8.keep hb
  have N10 := N10.keep hb
  clear hb q7 c11 a5 a6 hb8
  by_cases hg0 : gc = 0
  rotate_left
  ·have HR : Hid (accC T S ht h nx d ns L = gc) := Lib.hid HPRE5.out
   have HNZ : Hid (gc ≠ 0) := Lib.hid hg0
   have g6 : (gc != 0) = true := by simpa using hg0
   clear hg0
   go_wp2_with (first
    | (refine wpList_rowStoreT row_tr rfl rfl (.tmp 8) (.tmp 84) rfl rfl (vs := trv hdZ (.slice none 0 0) (.slice none 0 0) 0) rfl rfl (trv_one _ _ _ _ _ _ _ _) (us := trv hdZ (.slice none 0 0) (.slice none 0 0) 0) rfl B8 T8 ?_; intro wz Nz Tz mz)
    | fail)
   refine bodyPost_ret (results_cell_tmp2 rfl _ _ _ _ rfl (row_loadVar row_tr _ rfl Nz)) rfl ?_
   exact ⟨Below.mod hb9 mz hb9.size (by simp; omega), fun _ => by rw [HR.out]; rfl, fun e => absurd e (by rw [HR.out]; first | decide | exact HNZ.out)⟩
  subst hg0
  have HR : Hid (accC T S ht h nx d ns L = 0) := Lib.hid HPRE5.out
  have hk9 := N10.lt
  have e10 := (hcs_cells N10).2.2.2.2.2
  have f10 := N10.froz 10
  have hsl : h.skips.length ≤ 1000000 := by
   have h1 := HTL.out
   unfold tlP caP at h1
   simp only [Bool.and_eq_true] at h1
   have := (fine_parts h1.1.2.2.2).skl
   have := linksF_len h.height
   omega
  have q8 := cloneT_any (.slice kb h.skips.length kd) h.skips w9 (HSK.out.keep hb9) trivial hsl
  have HSL := Lib.hid hsl
  clear hsl
  go_wp2_with fail
  refine q8.mono ?_
  rintro e w10 ⟨sv, rfl, hsv, hb⟩
  have hb10 := hb9.trans (hb.mono hb9.size)
  have B4 := B4.keep hb
  have B5 := B5.keep hb
  have B8 := B8.keep hb
  have T8 := T8.keep hb
  have N10 := N10.keep hb
  have e10 := (hcs_cells N10).2.2.2.2.2
  have f10 := N10.froz 10
  have hl10 := N10.lt
  obtain ⟨va, vc, hva⟩ := hsv.form
  subst hva
  have hs9 := hb9.size
  clear q8 hb
  go_upto_region 20 with fail
  have hz10 := hb10.size
  have N11 : Blk (w10.setCell ⟨k10, 10, none⟩ (.slice va h.skips.length vc)) k10 (hcs h (.slice va h.skips.length vc)).toArray := N10.set 10 (.slice va h.skips.length vc)
  have m11 : Mod [k10] w10 (w10.setCell ⟨k10, 10, none⟩ (.slice va h.skips.length vc)) := (Mod.refl _ _).setCell (.inl (by simp)) _
  generalize w10.setCell ⟨k10, 10, none⟩ (.slice va h.skips.length vc) = w11 at *
  have hb11 := Below.mod hb10 m11 hz10 (by simp; omega)
  have B5 := B5.mod m11 (by simp; omega)
  have B8 := B8.mod m11 (by simp; omega)
  have T8 := T8.mod m11 (by simp; omega)
  have hsk9 : k10 < w9.heap.size := hk9
  have S11 := hsv.mod m11 hk9
  have a4 := (acs_cells B5).2.2.2.2.1
  have hl5 := B5.lt
  have hl8 := B8.lt
  have hz11 := hb11.size
  have q9 := fun W (hW : Below w11.heap.size w11 W) => cloneM_any (.slice na nx.length nc) nx W (HNX.out.keep (hb11.trans (hW.mono hz11))) trivial hnx
  clear e10 f10 hsv m11 N10 hb10 hz10 hs9
  refine wpH_startM [w.heap.size + 1 + 1] (by kernel_rfl) (fun hS => ?_)
  refine wpH_row row_head 0 (oi := ⟨some 90,.load 48 (.tmp 10),48,"accept.go:70",#[],none⟩) rfl (by kernel_rfl) (by kernel_rfl) (by kernel_rfl) (by rfl) hS (vs := hcs h (.slice va h.skips.length vc)) (fun _ _ _ h => h) (.tmp 10) rfl rfl (rfl) (fun w' hb2 => N11.mod hb2 (by simp; omega)) ?_
  try simp only [pna, pnb, pnc, pnd, pne]
  (refine hP 1 ?_ ⟨some 91, .fieldAddr 42 (.tmp 5) 4, 0, "", #[], none⟩ hS ?_ ?_; rotate_left; focus (intro w; go_simp; try with_reducible rfl))
  try simp only [pna, pnb, pnc, pnd, pne]
  refine wpH_load 2 (.slice na nx.length nc) (oi := ⟨some 92,.load 23 (.tmp 91),23,"accept.go:70",#[⟨1,.data⟩],none⟩) rfl (by kernel_rfl) (by kernel_rfl) (by kernel_rfl) (by rfl) hS (fun _ _ _ h => h) (fun w' hb2 => (by have c := ((acs_cells (B5.mod hb2 (by simp))).2.2.2.2.1); go_simp; try rfl)) ?_
  try simp only [pna, pnb, pnc, pnd, pne]
  (refine hP 4 ?_ ⟨some 94, .move (.tmp 2), 3, "", #[], none⟩ hS ?_ ?_; rotate_left; focus (intro w; go_simp; try with_reducible rfl))
  try simp only [pna, pnb, pnc, pnd, pne]
  refine wpH_call 3 (oi := ⟨some 93,.call { callee := .value (.func 53), args := #[.tmp 92], argTypes := #[23] },23,"accept.go:70",#[⟨2,.data⟩],none⟩) rfl (by kernel_rfl) (by rfl) (q9 _ (Below.refl _ _).drew) ?_ ?_
  ·(go_simp; try rfl)
  rintro e w' ⟨mv, rfl, hMv, hbx⟩
  refine ⟨_, rfl, hS.trans (Mod.of_below hbx), ?_⟩
  replace hS := hS.trans (Mod.of_below hbx)
  obtain ⟨ya, yc, hmv⟩ := hMv.form
  subst hmv
  try simp only [pna, pnb, pnc, pnd, pne]
  refine wpH_load 5 (.agg (trv h (.slice va h.skips.length vc) (.slice ya nx.length yc) 0).toArray) (oi := ⟨some 95,.build 67 #[(0, .tmp 90), (1, .tmp 93), (2, .tmp 94)],67,"accept.go:70",#[⟨0,.data⟩, ⟨3,.data⟩, ⟨4,.data⟩],none⟩) rfl (by kernel_rfl) (by kernel_rfl) (by kernel_rfl) (by rfl) hS (fun _ _ _ h => h) (fun w' hb2 => (by kernel_rfl)) ?_
  try simp only [pna, pnb, pnc, pnd, pne]
  refine wpH_op 6 (oi := ⟨none,.store 67 (.tmp 8) (.tmp 95),0,"accept.go:70",#[⟨5,.data⟩, ⟨3,.chain⟩, ⟨0,.phase⟩, ⟨1,.phase⟩, ⟨2,.phase⟩, ⟨3,.phase⟩, ⟨4,.phase⟩, ⟨5,.phase⟩],none⟩) rfl (by kernel_rfl) (by rfl) ?_
  refine wp_rowS row_tr (.tmp 8) (.tmp 95) rfl rfl (vs := trv h (.slice va h.skips.length vc) (.slice ya nx.length yc) 0) rfl rfl (trv_one _ _ _ _ _ _ _ _) (us := trv hdZ (.slice none 0 0) (.slice none 0 0) 0) rfl (B8.drew.keep hbx) ?_
  intro w20 N20 m20
  have hbm : Below w11.heap.size w11 _ := (Below.refl _ _).drew.trans hbx
  refine ⟨hS.trans m20, ?_⟩
  replace hS := hS.trans m20
  try simp only [pna, pnb, pnc, pnd, pne]
  (refine hP 7 ?_ ⟨some 9, .assign (.const (.int .i64 0)), 34, "", #[], none⟩ hS ?_ ?_; rotate_left; focus (intro w; go_simp; try with_reducible rfl))
  try simp only [pna, pnb, pnc, pnd, pne]
  refine wpAnyH_done (by kernel_rfl) ?_ _
  have hfin := Below.mod hb11 hS hz11 (by simp; omega)
  go_wp2_with fail
  refine bodyPost_ret (results_cell_tmp2 rfl _ _ _ _ rfl (row_loadVar row_tr _ rfl N20)) rfl ?_
  refine ⟨hfin, fun e => absurd HR.out e, fun _ => ⟨_, _, rfl, ?_, ?_⟩⟩
  ·exact ((S11.keep hbm).mod m20 (by omega)).low (by omega)
  ·exact (hMv.mod m20 hl8).low hz11
end Go.Proofs.YthkpmlfaddlieaaGreatDoor
namespace Go.Proofs.YthkpmlfaddlieaaGreatDoor
open Go.RowKit Go.Shelf Pl
theorem sdcs_oneO (h : Hd) (a : Option Addr) (n c : Nat) (d : Bs) (a2 : Option Addr) (n2 c2 : Nat) : ∀ u ∈ sdcs h (.slice a n c) d (.slice a2 n2 c2), u.oneCell' = true := by
 intro u hu
 simp only [sdcs, List.mem_cons, List.not_mem_nil, or_false] at hu
 rcases hu with rfl | rfl | rfl | rfl | rfl | rfl | rfl | rfl | rfl | rfl | rfl | rfl | rfl <;> rfl
theorem sdcs_cellsO {w : World} {b : Nat} {h : Hd} {k : Value} {d : Bs} {ns : Value} (B : Blk w b (sdcs h k d ns).toArray) : w.cell? ⟨b, 10, none⟩ = some k ∧ w.cell? ⟨b, 12, none⟩ = some ns ∧ w.frozen? ⟨b, 10, none⟩ = false ∧ w.frozen? ⟨b, 12, none⟩ = false := ⟨B.cell 10, B.cell 12, B.froz 10, B.froz 12⟩
theorem own_any (h : Hd) (ka na : Option Addr) (kc nc : Nat) (d : Bs) (ns : List Bs) (w : World) (hk : SS w (.slice ka h.skips.length kc) h.skips) (hn : SS w (.slice na ns.length nc) ns) (hkl : h.skips.length ≤ 1000000) (hnl : ns.length ≤ 1000000) :
  Calls Tryz.prog 54 #[.agg (sdcs h (.slice ka h.skips.length kc) d (.slice na ns.length nc)).toArray] w fun e w' => ∃ a1 c1 a2 c2, e = .returned (.agg (sdcs h (.slice a1 h.skips.length c1) d (.slice a2 ns.length c2)).toArray) ∧
   SRow w' w.heap.size (.slice a1 h.skips.length c1) h.skips ∧ SRow w' w.heap.size (.slice a2 ns.length c2) ns ∧ Below w.heap.size w w' := by
 have hb0 : Below w.heap.size w ((w.alloc (.cells (sdcs h (.slice ka h.skips.length kc) d (.slice na ns.length nc)).toArray 93)).alloc (.cells #[.int .i64 0, .int .i64 0, .int .i64 0, .bool false, .string ⟨List.toArray []⟩, .string ⟨List.toArray []⟩, .string ⟨List.toArray []⟩, .string ⟨List.toArray []⟩, .string ⟨List.toArray []⟩, .string ⟨List.toArray []⟩, .slice none 0 0, .string ⟨List.toArray []⟩, .slice none 0 0] 93)) := Below.allocS (Below.allocS (Below.refl _ _) _) _
 have B1 : Blk ((w.alloc (.cells (sdcs h (.slice ka h.skips.length kc) d (.slice na ns.length nc)).toArray 93)).alloc (.cells #[.int .i64 0, .int .i64 0, .int .i64 0, .bool false, .string ⟨List.toArray []⟩, .string ⟨List.toArray []⟩, .string ⟨List.toArray []⟩, .string ⟨List.toArray []⟩, .string ⟨List.toArray []⟩, .string ⟨List.toArray []⟩, .slice none 0 0, .string ⟨List.toArray []⟩, .slice none 0 0] 93)) w.heap.size (sdcs h (.slice ka h.skips.length kc) d (.slice na ns.length nc)).toArray := (Blk.new _ _ _).alloc _
 have B2 : Blk ((w.alloc (.cells (sdcs h (.slice ka h.skips.length kc) d (.slice na ns.length nc)).toArray 93)).alloc (.cells #[.int .i64 0, .int .i64 0, .int .i64 0, .bool false, .string ⟨List.toArray []⟩, .string ⟨List.toArray []⟩, .string ⟨List.toArray []⟩, .string ⟨List.toArray []⟩, .string ⟨List.toArray []⟩, .string ⟨List.toArray []⟩, .slice none 0 0, .string ⟨List.toArray []⟩, .slice none 0 0] 93)) (w.heap.size + 1) (sdcs hdZ (.slice none 0 0) [] (.slice none 0 0)).toArray := Blk.new' (by simp)
 have T2 : Typ ((w.alloc (.cells (sdcs h (.slice ka h.skips.length kc) d (.slice na ns.length nc)).toArray 93)).alloc (.cells #[.int .i64 0, .int .i64 0, .int .i64 0, .bool false, .string ⟨List.toArray []⟩, .string ⟨List.toArray []⟩, .string ⟨List.toArray []⟩, .string ⟨List.toArray []⟩, .string ⟨List.toArray []⟩, .string ⟨List.toArray []⟩, .slice none 0 0, .string ⟨List.toArray []⟩, .slice none 0 0] 93)) (w.heap.size + 1) 93 := Typ.new' (by simp)
 have hs2 : w.heap.size + 2 ≤ ((w.alloc (.cells (sdcs h (.slice ka h.skips.length kc) d (.slice na ns.length nc)).toArray 93)).alloc (.cells #[.int .i64 0, .int .i64 0, .int .i64 0, .bool false, .string ⟨List.toArray []⟩, .string ⟨List.toArray []⟩, .string ⟨List.toArray []⟩, .string ⟨List.toArray []⟩, .string ⟨List.toArray []⟩, .string ⟨List.toArray []⟩, .slice none 0 0, .string ⟨List.toArray []⟩, .slice none 0 0] 93)).heap.size := by simp
 have q1 := cloneT_any (.slice ka h.skips.length kc) h.skips _ (hk.keep hb0) trivial hkl
 have HN := Lib.hid hn
 clear hk hn
 obtain ⟨c10, c12, f10, f12⟩ := sdcs_cellsO B1
 go_enter Tryz.func54, Tryz.ntmps54
 go_wp2_with fail
 refine q1.mono ?_
 rintro e w1 ⟨v1, rfl, hr1, hb⟩
 obtain ⟨a1, c1, h1⟩ := hr1.form
 subst h1
 have hb1 := hb0.trans (hb.mono hb0.size)
 have B1 := B1.keep hb
 have B2 := B2.keep hb
 have T2 := T2.keep hb
 have hs1 := Nat.le_trans hs2 hb.size
 have hr0 : SRow w1 (w.heap.size + 2) (.slice a1 h.skips.length c1) h.skips := hr1.low hs2
 obtain ⟨c10, c12, f10, f12⟩ := sdcs_cellsO B1
 clear q1 hb hb0 hs2
 go_upto_region 2 with fail
 have N1 : Blk (w1.setCell ⟨w.heap.size, 10, none⟩ (.slice a1 h.skips.length c1)) w.heap.size (sdcs h (.slice a1 h.skips.length c1) d (.slice na ns.length nc)).toArray := B1.set 10 _
 have m1 : Mod [w.heap.size] w1 (w1.setCell ⟨w.heap.size, 10, none⟩ (.slice a1 h.skips.length c1)) := (Mod.refl _ _).setCell (.inl (by simp)) _
 generalize w1.setCell ⟨w.heap.size, 10, none⟩ (.slice a1 h.skips.length c1) = w2 at *
 have hb2 := Below.mod hb1 m1 hb1.size (by simp)
 have B2 := B2.mod m1 (by simp)
 have T2 := T2.mod m1 (by simp)
 have hr1 := hr0.mod m1 (by omega)
 have hs2 := Nat.le_trans hs1 m1.size
 obtain ⟨c10, c12, f10, f12⟩ := sdcs_cellsO N1
 have q2 := cloneT_any (.slice na ns.length nc) ns w2 (HN.out.keep hb2) trivial hnl
 clear B1 m1 hb1 hs1 hr0
 go_wp2_with fail
 refine q2.mono ?_
 rintro e w3 ⟨v2, rfl, hr2, hb⟩
 obtain ⟨a2, c2, h2⟩ := hr2.form
 subst h2
 have hb3 := hb2.trans (hb.mono hb2.size)
 have N1 := N1.keep hb
 have B2 := B2.keep hb
 have T2 := T2.keep hb
 have hs3 := Nat.le_trans hs2 hb.size
 have hr1 := hr1.keep hb
 obtain ⟨c10, c12, f10, f12⟩ := sdcs_cellsO N1
 clear q2 hb hb2
 go_upto_region 3 with fail
 have N2 : Blk (w3.setCell ⟨w.heap.size, 12, none⟩ (.slice a2 ns.length c2)) w.heap.size (sdcs h (.slice a1 h.skips.length c1) d (.slice a2 ns.length c2)).toArray := N1.set 12 _
 have m2 : Mod [w.heap.size] w3 (w3.setCell ⟨w.heap.size, 12, none⟩ (.slice a2 ns.length c2)) := (Mod.refl _ _).setCell (.inl (by simp)) _
 generalize w3.setCell ⟨w.heap.size, 12, none⟩ (.slice a2 ns.length c2) = w4 at *
 have hb4 := Below.mod hb3 m2 hb3.size (by simp)
 have B2 := B2.mod m2 (by simp)
 have T2 := T2.mod m2 (by simp)
 have hr1 := hr1.mod m2 (by omega)
 have hr2 := hr2.mod m2 (by omega)
 have hs4 := Nat.le_trans hs3 m2.size
 have r1 := N2.range
 clear N1 m2 hb3 hs3 c10 c12 f10 f12
 go_wp2_with (first
  | (refine wpList_rowR row_side rfl (.tmp 1) rfl rfl (vs := sdcs h (.slice a1 h.skips.length c1) d (.slice a2 ns.length c2)) rfl r1 ?_)
  | (refine wpList_rowStoreT row_side rfl rfl (.tmp 2) (.tmp 15) rfl rfl (vs := sdcs h (.slice a1 h.skips.length c1) d (.slice a2 ns.length c2)) rfl rfl (sdcs_oneO _ _ _ _ _ _ _ _) (us := sdcs hdZ (.slice none 0 0) [] (.slice none 0 0)) rfl B2 T2 ?_; intro w5 N5 T5 m5)
  | fail)
 refine bodyPost_ret (results_cell1 rfl _ _ _ _ rfl (row_loadVar row_side _ rfl N5)) rfl ?_
 exact ⟨a1, c1, a2, c2, rfl, (hr1.mod m5 (by omega)).low (by omega), (hr2.mod m5 (by omega)).low (by omega), Below.mod hb4 m5 hb4.size (by simp)⟩
end Go.Proofs.YthkpmlfaddlieaaGreatDoor
namespace Go.Proofs.YthkpmlfaddlieaaGreatDoor
open Go.RowKit Go.Shelf Pl
theorem key_fields : ((Tryz.prog).fieldsOf 98).toList.map (fun f => (f.type, f.offset, f.name == "_")) = [(3, 0, false), (9, 1, false)] := by kernel_rfl
@[go_sem high] theorem eq_key (n n2 : Int) (k k2 : Bs) (d : Nat) (w : World) :
  (Op.equalIn (d + 2) 98 (.agg #[.int .i64 n, .string ⟨k.toArray⟩]) (.agg #[.int .i64 n2, .string ⟨k2.toArray⟩])).run Tryz.prog w = .ok (decide (n = n2) && decide (k = k2)) w := by
 rw [run_equalIn_struct w (d + 1) 98 _ _ (by kernel_rfl) (by kernel_rfl)]
 have hf := key_fields
 generalize ((Tryz.prog).fieldsOf 98).toList = l at *
 rcases l with _ | ⟨f0, _ | ⟨f1, _ | ⟨f2, l⟩⟩⟩ <;> simp at hf
 obtain ⟨⟨a1, a2, a3⟩, ⟨b1, b2, b3⟩⟩ := hf
 have q0 : ∀ (n : Int) (k : Bs), (part 3 #[.int .i64 n, .string ⟨k.toArray⟩] 0).run Tryz.prog w = .ok (.int .i64 n) w := fun n k => run_part_plain w (by simp [Program.plainKey, Tryz.underlying3]) rfl
 have q1 : ∀ (n : Int) (k : Bs), (part 9 #[.int .i64 n, .string ⟨k.toArray⟩] 1).run Tryz.prog w = .ok (.string ⟨k.toArray⟩) w := fun n k => run_part_plain w (by simp [Program.plainKey, Tryz.underlying9]) rfl
 have e0 := run_equalIn_int (P := Tryz.prog) w d 3 .i64 .i64 n n2 Tryz.underlying3
 have e1 := run_equalIn_string (P := Tryz.prog) w d 9 ⟨k.toArray⟩ ⟨k2.toArray⟩ Tryz.underlying9
 rw [← beq_toListBytes, str_beq] at e1
 simp only [Op.eqFields, a1, a2, b1, b2, a3, b3, ne_eq, not_false_eq_true, if_true, Sem.run_bind, q0, q1, e0, e1, Result.andThen_ok]
 by_cases h0 : n = n2
 ·subst h0
  by_cases h1 : k = k2
  ·subst h1; simp [Sem.run_bind, Sem.run_ite, q0, q1, e0, e1]
  ·simp [Sem.run_bind, Sem.run_ite, q0, q1, e0, e1, h1]
 ·simp [Sem.run_bind, Sem.run_ite, q0, q1, e0, e1, h0]
def fitsW (p q : Hd) (s : Bs) : Bool := decide (p.height = q.height) && !decide (dgH p = dgH q) && decide (p.members = s) && decide (q.members = s)
theorem two_sides (w : World) (us vs : List Value) (t1 t2 : TypeId) :
  Blk ((w.alloc (.cells us.toArray t1)).alloc (.cells vs.toArray t2)) w.heap.size us.toArray ∧ Blk ((w.alloc (.cells us.toArray t1)).alloc (.cells vs.toArray t2)) (w.heap.size + 1) vs.toArray ∧
  Below w.heap.size w ((w.alloc (.cells us.toArray t1)).alloc (.cells vs.toArray t2)) :=
 ⟨(Blk.new _ _ _).alloc _, Blk.new' (by simp), Below.allocS (Below.allocS (Below.refl _ _) _) _⟩
theorem wfits_any (p q : Hd) (ka kb : Option Addr) (kc kd : Nat) (d f : Bs) (ns ms : Value) (s : Bs) (w : World) (hk : SS w (.slice ka p.skips.length kc) p.skips) (hq : SS w (.slice kb q.skips.length kd) q.skips) (hT : KT w) :
  Calls Tryz.prog 38 #[.agg (sdcs p (.slice ka p.skips.length kc) d ns).toArray, .agg (sdcs q (.slice kb q.skips.length kd) f ms).toArray, .string ⟨s.toArray⟩] w fun e w' => e = .returned (.bool (fitsW p q s)) ∧ Below w.heap.size w w' := by
 obtain ⟨BP, BQ, hb0⟩ := two_sides w (sdcs p (.slice ka p.skips.length kc) d ns) (sdcs q (.slice kb q.skips.length kd) f ms) 93 93
 have q1 := fun (X : World) (hX : Below w.heap.size w X) => wkey_any p ka kc d ns X (hk.keep hX) (hT.keep hX)
 have q2 := fun (X : World) (hX : Below w.heap.size w X) => wkey_any q kb kd f ms X (hq.keep hX) (hT.keep hX)
 generalize hR : fitsW p q s = R
 unfold fitsW at hR
 have HR := Lib.hid hR
 clear hR hk hq
 by_cases h1 : p.height = q.height
 case neg =>
  have HN := Lib.hid h1
  have k1 : (p.height == q.height) = false := by simpa using h1
  have k2 : decide (p.height = q.height) = false := by simpa using h1
  clear h1
  go_enter Tryz.func38, Tryz.ntmps38
  go_wp2_with fail
  refine wp_held rfl (by kernel_rfl) ?_
  (refine qP ?_ ?_ ?_; rotate_left; focus (intro w; go_simp; try with_reducible rfl))
  try simp only [pna, pnb, pnc, pnd, pne]
  (refine qP ?_ ?_ ?_; rotate_left; focus (intro w; go_simp; try with_reducible rfl))
  try simp only [pna, pnb, pnc, pnd, pne]
  refine wpQ_load (by rfl) (.int .i64 p.height) (fun w' hb2 => (by have c := (BP.keep hb2).cell 0; simp only [sdcs] at c; go_simp; try rfl)) ?_
  try simp only [pna, pnb, pnc, pnd, pne]
  (refine qP ?_ ?_ ?_; rotate_left; focus (intro w; go_simp; try with_reducible rfl))
  try simp only [pna, pnb, pnc, pnd, pne]
  (refine qP ?_ ?_ ?_; rotate_left; focus (intro w; go_simp; try with_reducible rfl))
  try simp only [pna, pnb, pnc, pnd, pne]
  refine wpQ_load (by rfl) (.int .i64 q.height) (fun w' hb2 => (by have c := (BQ.keep hb2).cell 0; simp only [sdcs] at c; go_simp; try rfl)) ?_
  try simp only [pna, pnb, pnc, pnd, pne]
  (refine qP ?_ ?_ ?_; rotate_left; focus (intro w; go_simp; try with_reducible rfl))
  try simp only [pna, pnb, pnc, pnd, pne]
  (refine qP ?_ ?_ ?_; rotate_left; focus (intro w; go_simp; try with_reducible rfl))
  try simp only [pna, pnb, pnc, pnd, pne]
  (refine wpQ_skip (by first | rfl | (go_simp; done) | (go_simp; rfl)) ?_)
  try simp only [pna, pnb, pnc, pnd, pne]
  (refine wpQ_skip (by first | rfl | (go_simp; done) | (go_simp; rfl)) ?_)
  try simp only [pna, pnb, pnc, pnd, pne]
  (refine wpQ_skip (by first | rfl | (go_simp; done) | (go_simp; rfl)) ?_)
  try simp only [pna, pnb, pnc, pnd, pne]
  (refine wpQ_skip (by first | rfl | (go_simp; done) | (go_simp; rfl)) ?_)
  try simp only [pna, pnb, pnc, pnd, pne]
  (refine wpQ_skip (by first | rfl | (go_simp; done) | (go_simp; rfl)) ?_)
  try simp only [pna, pnb, pnc, pnd, pne]
  (refine qP ?_ ?_ ?_; rotate_left; focus (intro w; go_simp; try with_reducible rfl))
  try simp only [pna, pnb, pnc, pnd, pne]
  (refine qP ?_ ?_ ?_; rotate_left; focus (intro w; go_simp; try with_reducible rfl))
  try simp only [pna, pnb, pnc, pnd, pne]
  (refine wpQ_skip (by first | rfl | (go_simp; done) | (go_simp; rfl)) ?_)
  try simp only [pna, pnb, pnc, pnd, pne]
  (refine wpQ_skip (by first | rfl | (go_simp; done) | (go_simp; rfl)) ?_)
  try simp only [pna, pnb, pnc, pnd, pne]
  (refine wpQ_skip (by first | rfl | (go_simp; done) | (go_simp; rfl)) ?_)
  try simp only [pna, pnb, pnc, pnd, pne]
  (refine wpQ_skip (by first | rfl | (go_simp; done) | (go_simp; rfl)) ?_)
  try simp only [pna, pnb, pnc, pnd, pne]
  (refine wpQ_skip (by first | rfl | (go_simp; done) | (go_simp; rfl)) ?_)
  try simp only [pna, pnb, pnc, pnd, pne]
  (refine qP ?_ ?_ ?_; rotate_left; focus (intro w; go_simp; try with_reducible rfl))
  try simp only [pna, pnb, pnc, pnd, pne]
  (refine qP ?_ ?_ ?_; rotate_left; focus (intro w; go_simp; try with_reducible rfl))
  try simp only [pna, pnb, pnc, pnd, pne]
  (refine wpQ_skip (by first | rfl | (go_simp; done) | (go_simp; rfl)) ?_)
  try simp only [pna, pnb, pnc, pnd, pne]
  (refine wpQ_skip (by first | rfl | (go_simp; done) | (go_simp; rfl)) ?_)
  try simp only [pna, pnb, pnc, pnd, pne]
  (refine wpQ_skip (by first | rfl | (go_simp; done) | (go_simp; rfl)) ?_)
  try simp only [pna, pnb, pnc, pnd, pne]
  (refine wpQ_skip (by first | rfl | (go_simp; done) | (go_simp; rfl)) ?_)
  try simp only [pna, pnb, pnc, pnd, pne]
  (refine wpQ_skip (by first | rfl | (go_simp; done) | (go_simp; rfl)) ?_)
  try simp only [pna, pnb, pnc, pnd, pne]
  (refine qP ?_ ?_ ?_; rotate_left; focus (intro w; go_simp; try with_reducible rfl))
  try simp only [pna, pnb, pnc, pnd, pne]
  (refine qP ?_ ?_ ?_; rotate_left; focus (intro w; go_simp; try with_reducible rfl))
  try simp only [pna, pnb, pnc, pnd, pne]
  intro wq hS
  go_wp2_with fail
  go_ret
  exact ⟨by rw [← HR.out]; simp [HN.out], hb0.trans (hS.mono hb0.size)⟩
 have HN1 := Lib.hid h1
 have k1 : (p.height == q.height) = true := by simpa using h1
 have k2 : decide (p.height = q.height) = true := by simpa using h1
 clear h1
 by_cases h2 : dgH p = dgH q
 case pos =>
  have HN := Lib.hid h2
  have k3 : decide (dgH p = dgH q) = true := by simpa using h2
  clear h2
  go_enter Tryz.func38, Tryz.ntmps38
  go_wp2_with fail
  refine wp_held rfl (by kernel_rfl) ?_
  (refine qP ?_ ?_ ?_; rotate_left; focus (intro w; go_simp; try with_reducible rfl))
  try simp only [pna, pnb, pnc, pnd, pne]
  (refine qP ?_ ?_ ?_; rotate_left; focus (intro w; go_simp; try with_reducible rfl))
  try simp only [pna, pnb, pnc, pnd, pne]
  refine wpQ_load (by rfl) (.int .i64 p.height) (fun w' hb2 => (by have c := (BP.keep hb2).cell 0; simp only [sdcs] at c; go_simp; try rfl)) ?_
  try simp only [pna, pnb, pnc, pnd, pne]
  (refine qP ?_ ?_ ?_; rotate_left; focus (intro w; go_simp; try with_reducible rfl))
  try simp only [pna, pnb, pnc, pnd, pne]
  (refine qP ?_ ?_ ?_; rotate_left; focus (intro w; go_simp; try with_reducible rfl))
  try simp only [pna, pnb, pnc, pnd, pne]
  refine wpQ_load (by rfl) (.int .i64 q.height) (fun w' hb2 => (by have c := (BQ.keep hb2).cell 0; simp only [sdcs] at c; go_simp; try rfl)) ?_
  try simp only [pna, pnb, pnc, pnd, pne]
  (refine qP ?_ ?_ ?_; rotate_left; focus (intro w; go_simp; try with_reducible rfl))
  try simp only [pna, pnb, pnc, pnd, pne]
  (refine qP ?_ ?_ ?_; rotate_left; focus (intro w; go_simp; try with_reducible rfl))
  try simp only [pna, pnb, pnc, pnd, pne]
  refine wpQ_row row_side (by rfl) (.tmp 3) rfl rfl (vs := sdcs p (.slice ka p.skips.length kc) d ns) (rfl) (fun w' hb2 => BP.keep hb2) ?_
  try simp only [pna, pnb, pnc, pnd, pne]
  refine wpQ_call (by rfl) _ _ (.agg #[.int .i64 p.height, .string ⟨List.toArray (dgH p)⟩]) (fun w' hb => (q1 w' (hb0.trans (hb.mono hb0.size))).mono fun _ _ ⟨he, h4⟩ => ⟨he, hb.trans (h4.mono hb.size)⟩) (by intro w; go_simp; try rfl) ?_
  try simp only [pna, pnb, pnc, pnd, pne]
  refine wpQ_row row_side (by rfl) (.tmp 4) rfl rfl (vs := sdcs q (.slice kb q.skips.length kd) f ms) (rfl) (fun w' hb2 => BQ.keep hb2) ?_
  try simp only [pna, pnb, pnc, pnd, pne]
  refine wpQ_call (by rfl) _ _ (.agg #[.int .i64 q.height, .string ⟨List.toArray (dgH q)⟩]) (fun w' hb => (q2 w' (hb0.trans (hb.mono hb0.size))).mono fun _ _ ⟨he, h4⟩ => ⟨he, hb.trans (h4.mono hb.size)⟩) (by intro w; go_simp; try rfl) ?_
  try simp only [pna, pnb, pnc, pnd, pne]
  (first | (refine wpQ_skip (by first | rfl | (go_simp; done) | (go_simp; rfl)) ?_) | (refine qP ?_ ?_ ?_; rotate_left; focus (intro w; go_simp; try with_reducible rfl)))
  try simp only [pna, pnb, pnc, pnd, pne]
  (refine qP ?_ ?_ ?_; rotate_left; focus (intro w; go_simp; try with_reducible rfl))
  try simp only [pna, pnb, pnc, pnd, pne]
  (refine qP ?_ ?_ ?_; rotate_left; focus (intro w; go_simp; try with_reducible rfl))
  try simp only [pna, pnb, pnc, pnd, pne]
  (refine wpQ_skip (by first | rfl | (go_simp; done) | (go_simp; rfl)) ?_)
  try simp only [pna, pnb, pnc, pnd, pne]
  (refine wpQ_skip (by first | rfl | (go_simp; done) | (go_simp; rfl)) ?_)
  try simp only [pna, pnb, pnc, pnd, pne]
  (refine wpQ_skip (by first | rfl | (go_simp; done) | (go_simp; rfl)) ?_)
  try simp only [pna, pnb, pnc, pnd, pne]
  (refine wpQ_skip (by first | rfl | (go_simp; done) | (go_simp; rfl)) ?_)
  try simp only [pna, pnb, pnc, pnd, pne]
  (refine wpQ_skip (by first | rfl | (go_simp; done) | (go_simp; rfl)) ?_)
  try simp only [pna, pnb, pnc, pnd, pne]
  (refine qP ?_ ?_ ?_; rotate_left; focus (intro w; go_simp; try with_reducible rfl))
  try simp only [pna, pnb, pnc, pnd, pne]
  (refine qP ?_ ?_ ?_; rotate_left; focus (intro w; go_simp; try with_reducible rfl))
  try simp only [pna, pnb, pnc, pnd, pne]
  (refine wpQ_skip (by first | rfl | (go_simp; done) | (go_simp; rfl)) ?_)
  try simp only [pna, pnb, pnc, pnd, pne]
  (refine wpQ_skip (by first | rfl | (go_simp; done) | (go_simp; rfl)) ?_)
  try simp only [pna, pnb, pnc, pnd, pne]
  (refine wpQ_skip (by first | rfl | (go_simp; done) | (go_simp; rfl)) ?_)
  try simp only [pna, pnb, pnc, pnd, pne]
  (refine wpQ_skip (by first | rfl | (go_simp; done) | (go_simp; rfl)) ?_)
  try simp only [pna, pnb, pnc, pnd, pne]
  (refine wpQ_skip (by first | rfl | (go_simp; done) | (go_simp; rfl)) ?_)
  try simp only [pna, pnb, pnc, pnd, pne]
  (refine qP ?_ ?_ ?_; rotate_left; focus (intro w; go_simp; try with_reducible rfl))
  try simp only [pna, pnb, pnc, pnd, pne]
  (refine qP ?_ ?_ ?_; rotate_left; focus (intro w; go_simp; try with_reducible rfl))
  try simp only [pna, pnb, pnc, pnd, pne]
  intro wq hS
  go_wp2_with fail
  go_ret
  exact ⟨by rw [← HR.out]; simp [HN.out], hb0.trans (hS.mono hb0.size)⟩
 have HN2 := Lib.hid h2
 have k3 : decide (dgH p = dgH q) = false := by simpa using h2
 clear h2
 by_cases h3 : p.members = s
 case neg =>
  have HN := Lib.hid h3
  have k4 : decide (p.members = s) = false := by simpa using h3
  go_enter Tryz.func38, Tryz.ntmps38
  go_wp2_with fail
  refine wp_held rfl (by kernel_rfl) ?_
  (refine qP ?_ ?_ ?_; rotate_left; focus (intro w; go_simp; try with_reducible rfl))
  try simp only [pna, pnb, pnc, pnd, pne]
  (refine qP ?_ ?_ ?_; rotate_left; focus (intro w; go_simp; try with_reducible rfl))
  try simp only [pna, pnb, pnc, pnd, pne]
  refine wpQ_load (by rfl) (.int .i64 p.height) (fun w' hb2 => (by have c := (BP.keep hb2).cell 0; simp only [sdcs] at c; go_simp; try rfl)) ?_
  try simp only [pna, pnb, pnc, pnd, pne]
  (refine qP ?_ ?_ ?_; rotate_left; focus (intro w; go_simp; try with_reducible rfl))
  try simp only [pna, pnb, pnc, pnd, pne]
  (refine qP ?_ ?_ ?_; rotate_left; focus (intro w; go_simp; try with_reducible rfl))
  try simp only [pna, pnb, pnc, pnd, pne]
  refine wpQ_load (by rfl) (.int .i64 q.height) (fun w' hb2 => (by have c := (BQ.keep hb2).cell 0; simp only [sdcs] at c; go_simp; try rfl)) ?_
  try simp only [pna, pnb, pnc, pnd, pne]
  (refine qP ?_ ?_ ?_; rotate_left; focus (intro w; go_simp; try with_reducible rfl))
  try simp only [pna, pnb, pnc, pnd, pne]
  (refine qP ?_ ?_ ?_; rotate_left; focus (intro w; go_simp; try with_reducible rfl))
  try simp only [pna, pnb, pnc, pnd, pne]
  refine wpQ_row row_side (by rfl) (.tmp 3) rfl rfl (vs := sdcs p (.slice ka p.skips.length kc) d ns) (rfl) (fun w' hb2 => BP.keep hb2) ?_
  try simp only [pna, pnb, pnc, pnd, pne]
  refine wpQ_call (by rfl) _ _ (.agg #[.int .i64 p.height, .string ⟨List.toArray (dgH p)⟩]) (fun w' hb => (q1 w' (hb0.trans (hb.mono hb0.size))).mono fun _ _ ⟨he, h4⟩ => ⟨he, hb.trans (h4.mono hb.size)⟩) (by intro w; go_simp; try rfl) ?_
  try simp only [pna, pnb, pnc, pnd, pne]
  refine wpQ_row row_side (by rfl) (.tmp 4) rfl rfl (vs := sdcs q (.slice kb q.skips.length kd) f ms) (rfl) (fun w' hb2 => BQ.keep hb2) ?_
  try simp only [pna, pnb, pnc, pnd, pne]
  refine wpQ_call (by rfl) _ _ (.agg #[.int .i64 q.height, .string ⟨List.toArray (dgH q)⟩]) (fun w' hb => (q2 w' (hb0.trans (hb.mono hb0.size))).mono fun _ _ ⟨he, h4⟩ => ⟨he, hb.trans (h4.mono hb.size)⟩) (by intro w; go_simp; try rfl) ?_
  try simp only [pna, pnb, pnc, pnd, pne]
  (first | (refine wpQ_skip (by first | rfl | (go_simp; done) | (go_simp; rfl)) ?_) | (refine qP ?_ ?_ ?_; rotate_left; focus (intro w; go_simp; try with_reducible rfl)))
  try simp only [pna, pnb, pnc, pnd, pne]
  (refine qP ?_ ?_ ?_; rotate_left; focus (intro w; go_simp; try with_reducible rfl))
  try simp only [pna, pnb, pnc, pnd, pne]
  (refine qP ?_ ?_ ?_; rotate_left; focus (intro w; go_simp; try with_reducible rfl))
  try simp only [pna, pnb, pnc, pnd, pne]
  (first | (refine wpQ_skip (by first | rfl | (go_simp; done) | (go_simp; rfl)) ?_) | (refine qP ?_ ?_ ?_; rotate_left; focus (intro w; go_simp; try with_reducible rfl)))
  try simp only [pna, pnb, pnc, pnd, pne]
  (first | (refine wpQ_skip (by first | rfl | (go_simp; done) | (go_simp; rfl)) ?_) | (refine qP ?_ ?_ ?_; rotate_left; focus (intro w; go_simp; try with_reducible rfl)))
  try simp only [pna, pnb, pnc, pnd, pne]
  refine wpQ_load (by rfl) (.string ⟨List.toArray p.members⟩) (fun w' hb2 => (by have c := (BP.keep hb2).cell 8; simp only [sdcs] at c; go_simp; try rfl)) ?_
  try simp only [pna, pnb, pnc, pnd, pne]
  (first | (refine wpQ_skip (by first | rfl | (go_simp; done) | (go_simp; rfl)) ?_) | (refine qP ?_ ?_ ?_; rotate_left; focus (intro w; go_simp; try with_reducible rfl)))
  try simp only [pna, pnb, pnc, pnd, pne]
  (first | (refine wpQ_skip (by first | rfl | (go_simp; done) | (go_simp; rfl)) ?_) | (refine qP ?_ ?_ ?_; rotate_left; focus (intro w; go_simp; try with_reducible rfl)))
  try simp only [pna, pnb, pnc, pnd, pne]
  (refine qP ?_ ?_ ?_; rotate_left; focus (intro w; go_simp; try with_reducible rfl))
  try simp only [pna, pnb, pnc, pnd, pne]
  (refine qP ?_ ?_ ?_; rotate_left; focus (intro w; go_simp; try with_reducible rfl))
  try simp only [pna, pnb, pnc, pnd, pne]
  (refine wpQ_skip (by first | rfl | (go_simp; done) | (go_simp; rfl)) ?_)
  try simp only [pna, pnb, pnc, pnd, pne]
  (refine wpQ_skip (by first | rfl | (go_simp; done) | (go_simp; rfl)) ?_)
  try simp only [pna, pnb, pnc, pnd, pne]
  (refine wpQ_skip (by first | rfl | (go_simp; done) | (go_simp; rfl)) ?_)
  try simp only [pna, pnb, pnc, pnd, pne]
  (refine wpQ_skip (by first | rfl | (go_simp; done) | (go_simp; rfl)) ?_)
  try simp only [pna, pnb, pnc, pnd, pne]
  (refine wpQ_skip (by first | rfl | (go_simp; done) | (go_simp; rfl)) ?_)
  try simp only [pna, pnb, pnc, pnd, pne]
  (refine qP ?_ ?_ ?_; rotate_left; focus (intro w; go_simp; try with_reducible rfl))
  try simp only [pna, pnb, pnc, pnd, pne]
  (refine qP ?_ ?_ ?_; rotate_left; focus (intro w; go_simp; try with_reducible rfl))
  try simp only [pna, pnb, pnc, pnd, pne]
  intro wq hS
  go_wp2_with fail
  go_ret
  exact ⟨by rw [← HR.out]; simp [HN.out], hb0.trans (hS.mono hb0.size)⟩
 have HN3 := Lib.hid h3
 have k4 : decide (p.members = s) = true := by simpa using h3
 have HZ : Hid ((q.members == s) = R) := Lib.hid (by rw [← HR.out]; simp only [HN1.out, HN2.out, HN3.out, decide_true, decide_false, Bool.not_false, Bool.true_and]; by_cases h : q.members = s <;> simp [h])
 go_enter Tryz.func38, Tryz.ntmps38
 go_wp2_with fail
 refine wp_held rfl (by kernel_rfl) ?_
 (refine qP ?_ ?_ ?_; rotate_left; focus (intro w; go_simp; try with_reducible rfl))
 try simp only [pna, pnb, pnc, pnd, pne]
 (refine qP ?_ ?_ ?_; rotate_left; focus (intro w; go_simp; try with_reducible rfl))
 try simp only [pna, pnb, pnc, pnd, pne]
 refine wpQ_load (by rfl) (.int .i64 p.height) (fun w' hb2 => (by have c := (BP.keep hb2).cell 0; simp only [sdcs] at c; go_simp; try rfl)) ?_
 try simp only [pna, pnb, pnc, pnd, pne]
 (refine qP ?_ ?_ ?_; rotate_left; focus (intro w; go_simp; try with_reducible rfl))
 try simp only [pna, pnb, pnc, pnd, pne]
 (refine qP ?_ ?_ ?_; rotate_left; focus (intro w; go_simp; try with_reducible rfl))
 try simp only [pna, pnb, pnc, pnd, pne]
 refine wpQ_load (by rfl) (.int .i64 q.height) (fun w' hb2 => (by have c := (BQ.keep hb2).cell 0; simp only [sdcs] at c; go_simp; try rfl)) ?_
 try simp only [pna, pnb, pnc, pnd, pne]
 (refine qP ?_ ?_ ?_; rotate_left; focus (intro w; go_simp; try with_reducible rfl))
 try simp only [pna, pnb, pnc, pnd, pne]
 (refine qP ?_ ?_ ?_; rotate_left; focus (intro w; go_simp; try with_reducible rfl))
 try simp only [pna, pnb, pnc, pnd, pne]
 refine wpQ_row row_side (by rfl) (.tmp 3) rfl rfl (vs := sdcs p (.slice ka p.skips.length kc) d ns) (rfl) (fun w' hb2 => BP.keep hb2) ?_
 try simp only [pna, pnb, pnc, pnd, pne]
 refine wpQ_call (by rfl) _ _ (.agg #[.int .i64 p.height, .string ⟨List.toArray (dgH p)⟩]) (fun w' hb => (q1 w' (hb0.trans (hb.mono hb0.size))).mono fun _ _ ⟨he, h4⟩ => ⟨he, hb.trans (h4.mono hb.size)⟩) (by intro w; go_simp; try rfl) ?_
 try simp only [pna, pnb, pnc, pnd, pne]
 refine wpQ_row row_side (by rfl) (.tmp 4) rfl rfl (vs := sdcs q (.slice kb q.skips.length kd) f ms) (rfl) (fun w' hb2 => BQ.keep hb2) ?_
 try simp only [pna, pnb, pnc, pnd, pne]
 refine wpQ_call (by rfl) _ _ (.agg #[.int .i64 q.height, .string ⟨List.toArray (dgH q)⟩]) (fun w' hb => (q2 w' (hb0.trans (hb.mono hb0.size))).mono fun _ _ ⟨he, h4⟩ => ⟨he, hb.trans (h4.mono hb.size)⟩) (by intro w; go_simp; try rfl) ?_
 try simp only [pna, pnb, pnc, pnd, pne]
 (first | (refine wpQ_skip (by first | rfl | (go_simp; done) | (go_simp; rfl)) ?_) | (refine qP ?_ ?_ ?_; rotate_left; focus (intro w; go_simp; try with_reducible rfl)))
 try simp only [pna, pnb, pnc, pnd, pne]
 (refine qP ?_ ?_ ?_; rotate_left; focus (intro w; go_simp; try with_reducible rfl))
 try simp only [pna, pnb, pnc, pnd, pne]
 (refine qP ?_ ?_ ?_; rotate_left; focus (intro w; go_simp; try with_reducible rfl))
 try simp only [pna, pnb, pnc, pnd, pne]
 (first | (refine wpQ_skip (by first | rfl | (go_simp; done) | (go_simp; rfl)) ?_) | (refine qP ?_ ?_ ?_; rotate_left; focus (intro w; go_simp; try with_reducible rfl)))
 try simp only [pna, pnb, pnc, pnd, pne]
 (first | (refine wpQ_skip (by first | rfl | (go_simp; done) | (go_simp; rfl)) ?_) | (refine qP ?_ ?_ ?_; rotate_left; focus (intro w; go_simp; try with_reducible rfl)))
 try simp only [pna, pnb, pnc, pnd, pne]
 refine wpQ_load (by rfl) (.string ⟨List.toArray p.members⟩) (fun w' hb2 => (by have c := (BP.keep hb2).cell 8; simp only [sdcs] at c; go_simp; try rfl)) ?_
 try simp only [pna, pnb, pnc, pnd, pne]
 (first | (refine wpQ_skip (by first | rfl | (go_simp; done) | (go_simp; rfl)) ?_) | (refine qP ?_ ?_ ?_; rotate_left; focus (intro w; go_simp; try with_reducible rfl)))
 try simp only [pna, pnb, pnc, pnd, pne]
 (first | (refine wpQ_skip (by first | rfl | (go_simp; done) | (go_simp; rfl)) ?_) | (refine qP ?_ ?_ ?_; rotate_left; focus (intro w; go_simp; try with_reducible rfl)))
 try simp only [pna, pnb, pnc, pnd, pne]
 (refine qP ?_ ?_ ?_; rotate_left; focus (intro w; go_simp; try with_reducible rfl))
 try simp only [pna, pnb, pnc, pnd, pne]
 (refine qP ?_ ?_ ?_; rotate_left; focus (intro w; go_simp; try with_reducible rfl))
 try simp only [pna, pnb, pnc, pnd, pne]
 (first | (refine wpQ_skip (by first | rfl | (go_simp; done) | (go_simp; rfl)) ?_) | (refine qP ?_ ?_ ?_; rotate_left; focus (intro w; go_simp; try with_reducible rfl)))
 try simp only [pna, pnb, pnc, pnd, pne]
 (first | (refine wpQ_skip (by first | rfl | (go_simp; done) | (go_simp; rfl)) ?_) | (refine qP ?_ ?_ ?_; rotate_left; focus (intro w; go_simp; try with_reducible rfl)))
 try simp only [pna, pnb, pnc, pnd, pne]
 refine wpQ_load (by rfl) (.string ⟨List.toArray q.members⟩) (fun w' hb2 => (by have c := (BQ.keep hb2).cell 8; simp only [sdcs] at c; go_simp; try rfl)) ?_
 try simp only [pna, pnb, pnc, pnd, pne]
 (first | (refine wpQ_skip (by first | rfl | (go_simp; done) | (go_simp; rfl)) ?_) | (refine qP ?_ ?_ ?_; rotate_left; focus (intro w; go_simp; try with_reducible rfl)))
 try simp only [pna, pnb, pnc, pnd, pne]
 (first | (refine wpQ_skip (by first | rfl | (go_simp; done) | (go_simp; rfl)) ?_) | (refine qP ?_ ?_ ?_; rotate_left; focus (intro w; go_simp; try with_reducible rfl)))
 try simp only [pna, pnb, pnc, pnd, pne]
 (refine qP ?_ ?_ ?_; rotate_left; focus (intro w; go_simp; try with_reducible rfl))
 try simp only [pna, pnb, pnc, pnd, pne]
 (refine qP ?_ ?_ ?_; rotate_left; focus (intro w; go_simp; try with_reducible rfl))
 try simp only [pna, pnb, pnc, pnd, pne]
 intro wq hS
 go_wp2_with fail
 go_ret
 exact ⟨by rw [← HZ.out]; rfl, hb0.trans (hS.mono hb0.size)⟩
end Go.Proofs.YthkpmlfaddlieaaGreatDoor
