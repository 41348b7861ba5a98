/- TAddS. -/
import Derived.Test.YthgjdaomcpinaaaGreatDoorMp41
set_option linter.unnecessarySimpa false
set_option linter.unusedSimpArgs false
set_option linter.unusedVariables false
set_option maxRecDepth 100000
set_option maxHeartbeats 32000000
namespace Go.Proofs.YthgjdaomcpinaaaGreatDoor
open Go.RowKit Go.WideMaps Go.Maps Go.Sort Go.Shelf Pl
theorem fineT_small {t : Tr} (h : fineT t = true) : t.head.skips.length ≤ 20 ∧ t.set.length ≤ 7 ∧ (0 ≤ t.head.height ∧ t.head.height ≤ 1048576) ∧ 0 ≤ t.at_ := by
 obtain ⟨f1, f2, f3, _⟩ := fineT_parts h
 refine ⟨?_, ?_, fineH_height f1, f2.1⟩
 ·unfold fineH sumsH at f1
  simp only [Bool.and_eq_true] at f1
  have f4 := f1.1.2
  have := linksF_len t.head.height
  split at f4
  ·simp only [Bool.and_eq_true, decide_eq_true_eq] at f4
   omega
  ·simp only [Bool.and_eq_true, decide_eq_true_eq] at f4
   rw [f4.1]
   simp
 ·unfold chkM at f3
  simp only [Bool.and_eq_true, decide_eq_true_eq] at f3
  exact f3.1.2
theorem twriteS_any (av : List Nat) (p j q : Nat) (m : Value) (span : Int) (d : Dk) (br : Bool) (v : Value) (l : List Bs) (hne : l ≠ []) (hn : l.length ≤ 1000) (hm : mayR l = true) (hf : -9223372036854775808 ≤ d.fuse ∧ d.fuse ≤ 9223372036854775807) (hrm : 0 ≤ d.room ∧ d.room ≤ 1048576) (hsl : d.s.length ≤ 1048576) (w : World) (hk : KT w) (h : DkV w av p d) (hj : Blk w j #[.pointer (some ⟨p, 0, none⟩), .bool br]) (hpj : p ≠ j) (hjb : j ∈ av) (hav : ∀ x ∈ av, x < w.heap.size) (B : Blk w q #[m, .int .i64 span, .pointer (some ⟨j, 0, none⟩)]) (hv : SS w v l) :
  Calls Tryz.prog 73 #[.pointer (some ⟨q, 0, none⟩), v] w fun e w' => e = .returned (.int .i64 ((wrS d br l).2.2)) ∧ DkV w' av p (wrS d br l).1 ∧ Blk w' j #[.pointer (some ⟨p, 0, none⟩), .bool (wrS d br l).2.1] ∧ Mod [p, j] w w' := by
 cases br
 ·exact twrite_any av p j q m span d v l hne hn hm hf hrm hsl w hk h hj hpj hjb hav B hv
 ·obtain ⟨a, c, rfl, _⟩ := hv
  refine (twriteB_any p j q m span a l.length c (fun e => hne (List.length_eq_zero_iff.1 e)) w B hj).mono ?_
  rintro e w1 ⟨rfl, h1⟩
  exact ⟨rfl, h.keep h1, hj.keep h1, Mod.of_below h1⟩
def addS (d : Dk) (b : Bool) (T : List (Int × Tr)) (l : List Tr) : Dk × List (Int × Tr) × Int × Bool :=
 if l.all fineT = false then (d, T, 3, b) else match addsT l T with
  | none => (d, T, 6, b)
  | some T' => if l = [] then (d, T', 0, b) else if (wrS d b (batchT l)).2.2 = 0 then ((wrS d b (batchT l)).1, T', 0, (wrS d b (batchT l)).2.1) else ((wrS d b (batchT l)).1, T, (wrS d b (batchT l)).2.2, (wrS d b (batchT l)).2.1)
theorem addS_bad {d : Dk} {b : Bool} {T : List (Int × Tr)} {l : List Tr} (h : l.all fineT = false) : addS d b T l = (d, T, 3, b) := by
 unfold addS
 rw [if_pos h]
theorem addS_there {d : Dk} {b : Bool} {T : List (Int × Tr)} {l : List Tr} (h : l.all fineT = true) (h2 : addsT l T = none) : addS d b T l = (d, T, 6, b) := by
 unfold addS
 rw [if_neg (by simp [h]), h2]
theorem addS_none {d : Dk} {b : Bool} {T T' : List (Int × Tr)} (h2 : addsT [] T = some T') : addS d b T [] = (d, T', 0, b) := by
 unfold addS
 rw [if_neg (by simp), h2]
 simp
theorem addS_yes {d : Dk} {b : Bool} {T T' : List (Int × Tr)} {l : List Tr} (h : l.all fineT = true) (h2 : addsT l T = some T') (hn : l ≠ []) (h3 : (wrS d b (batchT l)).2.2 = 0) : addS d b T l = ((wrS d b (batchT l)).1, T', 0, (wrS d b (batchT l)).2.1) := by
 unfold addS
 rw [if_neg (by simp [h]), h2]
 simp only
 rw [if_neg hn, if_pos h3]
theorem addS_no {d : Dk} {b : Bool} {T T' : List (Int × Tr)} {l : List Tr} (h : l.all fineT = true) (h2 : addsT l T = some T') (hn : l ≠ []) (h3 : (wrS d b (batchT l)).2.2 ≠ 0) : addS d b T l = ((wrS d b (batchT l)).1, T, (wrS d b (batchT l)).2.2, (wrS d b (batchT l)).2.1) := by
 unfold addS
 rw [if_neg (by simp [h]), h2]
 simp only
 rw [if_neg hn, if_neg h3]
theorem tadds_any (av : List Nat) (base p j q m : Nat) (span : Int) (d : Dk) (br : Bool) (T : List (Int × Tr)) (v : Value) (l : List Tr) (hn : l.length ≤ 1000) (hT : T.length ≤ 10000) (hm : l.all fineT = true → mayR (batchT l) = true) (hf : -9223372036854775808 ≤ d.fuse ∧ d.fuse ≤ 9223372036854775807) (hrm : 0 ≤ d.room ∧ d.room ≤ 1048576) (hsl : d.s.length ≤ 1048576) (w : World) (hk : KT w) (h : DkV w av p d) (hj : Blk w j #[.pointer (some ⟨p, 0, none⟩), .bool br]) (hpj : p ≠ j) (hja : j ∈ av) (hqa : q ∈ av) (hav : ∀ x ∈ av, x < w.heap.size) (hpb : p < base) (hjb : j < base) (hqb : q < base) (hpq : p ≠ q) (hqj : q ≠ j) (hbase : base ≤ w.heap.size) (B : Blk w q #[.map (some m), .int .i64 span, .pointer (some ⟨j, 0, none⟩)]) (hM : TrM w base m T) (hv : TL w v l) :
  Calls Tryz.prog 24 #[.pointer (some ⟨q, 0, none⟩), v] w fun e w' => ∃ m', e = .returned (.int .i64 ((addS d br T l).2.2.1)) ∧ Blk w' q #[.map (some m'), .int .i64 span, .pointer (some ⟨j, 0, none⟩)] ∧ TrM w' base m' (addS d br T l).2.1 ∧ DkV w' av p (addS d br T l).1 ∧ Blk w' j #[.pointer (some ⟨p, 0, none⟩), .bool (addS d br T l).2.2.2] ∧ Mod [p, j, q] w w' := by
 have hpa := h.lt
 have HAV := Lib.hid hav
 obtain ⟨a, cap, rfl⟩ := hv.form
 have HN := Lib.hid hn
 have HM := Lib.hid hm
 have HV := Lib.hid hv
 have HJ := Lib.hid hj
 have HD := Lib.hid h
 have HTM := Lib.hid hM
 have HK := Lib.hid hk
 have HB0 := Lib.hid B
 have HBASE := Lib.hid hbase
 clear hm hv hj h hM hk B hbase hav
 go_enter Tryz.func24, Tryz.ntmps24
 go_wp2_with fail
 go_loopw [5, 18] (fun s5 s18 wr => ∃ i : Nat, i ≤ l.length ∧ s18 = .int .i64 i ∧ SRow wr w.heap.size s5 (batchT (l.take i)) ∧ Hid ((l.take i).all fineT = true) ∧ Below w.heap.size w wr) (fun _ s18 _ => l.length - (intOf s18).toNat)
 case atStart => exact ⟨0, by omega, rfl, SRow.nil _ _, Lib.hid (by simp), Below.refl _ _⟩
 case round =>
  obtain ⟨i, hi, rfl, hS, HF, hb⟩ := hrel
  obtain ⟨sa, sc, rfl⟩ := hS.form
  by_cases hlt : i < l.length
  ·have hbd : 0 ≤ (i : Int) ∧ (i : Int) < (l.length : Int) := by omega
   obtain ⟨t, ht⟩ : ∃ t, l[i]? = some t := ⟨l[i], List.getElem?_eq_getElem hlt⟩
   obtain ⟨g, off, sk, ms, rfl, hg, hR, h1, h2, p1, p2⟩ := HV.out.at i t ht
   have HSN := Lib.hid (batch_snoc l i t ht)
   have HFS := Lib.hid (fine_stop l i t ht)
   have HFY := Lib.hid (fine_step l i t ht)
   have HBL := Lib.hid (batch_len (l.take i))
   clear ht
   have hbl : (batchT (l.take i)).length ≤ 1000 := by rw [HBL.out, List.length_take]; omega
   generalize hBT : batchT (l.take i) = BT at *
   obtain ⟨⟨a1, a2, a3, lb, pa, st, rc, tx, me, ne, K⟩, L, ta⟩ := t
   have hR2 := rangeAt_keep hR hg hb
   obtain ⟨ka, kc, rfl⟩ := h1.form
   obtain ⟨ma, mc, rfl⟩ := h2.form
   unfold tcs at hR2
   simp only at hR2 h1 h2
   have q1 := fun W (hbx : Below w.heap.size w W) => tr_encode a1 a2 a3 lb pa st rc tx me ne K _ L _ ta W (h1.keep hbx) (h2.keep hbx) (HK.out.keep hbx)
   have hsr := hb.size
   clear hR h1 h2 p1 p2 hg hBT
   go_wp2_with (first | (refine wpList_rowLoadAt row_trust rfl (.tmp 20) rfl rfl rfl hR2 ?_) | (refine wpList_rowStore row_trust rfl rfl (.tmp 7) (.tmp 21) rfl rfl rfl (vs := [.int .i64 a1, .int .i64 a2, .int .i64 a3, .bool lb, .string ⟨List.toArray pa⟩, .string ⟨List.toArray st⟩, .string ⟨List.toArray rc⟩, .string ⟨List.toArray tx⟩, .string ⟨List.toArray me⟩, .string ⟨List.toArray ne⟩, .slice ka K.length kc, .slice ma L.length mc, .int .i64 ta]) rfl (by simp [Value.oneCell']) (us := ztL) rfl (Blk.new' (by simp)) ?_; intro w2 N2 m2) | (refine wpList_rowLoad row_trust rfl (.tmp 7) rfl rfl (vs := [.int .i64 a1, .int .i64 a2, .int .i64 a3, .bool lb, .string ⟨List.toArray pa⟩, .string ⟨List.toArray st⟩, .string ⟨List.toArray rc⟩, .string ⟨List.toArray tx⟩, .string ⟨List.toArray me⟩, .string ⟨List.toArray ne⟩, .slice ka K.length kc, .slice ma L.length mc, .int .i64 ta]) rfl N2 ?_))
   have hb0 := Below.allocS hb (.cells ztA 27)
   have hb2 := Below.mod hb0 m2 hb0.size (by simp; omega)
   have hS2 : SRow w2 w.heap.size (.slice sa BT.length sc) BT := (hS.keep (Below.allocS (Below.refl _ _) _)).kept (fun k hk => m2.block k (by have := hS.at_lt hk; simp; omega) (by have := hS.at_lt hk; simp; omega))
   refine (q1 _ hb2).mono ?_
   rintro e w3 ⟨rfl, hbx⟩
   have hb3 := hb2.trans (hbx.mono hb2.size)
   have hS3 := hS2.keep hbx
   have hs3 := hb3.size
   clear q1 hS hS2 hb hb0 hb2 hR2 N2 m2 hbx
   cases hfb : fineT ⟨⟨a1, a2, a3, lb, pa, st, rc, tx, me, ne, K⟩, L, ta⟩
   ·rw [encTR_no hfb]
    have hbad := HFS.out hfb
    clear hfb
    go_wp2_with fail
    all_goals (go_ret; rw [addS_bad hbad]; exact ⟨m, rfl, HB0.out.keep hb3, HTM.out.keep hb3, HD.out.keep hb3, HJ.out.keep hb3, Mod.of_below hb3⟩)
   ·rw [encTR_yes hfb]
    have HFY2 := Lib.hid (HFY.out hfb HF.out)
    have hwl := writT_len hfb
    clear hfb
    generalize writT ⟨⟨a1, a2, a3, lb, pa, st, rc, tx, me, ne, K⟩, L, ta⟩ = X at *
    have k1 : ¬ 9223372036854775807 < 1 + X.length := by omega
    have hS4 : SS (w3.alloc (.cells #[.string ⟨List.toArray (1 :: X)⟩] 9)) (.slice (some ⟨w3.heap.size, 0, none⟩) 1 1) [1 :: X] := SS.of (l := [1 :: X]) (by simp) (by unfold maxLen; omega) (by simp) (ssrc1 _ _ _)
    go_wp2_with (first | (at_builtin; refine wpList_appS rfl (.tmp 30) (.tmp 33) rfl w.heap.size _ BT rfl (hS3.alloc _) w3.heap.size 0 1 1 [1 :: X] rfl rfl (ssrc1 _ _ _) (by omega) (by simp; omega) ?_; rintro v5 w5 hS5 hb5))
    refine ⟨⟨i + 1, by omega, by go_num, by rw [HSN.out]; exact hS5, HFY2, (Below.allocS hb3 _).trans hb5⟩, by simp [intOf]; omega⟩
  ·have hil : i = l.length := by omega
   subst hil
   rw [List.take_length] at hS HF
   have q2 := tclone_any base m T wr (HTM.out.keep hb)
   have B1 := HB0.out.keep hb
   obtain ⟨b1, b2, b3⟩ := id B1
   go_wp2_with fail
   refine q2.mono ?_
   rintro e w1 ⟨rfl, hM1, _, hbx⟩
   obtain ⟨m', hm'⟩ : ∃ m', m' = wr.heap.size := ⟨_, rfl⟩
   rw [← hm'] at hM1 ⊢
   have hmw : w.heap.size ≤ m' := by have := hb.size; omega
   have hS1 := hS.keep hbx
   have hb1 := hb.trans (hbx.mono hb.size)
   have hml := hM1.lt
   clear q2 hm' hS hb hbx B1 b1 b2 b3
   have HBL := Lib.hid (batch_len l)
   generalize hBT : batchT l = BT at *
   obtain ⟨ba, bc, hbv⟩ := hS1.form
   clear hi hlt
   go_wp2_with fail
   go_loopw [43] (fun s43 wr => ∃ (i : Nat) (Ti : List (Int × Tr)), i ≤ l.length ∧ s43 = .int .i64 i ∧ TrM wr base m' Ti ∧ Hid (addsT l T = addsT (l.drop i) Ti) ∧ Ti.length ≤ T.length + i ∧ SRow wr w.heap.size (.slice sa BT.length sc) BT ∧ Below w.heap.size w wr) (fun s43 _ => l.length - (intOf s43).toNat)
   case atStart => exact ⟨0, T, by omega, rfl, hM1, Lib.hid (by rw [List.drop_zero]), by omega, hS1, hb1⟩
   case round =>
    obtain ⟨i, Ti, hi, rfl, hMr, HA, hTl, hSr, hbr⟩ := hrel
    clear hM1 hS1 hb1 hml
    by_cases hlt : i < l.length
    ·have hbd : 0 ≤ (i : Int) ∧ (i : Int) < (l.length : Int) := by omega
     obtain ⟨t, ht⟩ : ∃ t, l[i]? = some t := ⟨l[i], List.getElem?_eq_getElem hlt⟩
     obtain ⟨g, off, sk, ms, rfl, hg, hR, h1, h2, p1, p2⟩ := HV.out.at i t ht
     obtain ⟨l1, l2, l3⟩ : t.head.skips.length ≤ 1000000 ∧ t.set.length ≤ 1000000 ∧ -9223372036854775808 ≤ t.head.height ∧ t.head.height ≤ 9223372036854775807 := by have h := fineT_small (List.all_eq_true.1 HF.out t (List.mem_of_getElem? ht)); omega
     have HDR := Lib.hid (dropT l i t ht)
     clear ht
     obtain ⟨⟨a1, a2, a3, lb, pa, st, rc, tx, me, ne, K⟩, L, ta⟩ := t
     have hR2 := rangeAt_keep hR hg hbr
     obtain ⟨ka, kc, rfl⟩ := h1.form
     obtain ⟨ma, mc, rfl⟩ := h2.form
     unfold tcs at hR2
     simp only at hR2 h1 h2 l1 l2 l3
     have hsr := hbr.size
     have q4 := fun W (hbx : Below w.heap.size w W) => tr_own a1 a2 a3 lb pa st rc tx me ne K L ta _ _ W (h1.keep hbx) (h2.keep hbx) p1 p2 l1 l2
     clear hR p1 p2 hg
     by_cases hin : a1 ∈ hts Ti
     ·obtain ⟨⟨⟨d1, d2, d3, eb, pb, su, rd, ty, mf, nf, K2⟩, L2, tb⟩, ho⟩ : ∃ o, (a1, o) ∈ Ti := by
       obtain ⟨e, he, e1⟩ := List.mem_map.1 hin
       exact ⟨e.2, by rw [← e1]; exact he⟩
      have hcc := clashT_there (t := ⟨⟨a1, a2, a3, lb, pa, st, rc, tx, me, ne, K⟩, L, ta⟩) hMr.nodup ho
      have q3 := fun (u v : Value) (W : World) (hu : TV W u ⟨⟨d1, d2, d3, eb, pb, su, rd, ty, mf, nf, K2⟩, L2, tb⟩) (hv : TV W v ⟨⟨a1, a2, a3, lb, pa, st, rc, tx, me, ne, K⟩, L, ta⟩) => tr_same u v _ _ W hu hv
      simp only at hcc q3
      generalize decide ((encHR (⟨d1, d2, d3, eb, pb, su, rd, ty, mf, nf, K2⟩ : Hd)).1 = (encHR (⟨a1, a2, a3, lb, pa, st, rc, tx, me, ne, K⟩ : Hd)).1) = sm at *
      have HCC := Lib.hid hcc
      clear hcc
      go_wp2_with (first | (refine wpList_rowLoadAt row_trust rfl (.tmp 45) rfl rfl rfl hR2 ?_) | (refine wpList_rowStore row_trust rfl rfl (.tmp 12) (.tmp 46) rfl rfl rfl (vs := [.int .i64 a1, .int .i64 a2, .int .i64 a3, .bool lb, .string ⟨List.toArray pa⟩, .string ⟨List.toArray st⟩, .string ⟨List.toArray rc⟩, .string ⟨List.toArray tx⟩, .string ⟨List.toArray me⟩, .string ⟨List.toArray ne⟩, .slice ka K.length kc, .slice ma L.length mc, .int .i64 ta]) rfl (by simp [Value.oneCell']) (us := ztL) rfl (Blk.new' (by simp)) ?_; intro w2 N2 m2; obtain ⟨b1, b2, b3⟩ := id N2; have hbn := Below.mod (Below.allocS (Below.refl wr.heap.size wr) (.cells ztA 27)) m2 (by simp) (by simp); obtain ⟨v, hrun, hov, _⟩ := (hMr.keep hbn).look a1 l3; rw [decide_eq_true hin] at hrun; obtain ⟨sk2, ms2, rfl, r1, r2⟩ := hov _ ho; simp only at hrun r1 r2; obtain ⟨va, vc, rfl⟩ := r1.form; obtain ⟨ua, uc, rfl⟩ := r2.form) | (refine wpList_rowStore row_trust rfl rfl (.tmp 13) (.tmp 53) rfl rfl rfl (vs := [.int .i64 d1, .int .i64 d2, .int .i64 d3, .bool eb, .string ⟨List.toArray pb⟩, .string ⟨List.toArray su⟩, .string ⟨List.toArray rd⟩, .string ⟨List.toArray ty⟩, .string ⟨List.toArray mf⟩, .string ⟨List.toArray nf⟩, .slice va K2.length vc, .slice ua L2.length uc, .int .i64 tb]) rfl (by simp [Value.oneCell']) (us := ztL) rfl (Blk.new' (by simp)) ?_; intro w4 N4 m4; have N5 := (N2.alloc (.cells ztA 27)).mod m4 (by simp; omega)) | (refine wpList_rowLoadG row_trust ?hw (.tmp 13) rfl rfl (vs := [.int .i64 d1, .int .i64 d2, .int .i64 d3, .bool eb, .string ⟨List.toArray pb⟩, .string ⟨List.toArray su⟩, .string ⟨List.toArray rd⟩, .string ⟨List.toArray ty⟩, .string ⟨List.toArray mf⟩, .string ⟨List.toArray nf⟩, .slice va K2.length vc, .slice ua L2.length uc, .int .i64 tb]) rfl N4 ?_; (case hw => rfl)) | (refine wpList_rowLoadG row_trust ?hw (.tmp 12) rfl rfl (vs := [.int .i64 a1, .int .i64 a2, .int .i64 a3, .bool lb, .string ⟨List.toArray pa⟩, .string ⟨List.toArray st⟩, .string ⟨List.toArray rc⟩, .string ⟨List.toArray tx⟩, .string ⟨List.toArray me⟩, .string ⟨List.toArray ne⟩, .slice ka K.length kc, .slice ma L.length mc, .int .i64 ta]) rfl N5 ?_; (case hw => rfl)))
      have hbm := Below.mod (Below.allocS (Below.refl w2.heap.size w2) (.cells ztA 27)) m4 (by simp) (by simp)
      have hbq := hbn.trans (hbm.mono hbn.size)
      have hb4 := hbr.trans (hbq.mono hbr.size)
      refine (q3 _ _ w4 ⟨_, _, rfl, (r1.keep hbm).ss, (r2.keep hbm).ms⟩ ⟨_, _, rfl, h1.keep hb4, h2.keep hb4⟩).mono ?_
      rintro e w5 ⟨rfl, hbx⟩
      have hM5 := (hMr.keep hbq).keep hbx
      have hS5 := (hSr.keep hbq).keep hbx
      have hb5 := hb4.trans (hbx.mono hb4.size)
      have hs5 := hb5.size
      have hs6 := hbq.size
      have hs7 := hbx.size
      have hbs := HBASE.out
      have hml := hMr.lt
      replace N5 := N5.keep hbx
      clear hrun hMr hSr hbn hbm hbq N2 N4 m2 m4 b1 b2 b3 hR2 hbr hbx hb4 hov r1 r2 q3 h1 h2
      cases sm
      ·have HNO : Hid (addsT l T = none) := Lib.hid (by rw [HA.out, HDR.out]; exact addsT_clash HCC.out)
       have hMo := HTM.out.keep hb5
       have hBo := HB0.out.keep hb5
       have hDo := HD.out.keep hb5
       have hJo := HJ.out.keep hb5
       clear q4
       go_wp2_with fail
       all_goals (go_ret; rw [addS_there HF.out HNO.out]; exact ⟨m, rfl, hBo, hMo, hDo, hJo, Mod.of_below hb5⟩)
      ·have HA2 : Hid (addsT l T = addsT (l.drop (i + 1)) (putK Ti a1 ⟨⟨a1, a2, a3, lb, pa, st, rc, tx, me, ne, K⟩, L, ta⟩)) := Lib.hid (by rw [HA.out, HDR.out]; exact addsT_step HCC.out)
       go_wp2_with fail
       refine wpH_startM [m'] (by kernel_rfl) (fun hS => ?_)
       (refine hP 0 ?_ ⟨some 62, .move (.tmp 10), 120, "", #[], none⟩ hS ?_ ?_; rotate_left; focus (intro w; go_simp; try with_reducible rfl))
       try simp only [pna, pnb, pnc, pnd, pne]
       (refine hP 1 ?_ ⟨some 63, .fieldAddr 27 (.tmp 12) 0, 0, "", #[], none⟩ hS ?_ ?_; rotate_left; focus (intro w; go_simp; try with_reducible rfl))
       try simp only [pna, pnb, pnc, pnd, pne]
       (refine hP 2 ?_ ⟨some 64, .fieldAddr 24 (.tmp 63) 0, 0, "", #[], none⟩ hS ?_ ?_; rotate_left; focus (intro w; go_simp; try with_reducible rfl))
       try simp only [pna, pnb, pnc, pnd, pne]
       refine wpH_load 3 (.int .i64 a1) (oi := { dst := some 65, op := Op.load 3 (Operand.tmp 64), type := 3, pos := "store.go:90", after := #[{ on := 2, ground := Ground.data }], guard := none }) rfl (by kernel_rfl) (by kernel_rfl) (by kernel_rfl) (by rfl) hS (fun _ _ _ h => h) (fun w hb2 => (by have c := (N5.mod hb2 (by simp; omega)).cell 0; go_simp; try rfl)) ?_
       try simp only [pna, pnb, pnc, pnd, pne]
       refine wpH_row row_trust 4 (oi := { dst := some 66, op := Op.load 27 (Operand.tmp 12), type := 27, pos := "store.go:90", after := #[], guard := none }) rfl (by kernel_rfl) (by kernel_rfl) (by kernel_rfl) (by rfl) hS (vs := [.int .i64 a1, .int .i64 a2, .int .i64 a3, .bool lb, .string ⟨List.toArray pa⟩, .string ⟨List.toArray st⟩, .string ⟨List.toArray rc⟩, .string ⟨List.toArray tx⟩, .string ⟨List.toArray me⟩, .string ⟨List.toArray ne⟩, .slice ka K.length kc, .slice ma L.length mc, .int .i64 ta]) (fun _ _ _ h => h) (.tmp 12) rfl rfl (rfl) (fun w hb2 => N5.mod hb2 (by simp; omega)) ?_
       try simp only [pna, pnb, pnc, pnd, pne]
       refine wpH_call 5 (oi := { dst := some 67, op := Op.call { callee := Callee.value (Operand.func 72), args := #[Operand.tmp 66], argTypes := #[27] }, type := 27, pos := "store.go:90", after := #[{ on := 4, ground := Ground.data }], guard := none }) rfl (by kernel_rfl) (by rfl) (q4 _ (Below.mod hb5 hS hs5 (by simp; omega))) ?_ ?_
       ·(go_simp; try rfl)
       rintro e w' ⟨v7, rfl, hvr, hbx⟩
       refine ⟨_, rfl, hS.trans (Mod.of_below hbx), ?_⟩
       replace hS := hS.trans (Mod.of_below hbx)
       try simp only [pna, pnb, pnc, pnd, pne]
       refine wpH_op 6 (oi := { dst := none, op := Op.mapUpdate 120 (Operand.tmp 62) (Operand.tmp 65) (Operand.tmp 67), type := 0, pos := "store.go:90", after := #[{ on := 0, ground := Ground.data }, { on := 3, ground := Ground.data }, { on := 5, ground := Ground.data }, { on := 5, ground := Ground.chain }, { on := 0, ground := Ground.phase }, { on := 1, ground := Ground.phase }, { on := 2, ground := Ground.phase }, { on := 3, ground := Ground.phase }, { on := 4, ground := Ground.phase }, { on := 5, ground := Ground.phase }], guard := none }) rfl (by kernel_rfl) (by rfl) ?_
       have hM6 := hM5.drew.keep hbx
       have hS6 := hS5.drew.keep hbx
       obtain ⟨es6, c6, hblk⟩ := hM6.block
       refine wp_mapT (.tmp 62) (.tmp 65) (.tmp 67) rfl rfl hM6 (by omega) a1 l3 rfl rfl (hvr.low (show base ≤ w5.heap.size from by omega)) ?_
       rintro w7 hM7 hg7
       have hS7 := hS6.grown hblk hg7
       have m7 : Mod [m'] _ w7 := hS.trans (grown_mod hg7)
       refine ⟨m7, ?_⟩
       try simp only [pna, pnb, pnc, pnd, pne]
       refine wpAnyH_done (by kernel_rfl) ?_ _
       have hb7 := Below.mod hb5 m7 hs5 (by simp; omega)
       clear hM6 hS6 hblk hg7 hbx hS q4 hM5 hS5 N5 hb5
       go_wp2_with fail
       exact ⟨⟨i + 1, putK Ti a1 ⟨⟨a1, a2, a3, lb, pa, st, rc, tx, me, ne, K⟩, L, ta⟩, by omega, by go_num, hM7, HA2, by have := putK_len Ti a1 ⟨⟨a1, a2, a3, lb, pa, st, rc, tx, me, ne, K⟩, L, ta⟩; omega, hS7, hb7⟩, by simp [intOf]; omega⟩
     ·go_wp2_with (first | (refine wpList_rowLoadAt row_trust rfl (.tmp 45) rfl rfl rfl hR2 ?_) | (refine wpList_rowStore row_trust rfl rfl (.tmp 12) (.tmp 46) rfl rfl rfl (vs := [.int .i64 a1, .int .i64 a2, .int .i64 a3, .bool lb, .string ⟨List.toArray pa⟩, .string ⟨List.toArray st⟩, .string ⟨List.toArray rc⟩, .string ⟨List.toArray tx⟩, .string ⟨List.toArray me⟩, .string ⟨List.toArray ne⟩, .slice ka K.length kc, .slice ma L.length mc, .int .i64 ta]) rfl (by simp [Value.oneCell']) (us := ztL) rfl (Blk.new' (by simp)) ?_; intro w2 N2 m2; obtain ⟨b1, b2, b3⟩ := id N2; have hbn := Below.mod (Below.allocS (Below.refl wr.heap.size wr) (.cells ztA 27)) m2 (by simp) (by simp); obtain ⟨v, hrun, _, hnv⟩ := (hMr.keep hbn).look a1 l3; rw [decide_eq_false hin] at hrun; obtain rfl := hnv hin) | (refine wpList_rowStore row_trust rfl rfl (.tmp 13) (.tmp 53) rfl rfl rfl (vs := [.int .i64 0, .int .i64 0, .int .i64 0, .bool false, .string ⟨List.toArray []⟩, .string ⟨List.toArray []⟩, .string ⟨List.toArray []⟩, .string ⟨List.toArray []⟩, .string ⟨List.toArray []⟩, .string ⟨List.toArray []⟩, .slice none 0 0, .slice none 0 0, .int .i64 0]) rfl (by simp [Value.oneCell']) (us := ztL) rfl (Blk.new' (by simp)) ?_; intro w4 N4 m4))
      have HA2 : Hid (addsT l T = addsT (l.drop (i + 1)) (putK Ti a1 ⟨⟨a1, a2, a3, lb, pa, st, rc, tx, me, ne, K⟩, L, ta⟩)) := Lib.hid (by rw [HA.out, HDR.out]; exact addsT_step (clashT_new hin))
      have N5 := (N2.alloc (.cells ztA 27)).mod m4 (by simp; omega)
      have hbm := Below.mod (Below.allocS (Below.refl w2.heap.size w2) (.cells ztA 27)) m4 (by simp) (by simp)
      have hbq := hbn.trans (hbm.mono hbn.size)
      have hM5 := hMr.keep hbq
      have hS5 := hSr.keep hbq
      have hb5 := hbr.trans (hbq.mono hbr.size)
      have hs5 := hb5.size
      have hs6 := hbq.size
      have hbs := HBASE.out
      have hml := hMr.lt
      clear hrun hMr hSr hbn hbm hbq N2 N4 m2 m4 b1 b2 b3 hR2 hnv hbr
      refine wpH_startM [m'] (by kernel_rfl) (fun hS => ?_)
      (refine hP 0 ?_ ⟨some 62, .move (.tmp 10), 120, "", #[], none⟩ hS ?_ ?_; rotate_left; focus (intro w; go_simp; try with_reducible rfl))
      try simp only [pna, pnb, pnc, pnd, pne]
      (refine hP 1 ?_ ⟨some 63, .fieldAddr 27 (.tmp 12) 0, 0, "", #[], none⟩ hS ?_ ?_; rotate_left; focus (intro w; go_simp; try with_reducible rfl))
      try simp only [pna, pnb, pnc, pnd, pne]
      (refine hP 2 ?_ ⟨some 64, .fieldAddr 24 (.tmp 63) 0, 0, "", #[], none⟩ hS ?_ ?_; rotate_left; focus (intro w; go_simp; try with_reducible rfl))
      try simp only [pna, pnb, pnc, pnd, pne]
      refine wpH_load 3 (.int .i64 a1) (oi := { dst := some 65, op := Op.load 3 (Operand.tmp 64), type := 3, pos := "store.go:90", after := #[{ on := 2, ground := Ground.data }], guard := none }) rfl (by kernel_rfl) (by kernel_rfl) (by kernel_rfl) (by rfl) hS (fun _ _ _ h => h) (fun w hb2 => (by have c := (N5.mod hb2 (by simp; omega)).cell 0; go_simp; try rfl)) ?_
      try simp only [pna, pnb, pnc, pnd, pne]
      refine wpH_row row_trust 4 (oi := { dst := some 66, op := Op.load 27 (Operand.tmp 12), type := 27, pos := "store.go:90", after := #[], guard := none }) rfl (by kernel_rfl) (by kernel_rfl) (by kernel_rfl) (by rfl) hS (vs := [.int .i64 a1, .int .i64 a2, .int .i64 a3, .bool lb, .string ⟨List.toArray pa⟩, .string ⟨List.toArray st⟩, .string ⟨List.toArray rc⟩, .string ⟨List.toArray tx⟩, .string ⟨List.toArray me⟩, .string ⟨List.toArray ne⟩, .slice ka K.length kc, .slice ma L.length mc, .int .i64 ta]) (fun _ _ _ h => h) (.tmp 12) rfl rfl (rfl) (fun w hb2 => N5.mod hb2 (by simp; omega)) ?_
      try simp only [pna, pnb, pnc, pnd, pne]
      refine wpH_call 5 (oi := { dst := some 67, op := Op.call { callee := Callee.value (Operand.func 72), args := #[Operand.tmp 66], argTypes := #[27] }, type := 27, pos := "store.go:90", after := #[{ on := 4, ground := Ground.data }], guard := none }) rfl (by kernel_rfl) (by rfl) (q4 _ (Below.mod hb5 hS hs5 (by simp; omega))) ?_ ?_
      ·(go_simp; try rfl)
      rintro e w' ⟨v7, rfl, hvr, hbx⟩
      refine ⟨_, rfl, hS.trans (Mod.of_below hbx), ?_⟩
      replace hS := hS.trans (Mod.of_below hbx)
      try simp only [pna, pnb, pnc, pnd, pne]
      refine wpH_op 6 (oi := { dst := none, op := Op.mapUpdate 120 (Operand.tmp 62) (Operand.tmp 65) (Operand.tmp 67), type := 0, pos := "store.go:90", after := #[{ on := 0, ground := Ground.data }, { on := 3, ground := Ground.data }, { on := 5, ground := Ground.data }, { on := 5, ground := Ground.chain }, { on := 0, ground := Ground.phase }, { on := 1, ground := Ground.phase }, { on := 2, ground := Ground.phase }, { on := 3, ground := Ground.phase }, { on := 4, ground := Ground.phase }, { on := 5, ground := Ground.phase }], guard := none }) rfl (by kernel_rfl) (by rfl) ?_
      have hM6 := hM5.drew.keep hbx
      have hS6 := hS5.drew.keep hbx
      obtain ⟨es6, c6, hblk⟩ := hM6.block
      refine wp_mapT (.tmp 62) (.tmp 65) (.tmp 67) rfl rfl hM6 (by omega) a1 l3 rfl rfl (hvr.low (show base ≤ w4.heap.size from by omega)) ?_
      rintro w7 hM7 hg7
      have hS7 := hS6.grown hblk hg7
      have m7 : Mod [m'] _ w7 := hS.trans (grown_mod hg7)
      refine ⟨m7, ?_⟩
      try simp only [pna, pnb, pnc, pnd, pne]
      refine wpAnyH_done (by kernel_rfl) ?_ _
      have hb7 := Below.mod hb5 m7 hs5 (by simp; omega)
      clear hM6 hS6 hblk hg7 hbx hS q4 hM5 hS5 N5 hb5
      go_wp2_with fail
      exact ⟨⟨i + 1, putK Ti a1 ⟨⟨a1, a2, a3, lb, pa, st, rc, tx, me, ne, K⟩, L, ta⟩, by omega, by go_num, hM7, HA2, by have := putK_len Ti a1 ⟨⟨a1, a2, a3, lb, pa, st, rc, tx, me, ne, K⟩, L, ta⟩; omega, hS7, hb7⟩, by simp [intOf]; omega⟩
    ·have hil : i = l.length := by omega
     subst hil
     have HY : Hid (addsT l T = some Ti) := Lib.hid (by rw [HA.out, List.drop_length]; rfl)
     have hMo := HTM.out.keep hbr
     have hBo := HB0.out.keep hbr
     have hDo := HD.out.keep hbr
     have hJo := HJ.out.keep hbr
     have hKo := HK.out.keep hbr
     have hbs := HBASE.out
     have hsr := hbr.size
     have hml := hMr.lt
     have hJ : m ≠ p ∧ m ≠ j := by
      obtain ⟨es, c, hbl⟩ := hMo.block
      obtain ⟨vx, _, hx2⟩ := hDo.row
      exact ⟨hx2.notmap rfl hbl, hJo.notmap rfl hbl⟩
     clear hi hlt HA
     by_cases hnl : l = []
     ·subst hnl
      obtain rfl : BT = [] := hBT.symm
      have q5 := twrite_nil q sa sc wr
      have B6 : Blk (wr.setCell ⟨q, 0, none⟩ (.map (some m'))) q #[.map (some m'), .int .i64 span, .pointer (some ⟨j, 0, none⟩)] := by simpa using hBo.set 0 (.map (some m'))
      have m6 := (Mod.refl [q] wr).setCell (p := ⟨q, 0, none⟩) (.inl (by simp)) (.map (some m'))
      have hM6 := hMr.modl m6 (by simp; omega) (by simp; omega)
      have hJ6 := hJo.mod m6 (by simp; omega)
      have hD6 : DkV (wr.setCell ⟨q, 0, none⟩ (.map (some m'))) av p d := by
       obtain ⟨vx, hx1, hx2⟩ := hDo.row
       exact ⟨hDo.lt, vx, hx1.mod m6 hqa, hx2.mod m6 (by simp; omega)⟩
      have hmm := (Mod.of_below (l := [p, j, q]) hbr).trans (m6.sub (by simp))
      obtain ⟨b1, b2, b3⟩ := id hBo
      clear hMr hSr hDo hJo hKo hMo m6
      go_wp2_with fail
      refine q5.mono ?_
      rintro e w6 ⟨rfl, rfl⟩
      go_wp2_with fail
      go_ret
      rw [addS_none HY.out]
      exact ⟨m', rfl, B6, hM6, hD6, hJ6, hmm⟩
     ·have hBTn : BT ≠ [] := by rw [← hBT]; unfold batchT; simpa using hnl
      have q5 := twriteS_any av p j q (.map (some m)) span d br (.slice sa BT.length sc) BT hBTn (by rw [HBL.out]; exact hn) (HM.out HF.out) hf hrm hsl wr hKo hDo hJo hpj hja (fun x hx => Nat.lt_of_lt_of_le (HAV.out x hx) hsr) hBo hSr.ss
      have HYES := Lib.hid (addS_yes (d := d) (b := br) HF.out HY.out hnl)
      have HNO := Lib.hid (addS_no (d := d) (b := br) HF.out HY.out hnl)
      rw [hBT] at HYES HNO
      generalize wrS d br BT = R at *
      obtain ⟨d2, tb2, c⟩ := R
      simp only at q5 HYES HNO
      clear hDo hJo hKo
      go_wp2_with fail
      refine q5.mono ?_
      rintro e w6 ⟨rfl, hD6, hJ6, m6⟩
      have B6 := hBo.mod m6 (by simp; omega)
      have hM6 := hMr.modl m6 (by simp; omega) (by simp; omega)
      have hMo6 := hMo.modl m6 (by simp; omega) (by simp; exact ⟨hJ.1, hJ.2⟩)
      have hmm := (Mod.of_below (l := [p, j, q]) hbr).trans (m6.sub (by simp))
      obtain ⟨b1, b2, b3⟩ := id B6
      clear hMr hSr hBo hMo m6 q5
      by_cases hc : c = 0
      ·subst hc
       have HR := HYES.out rfl
       have B7 : Blk (w6.setCell ⟨q, 0, none⟩ (.map (some m'))) q #[.map (some m'), .int .i64 span, .pointer (some ⟨j, 0, none⟩)] := by simpa using B6.set 0 (.map (some m'))
       have m7 := (Mod.refl [q] w6).setCell (p := ⟨q, 0, none⟩) (.inl (by simp)) (.map (some m'))
       have hM7 := hM6.modl m7 (by simp; omega) (by simp; omega)
       have hJ7 := hJ6.mod m7 (by simp; omega)
       have hD7 : DkV (w6.setCell ⟨q, 0, none⟩ (.map (some m'))) av p d2 := by
        obtain ⟨vx, hx1, hx2⟩ := hD6.row
        exact ⟨hD6.lt, vx, hx1.mod m7 hqa, hx2.mod m7 (by simp; omega)⟩
       have hmm7 := hmm.trans (m7.sub (by simp))
       clear hD6 hJ6 hM6 m7
       go_wp2_with fail
       go_ret
       rw [HR]
       exact ⟨m', rfl, B7, hM7, hD7, hJ7, hmm7⟩
      ·have HR := HNO.out hc
       have hc1 : (c != 0) = true := by simpa using hc
       have hc2 : (c == 0) = false := by simpa using hc
       go_wp2_with fail
       all_goals (go_ret; rw [HR]; exact ⟨m, rfl, B6, hMo6, hD6, hJ6, hmm⟩)
theorem addS_false (d : Dk) (T : List (Int × Tr)) (l : List Tr) : addS d false T l = addD d T l := by
 unfold addS addD
 rfl
theorem tadd_anyS (av : List Nat) (base p j q m : Nat) (span : Int) (d : Dk) (T : List (Int × Tr)) (v : Value) (l : List Tr) (hn : l.length ≤ 1000) (hT : T.length ≤ 10000) (hm : mayR (batchT l) = true) (hf : -9223372036854775808 ≤ d.fuse ∧ d.fuse ≤ 9223372036854775807) (hrm : 0 ≤ d.room ∧ d.room ≤ 1048576) (hsl : d.s.length ≤ 1048576) (hcl : ∀ t ∈ l, t.head.skips.length ≤ 1000000 ∧ t.set.length ≤ 1000000 ∧ -9223372036854775808 ≤ t.head.height ∧ t.head.height ≤ 9223372036854775807) (w : World) (hk : KT w) (h : DkV w av p d) (hj : Blk w j #[.pointer (some ⟨p, 0, none⟩), .bool false]) (hpj : p ≠ j) (hja : j ∈ av) (hqa : q ∈ av) (hav : ∀ x ∈ av, x < w.heap.size) (hpb : p < base) (hjb : j < base) (hqb : q < base) (hpq : p ≠ q) (hqj : q ≠ j) (hbase : base ≤ w.heap.size) (B : Blk w q #[.map (some m), .int .i64 span, .pointer (some ⟨j, 0, none⟩)]) (hM : TrM w base m T) (hv : TL w v l) :
  Calls Tryz.prog 24 #[.pointer (some ⟨q, 0, none⟩), v] w fun e w' => ∃ m', e = .returned (.int .i64 ((addD d T l).2.2.1)) ∧ Blk w' q #[.map (some m'), .int .i64 span, .pointer (some ⟨j, 0, none⟩)] ∧ TrM w' base m' (addD d T l).2.1 ∧ DkV w' av p (addD d T l).1 ∧ Blk w' j #[.pointer (some ⟨p, 0, none⟩), .bool (addD d T l).2.2.2] ∧ Mod [p, j, q] w w' := by
 rw [← addS_false]
 exact tadds_any av base p j q m span d false T v l hn hT (fun _ => hm) hf hrm hsl w hk h hj hpj hja hqa hav hpb hjb hqb hpq hqj hbase B hM hv
end Go.Proofs.YthgjdaomcpinaaaGreatDoor
