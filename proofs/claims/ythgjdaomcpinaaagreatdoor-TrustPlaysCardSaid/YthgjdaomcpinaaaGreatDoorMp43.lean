/- TDropS, TTrimS. -/
import Derived.Test.YthgjdaomcpinaaaGreatDoorMp42
set_option linter.unnecessarySimpa false
set_option linter.unusedSimpArgs false
set_option linter.unusedVariables false
set_option maxRecDepth 100000
set_option maxHeartbeats 32000000
namespace Go.Proofs.YthgjdaomcpinaaaGreatDoor
open Go.RowKit Go.WideMaps Go.Maps Go.Sort Go.Shelf Pl
def dropS (d : Dk) (b : Bool) (T : List (Int × Tr)) (l : List Int) : Dk × List (Int × Tr) × Int × Bool :=
 match dropsT l T with
  | none => (d, T, 5, b)
  | some T' => if l = [] then (d, T', 0, b) else if (wrS d b (goesT l)).2.2 = 0 then ((wrS d b (goesT l)).1, T', 0, (wrS d b (goesT l)).2.1) else ((wrS d b (goesT l)).1, T, (wrS d b (goesT l)).2.2, (wrS d b (goesT l)).2.1)
theorem dropS_there {d : Dk} {b : Bool} {T : List (Int × Tr)} {l : List Int} (h2 : dropsT l T = none) : dropS d b T l = (d, T, 5, b) := by
 unfold dropS
 rw [h2]
theorem dropS_none {d : Dk} {b : Bool} {T T' : List (Int × Tr)} (h2 : dropsT [] T = some T') : dropS d b T [] = (d, T', 0, b) := by
 unfold dropS
 rw [h2]
 simp
theorem dropS_yes {d : Dk} {b : Bool} {T T' : List (Int × Tr)} {l : List Int} (h2 : dropsT l T = some T') (hn : l ≠ []) (h3 : (wrS d b (goesT l)).2.2 = 0) : dropS d b T l = ((wrS d b (goesT l)).1, T', 0, (wrS d b (goesT l)).2.1) := by
 unfold dropS
 rw [h2]
 simp only
 rw [if_neg hn, if_pos h3]
theorem dropS_no {d : Dk} {b : Bool} {T T' : List (Int × Tr)} {l : List Int} (h2 : dropsT l T = some T') (hn : l ≠ []) (h3 : (wrS d b (goesT l)).2.2 ≠ 0) : dropS d b T l = ((wrS d b (goesT l)).1, T, (wrS d b (goesT l)).2.2, (wrS d b (goesT l)).2.1) := by
 unfold dropS
 rw [h2]
 simp only
 rw [if_neg hn, if_neg h3]
theorem tdrops_any (av : List Nat) (base p j q m : Nat) (span : Int) (d : Dk) (br : Bool) (T : List (Int × Tr)) (v : Value) (l : List Int) (hn : l.length ≤ 1000) (hT : T.length ≤ 10000) (hm : mayR (goesT l) = true) (hf : -9223372036854775808 ≤ d.fuse ∧ d.fuse ≤ 9223372036854775807) (hrm : 0 ≤ d.room ∧ d.room ≤ 1048576) (hsl : d.s.length ≤ 1048576) (hcl : ∀ k ∈ hts T, 0 ≤ k ∧ k ≤ 9223372036854775807) (hki : ∀ k ∈ l, -9223372036854775808 ≤ k ∧ k ≤ 9223372036854775807) (w : World) (hk : KT w) (h : DkV w av p d) (hj : Blk w j #[.pointer (some ⟨p, 0, none⟩), .bool br]) (hpj : p ≠ j) (hja : j ∈ av) (hqa : q ∈ av) (hav : ∀ x ∈ av, x < w.heap.size) (hpb : p < base) (hjb : j < base) (hqb : q < base) (hpq : p ≠ q) (hqj : q ≠ j) (hbase : base ≤ w.heap.size) (B : Blk w q #[.map (some m), .int .i64 span, .pointer (some ⟨j, 0, none⟩)]) (hM : TrM w base m T) (hv : IS w v l) :
  Calls Tryz.prog 25 #[.pointer (some ⟨q, 0, none⟩), v] w fun e w' => ∃ m', e = .returned (.int .i64 ((dropS d br T l).2.2.1)) ∧ Blk w' q #[.map (some m'), .int .i64 span, .pointer (some ⟨j, 0, none⟩)] ∧ TrM w' base m' (dropS d br T l).2.1 ∧ DkV w' av p (dropS d br T l).1 ∧ Blk w' j #[.pointer (some ⟨p, 0, none⟩), .bool (dropS d br T l).2.2.2] ∧ Mod [p, j, q] w w' := by
 have hpa := h.lt
 have HAV := Lib.hid hav
 obtain ⟨a, cap, rfl⟩ := hv.form
 obtain ⟨D, ho, hD⟩ := id hM
 have HN := Lib.hid hn
 have HCL := Lib.hid hcl
 have HKI := Lib.hid hki
 have HM := Lib.hid hm
 have HV := Lib.hid hv
 have HJ := Lib.hid hj
 have HD := Lib.hid h
 have HTM := Lib.hid hM
 have HK := Lib.hid hk
 have HB0 := Lib.hid B
 have HBASE := Lib.hid hbase
 have HTD := Lib.hid hD
 have q2 := AnyW.maps_Clone_owns laysCloneMap 3 hTv m T.length D w ho
 obtain ⟨b1, b2, b3⟩ := id B
 clear hcl hm hv hj h hM hk B hbase hav hD ho hki
 go_enter Tryz.func25, Tryz.ntmps25
 go_wp2_with fail
 refine q2.mono ?_
 rintro e w1 ⟨rfl, h1, h2, hb⟩
 obtain ⟨m', hm'⟩ : ∃ m', m' = w.heap.size := ⟨_, rfl⟩
 rw [← hm'] at h1 ⊢
 have hmw : w.heap.size ≤ m' := by omega
 have hml := h1.lt
 clear q2 hm' h2 b1 b2 b3
 go_wp2_with fail
 go_loopw [5, 21] (fun s5 s21 wr => ∃ (i : Nat) (Ti : List (Int × Tr)) (Di : DataW Value), i ≤ l.length ∧ s21 = .int .i64 i ∧ SRow wr w.heap.size s5 (goesT (l.take i)) ∧ wr.ownsMap (H := Value) Tryz.prog 3 hTv m' Ti.length Di ∧ Hid (TrD w base Di Ti) ∧ Hid (dropsT l T = dropsT (l.drop i) Ti) ∧ Hid (∀ k ∈ hts Ti, k ∈ hts T) ∧ Ti.length ≤ T.length ∧ Below w.heap.size w wr) (fun _ s21 _ => l.length - (intOf s21).toNat)
 case atStart => exact ⟨0, T, D, by omega, rfl, SRow.nil _ _, h1, HTD, Lib.hid (by rw [List.drop_zero]), Lib.hid (fun k hk => hk), Nat.le_refl _, hb⟩
 case round =>
  obtain ⟨i, Ti, Di, hi, rfl, hS, hoi, HDi, HA, HSUB, hTl, hbr⟩ := hrel
  clear h1 hb hml
  obtain ⟨sa, sc, rfl⟩ := hS.form
  by_cases hlt : i < l.length
  ·have hbd : 0 ≤ (i : Int) ∧ (i : Int) < (l.length : Int) := by omega
   obtain ⟨g, off, e1, hg, c1⟩ := ((HV.out).keep hbr).at' i hlt
   subst e1
   have hmem : l.getD i 0 ∈ l := by rw [List.getD_eq_getElem?_getD, List.getElem?_eq_getElem hlt]; exact List.getElem_mem _
   have HSN := Lib.hid (goes_snoc l i hlt)
   have HDR := Lib.hid (dropZ l i hlt)
   have HBL : Hid ((goesT (l.take i)).length = (l.take i).length) := Lib.hid (goes_len (l.take i))
   have hbl : (goesT (l.take i)).length ≤ 1000 := by rw [HBL.out, List.length_take]; omega
   have hkb := HKI.out _ hmem
   generalize l.getD i 0 = k at *
   generalize goesT (l.take i) = BT at *
   clear hmem
   have hMr : TrM wr base m' Ti := ⟨Di, hoi, HDi.out.keepB hbr⟩
   by_cases hin : k ∈ hts Ti
   ·obtain ⟨t, ht⟩ := hts_mem hin
    have HT2 : Hid (dropsT l T = dropsT (l.drop (i + 1)) (delK Ti k)) := Lib.hid (by rw [HA.out, HDR.out]; exact if_pos hin)
    have htd := hoi.tidy keyedI
    have hsz := size_del htd (k := .int .i64 k)
    have HD2 := Lib.hid (HDi.out.del htd hin)
    have hdl := delK_len HDi.out.nodup hin
    have hkp := HCL.out k (HSUB.out k hin)
    have HSUB2 : Hid (∀ x ∈ hts (delK Ti k), x ∈ hts T) := Lib.hid (fun x hx => HSUB.out x (delK_keys.1 hx).1)
    obtain ⟨kn, rfl⟩ : ∃ kn : Nat, k = kn := ⟨k.toNat, by omega⟩
    have q3 := fun W => cNum_any kn (by omega) W
    have l3 := num_len kn
    rw [Int.toNat_natCast] at HSN
    generalize num kn = X at *
    have k1 : ¬ 9223372036854775807 < 1 + X.length := by omega
    have hsr := hbr.size
    have hmlt := hoi.lt
    obtain ⟨v, hrun, hv1, _⟩ := hMr.look (kn : Int) hkb
    rw [decide_eq_true hin] at hrun
    obtain ⟨sk, ms, rfl, r1, r2⟩ := hv1 t ht
    obtain ⟨ka, kc, rfl⟩ := r1.form
    obtain ⟨ma, mc, rfl⟩ := r2.form
    have hS2 := hS.alloc (.cells #[.int .i64 t.head.height, .int .i64 t.head.epoch, .int .i64 t.head.view, .bool t.head.last, .string ⟨List.toArray t.head.parent⟩, .string ⟨List.toArray t.head.state⟩, .string ⟨List.toArray t.head.receipts⟩, .string ⟨List.toArray t.head.txs⟩, .string ⟨List.toArray t.head.members⟩, .string ⟨List.toArray t.head.next⟩, .slice ka t.head.skips.length kc, .slice ma t.set.length mc, .int .i64 t.at_] 27)
    have ho2 := hoi.alloc (.cells #[.int .i64 t.head.height, .int .i64 t.head.epoch, .int .i64 t.head.view, .bool t.head.last, .string ⟨List.toArray t.head.parent⟩, .string ⟨List.toArray t.head.state⟩, .string ⟨List.toArray t.head.receipts⟩, .string ⟨List.toArray t.head.txs⟩, .string ⟨List.toArray t.head.members⟩, .string ⟨List.toArray t.head.next⟩, .slice ka t.head.skips.length kc, .slice ma t.set.length mc, .int .i64 t.at_] 27)
    have hb2 := Below.allocS hbr (.cells #[.int .i64 t.head.height, .int .i64 t.head.epoch, .int .i64 t.head.view, .bool t.head.last, .string ⟨List.toArray t.head.parent⟩, .string ⟨List.toArray t.head.state⟩, .string ⟨List.toArray t.head.receipts⟩, .string ⟨List.toArray t.head.txs⟩, .string ⟨List.toArray t.head.members⟩, .string ⟨List.toArray t.head.next⟩, .slice ka t.head.skips.length kc, .slice ma t.set.length mc, .int .i64 t.at_] 27)
    have hs2 : wr.heap.size ≤ (wr.alloc (.cells #[.int .i64 t.head.height, .int .i64 t.head.epoch, .int .i64 t.head.view, .bool t.head.last, .string ⟨List.toArray t.head.parent⟩, .string ⟨List.toArray t.head.state⟩, .string ⟨List.toArray t.head.receipts⟩, .string ⟨List.toArray t.head.txs⟩, .string ⟨List.toArray t.head.members⟩, .string ⟨List.toArray t.head.next⟩, .slice ka t.head.skips.length kc, .slice ma t.set.length mc, .int .i64 t.at_] 27)).heap.size := by simp
    clear hv1 r1 r2 hS hoi hMr ht
    go_wp2_with (first
     | (at_delete; refine wpList_delete_own _ rfl _ _ 120 3 rfl 27 keyedI Tryz.underlying120 hTv m' _ Di rfl ho2 _ _ rfl (keyI (kn : Int) hkb) ?_; intro w3 ho3 ht3)
     | fail)
    have hg3 := ht3.grown
    obtain ⟨es2, c2, hblk2⟩ := ownsMap_block ho2
    have hS3 := hS2.grown hblk2 hg3
    have hb3 := Below.mod hb2 (grown_mod hg3) (by omega) (by intro x hx; simp at hx; omega)
    have hs3 := hg3.size
    refine (q3 _).mono ?_
    rintro e w4 ⟨rfl, hbx⟩
    have hS4 := hS3.keep hbx
    have ho4 := tmap_at ho3 (hbx.block m' (by have := ho3.lt; exact this))
    have hb4 := hb3.trans (hbx.mono hb3.size)
    have hs4 := hbx.size
    obtain ⟨es4, c4, hblk4⟩ := ownsMap_block ho4
    have hS5 := hS4.alloc (.cells #[.string ⟨List.toArray (2 :: X)⟩] 9)
    have hb5 := Below.allocS hb4 (.cells #[.string ⟨List.toArray (2 :: X)⟩] 9)
    have ho5 := ho4.alloc (.cells #[.string ⟨List.toArray (2 :: X)⟩] 9)
    have hn5 : ∀ x, (Value.slice sa BT.length sc).ownBlock = some x → x ≠ m' := fun x hx => hS4.notmap hblk4 hx
    have hw5 : ∀ x, (Value.slice sa BT.length sc).ownBlock = some x → w.heap.size ≤ x := fun x hx => hS4.own x hx
    have HN5 := Lib.hid hn5
    have HW5 := Lib.hid hw5
    clear q3 hbx hb3 hS3 ho3 hS2 ho2 hb2 hrun hS4 ho4 hn5 hw5
    have hszw : w.heap.size ≤ w4.heap.size := hb4.size
    go_wp2_with (first | (at_builtin; refine wpList_appAtT rfl (.tmp 40) (.tmp 43) rfl w.heap.size _ BT rfl hS5 _ [2 :: X] rfl (SS.of (l := [2 :: X]) (by simp) (by unfold maxLen; omega) (by simp) (ssrc1 _ _ _)) (by simp; omega) (by simp; omega) ?_; rintro v6 w6 hS6 hg6 hv6))
    have ho6 := ho5.kept hg6 (by intro e; exact HN5.out m' e.symm rfl)
    have hb6 := Below.mod hb5 (grown_mod hg6) hb5.size (by intro x hx; have h := Option.mem_toList.1 hx; exact HW5.out x h)
    rw [show Ti.length = (delK Ti (kn : Int)).length + 1 from hdl.symm] at ho6
    have ho7 := ownsMap_tight ho6
    rw [HD2.out.size] at ho7
    exact ⟨⟨i + 1, delK Ti (kn : Int), _, by omega, by go_num, by rw [HSN.out]; exact hS6, ho7, HD2, HT2, HSUB2, by omega, hb6⟩, by simp [intOf]; omega⟩
   ·have HNO : Hid (dropsT l T = none) := Lib.hid (by rw [HA.out, HDR.out]; exact if_neg hin)
    obtain ⟨v, hrun, _, hnv⟩ := hMr.look k hkb
    rw [decide_eq_false hin] at hrun
    obtain rfl := hnv hin
    have hMo := fun (W : World) (hb : Below w.heap.size w W) => HTM.out.keep hb
    go_wp2_with (first | (refine wpList_rowStore row_trust rfl rfl (.tmp 9) (.tmp 29) rfl rfl rfl (vs := [.int .i64 0, .int .i64 0, .int .i64 0, .bool false, .string ⟨List.toArray []⟩, .string ⟨List.toArray []⟩, .string ⟨List.toArray []⟩, .string ⟨List.toArray []⟩, .string ⟨List.toArray []⟩, .string ⟨List.toArray []⟩, .slice none 0 0, .slice none 0 0, .int .i64 0]) rfl (by simp [Value.oneCell']) (us := ztL) rfl (Blk.new' (by simp)) ?_; intro w2 N2 m2; have hbn := Below.mod (Below.allocS (Below.refl wr.heap.size wr) (.cells ztA 27)) m2 (by simp) (by simp); have hb2 := hbr.trans (hbn.mono hbr.size)))
    all_goals (go_ret; rw [dropS_there HNO.out]; first | exact ⟨m, rfl, HB0.out.keep hb2, HTM.out.keep hb2, HD.out.keep hb2, HJ.out.keep hb2, Mod.of_below hb2⟩ | exact ⟨rfl, m, HB0.out.keep hb2, HTM.out.keep hb2, HD.out.keep hb2, HJ.out.keep hb2, Mod.of_below hb2⟩)
  ·have hil : i = l.length := by omega
   subst hil
   rw [List.take_length] at hS
   have hMr : TrM wr base m' Ti := ⟨Di, hoi, HDi.out.keepB hbr⟩
   have HBL := Lib.hid (goes_len l)
   generalize hBT : goesT l = BT at *
   have HY : Hid (dropsT l T = some Ti) := Lib.hid (by rw [HA.out, List.drop_length]; rfl)
   have hMo := HTM.out.keep hbr
   have hBo := HB0.out.keep hbr
   have hDo := HD.out.keep hbr
   have hJo := HJ.out.keep hbr
   have hKo := HK.out.keep hbr
   have hbs := HBASE.out
   have hsr := hbr.size
   have hml := hMr.lt
   have hJ : m ≠ p ∧ m ≠ j := by
    obtain ⟨es, c, hbl⟩ := hMo.block
    obtain ⟨vx, _, hx2⟩ := hDo.row
    exact ⟨hx2.notmap rfl hbl, hJo.notmap rfl hbl⟩
   clear hi hlt HA
   by_cases hnl : l = []
   ·subst hnl
    obtain rfl : BT = [] := hBT.symm
    have q5 := twrite_nil q sa sc wr
    have B6 : Blk (wr.setCell ⟨q, 0, none⟩ (.map (some m'))) q #[.map (some m'), .int .i64 span, .pointer (some ⟨j, 0, none⟩)] := by simpa using hBo.set 0 (.map (some m'))
    have m6 := (Mod.refl [q] wr).setCell (p := ⟨q, 0, none⟩) (.inl (by simp)) (.map (some m'))
    have hM6 := hMr.modl m6 (by simp; omega) (by simp; omega)
    have hJ6 := hJo.mod m6 (by simp; omega)
    have hD6 : DkV (wr.setCell ⟨q, 0, none⟩ (.map (some m'))) av p d := by
     obtain ⟨vx, hx1, hx2⟩ := hDo.row
     exact ⟨hDo.lt, vx, hx1.mod m6 hqa, hx2.mod m6 (by simp; omega)⟩
    have hmm := (Mod.of_below (l := [p, j, q]) hbr).trans (m6.sub (by simp))
    obtain ⟨b1, b2, b3⟩ := id hBo
    clear hMr hS hDo hJo hKo hMo m6
    go_wp2_with fail
    refine q5.mono ?_
    rintro e w6 ⟨rfl, rfl⟩
    go_wp2_with fail
    go_ret
    rw [dropS_none HY.out]
    exact ⟨m', rfl, B6, hM6, hD6, hJ6, hmm⟩
   ·have hBTn : BT ≠ [] := by rw [← hBT]; unfold goesT; simpa using hnl
    have q5 := twriteS_any av p j q (.map (some m)) span d br (.slice sa BT.length sc) BT hBTn (by rw [HBL.out]; exact hn) HM.out hf hrm hsl wr hKo hDo hJo hpj hja (fun x hx => Nat.lt_of_lt_of_le (HAV.out x hx) hsr) hBo hS.ss
    have HYES := Lib.hid (dropS_yes (d := d) (b := br) HY.out hnl)
    have HNO := Lib.hid (dropS_no (d := d) (b := br) HY.out hnl)
    rw [hBT] at HYES HNO
    generalize wrS d br BT = R at *
    obtain ⟨d2, tb2, c⟩ := R
    simp only at q5 HYES HNO
    clear hDo hJo hKo
    go_wp2_with fail
    refine q5.mono ?_
    rintro e w6 ⟨rfl, hD6, hJ6, m6⟩
    have B6 := hBo.mod m6 (by simp; omega)
    have hM6 := hMr.modl m6 (by simp; omega) (by simp; omega)
    have hMo6 := hMo.modl m6 (by simp; omega) (by simp; exact ⟨hJ.1, hJ.2⟩)
    have hmm := (Mod.of_below (l := [p, j, q]) hbr).trans (m6.sub (by simp))
    obtain ⟨b1, b2, b3⟩ := id B6
    clear hMr hS hBo hMo m6 q5
    by_cases hc : c = 0
    ·subst hc
     have HR := HYES.out rfl
     have B7 : Blk (w6.setCell ⟨q, 0, none⟩ (.map (some m'))) q #[.map (some m'), .int .i64 span, .pointer (some ⟨j, 0, none⟩)] := by simpa using B6.set 0 (.map (some m'))
     have m7 := (Mod.refl [q] w6).setCell (p := ⟨q, 0, none⟩) (.inl (by simp)) (.map (some m'))
     have hM7 := hM6.modl m7 (by simp; omega) (by simp; omega)
     have hJ7 := hJ6.mod m7 (by simp; omega)
     have hD7 : DkV (w6.setCell ⟨q, 0, none⟩ (.map (some m'))) av p d2 := by
      obtain ⟨vx, hx1, hx2⟩ := hD6.row
      exact ⟨hD6.lt, vx, hx1.mod m7 hqa, hx2.mod m7 (by simp; omega)⟩
     have hmm7 := hmm.trans (m7.sub (by simp))
     clear hD6 hJ6 hM6 m7
     go_wp2_with fail
     go_ret
     rw [HR]
     exact ⟨m', rfl, B7, hM7, hD7, hJ7, hmm7⟩
    ·have HR := HNO.out hc
     have hc1 : (c != 0) = true := by simpa using hc
     have hc2 : (c == 0) = false := by simpa using hc
     go_wp2_with fail
     all_goals (go_ret; rw [HR]; exact ⟨m, rfl, B6, hMo6, hD6, hJ6, hmm⟩)
end Go.Proofs.YthgjdaomcpinaaaGreatDoor
namespace Go.Proofs.YthgjdaomcpinaaaGreatDoor
open Go.RowKit Go.WideMaps Go.Maps Go.Sort Go.Shelf Pl
theorem ttrims_any (av : List Nat) (base p j q m : Nat) (span most now : Int) (d : Dk) (br : Bool) (T : List (Int × Tr)) (hmo : 1 ≤ most ∧ most ≤ 9223372036854775807) (hnow : -9223372036854775808 ≤ now ∧ now ≤ 9223372036854775807) (hsp : 0 ≤ span ∧ span ≤ 1099511627776) (hT : T.length ≤ 1000) (hsm : TrSm T) (hm : mayR (goesT (goneG T span now most)) = true) (hf : -9223372036854775808 ≤ d.fuse ∧ d.fuse ≤ 9223372036854775807) (hrm : 0 ≤ d.room ∧ d.room ≤ 1048576) (hsl : d.s.length ≤ 1048576) (hcl : ∀ k ∈ hts T, 0 ≤ k ∧ k ≤ 9223372036854775807) (w : World) (hk : KT w) (h : DkV w av p d) (hj : Blk w j #[.pointer (some ⟨p, 0, none⟩), .bool br]) (hpj : p ≠ j) (hja : j ∈ av) (hqa : q ∈ av) (hav : ∀ x ∈ av, x < w.heap.size) (hpb : p < base) (hjb : j < base) (hqb : q < base) (hpq : p ≠ q) (hqj : q ≠ j) (hbase : base ≤ w.heap.size) (B : Blk w q #[.map (some m), .int .i64 span, .pointer (some ⟨j, 0, none⟩)]) (hM : TrM w base m T) :
  Calls Tryz.prog 30 #[.pointer (some ⟨q, 0, none⟩), .int .i64 most, .int .i64 now] w fun e w' => ∃ m', e = .returned (.tuple #[.int .i64 (trimN (dropS d br T (goneG T span now most)).2.2.1 (goneG T span now most).length), .int .i64 ((dropS d br T (goneG T span now most)).2.2.1)]) ∧ Blk w' q #[.map (some m'), .int .i64 span, .pointer (some ⟨j, 0, none⟩)] ∧ TrM w' base m' (dropS d br T (goneG T span now most)).2.1 ∧ DkV w' av p (dropS d br T (goneG T span now most)).1 ∧ Blk w' j #[.pointer (some ⟨p, 0, none⟩), .bool (dropS d br T (goneG T span now most)).2.2.2] ∧ Mod [p, j, q] w w' := by
 have d0 : decide (most < 1) = false := by simp; omega
 have q1 := theights_any base q m span (.pointer (some ⟨j, 0, none⟩)) T (by omega) w hM B
 have hlen : (sortZ (hts T)).length ≤ 1000 := by rw [sortZ_len]; unfold hts; rw [List.length_map]; exact hT
 have HMEM := Lib.hid (fun k (h : k ∈ (sortZ (hts T)).reverse) => sortZ_mem.1 (List.mem_reverse.1 h))
 obtain ⟨G, hG⟩ : ∃ G, G = goneG T span now most := ⟨_, rfl⟩
 rw [← hG] at hm ⊢
 have HG : Hid (trimG T span now most 0 [] (sortZ (hts T)).reverse = G.reverse) := Lib.hid (by rw [hG]; unfold goneG; rw [List.reverse_reverse])
 clear hG
 generalize sortZ (hts T) = Hs at *
 have HM := Lib.hid hm
 have HJ := Lib.hid hj
 have HD := Lib.hid h
 have HTM := Lib.hid hM
 have HK := Lib.hid hk
 have HB0 := Lib.hid B
 have HCL := Lib.hid hcl
 have HSM := Lib.hid hsm
 have HAV := Lib.hid hav
 clear hm hj h hM hk B hcl hsm hav
 go_enter Tryz.func30, Tryz.ntmps30
 go_wp2_with fail
 refine q1.mono ?_
 rintro e w1 ⟨v1, rfl, hz, hb⟩
 obtain ⟨za, zc, rfl⟩ := hz.form
 have hs1 := hb.size
 have q2 := rev_row w.heap.size _ Hs (by omega) w1 hs1 hz
 clear q1 hz
 go_wp2_with fail
 refine q2.mono ?_
 rintro e w2 ⟨rfl, hz2, hb2⟩
 have hbw2 := hb.trans hb2
 have hs2 := hbw2.size
 have hrl : Hs.reverse.length = Hs.length := List.length_reverse
 have HZ := Lib.hid hz2.is
 rw [← hrl] at HZ hlen
 rw [← hrl]
 generalize Hs.reverse = Rs at *
 clear q2 hb hb2 hz2 hrl hs1
 go_wp2_with fail
 go_loopw [9, 22] (fun s9 s22 wr => ∃ (i : Nat) (g : List Int), i ≤ Rs.length ∧ s22 = .int .i64 i ∧ ZRow wr w2.heap.size s9 g ∧ Hid (trimG T span now most i g (Rs.drop i) = G.reverse) ∧ g.length ≤ i ∧ Below w2.heap.size w2 wr) (fun _ s22 _ => Rs.length - (intOf s22).toNat)
 case atStart => exact ⟨0, [], by omega, rfl, ZRow.nil _ _, Lib.hid (by rw [List.drop_zero]; exact HG.out), by simp, Below.refl _ _⟩
 case round =>
  obtain ⟨i, g, hi, rfl, hzr, HA, hgl, hbr2⟩ := hrel
  have hbr := hbw2.trans (hbr2.mono hs2)
  obtain ⟨ga, gc, rfl⟩ := hzr.form
  by_cases hlt : i < Rs.length
  ·have hbd : 0 ≤ (i : Int) ∧ (i : Int) < (Rs.length : Int) := by omega
   obtain ⟨gg, off, e1, hg, c1⟩ := ((HZ.out).keep hbr2).at' i hlt
   subst e1
   have hmem : Rs.getD i 0 ∈ Rs := by rw [List.getD_eq_getElem?_getD, List.getElem?_eq_getElem hlt]; exact List.getElem_mem _
   have HDR := Lib.hid (dropZ Rs i hlt)
   have hkin := HMEM.out _ hmem
   generalize Rs.getD i 0 = k at *
   obtain ⟨t, ht⟩ := hts_mem hkin
   have hkb := HCL.out k hkin
   have hTMr := HTM.out.keep hbr
   have hBr := HB0.out.keep hbr
   obtain ⟨v, hrun, hv⟩ := hTMr.look0 k (by omega)
   have hfr := fresh_some (span := span) (now := now) (lookK_in HTM.out.nodup ht)
   obtain ⟨sk, ms, rfl, r1, r2⟩ := hv t ht
   obtain ⟨ka, kc, rfl⟩ := r1.form
   obtain ⟨ma, mc, rfl⟩ := r2.form
   have q3 := tr_stale q (.map (some m)) span (.pointer (some ⟨j, 0, none⟩)) _ t now hsp hnow wr hBr ⟨_, _, rfl, r1.ss, r2.ms⟩
   rw [show (decide (0 ≤ now) && decide (t.at_ ≤ now - span)) = staleT span now t from rfl] at q3
   have wr1 : IntKind.i64.wrap ((i : Int) - (g.length : Int)) = (i : Int) - (g.length : Int) := by rw [IntKind.wrap_i64]; omega
   have wr2 : wrap64 ((i : Int) - (g.length : Int)) = (i : Int) - (g.length : Int) := by rw [← IntWalk.i64_left, IntWalk.i64_in _ (by omega)]
   obtain ⟨b1, b2, b3⟩ := id hBr
   have HA2 : Hid (trimG T span now most (i + 1) (if 0 < i ∧ ¬ (freshK T span now k = true ∧ (i : Int) - (g.length : Int) < most) then g ++ [k] else g) (Rs.drop (i + 1)) = G.reverse) := Lib.hid (by rw [← HA.out, HDR.out]; rfl)
   rw [hfr] at HA2
   generalize staleT span now t = st at *
   have HZR := Lib.hid hzr
   clear hv hmem hkin ht hTMr hfr HA HDR hBr hzr r1 r2
   by_cases hi0 : i = 0
   ·have fi : decide ((0 : Int) < (i : Int)) = false := by simp; omega
    have fn : decide (0 < i) = false := by simp; omega
    have fp : ¬ 0 < i := by omega
    have HA3 : Hid (trimG T span now most (i + 1) g (Rs.drop (i + 1)) = G.reverse) := Lib.hid (by rw [← HA2.out, if_neg (by omega)])
    have hlt2 : i < Rs.length := hlt
    clear HA2 hi0
    cases st
    ·by_cases hlm : (i : Int) - (g.length : Int) < most
     ·have f1 : decide ((i : Int) - (g.length : Int) < most) = true := by simpa using hlm
      clear hlm
      go_wp2_with fail
      refine q3.mono ?_
      rintro e w5 ⟨rfl, hbx⟩
      go_wp2_with fail
      exact ⟨⟨i + 1, g, by omega, by go_num, HZR.out.keep hbx, HA3, by omega, hbr2.trans (hbx.mono hbr2.size)⟩, by simp [intOf]; omega⟩
     ·have f1 : decide ((i : Int) - (g.length : Int) < most) = false := by simpa using hlm
      clear hlm
      go_wp2_with fail
      refine q3.mono ?_
      rintro e w5 ⟨rfl, hbx⟩
      go_wp2_with fail
      exact ⟨⟨i + 1, g, by omega, by go_num, HZR.out.keep hbx, HA3, by omega, hbr2.trans (hbx.mono hbr2.size)⟩, by simp [intOf]; omega⟩
    ·go_wp2_with fail
     refine q3.mono ?_
     rintro e w5 ⟨rfl, hbx⟩
     go_wp2_with fail
     exact ⟨⟨i + 1, g, by omega, by go_num, HZR.out.keep hbx, HA3, by omega, hbr2.trans (hbx.mono hbr2.size)⟩, by simp [intOf]; omega⟩
   ·have fi : decide ((0 : Int) < (i : Int)) = true := by simp; omega
    have fn : decide (0 < i) = true := by simp; omega
    have fp : 0 < i := by omega
    cases st
    ·by_cases hlm : (i : Int) - (g.length : Int) < most
     ·have f1 : decide ((i : Int) - (g.length : Int) < most) = true := by simpa using hlm
      have HA3 : Hid (trimG T span now most (i + 1) g (Rs.drop (i + 1)) = G.reverse) := Lib.hid (by rw [← HA2.out, if_neg (by intro h; exact h.2 ⟨rfl, hlm⟩)])
      clear hlm HA2 hi0
      go_wp2_with fail
      refine q3.mono ?_
      rintro e w5 ⟨rfl, hbx⟩
      go_wp2_with fail
      exact ⟨⟨i + 1, g, by omega, by go_num, HZR.out.keep hbx, HA3, by omega, hbr2.trans (hbx.mono hbr2.size)⟩, by simp [intOf]; omega⟩
     ·have f1 : decide ((i : Int) - (g.length : Int) < most) = false := by simpa using hlm
      have HA3 : Hid (trimG T span now most (i + 1) (g ++ [k]) (Rs.drop (i + 1)) = G.reverse) := Lib.hid (by rw [← HA2.out, if_pos ⟨by omega, fun h => hlm h.2⟩])
      clear hlm HA2 hi0
      go_wp2_with fail
      refine q3.mono ?_
      rintro e w5 ⟨rfl, hbx⟩
      have hb5 := hbr.trans (hbx.mono hbr.size)
      have hb52 := hbr2.trans (hbx.mono hbr2.size)
      have hz5 := HZR.out.keep hbx
      have hs5 := hb52.size
      clear q3 hbx
      go_wp2_with (first | (at_builtin; refine wpList_appZ rfl (.tmp 51) (.tmp 53) rfl w2.heap.size _ g rfl (hz5.alloc _) _ 0 1 1 [k] rfl rfl (zsrc1 _ _ _) (by omega) (by simp; omega) ?_; rintro v6 w6 hz6 hb6))
      have hb7 := (Below.allocS hb52 (.cells #[.int .i64 k] 3)).trans hb6
      exact ⟨⟨i + 1, g ++ [k], by omega, by go_num, hz6, HA3, by simp; omega, hb7⟩, by simp [intOf]; omega⟩
    ·have HA3 : Hid (trimG T span now most (i + 1) (g ++ [k]) (Rs.drop (i + 1)) = G.reverse) := Lib.hid (by rw [← HA2.out, if_pos ⟨by omega, fun h => by cases h.1⟩])
     clear HA2 hi0
     go_wp2_with fail
     refine q3.mono ?_
     rintro e w5 ⟨rfl, hbx⟩
     have hb5 := hbr.trans (hbx.mono hbr.size)
     have hb52 := hbr2.trans (hbx.mono hbr2.size)
     have hz5 := HZR.out.keep hbx
     have hs5 := hb52.size
     clear q3 hbx
     go_wp2_with (first | (at_builtin; refine wpList_appZ rfl (.tmp 51) (.tmp 53) rfl w2.heap.size _ g rfl (hz5.alloc _) _ 0 1 1 [k] rfl rfl (zsrc1 _ _ _) (by omega) (by simp; omega) ?_; rintro v6 w6 hz6 hb6))
     have hb7 := (Below.allocS hb52 (.cells #[.int .i64 k] 3)).trans hb6
     exact ⟨⟨i + 1, g ++ [k], by omega, by go_num, hz6, HA3, by simp; omega, hb7⟩, by simp [intOf]; omega⟩
  ·have hil : i = Rs.length := by omega
   subst hil
   have hgG : g = G.reverse := by have := HA.out; rw [List.drop_length] at this; exact this
   have HGR : Hid (g.reverse = G) := Lib.hid (by rw [hgG, List.reverse_reverse])
   have HLEN : Hid (g.length = G.length) := Lib.hid (by rw [hgG, List.length_reverse])
   have hG1 : G.length ≤ 1000 := by rw [← HLEN.out]; omega
   have HKI : Hid (∀ x ∈ G, -9223372036854775808 ≤ x ∧ x ≤ 9223372036854775807) := Lib.hid (fun x hx => by
    have h1 : x ∈ trimG T span now most 0 [] Rs := by rw [HG.out]; exact List.mem_reverse.2 hx
    rcases trimG_mem _ _ _ h1 with h2 | h2
    ·cases h2
    ·have := HCL.out x (HMEM.out x h2)
     omega)
   have q4 := rev_row w2.heap.size _ g (by omega) wr hbr2.size hzr
   rw [HGR.out] at q4
   have hIS := fun (W : World) (h : ZRow W w2.heap.size (.slice ga g.length gc) G) => h.is
   have hsr := hbr.size
   clear hgG hzr hi hlt hgl
   go_wp2_with fail
   refine q4.mono ?_
   rintro e w6 ⟨rfl, hz6, hb6⟩
   have hb7 := hbr.trans (hb6.mono hs2)
   have hs7 := hb7.size
   have q5 := tdrops_any av base p j q m span d br T (.slice ga g.length gc) G hG1 (by omega) HM.out hf hrm hsl HCL.out HKI.out w6 (HK.out.keep hb7) (HD.out.keep hb7) (HJ.out.keep hb7) hpj hja hqa (fun x hx => Nat.lt_of_lt_of_le (HAV.out x hx) hs7) hpb hjb hqb hpq hqj (Nat.le_trans hbase hs7) (HB0.out.keep hb7) (HTM.out.keep hb7) (hIS w6 hz6)
   have hmo7 : Mod [p, j, q] w w6 := Mod.of_below hb7
   obtain ⟨d2, T2, c, tb, hR⟩ : ∃ d2 T2 c tb, dropS d br T G = (d2, T2, c, tb) := ⟨_, _, _, _, rfl⟩
   have HR := Lib.hid hR
   rw [hR] at q5
   clear hR
   simp only at q5
   clear q4 hb6 hIS hz6 HA
   go_wp2_with fail
   refine q5.mono ?_
   rintro e w8 ⟨m8, rfl, hQ8, hM8, hD8, hJ8, hm8⟩
   have hmf := hmo7.trans hm8
   clear q5
   by_cases hc : c = 0
   ·subst hc
    go_wp2_with fail
    all_goals (go_ret2; rw [HR.out]; first | exact ⟨m8, by rw [show trimN 0 G.length = (G.length : Int) from rfl, ← HLEN.out]; rfl, hQ8, hM8, hD8, hJ8, hmf⟩ | exact ⟨by rw [show trimN 0 G.length = (G.length : Int) from rfl, ← HLEN.out]; rfl, m8, hQ8, hM8, hD8, hJ8, hmf⟩ | (simp only [HR.out]; trace_state))
   ·have hc1 : (c != 0) = true := by simpa using hc
    have hc2 : (c == 0) = false := by simpa using hc
    go_wp2_with fail
    all_goals (go_ret2; rw [HR.out]; first | exact ⟨m8, by rw [show trimN c G.length = 0 from if_neg hc]; rfl, hQ8, hM8, hD8, hJ8, hmf⟩ | exact ⟨by rw [show trimN c G.length = 0 from if_neg hc]; rfl, m8, hQ8, hM8, hD8, hJ8, hmf⟩)
end Go.Proofs.YthgjdaomcpinaaaGreatDoor
