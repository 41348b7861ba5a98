/- TPlays. -/
import Derived.Test.YthgjdaomcpinaaaGreatDoorMp48
set_option linter.unnecessarySimpa false
set_option linter.unusedSimpArgs false
set_option linter.unusedVariables false
set_option maxRecDepth 100000
set_option maxHeartbeats 32000000
namespace Go.Proofs.YthgjdaomcpinaaaGreatDoor
open Go.RowKit Go.WideMaps Go.Maps Go.Sort Go.Shelf Pl
theorem plays_any (v : Value) (l : List ActP) (h now : Int) (hh : I64 h) (hn : I64 now) (w : World) (hv : AS w v l) (hkt : KT w) :
  Calls Tryz.prog 7 #[v, .int .i64 h, .int .i64 now] w fun e w' => e = .returned (.bool true) ∧ Below w.heap.size w w' := by
 obtain ⟨a, cap, rfl⟩ := hv.form
 have hls := hv.small
 have HV := Lib.hid hv
 have HK := Lib.hid hkt
 have q1 := long_any _ l w hv
 have qw := fun W (hb : Below w.heap.size w W) => tworks_any W (hkt.keep hb)
 clear hv hkt
 go_enter Tryz.func7, Tryz.ntmps7
 go_wp2_with fail
 refine q1.mono ?_
 rintro e w2 ⟨b, rfl, hlong, hb2⟩
 clear q1
 cases b
 ·obtain ⟨hl20, hlb⟩ := hlong rfl
  have HLB := Lib.hid hlb
  have HL20 := Lib.hid hl20
  clear hlong hlb hl20
  have q2 := dnew_any 5000 (by omega) (by omega) w2
  go_wp2_with fail
  refine q2.mono ?_
  rintro e w3 ⟨rfl, hD, hb⟩
  have hb3 := hb2.trans (hb.mono hb2.size)
  have hs3 := hb.size
  have hpl : w2.heap.size < w3.heap.size := by
   obtain ⟨_, _, h⟩ := hD.row
   exact h.lt
  have hsz2 := hb2.size
  obtain ⟨p, hp⟩ : ∃ p, p = w2.heap.size := ⟨_, rfl⟩
  rw [← hp] at hD hpl ⊢
  have hpw : w.heap.size ≤ p := by omega
  clear q2 hb hs3 hb2 hsz2 hp
  have q3 := rnewd_any 5000 (by omega) (by omega) w3
  go_wp2_with fail
  refine q3.mono ?_
  rintro e w4 ⟨rfl, hb⟩
  have hD4 := hD.keep hb
  have hb4 := hb3.trans (hb.mono hb3.size)
  have hs4 := hb.size
  clear q3 hb hD hb3
  go_wp2_with (first
   | (refine wpList_rowStore row_dk rfl rfl (.tmp 9) (.tmp 41) rfl rfl rfl (vs := dcs ⟨[], 0, 5000, -1, false⟩) rfl (dcs_one _) (us := dcs ⟨[], 0, 0, 0, false⟩) rfl (Blk.new' (by simp)) ?_; intro w5 N5 m5; have hbx := Below.mod (Below.allocS (Below.refl w4.heap.size w4) (.cells (dcs ⟨[], 0, 0, 0, false⟩).toArray 72)) m5 (by simp) (by simp))
   | fail)
  have hD5 := hD4.keep hbx
  have hb5 := hb4.trans (hbx.mono hb4.size)
  have hs5 := hbx.size
  obtain ⟨y, hy⟩ : ∃ y, y = w4.heap.size := ⟨_, rfl⟩
  rw [← hy] at N5 ⊢
  have hyl := N5.lt
  have hy4 : w4.heap.size ≤ y := by omega
  clear hD4 hb4 m5 hbx hy
  have hOP : openD ⟨[], 0, 5000, -1, false⟩ (recsP []).length = (⟨[], 0, 5000, -1, false⟩, 0) := by rfl
  have q4 := topen_any [p] p ⟨[], 0, 5000, -1, false⟩ 10 (by omega) (by omega) [] [] ⟨[], rfl, nextP_nil⟩ (fun b hb => by cases hb) (by simp) (.nil _) (by simp) (by simp) (by simp) w5 (HK.out.keep hb5) hD5
  rw [hOP] at q4
  have hn6 := hb5.size
  clear hD5
  go_wp2_with fail
  refine q4.mono ?_
  rintro e w6 ⟨hm6, hyes, -⟩
  obtain ⟨j, m, q, rfl, k1, k2, k3, hJ, hD6, hM6, hQ6⟩ := hyes rfl
  have hql := hQ6.lt
  have N6 := N5.mod hm6 (by simp; omega)
  have hb6 := Below.mod hb5 hm6 hn6 (by simp; omega)
  have hs6 := hm6.size
  clear q4 hyes hm6 N5 hb5
  have q5 := ropen_any [q, j, p] ⟨[], 0, 5000, -1, false⟩ 10 (by omega) (by omega) [] [] [] rfl (fun b hb => by cases hb) (.inl rfl) (by simp) (.nil _) (by simp) (by simp) (by simp) w6 (by intro x hx; simp at hx; omega)
  rw [hOP] at q5
  go_wp2_with (first
   | (refine wpList_rowLoad row_dk rfl (.tmp 9) rfl rfl (vs := dcs ⟨[], 0, 5000, -1, false⟩) rfl N6 ?_)
   | fail)
  refine q5.mono ?_
  rintro e w7 ⟨hb7, hy7, -⟩
  obtain ⟨v7, l7, rfl, hI7, hT7⟩ := hy7 rfl
  obtain rfl : l7 = [] := hI7.same Im.nil
  obtain ⟨va7, vc7, rfl⟩ := hT7.form
  have hs7 := hb7.size
  have hJ7 := hJ.keep hb7
  have hD7 := hD6.keep hb7
  have hM7 := hM6.keep hb7
  have hQ7 := hQ6.keep hb7
  have hb8 := hb6.trans (hb7.mono hb6.size)
  clear q5 hy7 hb7 hJ hD6 hM6 hQ6 N6 hb6
  have zB : Below w7.heap.size w7 ((w7.alloc (.cells (dcs ⟨[], 0, 0, 0, false⟩).toArray 72)).alloc (.cells zst.toArray 76)) := Below.allocS (Below.allocS (Below.refl _ _) _) _
  have z1 : Blk ((w7.alloc (.cells (dcs ⟨[], 0, 0, 0, false⟩).toArray 72)).alloc (.cells zst.toArray 76)) w7.heap.size (dcs ⟨[], 0, 0, 0, false⟩).toArray := (Blk.new _ _ _).alloc _
  have z2 : Blk ((w7.alloc (.cells (dcs ⟨[], 0, 0, 0, false⟩).toArray 72)).alloc (.cells zst.toArray 76)) (w7.heap.size + 1) zst.toArray := Blk.new' (by simp)
  go_wp2_with (first
   | (refine wpList_rowStore row_dk rfl rfl (.tmp 13) (.tmp 58) rfl rfl rfl (vs := dcs ⟨[], 0, 5000, -1, false⟩) rfl (dcs_one _) (us := dcs ⟨[], 0, 0, 0, false⟩) rfl z1 ?_; intro w9 N9 m9; replace zB := Below.mod zB m9 zB.size (by simp); replace z2 := z2.mod m9 (by simp))
   | (refine wpList_rowStore row_st rfl rfl (.tmp 14) (.tmp 59) rfl rfl rfl (vs := stcs (.slice va7 0 vc7) 10 ⟨[], 0, 5000, -1, false⟩ false) rfl (stcs_one _ _ _ _ _ _) (us := zst) rfl z2 ?_; intro w10 N10 m10; replace zB := Below.mod zB m10 zB.size (by simp))
   | fail)
  obtain ⟨X, hX⟩ : ∃ X, X = w7.heap.size + 1 := ⟨_, rfl⟩
  rw [← hX] at N10 ⊢
  have hXl := N10.lt
  have hD10 := (hD7.more (x := X) (by omega)).keep zB
  have hJ10 := hJ7.keep zB
  have hQ10 := hQ7.keep zB
  have hM10 : TrM w10 (X + 1) m [] := by
   obtain ⟨D, ho, hD⟩ := hM7.keep zB
   exact ⟨D, ho, hD.has, fun e he => (by cases he), hD.nodup, hD.size⟩
  have hb10 := hb8.trans (zB.mono hb8.size)
  have hs10 := zB.size
  have hT10 := (hT7.sub (bv := [X, q, j, p]) (by intro x hx; simp at hx ⊢; omega)).keep zB
  have HPQ : Hid (PQ w10 w.heap.size p X q j m (X + 1) (X :: q :: m :: j :: [p]) (.slice va7 0 vc7) ⟨[], 0, 5000, -1, false⟩ false [] []) := Lib.hid ⟨⟨hD10, hJ10, hQ10, hM10, by omega, by omega, by omega, ⟨by omega, by omega, by omega⟩, ⟨by simp, by simp, by simp⟩, by intro x hx; simp at hx; omega, ⟨by omega, by omega, by omega, by omega, by omega⟩, ⟨by omega, by omega, by omega, by omega⟩⟩, ⟨N10, hT10⟩, Im.nil⟩
  have HHO := Lib.hid Hold.new
  clear hD7 hJ7 hQ7 hM7 hT7 z1 z2 zB m9 m10 N9 hb8 hD10 hJ10 hQ10 hM10 hT10 N10 hI7 hOP hX hXl hs10
  go_wp2_with fail
  go_loopw [11, 16] (fun s11 s16 wr => ∃ (i q j m base : Nat) (av : List Nat) (lv : Value) (d : Dk) (br : Bool) (T : List (Int × Tr)) (l' : List Tr), i ≤ l.length ∧ s16 = .int .i64 i ∧ s11 = .pointer (some ⟨q, 0, none⟩) ∧ Hid (PQ wr w.heap.size p X q j m base av lv d br T l') ∧ Hid (Hold d br T i) ∧ Below w.heap.size w wr) (fun _ s16 _ => l.length - (intOf s16).toNat)
  case atStart => exact ⟨0, q, j, m, _, _, _, _, _, _, _, by omega, rfl, rfl, HPQ, HHO, hb10⟩
  case round =>
   clear HPQ HHO hb10
   obtain ⟨i, q, j, m, base, av, lv, d, br, T, l', hi, rfl, rfl, HPQ, HHO, hbr⟩ := hrel
   by_cases hlt : i < l.length
   ·obtain ⟨x, hx⟩ : ∃ x, l[i]? = some x := ⟨l[i], List.getElem?_eq_getElem hlt⟩
    have hbd : 0 ≤ (i : Int) ∧ (i : Int) < (l.length : Int) := by omega
    obtain ⟨g, off, vl, vh, rfl, hg, hR, hTL, hIS, hIB, hI64⟩ := HV.out.at i x hx
    obtain ⟨hx6, hx20⟩ := HLB.out x (List.mem_of_getElem? hx)
    obtain ⟨xa, xc, rfl⟩ := hTL.form
    obtain ⟨ya, yc, rfl⟩ : ∃ ya yc, vh = .slice ya x.hs.length yc := by obtain ⟨ya, yc, h, _⟩ := hIS; exact ⟨ya, yc, h⟩
    have hR2 := rangeAt_keep hR hg hbr
    obtain ⟨c0, c1, c2, c3⟩ := range4 hR2
    have HR := Lib.hid hR
    have HTL := Lib.hid hTL
    have HIS := Lib.hid hIS
    have HIB := Lib.hid hIB
    have hxl := hTL.small
    clear hx hR hTL hIS hIB hR2
    go_upto_block 2 with fail
    go_cut [11, 17, 18] (fun s11 s17 s18 wx => ∃ (c : Int) (q j m base : Nat) (av : List Nat) (lv : Value) (d : Dk) (br : Bool) (T : List (Int × Tr)) (l' : List Tr), s11 = .pointer (some ⟨q, 0, none⟩) ∧ s17 = .int .i64 c ∧ s18 = .int .i64 c ∧ Hid (PQ wx w.heap.size p X q j m base av lv d br T l') ∧ Hid (Hold d br T (i + 1)) ∧ Below w.heap.size w wx)
    case first =>
     obtain ⟨la, lc, rfl⟩ := HPQ.out.rp.tl.form
     have HPP := Lib.hid HPQ.out.pp
     have HRP := Lib.hid HPQ.out.rp
     have HIM := Lib.hid HPQ.out.im
     have HTA : Hid (TLA w [X, q, j, p] (.slice xa x.l.length xc) x.l) := Lib.hid (TLA.of HTL.out (by intro y hy; have h := HPP.out.lo; simp at hy; omega))
     have hgX : g ≠ X := by have h := HPP.out.lo; omega
     have hi20 : i < 20 := by have h := HL20.out; omega
     have hgr : g < wr.heap.size := Nat.lt_of_lt_of_le hg hbr.size
     have hll : l'.length ≤ 800 := by have h1 := HHO.out.tlen; have h2 := HIM.out.len HHO.out.good; omega
     have hfz := HHO.out.fuse
     have hroom := HHO.out.room
     have hdl := HHO.out.len
     generalize x.kind = K at *
     clear HPQ
     by_cases k0 : K = 0
     ·as_aux_lemma =>
       subst k0
       obtain ⟨cs, hcs, ⟨a', c', e, _, _, hsrc⟩, hel⟩ := HTA.out.keep hbr
       have HCL : Hid (cs.length = x.l.length) := Lib.hid (by rw [← hcs, List.length_map])
       obtain rfl : xa = a' := by injection e
       have HSRC := Lib.hid hsrc
       have HEL := Lib.hid hel
       clear e hsrc hel
       go_wp2_with (first | (at_builtin; refine wpList_appTk rfl (.tmp 81) (.tmp 86) rfl wr.heap.size _ [] cs 0 x.l.length x.l.length rfl HCL.out (by omega) rfl (TR0 wr) xa xc rfl (fun hn => by obtain ⟨g2, o2, e2, hg2, _, h2⟩ := HSRC.out hn; exact ⟨g2, o2, e2, h2.keep hg2 (Below.allocS (Below.refl _ _) _)⟩) (fun y hy => (HEL.out y hy).one) (by omega) (by simp) ?_; rintro oa oc w5 hO5 hb5) | fail)
       have hb15 : Below wr.heap.size wr w5 := (Below.allocS (Below.refl _ _) _).trans hb5
       have hO6 : w5.ownsRow wr.heap.size 27 13 (.slice oa x.l.length oc) cs.length (cs.flatMap tcsX) := by rw [HCL.out]; simpa using hO5
       have hTO5 : TLA w5 [X, q, j, p] (.slice oa x.l.length oc) x.l := by have h := TLA.made hO6 HEL.out hb15 HPP.out.four; rw [hcs] at h; exact h
       have hb5w := hbr.trans (hb15.mono hbr.size)
       have hP5 := HPP.out.keep hb15
       have q1 := hP5.add HHO.out (by omega) (HK.out.keep hb5w) _ x.l hx6 hTO5.tl
       clear hO5 hO6 hb5 HEL HSRC HCL hcs
       go_wp2_with fail
       refine q1.mono ?_
       rintro e w6 ⟨m6, rfl, hP6, mm6⟩
       have hR6 := (HRP.out.keep hb15).modP hP5.xp mm6
       have hTO6 := hTO5.modl mm6 (by intro y hy; simp at hy ⊢; omega)
       have hTA6 := (HTA.out.keep hb5w).modl mm6 (by intro y hy; simp at hy ⊢; omega)
       have hb6w := hP5.below hb5w (Nat.le_refl _) mm6
       have hg6 := Nat.lt_of_lt_of_le hg hb6w.size
       have c26 := (hb6w.cell (p := ⟨g, off + i * 4 + 2, none⟩) hg).trans (range4 HR.out).2.2.1
       obtain ⟨l2, hadd, hI2⟩ := HIM.out.addS HHO.out.good.nd (HIM.out.fine HHO.out.good) d br x.l
       have hH2 := HHO.out.adds x.l (by omega)
       have q2 := fun W (hm : Mod [X] w6 W) => radd_any [X, q, j, p] (.slice la l'.length lc) l' 10 d br (.slice xa x.l.length xc) x.l (by omega) (HIM.out.fine HHO.out.good) (fun ha => batch_may ha (by omega)) (by omega) (by omega) (by omega) W (hR6.tl.modl hm (by simp)) (hTA6.modl hm (by simp)) (fun y hy => Nat.lt_of_lt_of_le (hP6.four y hy) hm.size)
       simp only [hadd] at q2
       generalize addS d br T x.l = R at *
       obtain ⟨d2, T2, c, b2⟩ := R
       simp only at hP6 hI2 hH2 q2 ⊢
       have HI2 := Lib.hid hI2
       have HH2 := Lib.hid hH2
       have HTO6 := Lib.hid hTO6
       have HP6 := Lib.hid hP6
       clear q1 hadd hI2 hH2 hTO5 hTO6 hb15 hb5w hP5 hP6 c0 c1 c2 c3 HIM HRP hfz hroom hdl hll
       go_wp2_with fail
       refine wpH_startM [X] (by kernel_rfl) (fun hS => ?_)
       have KX := hR6.bx.drew
       (refine hP 1 ?_ ⟨some 93, .move (.tmp 0), 69, "", #[], none⟩ hS ?_ ?_; rotate_left; focus (intro w; go_simp; try with_reducible rfl))
       try simp only [pna, pnb, pnc, pnd, pne]
       (refine hP 2 ?_ ⟨some 94, .move (.tmp 16), 3, "", #[], none⟩ hS ?_ ?_; rotate_left; focus (intro w; go_simp; try with_reducible rfl))
       try simp only [pna, pnb, pnc, pnd, pne]
       refine wpH_load 3 (.pointer (some ⟨g, off + i * 4, none⟩)) (oi := ⟨some 95,.indexAddr 69 (.tmp 93) (.tmp 94),0,"law.go:82",#[⟨1,.data⟩, ⟨2,.data⟩],none⟩) rfl (by kernel_rfl) (by kernel_rfl) (by kernel_rfl) (by rfl) hS (fun _ _ _ h => h) (fun w' hb2 => (by go_simp; try rfl)) ?_
       try simp only [pna, pnb, pnc, pnd, pne]
       (refine hP 4 ?_ ⟨some 96, .fieldAddr 80 (.tmp 95) 2, 0, "", #[], none⟩ hS ?_ ?_; rotate_left; focus (intro w; go_simp; try with_reducible rfl))
       try simp only [pna, pnb, pnc, pnd, pne]
       refine wpH_load 5 (.slice xa x.l.length xc) (oi := ⟨some 97,.load 48 (.tmp 96),48,"law.go:82",#[⟨4,.data⟩],none⟩) rfl (by kernel_rfl) (by kernel_rfl) (by kernel_rfl) (by rfl) hS (fun _ _ _ h => h) (fun w' hb2 => (by have c := (mod_cell hb2 hg6 (by simpa using hgX)).trans c26; go_simp; try rfl)) ?_
       try simp only [pna, pnb, pnc, pnd, pne]
       refine wpH_op 0 (oi := ⟨some 92,.load 76 (.tmp 14),76,"law.go:82",#[],none⟩) rfl (by kernel_rfl) (by rfl) ?_
       refine wp_rowLoadA row_st (.tmp 14) rfl rfl (vs := stcs (.slice la l'.length lc) 10 d br) rfl KX.range ?_
       refine ⟨hS, ?_⟩
       try simp only [pna, pnb, pnc, pnd, pne]
       refine wpH_call 6 (oi := ⟨some 98,.call { callee := .value (.func 38), args := #[.tmp 92, .tmp 97], argTypes := #[76, 48] },81,"law.go:82",#[⟨0,.data⟩, ⟨5,.data⟩],none⟩) rfl (by kernel_rfl) (by rfl) (q2 _ hS) ?_ ?_
       ·(go_simp; try rfl)
       rintro e w' ⟨v7, rfl, hT7, hbx⟩
       refine ⟨_, rfl, hS.trans (Mod.of_below hbx), ?_⟩
       replace hS := hS.trans (Mod.of_below hbx)
       obtain ⟨va, vc, rfl⟩ := hT7.form
       replace KX := KX.keep hbx
       try simp only [pna, pnb, pnc, pnd, pne]
       (refine hP 7 ?_ ⟨some 91, .move (.tmp 98), 81, "", #[], none⟩ hS ?_ ?_; rotate_left; focus (intro w; go_simp; try with_reducible rfl))
       try simp only [pna, pnb, pnc, pnd, pne]
       (refine hP 8 ?_ ⟨some 99, .extract (.tmp 91) 0, 76, "", #[], none⟩ hS ?_ ?_; rotate_left; focus (intro w; go_simp; try with_reducible rfl))
       try simp only [pna, pnb, pnc, pnd, pne]
       (refine hP 9 ?_ ⟨some 100, .extract (.tmp 91) 1, 30, "", #[], none⟩ hS ?_ ?_; rotate_left; focus (intro w; go_simp; try with_reducible rfl))
       try simp only [pna, pnb, pnc, pnd, pne]
       refine wpH_op 10 (oi := ⟨none,.store 76 (.tmp 14) (.tmp 99),0,"law.go:82",#[⟨8,.data⟩, ⟨6,.chain⟩, ⟨0,.phase⟩, ⟨1,.phase⟩, ⟨2,.phase⟩, ⟨3,.phase⟩, ⟨4,.phase⟩, ⟨5,.phase⟩, ⟨6,.phase⟩, ⟨7,.phase⟩, ⟨8,.phase⟩, { on := 9, ground := .textOnly Departure.lateStores }],none⟩) rfl (by kernel_rfl) (by rfl) ?_
       refine wp_rowStore row_st (.tmp 14) (.tmp 99) rfl rfl rfl (vs := stcs (.slice va l2.length vc) 10 d2 b2) rfl (stcs_one _ _ _ _ _ _) (us := stcs (.slice la l'.length lc) 10 d br) rfl KX ?_
       rintro w9 N9 m9
       have hT9 := hT7.modl m9 (by simp)
       replace hS := hS.trans m9
       refine ⟨hS, ?_⟩
       try simp only [pna, pnb, pnc, pnd, pne]
       (refine hP 11 ?_ ⟨some 18, .assign (.tmp 100), 30, "", #[], none⟩ hS ?_ ?_; rotate_left; focus (intro w; go_simp; try with_reducible rfl))
       try simp only [pna, pnb, pnc, pnd, pne]
       refine wpAnyH_done (by kernel_rfl) ?_ _
       have HP9 := Lib.hid (HP6.out.modX hR6.some hS)
       have hb9w := Below.mod hb6w hS hb6w.size (by have h := HP6.out.lo; simp; omega)
       have hTO9 := HTO6.out.modl hS (by simp)
       have hTA9 := hTA6.modl hS (by simp)
       have c29 := (hb9w.cell (p := ⟨g, off + i * 4 + 2, none⟩) hg).trans (range4 HR.out).2.2.1
       have hg9 := Nat.lt_of_lt_of_le hg hb9w.size
       have HT9 := Lib.hid hT9
       have HTO9 := Lib.hid hTO9
       have HTA9 := Lib.hid hTA9
       clear q2 hS hT7 hR6 hTO9 hTA9 hTA6 c26 hg6 HTO6 HP6 hb6w hT9 KX m9
       go_wp2_with fail
       go_loopw [20] (fun s20 wq => ∃ k : Nat, k ≤ x.l.length ∧ s20 = .int .i64 k ∧ Below w9.heap.size w9 wq) (fun s20 _ => x.l.length - (intOf s20).toNat)
       case atStart => exact ⟨0, by omega, rfl, Below.refl _ _⟩
       case round =>
        obtain ⟨k, hk, rfl, hbk⟩ := hrel
        by_cases hlk : k < x.l.length
        ·obtain ⟨t, ht⟩ : ∃ t, x.l[k]? = some t := ⟨x.l[k], List.getElem?_eq_getElem hlk⟩
         have hbk2 : 0 ≤ (k : Int) ∧ (k : Int) < (x.l.length : Int) := by omega
         obtain ⟨g1, o1, sk1, ms1, e1, hg1, hRa, hE1⟩ := (HTO9.out.keep hbk).at k t ht
         obtain ⟨g2, o2, sk2, ms2, e2, hg2, hRb, hE2⟩ := (HTA9.out.keep hbk).at k t ht
         subst e1 e2
         have ck := (hbk.cell (p := ⟨g, off + i * 4 + 2, none⟩) hg9).trans c29
         have hgk := Nat.lt_of_lt_of_le hg9 hbk.size
         obtain ⟨wq, hnm⟩ := Below.name hbk
         subst hnm
         have qs := fun W (hb : Below wq.heap.size wq W) => sametr_any (.agg (tcs t sk1 ms1).toArray) (.agg (tcs t sk2 ms2).toArray) t t W ⟨_, _, rfl, hE1.ss.ss.keep hb, hE1.ms.ms.keep hb⟩ ⟨_, _, rfl, hE2.ss.ss.keep hb, hE2.ms.ms.keep hb⟩
         simp only [sameTr_self] at qs
         clear ht hE1 hE2
         go_wp2_with fail
         refine wp_held rfl (by kernel_rfl) ?_
         (refine qP ?_ ?_ ?_; rotate_left; focus (intro w; go_simp; try with_reducible rfl))
         try simp only [pna, pnb, pnc, pnd, pne]
         (refine qP ?_ ?_ ?_; rotate_left; focus (intro w; go_simp; try with_reducible rfl))
         try simp only [pna, pnb, pnc, pnd, pne]
         refine wpQ_pure (by rfl) (.pointer (some ⟨g1, o1 + k * 13, none⟩)) (fun w' => (by go_simp; try rfl)) ?_
         try simp only [pna, pnb, pnc, pnd, pne]
         refine wpQ_load (by rfl) (.agg (tcs t sk1 ms1).toArray) (fun w' hb2 => exec_rowAt row_trust (.tmp 109) rfl rfl rfl (rangeAt_keep hRa hg1 hb2)) ?_
         try simp only [pna, pnb, pnc, pnd, pne]
         (refine qP ?_ ?_ ?_; rotate_left; focus (intro w; go_simp; try with_reducible rfl))
         try simp only [pna, pnb, pnc, pnd, pne]
         (refine qP ?_ ?_ ?_; rotate_left; focus (intro w; go_simp; try with_reducible rfl))
         try simp only [pna, pnb, pnc, pnd, pne]
         refine wpQ_pure (by rfl) (.pointer (some ⟨g, off + i * 4, none⟩)) (fun w' => (by go_simp; try rfl)) ?_
         try simp only [pna, pnb, pnc, pnd, pne]
         (refine qP ?_ ?_ ?_; rotate_left; focus (intro w; go_simp; try with_reducible rfl))
         try simp only [pna, pnb, pnc, pnd, pne]
         refine wpQ_load (by rfl) (.slice (some ⟨g2, o2, none⟩) x.l.length xc) (fun w' hb2 => (by have c := (hb2.cell (p := ⟨g, off + i * 4 + 2, none⟩) hgk).trans ck; go_simp; try rfl)) ?_
         try simp only [pna, pnb, pnc, pnd, pne]
         (refine qP ?_ ?_ ?_; rotate_left; focus (intro w; go_simp; try with_reducible rfl))
         try simp only [pna, pnb, pnc, pnd, pne]
         refine wpQ_pure (by rfl) (.pointer (some ⟨g2, o2 + k * 13, none⟩)) (fun w' => (by go_simp; try rfl)) ?_
         try simp only [pna, pnb, pnc, pnd, pne]
         refine wpQ_load (by rfl) (.agg (tcs t sk2 ms2).toArray) (fun w' hb2 => exec_rowAt row_trust (.tmp 117) rfl rfl rfl (rangeAt_keep hRb hg2 hb2)) ?_
         try simp only [pna, pnb, pnc, pnd, pne]
         refine wpQ_call (by rfl) _ _ (.bool true) (fun w' hb2 => (qs w' hb2).mono fun _ _ ⟨he, hb4⟩ => ⟨he, hb2.trans (hb4.mono hb2.size)⟩) (by intro w; go_simp; try rfl) ?_
         try simp only [pna, pnb, pnc, pnd, pne]
         (refine qP ?_ ?_ ?_; rotate_left; focus (intro w; go_simp; try with_reducible rfl))
         try simp only [pna, pnb, pnc, pnd, pne]
         intro w5 hb5
         clear qs
         go_wp2_with fail
         exact ⟨⟨k + 1, by omega, by go_num, hbk.trans (hb5.mono hbk.size)⟩, by simp [intOf]; omega⟩
        ·have hkl : k = x.l.length := by omega
         subst hkl
         go_wp2_with fail
         go_meet
         exact ⟨c, q, j, m6, base, av, _, d2, b2, T2, l2, rfl, rfl, rfl, Lib.hid ⟨HP9.out.keep hbk, ⟨N9.keep hbk, HT9.out.keep hbk⟩, HI2.out⟩, HH2, hb9w.trans (hbk.mono hb9w.size)⟩
     ·by_cases k1 : K = 1
      ·as_aux_lemma =>
        subst k1
        have g0 : ((1 : Int) == 0) = false := by decide
        have q1 := HPP.out.drop HHO.out (by omega) (HK.out.keep hbr) _ x.hs hx20 HIB.out (HIS.out.keep hbr)
        go_wp2_with fail
        refine q1.mono ?_
        rintro e w6 ⟨m6, rfl, hP6, mm6⟩
        have hR6 := HRP.out.modP HPP.out.xp mm6
        have hb6w := HPP.out.below hbr (Nat.le_refl _) mm6
        have hg6 := Nat.lt_of_lt_of_le hg hb6w.size
        have c26 := (hb6w.cell (p := ⟨g, off + i * 4 + 3, none⟩) hg).trans (range4 HR.out).2.2.2
        obtain ⟨l2, hadd, hI2⟩ := HIM.out.dropS d br x.hs
        have hH2 := HHO.out.drops x.hs (by omega)
        have hlo6 := hP6.lo
        have q2 := fun W (hm : Mod [X] w6 W) => rdrop_any [X, q, j, p] (.slice la l'.length lc) l' 10 d br (.slice ya x.hs.length yc) x.hs (by omega) (by omega) (fun t ht => by have h := fineT_small (HIM.out.fine HHO.out.good t ht); omega) (fun _ => goes_may x.hs (by omega)) (by omega) (by omega) (by omega) W (hR6.tl.modl hm (by simp)) (HIS.out.keep (Below.mod hb6w hm hb6w.size (by simp; omega))) (fun y hy => Nat.lt_of_lt_of_le (hP6.four y hy) hm.size)
        simp only [hadd] at q2
        generalize dropS d br T x.hs = R at *
        obtain ⟨d2, T2, c, b2⟩ := R
        simp only at hP6 hI2 hH2 q2 ⊢
        have HI2 := Lib.hid hI2
        have HH2 := Lib.hid hH2
        have HP6 := Lib.hid hP6
        clear q1 hadd hI2 hH2 hP6 c0 c1 c2 c3 HIM HRP hfz hroom hdl hll
        go_wp2_with fail
        refine wpH_startM [X] (by kernel_rfl) (fun hS => ?_)
        have KX := hR6.bx.drew
        (refine hP 1 ?_ ⟨some 132, .move (.tmp 0), 69, "", #[], none⟩ hS ?_ ?_; rotate_left; focus (intro w; go_simp; try with_reducible rfl))
        try simp only [pna, pnb, pnc, pnd, pne]
        (refine hP 2 ?_ ⟨some 133, .move (.tmp 16), 3, "", #[], none⟩ hS ?_ ?_; rotate_left; focus (intro w; go_simp; try with_reducible rfl))
        try simp only [pna, pnb, pnc, pnd, pne]
        refine wpH_load 3 (.pointer (some ⟨g, off + i * 4, none⟩)) (oi := ⟨some 134,.indexAddr 69 (.tmp 132) (.tmp 133),0,"law.go:90",#[⟨1,.data⟩, ⟨2,.data⟩],none⟩) rfl (by kernel_rfl) (by kernel_rfl) (by kernel_rfl) (by rfl) hS (fun _ _ _ h => h) (fun w' hb2 => (by go_simp; try rfl)) ?_
        try simp only [pna, pnb, pnc, pnd, pne]
        (refine hP 4 ?_ ⟨some 135, .fieldAddr 80 (.tmp 134) 3, 0, "", #[], none⟩ hS ?_ ?_; rotate_left; focus (intro w; go_simp; try with_reducible rfl))
        try simp only [pna, pnb, pnc, pnd, pne]
        refine wpH_load 5 (.slice ya x.hs.length yc) (oi := ⟨some 136,.load 51 (.tmp 135),51,"law.go:90",#[⟨4,.data⟩],none⟩) rfl (by kernel_rfl) (by kernel_rfl) (by kernel_rfl) (by rfl) hS (fun _ _ _ h => h) (fun w' hb2 => (by have c := (mod_cell hb2 hg6 (by simpa using hgX)).trans c26; go_simp; try rfl)) ?_
        try simp only [pna, pnb, pnc, pnd, pne]
        refine wpH_op 0 (oi := ⟨some 131,.load 76 (.tmp 14),76,"law.go:90",#[],none⟩) rfl (by kernel_rfl) (by rfl) ?_
        refine wp_rowLoadA row_st (.tmp 14) rfl rfl (vs := stcs (.slice la l'.length lc) 10 d br) rfl KX.range ?_
        refine ⟨hS, ?_⟩
        try simp only [pna, pnb, pnc, pnd, pne]
        refine wpH_call 6 (oi := ⟨some 137,.call { callee := .value (.func 39), args := #[.tmp 131, .tmp 136], argTypes := #[76, 51] },81,"law.go:90",#[⟨0,.data⟩, ⟨5,.data⟩],none⟩) rfl (by kernel_rfl) (by rfl) (q2 _ hS) ?_ ?_
        ·(go_simp; try rfl)
        rintro e w' ⟨v7, rfl, hT7, hbx⟩
        refine ⟨_, rfl, hS.trans (Mod.of_below hbx), ?_⟩
        replace hS := hS.trans (Mod.of_below hbx)
        obtain ⟨va, vc, rfl⟩ := hT7.form
        replace KX := KX.keep hbx
        try simp only [pna, pnb, pnc, pnd, pne]
        (refine hP 7 ?_ ⟨some 130, .move (.tmp 137), 81, "", #[], none⟩ hS ?_ ?_; rotate_left; focus (intro w; go_simp; try with_reducible rfl))
        try simp only [pna, pnb, pnc, pnd, pne]
        (refine hP 8 ?_ ⟨some 138, .extract (.tmp 130) 0, 76, "", #[], none⟩ hS ?_ ?_; rotate_left; focus (intro w; go_simp; try with_reducible rfl))
        try simp only [pna, pnb, pnc, pnd, pne]
        (refine hP 9 ?_ ⟨some 139, .extract (.tmp 130) 1, 30, "", #[], none⟩ hS ?_ ?_; rotate_left; focus (intro w; go_simp; try with_reducible rfl))
        try simp only [pna, pnb, pnc, pnd, pne]
        refine wpH_op 10 (oi := ⟨none,.store 76 (.tmp 14) (.tmp 138),0,"law.go:90",#[⟨8,.data⟩, ⟨6,.chain⟩, ⟨0,.phase⟩, ⟨1,.phase⟩, ⟨2,.phase⟩, ⟨3,.phase⟩, ⟨4,.phase⟩, ⟨5,.phase⟩, ⟨6,.phase⟩, ⟨7,.phase⟩, ⟨8,.phase⟩, { on := 9, ground := .textOnly Departure.lateStores }],none⟩) rfl (by kernel_rfl) (by rfl) ?_
        refine wp_rowStore row_st (.tmp 14) (.tmp 138) rfl rfl rfl (vs := stcs (.slice va l2.length vc) 10 d2 b2) rfl (stcs_one _ _ _ _ _ _) (us := stcs (.slice la l'.length lc) 10 d br) rfl KX ?_
        rintro w9 N9 m9
        have hT9 := hT7.modl m9 (by simp)
        replace hS := hS.trans m9
        refine ⟨hS, ?_⟩
        try simp only [pna, pnb, pnc, pnd, pne]
        (refine hP 11 ?_ ⟨some 18, .assign (.tmp 139), 30, "", #[], none⟩ hS ?_ ?_; rotate_left; focus (intro w; go_simp; try with_reducible rfl))
        try simp only [pna, pnb, pnc, pnd, pne]
        refine wpAnyH_done (by kernel_rfl) ?_ _
        have HP9 := HP6.out.modX hR6.some hS
        have hb9w := Below.mod hb6w hS hb6w.size (by simp; omega)
        clear q2 hT7 c26 KX m9 hS
        go_wp2_with fail
        go_meet
        exact ⟨c, q, j, m6, base, av, _, d2, b2, T2, l2, rfl, rfl, rfl, Lib.hid ⟨HP9, ⟨N9, hT9⟩, HI2.out⟩, HH2, hb9w⟩
      ·by_cases k5 : K = 5
       ·as_aux_lemma =>
         subst k5
         have g0 : ((5 : Int) == 0) = false := by decide
         have g1 : ((5 : Int) == 1) = false := by decide
         generalize hhl : x.hs.length = hl at *
         have HHL := Lib.hid hhl
         clear hhl
         go_upto_if 149 with fail
         go_cut [21] (fun s21 wx => ∃ ak : Int, s21 = .int .i64 ak ∧ I64 ak ∧ wx = wr)
         case first => as_aux_lemma =>
          by_cases hz : hl = 0
          ·have dz : decide (0 < (hl : Int)) = false := decide_eq_false (by omega)
           have dz2 : decide (0 < hl) = false := decide_eq_false (by omega)
           have dz3 : ¬ 0 < hl := by omega
           have dz4 : ¬ (0 : Int) < (hl : Int) := by omega
           clear hz
           go_wp2_with fail
           go_meet
           exact ⟨_, rfl, ⟨by omega, by omega⟩, rfl⟩
          ·have dz : decide (0 < (hl : Int)) = true := decide_eq_true (by omega)
           have dz2 : decide (0 < hl) = true := decide_eq_true (by omega)
           have dz3 : 0 < hl := by omega
           have dz4 : (0 : Int) < (hl : Int) := by omega
           have hz0 : 0 < x.hs.length := by rw [HHL.out]; omega
           obtain ⟨g3, o3, e3, hg3, c30⟩ := (show IS wr (.slice ya x.hs.length yc) x.hs from by rw [HHL.out]; exact HIS.out.keep hbr).at' 0 hz0
           subst e3
           rw [Nat.add_zero] at c30
           have hmem : x.hs.getD 0 0 ∈ x.hs := by rw [List.getD_eq_getElem?_getD, List.getElem?_eq_getElem hz0]; exact List.getElem_mem _
           have hkb := HIB.out _ hmem
           generalize x.hs.getD 0 0 = ak at *
           clear hz hmem
           go_wp2_with fail
           go_meet
           exact ⟨ak, rfl, hkb, rfl⟩
         case rest => as_aux_lemma =>
          obtain ⟨ak, rfl, hak, hwc⟩ := hcut
          subst hwc
          obtain ⟨d2, T2, c, N, b2, l2, hI2, hH2, q1, q2⟩ := HPP.out.trimU HHO.out HIM.out (by omega) hll (HK.out.keep hbr) x.n ak hI64 hak
          go_wp2_with fail
          refine q1.mono ?_
          rintro e w6 ⟨m6, rfl, hP6, mm6⟩
          have hR6 := HRP.out.modP HPP.out.xp mm6
          have hb6w := HPP.out.below hbr (Nat.le_refl _) mm6
          have hg6 := Nat.lt_of_lt_of_le hg hb6w.size
          have c26 := (hb6w.cell (p := ⟨g, off + i * 4 + 1, none⟩) hg).trans (range4 HR.out).2.1
          have hlo6 := hP6.lo
          have hx4 := hP6.four
          have q3 := fun W (hb : Below w6.heap.size w6 W) => q2 ((List.range W.heap.size).filter (fun k => decide (w6.heap.size ≤ k)) ++ [X, q, j, p]) (.slice la l'.length lc) W ((hR6.tl.sub (by intro y hy; simp at hy ⊢; omega)).keep hb) (by intro y hy; simp only [List.mem_append, List.mem_filter, List.mem_range] at hy; rcases hy with hy | hy; exact hy.1; exact Nat.lt_of_lt_of_le (hx4 y hy) hb.size)
          have HI2 := Lib.hid hI2
          have HH2 := Lib.hid hH2
          have HP6 := Lib.hid hP6
          clear q1 q2 hI2 hH2 hP6 c0 c1 c2 c3 HIM HRP hfz hroom hdl hll
          go_upto_region 33 with fail
          go_cut [24, 25, 26] (fun s24 s25 s26 wx => ∃ (k : Nat) (va : Option Addr) (vc : Nat), s24 = .pointer (some ⟨k, 0, none⟩) ∧ s25 = .int .i64 N ∧ s26 = .int .i64 c ∧ Blk wx k (stcs (.slice va l2.length vc) 10 d2 b2).toArray ∧ TLA wx [X, q, j, p] (.slice va l2.length vc) l2 ∧ w6.heap.size ≤ k ∧ Below w6.heap.size w6 wx)
          case first => as_aux_lemma =>
           refine wpH_start (by kernel_rfl) (fun hS => ?_)
           refine wpH_row row_st 0 (oi := ⟨some 169,.load 76 (.tmp 14),76,"law.go:97",#[],none⟩) rfl (by kernel_rfl) (by kernel_rfl) (by kernel_rfl) (by rfl) hS (vs := stcs (.slice la l'.length lc) 10 d br) (fun _ _ _ h => h) (.tmp 14) rfl rfl (rfl) (fun w' hb => hR6.bx.keep hb) ?_
           try simp only [pna, pnb, pnc, pnd, pne]
           (refine hP 1 ?_ ⟨some 170, .move (.tmp 0), 69, "", #[], none⟩ hS ?_ ?_; rotate_left; focus (intro w; go_simp; try with_reducible rfl))
           try simp only [pna, pnb, pnc, pnd, pne]
           (refine hP 2 ?_ ⟨some 171, .move (.tmp 16), 3, "", #[], none⟩ hS ?_ ?_; rotate_left; focus (intro w; go_simp; try with_reducible rfl))
           try simp only [pna, pnb, pnc, pnd, pne]
           refine wpH_load 3 (.pointer (some ⟨g, off + i * 4, none⟩)) (oi := ⟨some 172,.indexAddr 69 (.tmp 170) (.tmp 171),0,"law.go:97",#[⟨1,.data⟩, ⟨2,.data⟩],none⟩) rfl (by kernel_rfl) (by kernel_rfl) (by kernel_rfl) (by rfl) hS (fun _ _ _ h => h) (fun w' hb2 => (by go_simp; try rfl)) ?_
           try simp only [pna, pnb, pnc, pnd, pne]
           (refine hP 4 ?_ ⟨some 173, .fieldAddr 80 (.tmp 172) 1, 0, "", #[], none⟩ hS ?_ ?_; rotate_left; focus (intro w; go_simp; try with_reducible rfl))
           try simp only [pna, pnb, pnc, pnd, pne]
           refine wpH_load 5 (.int .i64 x.n) (oi := ⟨some 174,.load 3 (.tmp 173),3,"law.go:97",#[⟨4,.data⟩],none⟩) rfl (by kernel_rfl) (by kernel_rfl) (by kernel_rfl) (by rfl) hS (fun _ _ _ h => h) (fun w' hb2 => (by have c := (hb2.cell (p := ⟨g, off + i * 4 + 1, none⟩) hg6).trans c26; go_simp; try rfl)) ?_
           try simp only [pna, pnb, pnc, pnd, pne]
           (refine hP 6 ?_ ⟨some 175, .move (.tmp 21), 3, "", #[], none⟩ hS ?_ ?_; rotate_left; focus (intro w; go_simp; try with_reducible rfl))
           try simp only [pna, pnb, pnc, pnd, pne]
           refine wpAnyH_all (rs := [7, 12]) (by kernel_rfl) (by simp) (fun jj hjj => ?_)
           simp only [List.mem_cons, List.not_mem_nil, or_false] at hjj
           rcases hjj with rfl | rfl
           refine wpO_call (oi := ⟨some 176,.call { callee := .value (.func 40), args := #[.tmp 169, .tmp 174, .tmp 175], argTypes := #[76, 3, 3] },84,"law.go:97",#[⟨0,.data⟩, ⟨5,.data⟩, ⟨6,.data⟩],none⟩) rfl (by rfl) (q3 _ hS) ?_ ?_
           ·(go_simp; try rfl)
           rintro e w' ⟨v7, rfl, hT7, hbx⟩
           refine ⟨_, rfl, hS.trans (hbx.mono hS.size), ?_⟩
           replace hS := hS.trans (hbx.mono hS.size)
           obtain ⟨va, vc, rfl⟩ := hT7.form
           try replace N24 := N24.keep hbx
           try have hT8 := hT7.sub (bv := [k24, X, q, j, p]) (by intro y hy; simp at hy ⊢; omega)
           try simp only [pna, pnb, pnc, pnd, pne]
           (refine hP 8 ?_ ⟨some 168, .move (.tmp 176), 84, "", #[], none⟩ hS ?_ ?_; rotate_left; focus (intro w; go_simp; try with_reducible rfl))
           try simp only [pna, pnb, pnc, pnd, pne]
           (refine hP 9 ?_ ⟨some 177, .extract (.tmp 168) 0, 76, "", #[], none⟩ hS ?_ ?_; rotate_left; focus (intro w; go_simp; try with_reducible rfl))
           try simp only [pna, pnb, pnc, pnd, pne]
           (refine hP 10 ?_ ⟨some 178, .extract (.tmp 168) 1, 3, "", #[], none⟩ hS ?_ ?_; rotate_left; focus (intro w; go_simp; try with_reducible rfl))
           try simp only [pna, pnb, pnc, pnd, pne]
           (refine hP 11 ?_ ⟨some 179, .extract (.tmp 168) 2, 30, "", #[], none⟩ hS ?_ ?_; rotate_left; focus (intro w; go_simp; try with_reducible rfl))
           try simp only [pna, pnb, pnc, pnd, pne]
           refine wpH_op 12 (oi := ⟨some 24,.alloc 76,0,"law.go:97",#[],none⟩) rfl (by kernel_rfl) (by rfl) ?_
           refine wp_newK 76 zst.toArray (fun k => .pointer (some ⟨k, 0, none⟩)) (fun w => by go_simp; try rfl) (fun k24 w24 hk24 hh24 hlt24 hbk24 => ?_)
           have hk6 : w6.heap.size ≤ k24 := Nat.le_trans hS.size hk24
           have N24 := Blk.of_heap hh24 hlt24
           try have hT8 := (hT7.sub (bv := [k24, X, q, j, p]) (by intro y hy; simp at hy ⊢; omega)).keep hbk24
           replace hS := hS.trans (hbk24.mono hS.size)
           refine ⟨hS, ?_⟩
           try simp only [pna, pnb, pnc, pnd, pne]
           refine wpH_op 13 (oi := ⟨none,.store 76 (.tmp 24) (.tmp 177),0,"law.go:97",#[⟨12,.data⟩, ⟨9,.data⟩, ⟨7,.chain⟩, ⟨0,.phase⟩, ⟨1,.phase⟩, ⟨2,.phase⟩, ⟨3,.phase⟩, ⟨4,.phase⟩, ⟨5,.phase⟩, ⟨6,.phase⟩, ⟨7,.phase⟩, ⟨8,.phase⟩, ⟨9,.phase⟩, { on := 10, ground := .textOnly Departure.lateStores }, { on := 11, ground := .textOnly Departure.lateStores }, ⟨12,.phase⟩],none⟩) rfl (by kernel_rfl) (by rfl) ?_
           refine wp_rowStore row_st (.tmp 24) (.tmp 177) rfl rfl rfl (vs := stcs (.slice va l2.length vc) 10 d2 b2) rfl (stcs_one _ _ _ _ _ _) (us := zst) rfl N24 ?_
           rintro w9 N9 m9
           have hT9 := (hT8.modl m9 (by intro y hy; simp at hy; simp [hy])).sub (bv := [X, q, j, p]) (by intro y hy; simp at hy ⊢; omega)
           replace hS := Below.mod hS m9 hS.size (by simp; omega)
           refine ⟨hS, ?_⟩
           try simp only [pna, pnb, pnc, pnd, pne]
           (refine hP 14 ?_ ⟨some 25, .assign (.tmp 178), 3, "", #[], none⟩ hS ?_ ?_; rotate_left; focus (intro w; go_simp; try with_reducible rfl))
           try simp only [pna, pnb, pnc, pnd, pne]
           (refine hP 15 ?_ ⟨some 26, .assign (.tmp 179), 30, "", #[], none⟩ hS ?_ ?_; rotate_left; focus (intro w; go_simp; try with_reducible rfl))
           try simp only [pna, pnb, pnc, pnd, pne]
           refine wpAnyH_done (by kernel_rfl) ?_ _
           go_wp2_with fail
           go_meet
           exact ⟨k24, va, vc, rfl, rfl, rfl, N9, hT9, hk6, hS⟩
           refine wpO_op (oi := ⟨some 24,.alloc 76,0,"law.go:97",#[],none⟩) rfl (by rfl) ?_
           refine wp_newK 76 zst.toArray (fun k => .pointer (some ⟨k, 0, none⟩)) (fun w => by go_simp; try rfl) (fun k24 w24 hk24 hh24 hlt24 hbk24 => ?_)
           have hk6 : w6.heap.size ≤ k24 := Nat.le_trans hS.size hk24
           have N24 := Blk.of_heap hh24 hlt24
           try have hT8 := (hT7.sub (bv := [k24, X, q, j, p]) (by intro y hy; simp at hy ⊢; omega)).keep hbk24
           replace hS := hS.trans (hbk24.mono hS.size)
           refine ⟨hS, ?_⟩
           try simp only [pna, pnb, pnc, pnd, pne]
           refine wpH_call 7 (oi := ⟨some 176,.call { callee := .value (.func 40), args := #[.tmp 169, .tmp 174, .tmp 175], argTypes := #[76, 3, 3] },84,"law.go:97",#[⟨0,.data⟩, ⟨5,.data⟩, ⟨6,.data⟩],none⟩) rfl (by kernel_rfl) (by rfl) (q3 _ hS) ?_ ?_
           ·(go_simp; try rfl)
           rintro e w' ⟨v7, rfl, hT7, hbx⟩
           refine ⟨_, rfl, hS.trans (hbx.mono hS.size), ?_⟩
           replace hS := hS.trans (hbx.mono hS.size)
           obtain ⟨va, vc, rfl⟩ := hT7.form
           try replace N24 := N24.keep hbx
           try have hT8 := hT7.sub (bv := [k24, X, q, j, p]) (by intro y hy; simp at hy ⊢; omega)
           try simp only [pna, pnb, pnc, pnd, pne]
           (refine hP 8 ?_ ⟨some 168, .move (.tmp 176), 84, "", #[], none⟩ hS ?_ ?_; rotate_left; focus (intro w; go_simp; try with_reducible rfl))
           try simp only [pna, pnb, pnc, pnd, pne]
           (refine hP 9 ?_ ⟨some 177, .extract (.tmp 168) 0, 76, "", #[], none⟩ hS ?_ ?_; rotate_left; focus (intro w; go_simp; try with_reducible rfl))
           try simp only [pna, pnb, pnc, pnd, pne]
           (refine hP 10 ?_ ⟨some 178, .extract (.tmp 168) 1, 3, "", #[], none⟩ hS ?_ ?_; rotate_left; focus (intro w; go_simp; try with_reducible rfl))
           try simp only [pna, pnb, pnc, pnd, pne]
           (refine hP 11 ?_ ⟨some 179, .extract (.tmp 168) 2, 30, "", #[], none⟩ hS ?_ ?_; rotate_left; focus (intro w; go_simp; try with_reducible rfl))
           try simp only [pna, pnb, pnc, pnd, pne]
           refine wpH_op 13 (oi := ⟨none,.store 76 (.tmp 24) (.tmp 177),0,"law.go:97",#[⟨12,.data⟩, ⟨9,.data⟩, ⟨7,.chain⟩, ⟨0,.phase⟩, ⟨1,.phase⟩, ⟨2,.phase⟩, ⟨3,.phase⟩, ⟨4,.phase⟩, ⟨5,.phase⟩, ⟨6,.phase⟩, ⟨7,.phase⟩, ⟨8,.phase⟩, ⟨9,.phase⟩, { on := 10, ground := .textOnly Departure.lateStores }, { on := 11, ground := .textOnly Departure.lateStores }, ⟨12,.phase⟩],none⟩) rfl (by kernel_rfl) (by rfl) ?_
           refine wp_rowStore row_st (.tmp 24) (.tmp 177) rfl rfl rfl (vs := stcs (.slice va l2.length vc) 10 d2 b2) rfl (stcs_one _ _ _ _ _ _) (us := zst) rfl N24 ?_
           rintro w9 N9 m9
           have hT9 := (hT8.modl m9 (by intro y hy; simp at hy; simp [hy])).sub (bv := [X, q, j, p]) (by intro y hy; simp at hy ⊢; omega)
           replace hS := Below.mod hS m9 hS.size (by simp; omega)
           refine ⟨hS, ?_⟩
           try simp only [pna, pnb, pnc, pnd, pne]
           (refine hP 14 ?_ ⟨some 25, .assign (.tmp 178), 3, "", #[], none⟩ hS ?_ ?_; rotate_left; focus (intro w; go_simp; try with_reducible rfl))
           try simp only [pna, pnb, pnc, pnd, pne]
           (refine hP 15 ?_ ⟨some 26, .assign (.tmp 179), 30, "", #[], none⟩ hS ?_ ?_; rotate_left; focus (intro w; go_simp; try with_reducible rfl))
           try simp only [pna, pnb, pnc, pnd, pne]
           refine wpAnyH_done (by kernel_rfl) ?_ _
           go_wp2_with fail
           go_meet
           exact ⟨k24, va, vc, rfl, rfl, rfl, N9, hT9, hk6, hS⟩
          case rest => as_aux_lemma =>
           obtain ⟨k, va, vc, rfl, rfl, rfl, NK, hT9, hk, hb9⟩ := hcut
           have BX := hR6.bx.keep hb9
           have HT9 := Lib.hid hT9
           have hb9w := hb6w.trans (hb9.mono hb6w.size)
           clear hT9 q3
           go_wp2_with (first
            | (refine wpList_rowLoad row_st rfl (.tmp 24) rfl rfl (vs := stcs (.slice va l2.length vc) 10 d2 b2) rfl NK ?_)
            | (refine wpList_rowStore row_st rfl rfl (.tmp 14) (.tmp 180) rfl rfl rfl (vs := stcs (.slice va l2.length vc) 10 d2 b2) rfl (stcs_one _ _ _ _ _ _) (us := stcs (.slice la l'.length lc) 10 d br) rfl BX ?_; intro w10 N10 m10)
            | fail)
           go_meet
           exact ⟨c, q, j, m6, base, av, _, d2, b2, T2, l2, rfl, rfl, rfl, Lib.hid ⟨(HP6.out.keep hb9).modX ⟨_, BX, rfl⟩ m10, ⟨N10, HT9.out.modl m10 (by simp)⟩, HI2.out⟩, HH2, Below.mod hb9w m10 hb9w.size (by simp; omega)⟩
       ·by_cases k2 : K = 2
        ·as_aux_lemma =>
          subst k2
          have g0 : ((2 : Int) == 0) = false := by decide
          have g1 : ((2 : Int) == 1) = false := by decide
          have g5 : ((2 : Int) == 5) = false := by decide
          have q1 := HPP.out.fuse x.n
          have hH2 := HHO.out.more.fuse' x.n hI64.2
          go_wp2_with fail
          refine q1.mono ?_
          rintro e w6 ⟨rfl, hP6, mm6⟩
          have hR6 := HRP.out.modP HPP.out.xp mm6
          have hb6w := HPP.out.below hbr (Nat.le_refl _) mm6
          have hg6 := Nat.lt_of_lt_of_le hg hb6w.size
          have c26 := (hb6w.cell (p := ⟨g, off + i * 4 + 1, none⟩) hg).trans (range4 HR.out).2.1
          have hlo6 := hP6.lo
          have HH2 := Lib.hid hH2
          have HP6 := Lib.hid hP6
          clear q1 hH2 hP6 c0 c1 c2 c3 HRP hfz hroom hdl hll
          go_wp2_with fail
          refine wpH_startM [X] (by kernel_rfl) (fun hS => ?_)
          have KX := hR6.bx.drew
          (refine hP 0 ?_ ⟨some 195, .fieldAddr 76 (.tmp 14) 2, 0, "", #[], none⟩ hS ?_ ?_; rotate_left; focus (intro w; go_simp; try with_reducible rfl))
          try simp only [pna, pnb, pnc, pnd, pne]
          (refine hP 2 ?_ ⟨some 197, .move (.tmp 0), 69, "", #[], none⟩ hS ?_ ?_; rotate_left; focus (intro w; go_simp; try with_reducible rfl))
          try simp only [pna, pnb, pnc, pnd, pne]
          (refine hP 3 ?_ ⟨some 198, .move (.tmp 16), 3, "", #[], none⟩ hS ?_ ?_; rotate_left; focus (intro w; go_simp; try with_reducible rfl))
          try simp only [pna, pnb, pnc, pnd, pne]
          refine wpH_load 4 (.pointer (some ⟨g, off + i * 4, none⟩)) (oi := ⟨some 199,.indexAddr 69 (.tmp 197) (.tmp 198),0,"law.go:105",#[⟨2,.data⟩, ⟨3,.data⟩],none⟩) rfl (by kernel_rfl) (by kernel_rfl) (by kernel_rfl) (by rfl) hS (fun _ _ _ h => h) (fun w' hb2 => (by go_simp; try rfl)) ?_
          try simp only [pna, pnb, pnc, pnd, pne]
          (refine hP 5 ?_ ⟨some 200, .fieldAddr 80 (.tmp 199) 1, 0, "", #[], none⟩ hS ?_ ?_; rotate_left; focus (intro w; go_simp; try with_reducible rfl))
          try simp only [pna, pnb, pnc, pnd, pne]
          refine wpH_load 6 (.int .i64 x.n) (oi := ⟨some 201,.load 3 (.tmp 200),3,"law.go:105",#[⟨5,.data⟩],none⟩) rfl (by kernel_rfl) (by kernel_rfl) (by kernel_rfl) (by rfl) hS (fun _ _ _ h => h) (fun w' hb2 => (by have c := (mod_cell hb2 hg6 (by simpa using hgX)).trans c26; go_simp; try rfl)) ?_
          try simp only [pna, pnb, pnc, pnd, pne]
          refine wpH_op 1 (oi := ⟨some 196,.load 72 (.tmp 195),72,"law.go:105",#[⟨0,.data⟩],none⟩) rfl (by kernel_rfl) (by rfl) ?_
          refine wp_rowLoadA row_dk (.tmp 195) rfl rfl (vs := dcs d) rfl (st_disk KX) ?_
          refine ⟨hS, ?_⟩
          try simp only [pna, pnb, pnc, pnd, pne]
          refine wpH_call 7 (oi := ⟨some 202,.call { callee := .value (.func 41), args := #[.tmp 196, .tmp 201], argTypes := #[72, 3] },72,"law.go:105",#[⟨1,.data⟩, ⟨6,.data⟩],none⟩) rfl (by kernel_rfl) (by rfl) (rfuse_any d x.n _) ?_ ?_
          ·(go_simp; try rfl)
          rintro e w' ⟨rfl, hbx⟩
          refine ⟨_, rfl, hS.trans (Mod.of_below hbx), ?_⟩
          replace hS := hS.trans (Mod.of_below hbx)
          replace KX := KX.keep hbx
          try simp only [pna, pnb, pnc, pnd, pne]
          (refine hP 8 ?_ ⟨some 203, .fieldAddr 76 (.tmp 14) 2, 0, "", #[], none⟩ hS ?_ ?_; rotate_left; focus (intro w; go_simp; try with_reducible rfl))
          try simp only [pna, pnb, pnc, pnd, pne]
          refine wpH_op 9 (oi := ⟨none,.store 72 (.tmp 203) (.tmp 202),0,"law.go:105",#[⟨8,.data⟩, ⟨7,.data⟩, ⟨7,.chain⟩, ⟨0,.phase⟩, ⟨1,.phase⟩, ⟨2,.phase⟩, ⟨3,.phase⟩, ⟨4,.phase⟩, ⟨5,.phase⟩, ⟨6,.phase⟩, ⟨7,.phase⟩],none⟩) rfl (by kernel_rfl) (by rfl) ?_
          refine wp_rowStoreA row_dk (.tmp 203) (.tmp 202) rfl rfl rfl (vs := dcs (fuseD d x.n)) rfl (dcs_one _) (us := stcs (.slice la l'.length lc) 10 d br) (by simp) KX ?_
          rintro w9 N9 m9
          replace hS := hS.trans m9
          refine ⟨hS, ?_⟩
          try simp only [pna, pnb, pnc, pnd, pne]
          refine wpAnyH_done (by kernel_rfl) ?_ _
          have N10 : Blk w9 X (stcs (.slice la l'.length lc) 10 (fuseD d x.n) br).toArray := N9
          have HP9 := HP6.out.modX hR6.some hS
          have hT9 := hR6.tl.modl hS (by simp)
          have hb9w := Below.mod hb6w hS hb6w.size (by simp; omega)
          clear c26 KX m9 hS N9
          go_wp2_with fail
          go_meet
          exact ⟨0, q, j, m, base, av, _, fuseD d x.n, br, T, l', rfl, rfl, rfl, Lib.hid ⟨HP9, ⟨N10, hT9⟩, HIM.out⟩, HH2, hb9w⟩
        ·by_cases k3 : K = 3
         ·as_aux_lemma =>
           subst k3
           have g0 : ((3 : Int) == 0) = false := by decide
           have g1 : ((3 : Int) == 1) = false := by decide
           have g5 : ((3 : Int) == 5) = false := by decide
           have g2 : ((3 : Int) == 2) = false := by decide
           have q1 := HPP.out.crash HHO.out x.n
           obtain ⟨B', T', hSc, hcl, ho, hH⟩ := HHO.out.crash x.n
           have hdsf := HHO.out.safe
           go_wp2_with fail
           refine q1.mono ?_
           rintro e w6 ⟨rfl, hP6, mm6⟩
           have hR6 := HRP.out.modP HPP.out.xp mm6
           have hb6w := HPP.out.below hbr (Nat.le_refl _) mm6
           have hg6 := Nat.lt_of_lt_of_le hg hb6w.size
           have c26 := (hb6w.cell (p := ⟨g, off + i * 4 + 1, none⟩) hg).trans (range4 HR.out).2.1
           have hlo6 := hP6.lo
           have HP6 := Lib.hid hP6
           clear q1 hP6 HRP
           go_wp2_with fail
           refine wpH_startM [X] (by kernel_rfl) (fun hS => ?_)
           have KX := hR6.bx.drew
           (refine hP 0 ?_ ⟨some 220, .fieldAddr 76 (.tmp 14) 2, 0, "", #[], none⟩ hS ?_ ?_; rotate_left; focus (intro w; go_simp; try with_reducible rfl))
           try simp only [pna, pnb, pnc, pnd, pne]
           (refine hP 2 ?_ ⟨some 222, .move (.tmp 0), 69, "", #[], none⟩ hS ?_ ?_; rotate_left; focus (intro w; go_simp; try with_reducible rfl))
           try simp only [pna, pnb, pnc, pnd, pne]
           (refine hP 3 ?_ ⟨some 223, .move (.tmp 16), 3, "", #[], none⟩ hS ?_ ?_; rotate_left; focus (intro w; go_simp; try with_reducible rfl))
           try simp only [pna, pnb, pnc, pnd, pne]
           refine wpH_load 4 (.pointer (some ⟨g, off + i * 4, none⟩)) (oi := ⟨some 224,.indexAddr 69 (.tmp 222) (.tmp 223),0,"law.go:109",#[⟨2,.data⟩, ⟨3,.data⟩],none⟩) rfl (by kernel_rfl) (by kernel_rfl) (by kernel_rfl) (by rfl) hS (fun _ _ _ h => h) (fun w' hb2 => (by go_simp; try rfl)) ?_
           try simp only [pna, pnb, pnc, pnd, pne]
           (refine hP 5 ?_ ⟨some 225, .fieldAddr 80 (.tmp 224) 1, 0, "", #[], none⟩ hS ?_ ?_; rotate_left; focus (intro w; go_simp; try with_reducible rfl))
           try simp only [pna, pnb, pnc, pnd, pne]
           refine wpH_load 6 (.int .i64 x.n) (oi := ⟨some 226,.load 3 (.tmp 225),3,"law.go:109",#[⟨5,.data⟩],none⟩) rfl (by kernel_rfl) (by kernel_rfl) (by kernel_rfl) (by rfl) hS (fun _ _ _ h => h) (fun w' hb2 => (by have c := (mod_cell hb2 hg6 (by simpa using hgX)).trans c26; go_simp; try rfl)) ?_
           try simp only [pna, pnb, pnc, pnd, pne]
           refine wpH_op 1 (oi := ⟨some 221,.load 72 (.tmp 220),72,"law.go:109",#[⟨0,.data⟩],none⟩) rfl (by kernel_rfl) (by rfl) ?_
           refine wp_rowLoadA row_dk (.tmp 220) rfl rfl (vs := dcs d) rfl (st_disk KX) ?_
           refine ⟨hS, ?_⟩
           try simp only [pna, pnb, pnc, pnd, pne]
           refine wpH_call 7 (oi := ⟨some 227,.call { callee := .value (.func 42), args := #[.tmp 221, .tmp 226], argTypes := #[72, 3] },72,"law.go:109",#[⟨1,.data⟩, ⟨6,.data⟩],none⟩) rfl (by kernel_rfl) (by rfl) (rcrash_any d x.n hI64 hdsf (by omega) _) ?_ ?_
           ·(go_simp; try rfl)
           rintro e w' ⟨rfl, hbx⟩
           refine ⟨_, rfl, hS.trans (Mod.of_below hbx), ?_⟩
           replace hS := hS.trans (Mod.of_below hbx)
           replace KX := KX.keep hbx
           try simp only [pna, pnb, pnc, pnd, pne]
           (refine hP 8 ?_ ⟨some 228, .fieldAddr 76 (.tmp 14) 2, 0, "", #[], none⟩ hS ?_ ?_; rotate_left; focus (intro w; go_simp; try with_reducible rfl))
           try simp only [pna, pnb, pnc, pnd, pne]
           refine wpH_op 9 (oi := ⟨none,.store 72 (.tmp 228) (.tmp 227),0,"law.go:109",#[⟨8,.data⟩, ⟨7,.data⟩, ⟨7,.chain⟩, ⟨0,.phase⟩, ⟨1,.phase⟩, ⟨2,.phase⟩, ⟨3,.phase⟩, ⟨4,.phase⟩, ⟨5,.phase⟩, ⟨6,.phase⟩, ⟨7,.phase⟩],none⟩) rfl (by kernel_rfl) (by rfl) ?_
           refine wp_rowStoreA row_dk (.tmp 228) (.tmp 227) rfl rfl rfl (vs := dcs (crashD d x.n)) rfl (dcs_one _) (us := stcs (.slice la l'.length lc) 10 d br) (by simp) KX ?_
           rintro w9 N9 m9
           replace hS := hS.trans m9
           refine ⟨hS, ?_⟩
           try simp only [pna, pnb, pnc, pnd, pne]
           refine wpAnyH_done (by kernel_rfl) ?_ _
           have N10 : Blk w9 X (stcs (.slice la l'.length lc) 10 (crashD d x.n) br).toArray := N9
           have hP9 := HP6.out.modX hR6.some hS
           have hT9 := hR6.tl.modl hS (by simp)
           have hb9w := Below.mod hb6w hS hb6w.size (by simp; omega)
           have hcf : -1 ≤ (crashD d x.n).fuse ∧ (crashD d x.n).fuse ≤ 9223372036854775807 := by rw [show (crashD d x.n).fuse = -1 from rfl]; omega
           have HOPS := And.intro ho hH
           have c2' := c2
           clear c26 KX m9 hS N9 ho hH hR6 c2
           generalize crashD d x.n = dc at *
           obtain ⟨tail, hsT, htT⟩ := hSc.sc
           have q3 := hP9.open hSc (by omega) hcl hcf hb9w.size (HK.out.keep hb9w)
           have q4 := fun (av3 : List Nat) (W : World) (hx : ∀ x ∈ av3, x < W.heap.size) => ropen_any av3 dc 10 (by omega) (by omega) B' T' tail hsT hSc.may htT (by omega) hSc.ch (by have := hSc.cnt; omega) (by have := hSc.bl; omega) (by omega) W hx
           generalize openD dc (recsP B').length = r at *
           obtain ⟨d2, c2⟩ := r
           simp only at q3 q4 HOPS
           have hx4 := hP9.four
           have hxp := hP9.xp
           have HN10 := Lib.hid N10
           have HT9 := Lib.hid hT9
           have HPB := fun W (hm : Mod [p, j, q] w9 W) => hP9.below hb9w (Nat.le_refl _) hm
           clear hsT htT hSc hP9 N10 hT9 hcl hcf c0 c1 c2' c3
           obtain ⟨rfl, hHK⟩ := HOPS
           have HOKH := Lib.hid hHK
           clear hHK
           go_wp2_with fail
           refine q3.mono ?_
           rintro e w10 ⟨mm10, hyes, -⟩
           obtain ⟨q', j', m', base', av', rfl, kq, kj, hP10⟩ := hyes rfl
           have N11 := HN10.out.mod mm10 (by simp; exact ⟨hxp.1, hxp.2.2, hxp.2.1⟩)
           have hb10w := HPB w10 mm10
           have q5 := q4 [X, q', j', p] w10 hP10.four
           have hx10 := hP10.four X (by simp)
           have HP10 := Lib.hid hP10
           clear q3 q4 hyes mm10 HPB hP10
           go_wp2_with (first | (refine wpList_rowLoadAt row_dk rfl (.tmp 235) rfl rfl rfl (st_disk N11) ?_) | fail)
           refine q5.mono ?_
           rintro e w11 ⟨hb11, hy11, -⟩
           obtain ⟨v11, l2, rfl, hI11, hT11⟩ := hy11 rfl
           obtain ⟨va, vc, rfl⟩ := hT11.form
           have N12 := N11.keep hb11
           have HI11 := Lib.hid hI11
           have HT11 := Lib.hid hT11
           have hb11w := hb10w.trans (hb11.mono hb10w.size)
           have hs11 := hb11.size
           have zB : Below w11.heap.size w11 ((w11.alloc (.cells (dcs ⟨[], 0, 0, 0, false⟩).toArray 72)).alloc (.cells zst.toArray 76)) := Below.allocS (Below.allocS (Below.refl _ _) _) _
           have z1 : Blk ((w11.alloc (.cells (dcs ⟨[], 0, 0, 0, false⟩).toArray 72)).alloc (.cells zst.toArray 76)) w11.heap.size (dcs ⟨[], 0, 0, 0, false⟩).toArray := (Blk.new _ _ _).alloc _
           have z2 : Blk ((w11.alloc (.cells (dcs ⟨[], 0, 0, 0, false⟩).toArray 72)).alloc (.cells zst.toArray 76)) (w11.heap.size + 1) zst.toArray := Blk.new' (by simp)
           clear q5 hy11 hI11 hT11 N11
           go_wp2_with (first
            | (refine wpList_rowStore row_dk rfl rfl (.tmp 29) (.tmp 238) rfl rfl rfl (vs := dcs d2) rfl (dcs_one _) (us := dcs ⟨[], 0, 0, 0, false⟩) rfl z1 ?_; intro w12 N29 m12; replace zB := Below.mod zB m12 zB.size (by simp); replace z2 := z2.mod m12 (by simp))
            | (refine wpList_rowStore row_st rfl rfl (.tmp 30) (.tmp 239) rfl rfl rfl (vs := stcs (.slice va l2.length vc) 10 d2 false) rfl (stcs_one _ _ _ _ _ _) (us := zst) rfl z2 ?_; intro w13 N30 m13; replace zB := Below.mod zB m13 zB.size (by simp); replace N29 := N29.mod m13 (by simp); have NX := N12.keep zB)
            | (refine wpList_rowLoad row_dk rfl (.tmp 29) rfl rfl (vs := dcs d2) rfl N29 ?_)
            | (refine wpList_rowStoreAt row_dk rfl rfl (.tmp 242) (.tmp 241) rfl rfl rfl (vs := dcs d2) rfl (dcs_one _) (us := stcs (.slice la l'.length lc) 10 dc br) (by simp) NX ?_; intro w14 N14 m14)
            | fail)
           have N15 : Blk w14 X (stcs (.slice la l'.length lc) 10 d2 br).toArray := N14
           have N31 := N30.mod m14 (by simp; omega)
           have hP11 := HP10.out.keep hb11
           have hP14 := (hP11.keep zB).modX ⟨_, NX, rfl⟩ m14
           have hT14 := (HT11.out.keep zB).modl m14 (by simp)
           have hb13w := hb11w.trans (zB.mono hb11w.size)
           have hb14w := Below.mod hb13w m14 hb13w.size (by have h := hP14.lo; simp; omega)
           have HP14 := Lib.hid hP14
           have HT14 := Lib.hid hT14
           clear hP11 hP14 hT14 N14 z1 z2 zB m12 m13 m14 N29 NX N12 N30
           refine wpH_startM [X] (by kernel_rfl) (fun hS => ?_)
           have KX := N15.drew
           (refine hP 0 ?_ ⟨some 252, .move (.tmp 27), 43, "", #[], none⟩ hS ?_ ?_; rotate_left; focus (intro w; go_simp; try with_reducible rfl))
           try simp only [pna, pnb, pnc, pnd, pne]
           refine wpH_row row_st 1 (oi := ⟨some 253,.load 76 (.tmp 30),76,"law.go:119",#[{ on := 2, ground := .gcOnly Departure.lateStores }],none⟩) rfl (by kernel_rfl) (by kernel_rfl) (by kernel_rfl) (by rfl) hS (vs := stcs (.slice va l2.length vc) 10 d2 false) (fun _ _ _ h => h) (.tmp 30) rfl rfl (rfl) (fun w' hb => N31.mod hb (by simp; omega)) ?_
           try simp only [pna, pnb, pnc, pnd, pne]
           (refine hP 2 ?_ ⟨some 11, .assign (.tmp 252), 43, "", #[], none⟩ hS ?_ ?_; rotate_left; focus (intro w; go_simp; try with_reducible rfl))
           try simp only [pna, pnb, pnc, pnd, pne]
           refine wpH_op 3 (oi := ⟨none,.store 76 (.tmp 14) (.tmp 253),0,"law.go:119",#[⟨1,.data⟩, ⟨2,.chain⟩, ⟨0,.phase⟩, ⟨1,.phase⟩, ⟨2,.phase⟩],none⟩) rfl (by kernel_rfl) (by rfl) ?_
           refine wp_rowStore row_st (.tmp 14) (.tmp 253) rfl rfl rfl (vs := stcs (.slice va l2.length vc) 10 d2 false) rfl (stcs_one _ _ _ _ _ _) (us := stcs (.slice la l'.length lc) 10 d2 br) rfl KX ?_
           rintro w16 N16 m16
           replace hS := hS.trans m16
           refine ⟨hS, ?_⟩
           try simp only [pna, pnb, pnc, pnd, pne]
           refine wpAnyH_done (by kernel_rfl) ?_ _
           have hP16 := HP14.out.modX ⟨_, N15, rfl⟩ hS
           have hT16 := HT14.out.modl hS (by simp)
           have hb16w := Below.mod hb14w hS hb14w.size (by have h := hP16.lo; simp; omega)
           clear KX m16 N31
           go_wp2_with fail
           go_meet
           exact ⟨0, q', j', m', base', av', _, d2, false, T', l2, rfl, rfl, rfl, Lib.hid ⟨hP16, ⟨N16, hT16⟩, HI11.out⟩, HOKH, hb16w⟩
         ·by_cases k4 : K = 4
          ·as_aux_lemma =>
            subst k4
            have g0 : ((4 : Int) == 0) = false := by decide
            have g1 : ((4 : Int) == 1) = false := by decide
            have g5 : ((4 : Int) == 5) = false := by decide
            have g2 : ((4 : Int) == 2) = false := by decide
            have g3 : ((4 : Int) == 3) = false := by decide
            obtain ⟨w9, hw9⟩ : ∃ w9, w9 = wr := ⟨_, rfl⟩
            subst hw9
            obtain ⟨B', T', hSc, HOK, HBAD⟩ := HHO.out.again
            have hP9 := HPP.out
            have N10 := HRP.out.bx
            have hT9 := HRP.out.tl
            have hb9w := hbr
            have hcf := HHO.out.fuse
            have hcl := HHO.out.len
            have HOPS := And.intro HOK HBAD
            obtain ⟨dc, hdc⟩ : ∃ dc, dc = d := ⟨_, rfl⟩
            rw [← hdc] at hSc HOPS hP9 N10 hcf hcl
            have c2' := c2
            have C0 := Lib.hid c0
            clear HOK HBAD c2 hdc
            obtain ⟨tail, hsT, htT⟩ := hSc.sc
            have q3 := hP9.open hSc (by omega) hcl hcf hb9w.size (HK.out.keep hb9w)
            have q4 := fun (av3 : List Nat) (W : World) (hx : ∀ x ∈ av3, x < W.heap.size) => ropen_any av3 dc 10 (by omega) (by omega) B' T' tail hsT hSc.may htT (by omega) hSc.ch (by have := hSc.cnt; omega) (by have := hSc.bl; omega) (by omega) W hx
            generalize openD dc (recsP B').length = r at *
            obtain ⟨d2, c2⟩ := r
            simp only at q3 q4 HOPS
            have hx4 := hP9.four
            have hxp := hP9.xp
            have HN10 := Lib.hid N10
            have HT9 := Lib.hid hT9
            have HPB := fun W (hm : Mod [p, j, q] w9 W) => hP9.below hb9w (Nat.le_refl _) hm
            clear hsT htT hSc hP9 N10 hT9 hcl hcf c0 c1 c2' c3
            have c0 := C0.out
            obtain ⟨HOK, HBAD⟩ := HOPS
            by_cases hc2 : c2 = 0
            ·subst hc2
             have HOKH := Lib.hid (HOK rfl)
             clear HOK HBAD
             go_wp2_with fail
             refine q3.mono ?_
             rintro e w10 ⟨mm10, hyes, -⟩
             obtain ⟨q', j', m', base', av', rfl, kq, kj, hP10⟩ := hyes rfl
             have N11 := HN10.out.mod mm10 (by simp; exact ⟨hxp.1, hxp.2.2, hxp.2.1⟩)
             have hb10w := HPB w10 mm10
             have q5 := q4 [X, q', j', p] w10 hP10.four
             have hx10 := hP10.four X (by simp)
             have HP10 := Lib.hid hP10
             clear q3 q4 hyes mm10 HPB hP10
             go_wp2_with (first | (refine wpList_rowLoadAt row_dk rfl (.tmp 235) rfl rfl rfl (st_disk N11) ?_) | fail)
             refine q5.mono ?_
             rintro e w11 ⟨hb11, hy11, -⟩
             obtain ⟨v11, l2, rfl, hI11, hT11⟩ := hy11 rfl
             obtain ⟨va, vc, rfl⟩ := hT11.form
             have N12 := N11.keep hb11
             have HI11 := Lib.hid hI11
             have HT11 := Lib.hid hT11
             have hb11w := hb10w.trans (hb11.mono hb10w.size)
             have hs11 := hb11.size
             have zB : Below w11.heap.size w11 ((w11.alloc (.cells (dcs ⟨[], 0, 0, 0, false⟩).toArray 72)).alloc (.cells zst.toArray 76)) := Below.allocS (Below.allocS (Below.refl _ _) _) _
             have z1 : Blk ((w11.alloc (.cells (dcs ⟨[], 0, 0, 0, false⟩).toArray 72)).alloc (.cells zst.toArray 76)) w11.heap.size (dcs ⟨[], 0, 0, 0, false⟩).toArray := (Blk.new _ _ _).alloc _
             have z2 : Blk ((w11.alloc (.cells (dcs ⟨[], 0, 0, 0, false⟩).toArray 72)).alloc (.cells zst.toArray 76)) (w11.heap.size + 1) zst.toArray := Blk.new' (by simp)
             clear q5 hy11 hI11 hT11 N11
             go_wp2_with (first
              | (refine wpList_rowStore row_dk rfl rfl (.tmp 29) (.tmp 238) rfl rfl rfl (vs := dcs d2) rfl (dcs_one _) (us := dcs ⟨[], 0, 0, 0, false⟩) rfl z1 ?_; intro w12 N29 m12; replace zB := Below.mod zB m12 zB.size (by simp); replace z2 := z2.mod m12 (by simp))
              | (refine wpList_rowStore row_st rfl rfl (.tmp 30) (.tmp 239) rfl rfl rfl (vs := stcs (.slice va l2.length vc) 10 d2 false) rfl (stcs_one _ _ _ _ _ _) (us := zst) rfl z2 ?_; intro w13 N30 m13; replace zB := Below.mod zB m13 zB.size (by simp); replace N29 := N29.mod m13 (by simp); have NX := N12.keep zB)
              | (refine wpList_rowLoad row_dk rfl (.tmp 29) rfl rfl (vs := dcs d2) rfl N29 ?_)
              | (refine wpList_rowStoreAt row_dk rfl rfl (.tmp 242) (.tmp 241) rfl rfl rfl (vs := dcs d2) rfl (dcs_one _) (us := stcs (.slice la l'.length lc) 10 dc br) (by simp) NX ?_; intro w14 N14 m14)
              | fail)
             have N15 : Blk w14 X (stcs (.slice la l'.length lc) 10 d2 br).toArray := N14
             have N31 := N30.mod m14 (by simp; omega)
             have hP11 := HP10.out.keep hb11
             have hP14 := (hP11.keep zB).modX ⟨_, NX, rfl⟩ m14
             have hT14 := (HT11.out.keep zB).modl m14 (by simp)
             have hb13w := hb11w.trans (zB.mono hb11w.size)
             have hb14w := Below.mod hb13w m14 hb13w.size (by have h := hP14.lo; simp; omega)
             have HP14 := Lib.hid hP14
             have HT14 := Lib.hid hT14
             clear hP11 hP14 hT14 N14 z1 z2 zB m12 m13 m14 N29 NX N12 N30
             refine wpH_startM [X] (by kernel_rfl) (fun hS => ?_)
             have KX := N15.drew
             (refine hP 0 ?_ ⟨some 252, .move (.tmp 27), 43, "", #[], none⟩ hS ?_ ?_; rotate_left; focus (intro w; go_simp; try with_reducible rfl))
             try simp only [pna, pnb, pnc, pnd, pne]
             refine wpH_row row_st 1 (oi := ⟨some 253,.load 76 (.tmp 30),76,"law.go:119",#[{ on := 2, ground := .gcOnly Departure.lateStores }],none⟩) rfl (by kernel_rfl) (by kernel_rfl) (by kernel_rfl) (by rfl) hS (vs := stcs (.slice va l2.length vc) 10 d2 false) (fun _ _ _ h => h) (.tmp 30) rfl rfl (rfl) (fun w' hb => N31.mod hb (by simp; omega)) ?_
             try simp only [pna, pnb, pnc, pnd, pne]
             (refine hP 2 ?_ ⟨some 11, .assign (.tmp 252), 43, "", #[], none⟩ hS ?_ ?_; rotate_left; focus (intro w; go_simp; try with_reducible rfl))
             try simp only [pna, pnb, pnc, pnd, pne]
             refine wpH_op 3 (oi := ⟨none,.store 76 (.tmp 14) (.tmp 253),0,"law.go:119",#[⟨1,.data⟩, ⟨2,.chain⟩, ⟨0,.phase⟩, ⟨1,.phase⟩, ⟨2,.phase⟩],none⟩) rfl (by kernel_rfl) (by rfl) ?_
             refine wp_rowStore row_st (.tmp 14) (.tmp 253) rfl rfl rfl (vs := stcs (.slice va l2.length vc) 10 d2 false) rfl (stcs_one _ _ _ _ _ _) (us := stcs (.slice la l'.length lc) 10 d2 br) rfl KX ?_
             rintro w16 N16 m16
             replace hS := hS.trans m16
             refine ⟨hS, ?_⟩
             try simp only [pna, pnb, pnc, pnd, pne]
             refine wpAnyH_done (by kernel_rfl) ?_ _
             have hP16 := HP14.out.modX ⟨_, N15, rfl⟩ hS
             have hT16 := HT14.out.modl hS (by simp)
             have hb16w := Below.mod hb14w hS hb14w.size (by have h := hP16.lo; simp; omega)
             clear KX m16 N31
             go_wp2_with fail
             go_meet
             exact ⟨0, q', j', m', base', av', _, d2, false, T', l2, rfl, rfl, rfl, Lib.hid ⟨hP16, ⟨N16, hT16⟩, HI11.out⟩, HOKH, hb16w⟩
            ·have HBADH := Lib.hid (HBAD hc2)
             clear HOK HBAD
             have gc : (c2 != 0) = true := by simpa using hc2
             have gc2 : (c2 == 0) = false := by simpa using hc2
             go_wp2_with fail
             refine q3.mono ?_
             rintro e w10 ⟨mm10, -, hno⟩
             obtain ⟨rfl, hP10⟩ := hno hc2
             have N11 := HN10.out.mod mm10 (by simp; exact ⟨hxp.1, hxp.2.2, hxp.2.1⟩)
             have hb10w := HPB w10 mm10
             have hT10 := HT9.out.modl mm10 (by intro y hy; simp at hy ⊢; omega)
             have q5 := q4 [] w10 (by simp)
             have hx10 := hP10.four X (by simp)
             have HP10 := Lib.hid hP10
             have HT10 := Lib.hid hT10
             clear q3 q4 hno mm10 HPB hP10 hT10
             go_wp2_with (first | (refine wpList_rowLoadAt row_dk rfl (.tmp 235) rfl rfl rfl (st_disk N11) ?_) | fail)
             refine q5.mono ?_
             rintro e w11 ⟨hb11, -, hn11⟩
             obtain rfl := hn11 hc2
             have N12 := N11.keep hb11
             have hb11w := hb10w.trans (hb11.mono hb10w.size)
             have hs11 := hb11.size
             have zB : Below w11.heap.size w11 ((w11.alloc (.cells (dcs ⟨[], 0, 0, 0, false⟩).toArray 72)).alloc (.cells zst.toArray 76)) := Below.allocS (Below.allocS (Below.refl _ _) _) _
             have z1 : Blk ((w11.alloc (.cells (dcs ⟨[], 0, 0, 0, false⟩).toArray 72)).alloc (.cells zst.toArray 76)) w11.heap.size (dcs ⟨[], 0, 0, 0, false⟩).toArray := (Blk.new _ _ _).alloc _
             have z2 : Blk ((w11.alloc (.cells (dcs ⟨[], 0, 0, 0, false⟩).toArray 72)).alloc (.cells zst.toArray 76)) (w11.heap.size + 1) zst.toArray := Blk.new' (by simp)
             clear q5 hn11 N11
             go_wp2_with (first
              | (refine wpList_rowStore row_dk rfl rfl (.tmp 29) (.tmp 238) rfl rfl rfl (vs := dcs d2) rfl (dcs_one _) (us := dcs ⟨[], 0, 0, 0, false⟩) rfl z1 ?_; intro w12 N29 m12; replace zB := Below.mod zB m12 zB.size (by simp); replace z2 := z2.mod m12 (by simp))
              | (refine wpList_rowStore row_st rfl rfl (.tmp 30) (.tmp 239) rfl rfl rfl (vs := zst) rfl (by simp [Value.oneCell']) (us := zst) rfl z2 ?_; intro w13 N30 m13; replace zB := Below.mod zB m13 zB.size (by simp); replace N29 := N29.mod m13 (by simp); have NX := N12.keep zB)
              | (refine wpList_rowLoad row_dk rfl (.tmp 29) rfl rfl (vs := dcs d2) rfl N29 ?_)
              | (refine wpList_rowStoreAt row_dk rfl rfl (.tmp 242) (.tmp 241) rfl rfl rfl (vs := dcs d2) rfl (dcs_one _) (us := stcs (.slice la l'.length lc) 10 dc br) (by simp) NX ?_; intro w14 N14 m14)
              | fail)
             have N15 : Blk w14 X (stcs (.slice la l'.length lc) 10 d2 br).toArray := N14
             have hP14 := ((HP10.out.keep hb11).keep zB).modX ⟨_, NX, rfl⟩ m14
             have hT14 := ((HT10.out.keep hb11).keep zB).modl m14 (by simp)
             have hb13w := hb11w.trans (zB.mono hb11w.size)
             have hb14w := Below.mod hb13w m14 hb13w.size (by have h := hP14.lo; simp; omega)
             go_meet
             exact ⟨c2, q, j, m, base, av, _, d2, br, T, l', rfl, rfl, rfl, Lib.hid ⟨hP14, ⟨N15, hT14⟩, HIM.out⟩, HBADH, hb14w⟩
          ·have g0 : (K == 0) = false := by simpa using k0
           have g1 : (K == 1) = false := by simpa using k1
           have g5 : (K == 5) = false := by simpa using k5
           have g2 : (K == 2) = false := by simpa using k2
           have g3 : (K == 3) = false := by simpa using k3
           have g4 : (K == 4) = false := by simpa using k4
           clear k0 k1 k5 k2 k3 k4
           go_wp2_with fail
           go_meet
           exact ⟨0, q, j, m, base, av, _, d, br, T, l', rfl, rfl, rfl, Lib.hid ⟨HPP.out, HRP.out, HIM.out⟩, Lib.hid HHO.out.more, hbr⟩
    case rest =>
     as_aux_lemma =>
      obtain ⟨c, q, j, m, base, av, lv, d, br, T, l', rfl, rfl, rfl, HPQ, HHO, hbx⟩ := hcut
      obtain ⟨la, lc, rfl⟩ := HPQ.out.rp.tl.form
      have hP := HPQ.out.pp
      have hR := HPQ.out.rp
      have hT20 : T.length ≤ 1000 := by have h := HHO.out.tlen; have h2 := HL20.out; omega
      have qr := fun W (hb : Below wc.heap.size wc W) => dread_any av p d W (hP.dk.keep hb)
      have qk := fun W (hb : Below wc.heap.size wc W) => tbroken_any p j q (.map (some m)) 10 br W (hP.bq.keep hb) (hP.bj.keep hb)
      have qt := fun W (hb : Below wc.heap.size wc W) => tells_any [X, q, j, p] base q m (.pointer (some ⟨j, 0, none⟩)) T l' (.slice la l'.length lc) d br h now hh hn HHO.out.good HPQ.out.im hT20 W (hP.tm.keep hb) (hP.bq.keep hb) (hR.tl.keep hb)
      have HRX := Lib.hid hR.bx
      obtain ⟨s, safe, room, fuse, down⟩ := d
      clear hP hR hT20
      go_wp2_with fail
      refine wp_held rfl (by kernel_rfl) ?_
      (refine qP ?_ ?_ ?_; rotate_left; focus (intro w; go_simp; try with_reducible rfl))
      try simp only [pna, pnb, pnc, pnd, pne]
      (refine qP ?_ ?_ ?_; rotate_left; focus (intro w; go_simp; try with_reducible rfl))
      try simp only [pna, pnb, pnc, pnd, pne]
      refine wpQ_pure (by rfl) (.bool false) (fun w' => (by go_simp; try rfl)) ?_
      try simp only [pna, pnb, pnc, pnd, pne]
      (refine qP ?_ ?_ ?_; rotate_left; focus (intro w; go_simp; try with_reducible rfl))
      try simp only [pna, pnb, pnc, pnd, pne]
      (first | (refine qN ?_) | (refine qP ?_ ?_ ?_; rotate_left; focus (intro w; go_simp; try with_reducible rfl)))
      try simp only [pna, pnb, pnc, pnd, pne]
      refine wpQ_call (by rfl) _ _ (.string ⟨s.toArray⟩) (fun w' hb => (qr w' hb).mono fun _ _ ⟨he, hw⟩ => ⟨he, by rw [hw]; exact hb⟩) (by intro w; go_simp; try rfl) ?_
      try simp only [pna, pnb, pnc, pnd, pne]
      (first | (refine qN ?_) | (refine qP ?_ ?_ ?_; rotate_left; focus (intro w; go_simp; try with_reducible rfl)))
      try simp only [pna, pnb, pnc, pnd, pne]
      (first | (refine qN ?_) | (refine qP ?_ ?_ ?_; rotate_left; focus (intro w; go_simp; try with_reducible rfl)))
      try simp only [pna, pnb, pnc, pnd, pne]
      refine wpQ_load (by rfl) (.string ⟨s.toArray⟩) (fun w' hb => (by have c := (HRX.out.keep hb).cell 2; go_simp; try rfl)) ?_
      try simp only [pna, pnb, pnc, pnd, pne]
      refine wpQ_pure (by rfl) (.bool false) (fun w' => (by go_simp; try rfl)) ?_
      try simp only [pna, pnb, pnc, pnd, pne]
      (refine qP ?_ ?_ ?_; rotate_left; focus (intro w; go_simp; try with_reducible rfl))
      try simp only [pna, pnb, pnc, pnd, pne]
      (refine qP ?_ ?_ ?_; rotate_left; focus (intro w; go_simp; try with_reducible rfl))
      try simp only [pna, pnb, pnc, pnd, pne]
      (first | (refine qN ?_) | (refine qP ?_ ?_ ?_; rotate_left; focus (intro w; go_simp; try with_reducible rfl)))
      try simp only [pna, pnb, pnc, pnd, pne]
      refine wpQ_call (by rfl) _ _ (.bool br) (fun w' hb => (qk w' hb).mono fun _ _ ⟨he, hb4⟩ => ⟨he, hb.trans (hb4.mono hb.size)⟩) (by intro w; go_simp; try rfl) ?_
      try simp only [pna, pnb, pnc, pnd, pne]
      (first | (refine qN ?_) | (refine qP ?_ ?_ ?_; rotate_left; focus (intro w; go_simp; try with_reducible rfl)))
      try simp only [pna, pnb, pnc, pnd, pne]
      refine wpQ_load (by rfl) (.bool br) (fun w' hb => (by have c := (HRX.out.keep hb).cell 7; go_simp; try rfl)) ?_
      try simp only [pna, pnb, pnc, pnd, pne]
      refine wpQ_pure (by rfl) (.bool false) (fun w' => (by go_simp; try rfl)) ?_
      try simp only [pna, pnb, pnc, pnd, pne]
      (refine qP ?_ ?_ ?_; rotate_left; focus (intro w; go_simp; try with_reducible rfl))
      try simp only [pna, pnb, pnc, pnd, pne]
      (refine qP ?_ ?_ ?_; rotate_left; focus (intro w; go_simp; try with_reducible rfl))
      try simp only [pna, pnb, pnc, pnd, pne]
      (first | (refine qN ?_) | (refine qP ?_ ?_ ?_; rotate_left; focus (intro w; go_simp; try with_reducible rfl)))
      try simp only [pna, pnb, pnc, pnd, pne]
      refine wpQ_row row_st (by rfl) (.tmp 14) rfl rfl (vs := stcs (.slice la l'.length lc) 10 ⟨s, safe, room, fuse, down⟩ br) (rfl) (fun w' hb => HRX.out.keep hb) ?_
      try simp only [pna, pnb, pnc, pnd, pne]
      (first | (refine qN ?_) | (refine qP ?_ ?_ ?_; rotate_left; focus (intro w; go_simp; try with_reducible rfl)))
      try simp only [pna, pnb, pnc, pnd, pne]
      (first | (refine qN ?_) | (refine qP ?_ ?_ ?_; rotate_left; focus (intro w; go_simp; try with_reducible rfl)))
      try simp only [pna, pnb, pnc, pnd, pne]
      refine wpQ_call (by rfl) _ _ (.bool true) (fun w' hb => (qt w' hb).mono fun _ _ ⟨he, hb4⟩ => ⟨he, hb.trans (hb4.mono hb.size)⟩) (by intro w; go_simp; try rfl) ?_
      try simp only [pna, pnb, pnc, pnd, pne]
      (first | (refine qN ?_) | (refine qP ?_ ?_ ?_; rotate_left; focus (intro w; go_simp; try with_reducible rfl)))
      try simp only [pna, pnb, pnc, pnd, pne]
      (refine qP ?_ ?_ ?_; rotate_left; focus (intro w; go_simp; try with_reducible rfl))
      try simp only [pna, pnb, pnc, pnd, pne]
      intro w5 hb5
      clear qr qk qt HRX
      have hb6 := hbx.trans (hb5.mono hbx.size)
      have HPQ5 : Hid (PQ w5 w.heap.size p X q j m base av (.slice la l'.length lc) ⟨s, safe, room, fuse, down⟩ br T l') := Lib.hid ⟨HPQ.out.pp.keep hb5, HPQ.out.rp.keep hb5, HPQ.out.im⟩
      clear HPQ hb5 hbx
      go_wp2_with fail
      go_roundw
      case rel => exact ⟨i + 1, q, j, m, base, av, _, _, br, T, l', by omega, by go_num, rfl, HPQ5, HHO, hb6⟩
      case measure => simp [intOf]; omega
   ·have hil : i = l.length := by omega
    subst hil
    have q2 := qw _ hbr
    go_wp2_with fail
    refine q2.mono ?_
    rintro e w3 ⟨rfl, hb3⟩
    go_wp2_with fail
    all_goals (go_ret; exact ⟨rfl, hbr.trans (hb3.mono hbr.size)⟩)
 ·clear hlong
  have q2 := qw w2 hb2
  go_wp2_with fail
  refine q2.mono ?_
  rintro e w3 ⟨rfl, hb3⟩
  go_wp2_with fail
  all_goals (go_ret; exact ⟨rfl, hb2.trans (hb3.mono hb2.size)⟩)
end Go.Proofs.YthgjdaomcpinaaaGreatDoor
