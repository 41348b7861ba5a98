/- RAdd. -/
import Derived.Test.YthgjdaomcpinaaaGreatDoorMp37
set_option linter.unnecessarySimpa false
set_option linter.unusedSimpArgs false
set_option linter.unusedVariables false
set_option maxRecDepth 100000
set_option maxHeartbeats 32000000
namespace Go.Proofs.YthgjdaomcpinaaaGreatDoor
open Go.RowKit Go.WideMaps Go.Maps Go.Sort Go.Shelf Pl
def clashL (l : List Tr) (t : Tr) : Bool := thereL t.head.height l && (match l[findN t.head.height l]? with | some o => writH o.head != writH t.head | none => false)
theorem clashL_new {l : List Tr} {t : Tr} (h : thereL t.head.height l = false) : clashL l t = false := by unfold clashL; rw [h]; rfl
theorem clashL_old {l : List Tr} {t o : Tr} (h : thereL t.head.height l = true) (ho : l[findN t.head.height l]? = some o) : clashL l t = (writH o.head != writH t.head) := by unfold clashL; rw [h, ho]; rfl
def raddG : List Tr → List Tr → Option (List Tr)
 | [], l => some l
 | t :: r, l => if clashL l t = true then none else raddG r (withL l t)
theorem raddG_no {t : Tr} {r : List Tr} {l : List Tr} (hh : clashL l t = true) : raddG (t :: r) l = none := by unfold raddG; rw [if_pos hh]
theorem raddG_yes {t : Tr} {r : List Tr} {l : List Tr} (hh : clashL l t = false) : raddG (t :: r) l = raddG r (withL l t) := by rw [raddG]; rw [if_neg (by simp [hh])]
def raddR (d : Dk) (b : Bool) (l : List Tr) (ts : List Tr) : List Tr × Dk × Bool × Int := if ts.all fineT = false then (l, d, b, 3) else match raddG ts l with | some l' => rres l l' d b (batchT ts) | none => (l, d, b, 6)
theorem raddR_bad {d : Dk} {b : Bool} {l ts : List Tr} (h : ts.all fineT = false) : raddR d b l ts = (l, d, b, 3) := if_pos h
theorem raddR_no {d : Dk} {b : Bool} {l ts : List Tr} (h1 : ts.all fineT = true) (h : raddG ts l = none) : raddR d b l ts = (l, d, b, 6) := by unfold raddR; rw [if_neg (by simp [h1]), h]
theorem raddR_yes {d : Dk} {b : Bool} {l ts l' : List Tr} (h1 : ts.all fineT = true) (h : raddG ts l = some l') : raddR d b l ts = rres l l' d b (batchT ts) := by unfold raddR; rw [if_neg (by simp [h1]), h]
theorem withL_mem {l : List Tr} {t u : Tr} (hm : u ∈ withL l t) : u ∈ l ∨ u = t := by
 unfold withL at hm
 rcases List.mem_append.1 hm with hm | hm
 ·rcases List.mem_append.1 hm with hm | hm
  ·exact .inl (List.mem_of_mem_take hm)
  ·exact .inr (List.mem_singleton.1 hm)
 ·exact .inl (List.mem_of_mem_drop hm)
theorem withL_len (l : List Tr) (t : Tr) : (withL l t).length ≤ l.length + 1 := by
 unfold withL
 rw [List.length_append, List.length_append, List.length_take, List.length_drop]
 simp only [List.length_cons, List.length_nil]
 omega
theorem range_take {w : World} {b o : Nat} {cs : List Value} (h : w.rangeAt b o cs) (n : Nat) : w.rangeAt b o (cs.take n) := fun j v hj => h j v (by
 rw [List.getElem?_take] at hj
 split at hj
 ·exact hj
 ·cases hj)
theorem rtfine_t (t : Tr) (sk ms : Value) (w : World) (hk : SS w sk t.head.skips) (hl : MS w ms t.set) :
  Calls Tryz.prog 51 #[.agg (tcs t sk ms).toArray] w fun e w' => e = .returned (.bool (fineT t)) ∧ Below w.heap.size w w' := by
 obtain ⟨⟨a1, a2, a3, lb, pa, st, rc, tx, me, ne, K⟩, L, ta⟩ := t
 exact rtfine_any a1 a2 a3 lb pa st rc tx me ne K sk L ms ta w hk hl
theorem rtwrit_t (t : Tr) (ka : Option Addr) (kc : Nat) (ma : Option Addr) (mc : Nat) (w : World) (hk : SS w (.slice ka t.head.skips.length kc) t.head.skips) (hl : MS w (.slice ma t.set.length mc) t.set) (hf : fineT t = true) :
  Calls Tryz.prog 52 #[.agg (tcs t (.slice ka t.head.skips.length kc) (.slice ma t.set.length mc)).toArray] w fun e w' => e = .returned (.string ⟨List.toArray (writT t)⟩) ∧ Below w.heap.size w w' := by
 obtain ⟨⟨a1, a2, a3, lb, pa, st, rc, tx, me, ne, K⟩, L, ta⟩ := t
 exact rtwrit_any a1 a2 a3 lb pa st rc tx me ne K ka kc L ma mc ta w hk hl hf
theorem rhwrit_t (t : Tr) (sk ms : Value) (w : World) (hk : SS w sk t.head.skips) (hf : fineH t.head = true) :
  Calls Tryz.prog 86 #[.agg ((tcs t sk ms).take 11).toArray] w fun e w' => e = .returned (.string ⟨List.toArray (writH t.head)⟩) ∧ Below w.heap.size w w' := by
 obtain ⟨⟨a1, a2, a3, lb, pa, st, rc, tx, me, ne, K⟩, L, ta⟩ := t
 exact rhwrit_any a1 a2 a3 lb pa st rc tx me ne K sk w hk hf
theorem radd_any (av : List Nat) (lv : Value) (l : List Tr) (sp : Int) (d : Dk) (b : Bool) (v : Value) (ts : List Tr) (hl : l.length + ts.length ≤ 1000) (hcl : ∀ t ∈ l, fineT t = true) (hm : ts.all fineT = true → mayR (batchT ts) = true)
  (hf : -9223372036854775807 ≤ d.fuse ∧ d.fuse ≤ 9223372036854775807) (hrm : 0 ≤ d.room ∧ d.room ≤ 1048576) (hsl : d.s.length ≤ 1048576) (w : World) (hlv : TLA w av lv l) (hv : TLA w av v ts) (hav : ∀ x ∈ av, x < w.heap.size) :
  Calls Tryz.prog 38 #[stv lv sp d b, v] w fun e w' => ∃ v', e = .returned (.tuple #[stv v' sp (raddR d b l ts).2.1 (raddR d b l ts).2.2.1, .int .i64 ((raddR d b l ts).2.2.2)]) ∧ TLA w' av v' (raddR d b l ts).1 ∧ Below w.heap.size w w' := by
 obtain ⟨la, lc, rfl⟩ := hlv.form
 obtain ⟨a, cap, rfl⟩ := hv.form
 have hhs := hv.small
 have qw := fun W (l' : List Tr) (v6 v7 : Value) (hfa : ts.all fineT = true) (hne : batchT ts ≠ []) (hbt : (batchT ts).length ≤ 1000) (h6 : SS W v6 (batchT ts)) (na : Option Addr) (nn nc : Nat) => rstwrite_any la l.length lc na nn nc sp d b v6 (batchT ts) hne hbt (hm hfa) hf hrm hsl W h6
 have HQW := Lib.hid qw
 obtain ⟨s, safe, room, fuse, down⟩ := d
 obtain ⟨B1, B2, hb2⟩ := two_st w (.slice la l.length lc) sp ⟨s, safe, room, fuse, down⟩ b
 obtain ⟨W2, hW2⟩ : ∃ W2, W2 = ((w.alloc (.cells (stcs (.slice la l.length lc) sp ⟨s, safe, room, fuse, down⟩ b).toArray 76)).alloc (.cells zst.toArray 76)) := ⟨_, rfl⟩
 rw [← hW2] at B1 B2 hb2
 have HW := Lib.hid hW2
 have hws : W2.heap.size = w.heap.size + 2 := by rw [hW2]; simp
 obtain ⟨m1, m2, m3⟩ := id B1
 have HB1 := Lib.hid B1
 have HB2 := Lib.hid B2
 have HLV := Lib.hid hlv
 have HV := Lib.hid hv.tl
 have HVA := Lib.hid hv
 have HM := Lib.hid hm
 have HAV := Lib.hid hav
 have H0 : Hid (TLA W2 ((w.heap.size + 1) :: av ++ (Value.slice none 0 0).ownBlock.toList) (.slice la l.length lc) l) := Lib.hid ((hlv.sub (bv := (w.heap.size + 1) :: av ++ (Value.slice none 0 0).ownBlock.toList) (fun x hx => by
  rcases List.mem_append.1 hx with hx | hx
  ·rcases List.mem_cons.1 hx with rfl | hx
   ·exact .inr (by omega)
   ·exact .inl hx
  ·cases hx)).keep hb2)
 have HCL := Lib.hid hcl
 have HLL := Lib.hid hl
 have HD0 : Hid (raddG ts l = raddG (ts.drop 0) l) := Lib.hid rfl
 have HBAD := Lib.hid (fun h => raddR_bad (d := ⟨s, safe, room, fuse, down⟩) (b := b) (l := l) (ts := ts) h)
 have HNO := Lib.hid (fun h1 h => raddR_no (d := ⟨s, safe, room, fuse, down⟩) (b := b) (l := l) (ts := ts) h1 h)
 have HYE := Lib.hid (fun l' h1 h => raddR_yes (d := ⟨s, safe, room, fuse, down⟩) (b := b) (l := l) (l' := l') (ts := ts) h1 h)
 generalize raddR ⟨s, safe, room, fuse, down⟩ b l ts = R at *
 clear hW2 B1 B2 hlv hv hm hav qw hcl hl hf hrm hsl
 go_enter Tryz.func38, Tryz.ntmps38
 go_wp2_with fail
 rw [← HW.out]
 go_loopw [8] (fun s8 wr => ∃ (i : Nat), i ≤ ts.length ∧ s8 = .int .i64 i ∧ Hid ((ts.take i).all fineT = true) ∧ Below W2.heap.size W2 wr) (fun s8 _ => ts.length - (intOf s8).toNat)
 case atStart => exact ⟨0, by omega, rfl, Lib.hid rfl, Below.refl _ _⟩
 case round =>
  obtain ⟨i, hi, rfl, HF, hbr⟩ := hrel
  have B1r := HB1.out.keep hbr
  have B2r := HB2.out.keep hbr
  have hwr := hb2.trans (hbr.mono (by omega))
  have hsr := hbr.size
  by_cases hlt : i < ts.length
  ·have hbd : 0 ≤ (i : Int) ∧ (i : Int) < (ts.length : Int) := by omega
   obtain ⟨t, ht⟩ : ∃ t, ts[i]? = some t := ⟨ts[i], List.getElem?_eq_getElem hlt⟩
   obtain ⟨g, off, sk, ms, rfl, hg, hR, hk, hms, p1, p2⟩ := HV.out.at i t ht
   have hR2 := rangeAt_keep hR hg hwr
   have q1 := fun W (hb : Below w.heap.size w W) => rtfine_t t sk ms W (hk.keep hb) (hms.keep hb)
   have HFS := Lib.hid (fine_stop ts i t ht)
   have HFY := Lib.hid (fine_step ts i t ht)
   unfold tcs at hR2 q1
   generalize fineT t = ft at *
   clear ht hR H0 HD0 HQW HNO HYE HM m1 m2 m3 hk hms
   go_wp2_with (first | (refine wpList_rowLoadAt row_trust rfl (.tmp 22) rfl rfl rfl hR2 ?_) | fail)
   refine (q1 _ hwr).mono ?_
   rintro e w3 ⟨rfl, hb3⟩
   have hs3 := hb3.size
   have B13 := B1r.keep hb3
   have B23 := B2r.keep hb3
   have hw3 := hwr.trans (hb3.mono hwr.size)
   clear q1 B1r B2r hR2
   cases ft
   ·have HR := Lib.hid (HBAD.out (by first | exact HFS.out rfl | exact HFS.out trivial))
    clear HBAD HFS HFY
    go_wp2_with (first
     | (refine wpList_rowLoad row_st rfl (.tmp 2) rfl rfl (vs := stcs (.slice la l.length lc) sp ⟨s, safe, room, fuse, down⟩ b) rfl B13 ?_)
     | (refine wpList_rowStore row_st rfl rfl (.tmp 4) (.tmp 26) rfl rfl rfl (vs := stcs (.slice la l.length lc) sp ⟨s, safe, room, fuse, down⟩ b) rfl (stcs_one _ _ _ _ _ _) (us := zst) rfl B23 ?_; intro w6 N6 m6))
    have hb6 := mod_two hw3 m6 (by omega) (by omega)
    refine bodyPost_ret (res_st2 rfl _ _ (.slice la l.length lc) sp ⟨s, safe, room, fuse, down⟩ b _ rfl N6) rfl ?_
    rw [HR.out]
    exact ⟨_, rfl, HLV.out.keep hb6, hb6⟩
   ·have HF2 : Hid ((ts.take (i + 1)).all fineT = true) := Lib.hid (by first | exact HFY.out HF.out rfl | exact HFY.out HF.out trivial | exact HFY.out rfl HF.out | exact HFY.out trivial HF.out | (rw [HFY.out]; exact HF.out))
    clear HBAD HFS HFY
    go_wp2_with fail
    exact ⟨⟨i + 1, by omega, by go_num, HF2, hbr.trans (hb3.mono hsr)⟩, by simp [intOf]; omega⟩
  ·have hil : i = ts.length := by omega
   subst hil
   have HFA : Hid (ts.all fineT = true) := Lib.hid (by have h := HF.out; rwa [List.take_length] at h)
   have H1 := Lib.hid (H0.out.keep hbr)
   clear hlt HF HBAD H0 m1 m2 m3
   go_wp2_with fail
   go_loopw [6, 7, 9] (fun s6 s7 s9 wr => ∃ (i : Nat) (li : List Tr), i ≤ ts.length ∧ s9 = .int .i64 i ∧ SRow wr W2.heap.size s6 (batchT (ts.take i)) ∧ Hid (TLA wr ((w.heap.size + 1) :: av ++ s6.ownBlock.toList) s7 li) ∧ Hid (raddG ts l = raddG (ts.drop i) li) ∧ Hid (∀ t ∈ li, fineT t = true) ∧ li.length ≤ l.length + i ∧ Below W2.heap.size W2 wr) (fun _ _ s9 _ => ts.length - (intOf s9).toNat)
   case atStart => exact ⟨0, l, by omega, rfl, SRow.nil _ _, H1, HD0, HCL, Nat.le_refl _, hbr⟩
   case round =>
    clear H1 HD0 B1r B2r hwr hbr hsr
    obtain ⟨i, li, hi, rfl, hS, HL7, HDi, HFI, hll, hbr⟩ := hrel
    obtain ⟨wq, hnm⟩ := Below.name hbr
    subst hnm
    have B1r := HB1.out.keep hbr
    have B2r := HB2.out.keep hbr
    have hwr := hb2.trans (hbr.mono (by omega))
    have hsr := hbr.size
    obtain ⟨va, vc, rfl⟩ := HL7.out.form
    obtain ⟨sa, sc, rfl⟩ := hS.form
    by_cases hlt : i < ts.length
    ·have hbd : 0 ≤ (i : Int) ∧ (i : Int) < (ts.length : Int) := by omega
     obtain ⟨t, ht⟩ : ∃ t, ts[i]? = some t := ⟨ts[i], List.getElem?_eq_getElem hlt⟩
     have hVA2 := (HVA.out.sub (bv := (w.heap.size + 1) :: av ++ (Value.slice sa (batchT (ts.take i)).length sc).ownBlock.toList) (fun x hx => by
      rcases List.mem_append.1 hx with hx | hx
      ·rcases List.mem_cons.1 hx with rfl | hx
       ·exact .inr (by omega)
       ·exact .inl hx
      ·rw [Option.mem_toList] at hx
       have := (row_ltO hS hx).1
       exact .inr (by omega)))
     obtain ⟨g, off, sk, ms, rfl, hg, hR, hE⟩ := hVA2.at i t ht
     have hft : fineT t = true := (List.all_eq_true.1 HFA.out) t (List.mem_of_getElem? ht)
     obtain ⟨ka, kc, hk, _⟩ := id hE.ss
     obtain ⟨ma, mc, hmm, _⟩ := id hE.ms
     simp only at hk hmm
     subst hk hmm
     have hR2 := rangeAt_keep hR hg hwr
     have c0 := hR2 0 (.int .i64 t.head.height) rfl
     rw [Nat.add_zero] at c0
     have HEw := Lib.hid (hE.keep hwr)
     have HSN := Lib.hid (batch_snoc ts i t ht)
     have HDR := Lib.hid (dropT ts i t ht)
     have HBL : Hid ((batchT (ts.take i)).length ≤ 1000) := Lib.hid (by rw [batch_len, List.length_take]; have := HLL.out; omega)
     have hwl := may_at (HM.out HFA.out) ht
     have hlm : li.length ≤ 1000 := by have := HLL.out; omega
     have q1 := fun W (hb : Below wq.heap.size wq W) => rfind_any _ _ li t.head.height W (HL7.out.keep hb)
     have HTN : Hid (clashL li t = true → raddG ts l = none) := Lib.hid (fun e => by rw [HDi.out, HDR.out]; exact raddG_no e)
     have HTY : Hid (clashL li t = false → raddG ts l = raddG (ts.drop (i + 1)) (withL li t)) := Lib.hid (fun e => by rw [HDi.out, HDR.out]; exact raddG_yes e)
     have q2 := fun W (hb : Below wq.heap.size wq W) => rwith_any _ _ li t _ _ hlm W (HL7.out.keep hb) (HEw.out.keep hb) (fun x hx => by
      have h9 := hb.size
      rcases List.mem_append.1 hx with hx | hx
      ·rcases List.mem_cons.1 hx with rfl | hx
       ·omega
       ·have := HAV.out x hx; omega
      ·rw [Option.mem_toList] at hx
       have := (row_ltO hS hx).2
       omega)
     have q3 := fun W (hb : Below wq.heap.size wq W) => rtwrit_t t ka kc ma mc W (HEw.out.keep hb).ss.ss (HEw.out.keep hb).ms.ms hft
     have q4 := fun W (hb : Below wq.heap.size wq W) => rhwrit_t t _ (.slice ma t.set.length mc) W (HEw.out.keep hb).ss.ss (fineT_parts hft).1
     have HQ2 := Lib.hid q2
     have HQ3 := Lib.hid q3
     have HQ4 := Lib.hid q4
     have HLN := Lib.hid (withL_len li t)
     have HFI2 : Hid (∀ u ∈ withL li t, fineT u = true) := Lib.hid (fun u hu => by
      rcases withL_mem hu with hu | rfl
      ·exact HFI.out u hu
      ·exact hft)
     have HNEW := Lib.hid (fun h => clashL_new (l := li) (t := t) h)
     have HOLD := Lib.hid (fun o h ho => clashL_old (l := li) (t := t) (o := o) h ho)
     have hfl := thereL_lt t.head.height li
     generalize findN t.head.height li = fn at *
     generalize thereL t.head.height li = th at *
     generalize hBT : batchT (ts.take i) = BT at *
     have HRG := Lib.hid hR2
     have HI1 : Hid (i + 1 ≤ ts.length) := Lib.hid hlt
     clear q2 q3 q4 HDi HDR hlt HCL ht hVA2 hE hft hR hR2
     go_wp2_with fail
     refine (q1 _ (Below.refl _ _)).mono ?_
     rintro e w3 ⟨rfl, hb3⟩
     have hs3 := hb3.size
     have c03 := (hb3.cell (p := ⟨g, off + i * 13, none⟩) (show g < wq.heap.size by omega)).trans c0
     clear q1 c0
     have HC3 := Lib.hid c03
     have HS := Lib.hid hS
     have hgq : g < wq.heap.size := by omega
     have HWL := Lib.hid hwl
     have HBR := Lib.hid hbr
     have HB1r := Lib.hid (B1r.keep hb3)
     have HB2r := Lib.hid (B2r.keep hb3)
     have HWR := Lib.hid (hwr.trans (hb3.mono hwr.size))
     clear hBT hS hs3 hlm hwl B1r B2r hwr hbr c03 hg
     cases th
     ·have HTY2 : Hid (raddG ts l = raddG (ts.drop (i + 1)) (withL li t)) := Lib.hid (HTY.out (HNEW.out rfl))
      clear hfl HNEW HOLD HTY HTN HNO HYE HQW HFI
      go_wp2_with fail
      go_quiet (fail)
      obtain ⟨w5, hw5⟩ : ∃ w5, w5 = w3.drewN nq := ⟨_, rfl⟩
      rw [← hw5]
      have hS5 : Below w3.heap.size w3 w5 := by rw [hw5]; exact below_drewN (Below.refl _ _) nq
      clear hw5
      have hb5 := hb3.trans (hS5.mono hb3.size)
      have hR5 := rangeAt_keep HRG.out hgq hb5
      have q2 := HQ2.out
      unfold tcs at q2 hR5
      go_wp2_with (first | (refine wpList_rowLoadAt row_trust rfl (.tmp 64) rfl rfl rfl hR5 ?_) | fail)
      refine (q2 _ hb5).mono ?_
      rintro e w6 ⟨v7, rfl, hL6, hb⟩
      have hb6 := hb5.trans (hb.mono hb5.size)
      obtain ⟨wa, wc, rfl⟩ := hL6.form
      have HL6 := Lib.hid hL6
      have hR6 := rangeAt_keep HRG.out hgq hb6
      have q3 := HQ3.out
      unfold tcs at q3 hR6
      clear q2 hb hL6 hR5
      go_wp2_with (first | (refine wpList_rowLoadAt row_trust rfl (.tmp 70) rfl rfl rfl hR6 ?_) | fail)
      refine (q3 _ hb6).mono ?_
      rintro e w7 ⟨rfl, hb⟩
      have hb7 := hb6.trans (hb.mono hb6.size)
      have HL7n := Lib.hid (HL6.out.keep hb)
      have hwl := HWL.out
      have hbl := HBL.out
      have hS7 := HS.out.keep hb7
      have hs7 := hb7.size
      have hcat : ¬ 9223372036854775807 < 1 + (writT t).length := by omega
      have hcat2 : ¬ 9223372036854775807 < (writT t).length + 1 := by omega
      clear q3 hb HL6 hR6
      generalize writT t = nk at *
      go_wp2_with (first
       | (at_builtin; refine wpList_appAtT rfl (.tmp 67) (.tmp 74) rfl W2.heap.size _ BT rfl (hS7.keep (Below.allocS (Below.refl _ _) _)) _ [1 :: nk] rfl ⟨some ⟨w7.heap.size, 0, none⟩, 1, rfl, by simp, by unfold maxLen; simp, fun _ => ⟨w7.heap.size, 0, rfl, by simp, ssrc1 _ _ _⟩⟩ (by simp; omega) (by simp; omega) ?_; rintro v8 w8 hS8 hg8 ho8)
       | fail)
      have hb8 := grown_below hg8 (base := W2.heap.size) (by simp; omega) (fun k hk => (row_ltO hS7 hk).1)
      have HL8 : Hid (TLA w8 ((w.heap.size + 1) :: av ++ v8.ownBlock.toList) (.slice wa (withL li t).length wc) (withL li t)) := Lib.hid (TLA.grown (HL7n.out.keep (Below.allocS (Below.refl _ _) _)) hg8 ho8)
      have hb9 := HBR.out.trans ((Below.allocS hb7 (.cells #[.string ⟨List.toArray (1 :: nk)⟩] 9)).mono hsr)
      rw [← HSN.out] at hS8
      have hlz : (withL li t).length ≤ l.length + (i + 1) := by have := HLN.out; omega
      have hbz := hb9.trans hb8
      clear hb9 hb8 hg8 ho8 hS7
      have hi1 := HI1.out
      refine ⟨⟨i + 1, withL li t, hi1, by go_num, ?_, ?_, HTY2, HFI2, hlz, ?_⟩, ?_⟩
      ·exact hS8
      ·exact HL8
      ·exact hbz
      ·simp [intOf]; omega
     ·have hfn := hfl rfl
      have hbd2 : 0 ≤ (fn : Int) ∧ (fn : Int) < (li.length : Int) := by omega
      obtain ⟨o, ho⟩ : ∃ o, li[fn]? = some o := ⟨li[fn], List.getElem?_eq_getElem hfn⟩
      obtain ⟨g2, off2, sk2, ms2, rfl, hg2, hR2, hE2⟩ := HL7.out.at fn o ho
      have q5 := fun W (hb : Below wq.heap.size wq W) => rhwrit_t o sk2 ms2 W (hE2.keep hb).ss.ss (fineT_parts (HFI.out o (List.mem_of_getElem? ho))).1
      have HC := Lib.hid (HOLD.out o rfl ho)
      have q4 := HQ4.out
      have hT2 := range_take hR2 11
      have hT1 := range_take HRG.out 11
      have hl2 : ((tcs o sk2 ms2).take 11).length = 11 := rfl
      have hl1 : ((tcs t (.slice ka t.head.skips.length kc) (.slice ma t.set.length mc)).take 11).length = 11 := rfl
      generalize (tcs o sk2 ms2).take 11 = y2 at *
      generalize (tcs t (.slice ka t.head.skips.length kc) (.slice ma t.set.length mc)).take 11 = y1 at *
      have HT1 := Lib.hid hT1
      have HT2 := Lib.hid hT2
      have HL1 := Lib.hid hl1
      have HL2 := Lib.hid hl2
      clear hT1 hT2 hl1 hl2
      generalize writH o.head = x1 at *
      generalize writH t.head = x2 at *
      clear hfl HNEW HOLD HFI hfn ho hR2 hE2 HYE HQW
      go_wp2_with fail
      refine wp_held rfl (by kernel_rfl) ?_
      (refine qP ?_ ?_ ?_; rotate_left; focus (intro w; go_simp; try with_reducible rfl))
      try simp only [pna, pnb, pnc, pnd, pne]
      (refine qP ?_ ?_ ?_; rotate_left; focus (intro w; go_simp; try with_reducible rfl))
      try simp only [pna, pnb, pnc, pnd, pne]
      (first | (refine qN ?_) | (refine qP ?_ ?_ ?_; rotate_left; focus (intro w; go_simp; try with_reducible rfl)))
      try simp only [pna, pnb, pnc, pnd, pne]
      (first | (refine qN ?_) | (refine qP ?_ ?_ ?_; rotate_left; focus (intro w; go_simp; try with_reducible rfl)))
      try simp only [pna, pnb, pnc, pnd, pne]
      refine wpQ_pure (by rfl) (.pointer (some ⟨g2, off2 + fn * 13, none⟩)) (fun w => (by go_simp; try rfl)) ?_
      try simp only [pna, pnb, pnc, pnd, pne]
      (first | (refine qN ?_) | (refine qP ?_ ?_ ?_; rotate_left; focus (intro w; go_simp; try with_reducible rfl)))
      try simp only [pna, pnb, pnc, pnd, pne]
      refine wpQ_load (by rfl) (.agg y2.toArray) (fun w' hb2 => exec_rowAt row_head (.tmp 49) rfl rfl HL2.out (rangeAt_keep HT2.out hg2 (hb3.trans (hb2.mono hb3.size)))) ?_
      try simp only [pna, pnb, pnc, pnd, pne]
      refine wpQ_call (by rfl) _ _ (.string ⟨List.toArray x1⟩) (fun w' hb2 => (q5 w' (hb3.trans (hb2.mono hb3.size))).mono fun _ _ ⟨he, hb4⟩ => ⟨he, hb2.trans (hb4.mono hb2.size)⟩) (by intro w; go_simp; try rfl) ?_
      try simp only [pna, pnb, pnc, pnd, pne]
      (first | (refine qN ?_) | (refine qP ?_ ?_ ?_; rotate_left; focus (intro w; go_simp; try with_reducible rfl)))
      try simp only [pna, pnb, pnc, pnd, pne]
      (first | (refine qN ?_) | (refine qP ?_ ?_ ?_; rotate_left; focus (intro w; go_simp; try with_reducible rfl)))
      try simp only [pna, pnb, pnc, pnd, pne]
      refine wpQ_pure (by rfl) (.pointer (some ⟨g, off + i * 13, none⟩)) (fun w => (by go_simp; try rfl)) ?_
      try simp only [pna, pnb, pnc, pnd, pne]
      (first | (refine qN ?_) | (refine qP ?_ ?_ ?_; rotate_left; focus (intro w; go_simp; try with_reducible rfl)))
      try simp only [pna, pnb, pnc, pnd, pne]
      refine wpQ_load (by rfl) (.agg y1.toArray) (fun w' hb2 => exec_rowAt row_head (.tmp 55) rfl rfl HL1.out (rangeAt_keep HT1.out hgq (hb3.trans (hb2.mono hb3.size)))) ?_
      try simp only [pna, pnb, pnc, pnd, pne]
      refine wpQ_call (by rfl) _ _ (.string ⟨List.toArray x2⟩) (fun w' hb2 => (q4 w' (hb3.trans (hb2.mono hb3.size))).mono fun _ _ ⟨he, hb4⟩ => ⟨he, hb2.trans (hb4.mono hb2.size)⟩) (by intro w; go_simp; try rfl) ?_
      try simp only [pna, pnb, pnc, pnd, pne]
      (first | (refine qN ?_) | (refine qP ?_ ?_ ?_; rotate_left; focus (intro w; go_simp; try with_reducible rfl)))
      try simp only [pna, pnb, pnc, pnd, pne]
      (refine qP ?_ ?_ ?_; rotate_left; focus (intro w; go_simp; try with_reducible rfl))
      try simp only [pna, pnb, pnc, pnd, pne]
      intro w5 hS5
      clear q4 q5
      cases hcx : (x1 != x2)
      ·have HTY2 : Hid (raddG ts l = raddG (ts.drop (i + 1)) (withL li t)) := Lib.hid (HTY.out (by rw [HC.out, hcx]))
       have hce : (x1 == x2) = true := by simpa using hcx
       clear HTN HNO hcx
       rw [show (!(x1 == x2)) = false from by rw [hce]; rfl]
       clear hce
       have hb5 := hb3.trans (hS5.mono hb3.size)
       have hR5 := rangeAt_keep HRG.out hgq hb5
       have q2 := HQ2.out
       unfold tcs at q2 hR5
       go_wp2_with (first | (refine wpList_rowLoadAt row_trust rfl (.tmp 64) rfl rfl rfl hR5 ?_) | fail)
       refine (q2 _ hb5).mono ?_
       rintro e w6 ⟨v7, rfl, hL6, hb⟩
       have hb6 := hb5.trans (hb.mono hb5.size)
       obtain ⟨wa, wc, rfl⟩ := hL6.form
       have HL6 := Lib.hid hL6
       have hR6 := rangeAt_keep HRG.out hgq hb6
       have q3 := HQ3.out
       unfold tcs at q3 hR6
       clear q2 hb hL6 hR5
       go_wp2_with (first | (refine wpList_rowLoadAt row_trust rfl (.tmp 70) rfl rfl rfl hR6 ?_) | fail)
       refine (q3 _ hb6).mono ?_
       rintro e w7 ⟨rfl, hb⟩
       have hb7 := hb6.trans (hb.mono hb6.size)
       have HL7n := Lib.hid (HL6.out.keep hb)
       have hwl := HWL.out
       have hbl := HBL.out
       have hS7 := HS.out.keep hb7
       have hs7 := hb7.size
       have hcat : ¬ 9223372036854775807 < 1 + (writT t).length := by omega
       have hcat2 : ¬ 9223372036854775807 < (writT t).length + 1 := by omega
       clear q3 hb HL6 hR6
       generalize writT t = nk at *
       go_wp2_with (first
        | (at_builtin; refine wpList_appAtT rfl (.tmp 67) (.tmp 74) rfl W2.heap.size _ BT rfl (hS7.keep (Below.allocS (Below.refl _ _) _)) _ [1 :: nk] rfl ⟨some ⟨w7.heap.size, 0, none⟩, 1, rfl, by simp, by unfold maxLen; simp, fun _ => ⟨w7.heap.size, 0, rfl, by simp, ssrc1 _ _ _⟩⟩ (by simp; omega) (by simp; omega) ?_; rintro v8 w8 hS8 hg8 ho8)
        | fail)
       have hb8 := grown_below hg8 (base := W2.heap.size) (by simp; omega) (fun k hk => (row_ltO hS7 hk).1)
       have HL8 : Hid (TLA w8 ((w.heap.size + 1) :: av ++ v8.ownBlock.toList) (.slice wa (withL li t).length wc) (withL li t)) := Lib.hid (TLA.grown (HL7n.out.keep (Below.allocS (Below.refl _ _) _)) hg8 ho8)
       have hb9 := HBR.out.trans ((Below.allocS hb7 (.cells #[.string ⟨List.toArray (1 :: nk)⟩] 9)).mono hsr)
       rw [← HSN.out] at hS8
       have hlz : (withL li t).length ≤ l.length + (i + 1) := by have := HLN.out; omega
       have hbz := hb9.trans hb8
       clear hb9 hb8 hg8 ho8 hS7
       have hi1 := HI1.out
       refine ⟨⟨i + 1, withL li t, hi1, by go_num, ?_, ?_, HTY2, HFI2, hlz, ?_⟩, ?_⟩
       ·exact hS8
       ·exact HL8
       ·exact hbz
       ·simp [intOf]; omega
      ·have HR := Lib.hid (HNO.out HFA.out (HTN.out (by rw [HC.out, hcx])))
       have hce : (x1 == x2) = false := by simpa using hcx
       have hw5 := HWR.out.trans (hS5.mono HWR.out.size)
       have hws5 := hw5.size
       have B15 := HB1r.out.keep hS5
       have B25 := HB2r.out.keep hS5
       clear HTY HNO HTN hcx
       rw [show (!(x1 == x2)) = true from by rw [hce]; rfl]
       clear hce
       go_wp2_with (first
        | (refine wpList_rowLoad row_st rfl (.tmp 2) rfl rfl (vs := stcs (.slice la l.length lc) sp ⟨s, safe, room, fuse, down⟩ b) rfl B15 ?_)
        | (refine wpList_rowStore row_st rfl rfl (.tmp 4) (.tmp 60) rfl rfl rfl (vs := stcs (.slice la l.length lc) sp ⟨s, safe, room, fuse, down⟩ b) rfl (stcs_one _ _ _ _ _ _) (us := zst) rfl B25 ?_; intro w6 N6 m6))
       have hb6 := mod_two hw5 m6 (by omega) (by omega)
       refine bodyPost_ret (res_st2 rfl _ _ (.slice la l.length lc) sp ⟨s, safe, room, fuse, down⟩ b _ rfl N6) rfl ?_
       rw [HR.out]
       exact ⟨_, rfl, HLV.out.keep hb6, hb6⟩
    ·have hil : i = ts.length := by omega
     subst hil
     rw [List.take_length] at hS
     have HG : Hid (raddG ts l = some li) := Lib.hid (by rw [HDi.out, List.drop_length]; rfl)
     have HR := Lib.hid (HYE.out li HFA.out HG.out)
     have hgl : (batchT ts).length = ts.length := batch_len ts
     have hHN := HLL.out
     by_cases h0 : ts = []
     ·subst h0
      have HR2 : Hid (R = (l, ⟨s, safe, room, fuse, down⟩, b, 0)) := Lib.hid (by rw [HR.out]; rfl)
      have q := fun W => rstwrite_nil la l.length lc va li.length vc sp ⟨s, safe, room, fuse, down⟩ b sa sc W
      clear HNO HYE HM HQW HR HG HDi hgl hHN
      go_wp2_with (first
       | (refine wpList_rowLoad row_st rfl (.tmp 2) rfl rfl (vs := stcs (.slice la l.length lc) sp ⟨s, safe, room, fuse, down⟩ b) rfl B1r ?_) | fail)
      refine (q _).mono ?_
      rintro e w3 ⟨rfl, hb3⟩
      have hw3 := hwr.trans (hb3.mono hwr.size)
      have B23 := B2r.keep hb3
      have hs3 := hb3.size
      go_wp2_with (first
       | (refine wpList_rowStore row_st rfl rfl (.tmp 4) (.tmp 80) rfl rfl rfl (vs := stcs (.slice la l.length lc) sp ⟨s, safe, room, fuse, down⟩ b) rfl (stcs_one _ _ _ _ _ _) (us := zst) rfl B23 ?_; intro w6 N6 m6) | fail)
      have hb6 := mod_two hw3 m6 (by omega) (by omega)
      refine bodyPost_ret (res_st2 rfl _ _ (.slice la l.length lc) sp ⟨s, safe, room, fuse, down⟩ b _ rfl N6) rfl ?_
      rw [HR2.out]
      exact ⟨_, rfl, HLV.out.keep hb6, hb6⟩
     ·have hne : batchT ts ≠ [] := fun e => h0 (List.length_eq_zero_iff.1 (by rw [← hgl, e]; rfl))
      have q := HQW.out wq li (.slice sa (batchT ts).length sc) (.slice va li.length vc) HFA.out hne (by omega) hS.ss va li.length vc
      have HR2 : Hid (R = (if (wrS ⟨s, safe, room, fuse, down⟩ b (batchT ts)).2.2 = 0 then li else l, (wrS ⟨s, safe, room, fuse, down⟩ b (batchT ts)).1, (wrS ⟨s, safe, room, fuse, down⟩ b (batchT ts)).2.1, (wrS ⟨s, safe, room, fuse, down⟩ b (batchT ts)).2.2)) := Lib.hid (by rw [HR.out]; exact if_neg hne)
      generalize wrS ⟨s, safe, room, fuse, down⟩ b (batchT ts) = Y at *
      obtain ⟨⟨s1, sf1, rm1, fu1, dn1⟩, b1, cc⟩ := Y
      clear HNO HYE HM HQW HR HG HDi hne hgl hHN
      go_wp2_with (first
       | (refine wpList_rowLoad row_st rfl (.tmp 2) rfl rfl (vs := stcs (.slice la l.length lc) sp ⟨s, safe, room, fuse, down⟩ b) rfl B1r ?_) | fail)
      refine q.mono ?_
      rintro e w3 ⟨rfl, hb3⟩
      have hw3 := hwr.trans (hb3.mono hwr.size)
      have B23 := B2r.keep hb3
      have hs3 := hb3.size
      have HL3 := Lib.hid (HL7.out.keep hb3)
      clear q
      by_cases hc0 : cc = 0
      ·subst hc0
       go_wp2_with (first
        | (refine wpList_rowStore row_st rfl rfl (.tmp 4) (.tmp 80) rfl rfl rfl (vs := stcs (.slice va li.length vc) sp ⟨s1, sf1, rm1, fu1, dn1⟩ b1) rfl (stcs_one _ _ _ _ _ _) (us := zst) rfl B23 ?_; intro w6 N6 m6) | fail)
       have hb6 := mod_two hw3 m6 (by omega) (by omega)
       refine bodyPost_ret (res_st2 rfl _ _ (.slice va li.length vc) sp ⟨s1, sf1, rm1, fu1, dn1⟩ b1 _ rfl N6) rfl ?_
       rw [HR2.out]
       refine ⟨_, rfl, ?_, hb6⟩
       rw [if_pos trivial]
       exact (HL3.out.modl m6 (by simp)).sub (fun x hx => .inl (by simp [hx]))
      ·have HRL : Hid (rL cc (.slice va li.length vc) (.slice la l.length lc) = .slice la l.length lc) := Lib.hid (if_neg hc0)
       rw [HRL.out]
       go_wp2_with (first
        | (refine wpList_rowStore row_st rfl rfl (.tmp 4) (.tmp 80) rfl rfl rfl (vs := stcs (.slice la l.length lc) sp ⟨s1, sf1, rm1, fu1, dn1⟩ b1) rfl (stcs_one _ _ _ _ _ _) (us := zst) rfl B23 ?_; intro w6 N6 m6) | fail)
       have hb6 := mod_two hw3 m6 (by omega) (by omega)
       refine bodyPost_ret (res_st2 rfl _ _ (.slice la l.length lc) sp ⟨s1, sf1, rm1, fu1, dn1⟩ b1 _ rfl N6) rfl ?_
       rw [HR2.out]
       refine ⟨_, rfl, ?_, hb6⟩
       rw [if_neg hc0]
       exact HLV.out.keep hb6
end Go.Proofs.YthgjdaomcpinaaaGreatDoor
