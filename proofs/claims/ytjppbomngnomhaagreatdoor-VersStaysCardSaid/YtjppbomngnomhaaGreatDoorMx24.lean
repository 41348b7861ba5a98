/- VStays, Laid. -/
import Derived.LaidMore
import Derived.Stop.Joined
import Derived.Test.YtjppbomngnomhaaGreatDoorMx23
set_option linter.unnecessarySimpa false
set_option linter.unusedSimpArgs false
set_option linter.unusedVariables false
set_option maxRecDepth 100000
set_option maxHeartbeats 32000000
namespace Go.Proofs.YtjppbomngnomhaaGreatDoor
open Go.RowKit Go.WideMaps Go.Maps Go.Sort Go.Shelf Pl
theorem vstays_any (v : Value) (l : List VAct) (hf : VFit l) (w : World) (hk : KT w) (hv : VL w v l) :
  Calls Tryz.prog 4 #[v] w fun e w' => e = .returned (.bool true) ∧ Below w.heap.size w w' := by
 obtain ⟨va, vc, rfl⟩ := hv.form
 have hsm := hv.small
 have hmm := @run_makeMap Tryz.prog
 have HV := Lib.hid hv
 have HF := Lib.hid hf
 have HK := Lib.hid hk
 have HW := Lib.hid (works12_any w hk)
 have HLG := Lib.hid (fun W (h : VL W (.slice va l.length vc) l) => vlong_any _ l hf W h)
 have HNT := Lib.hid tnewT_any
 clear hv hf hk
 go_enter Tryz.func4, Tryz.ntmps4
 go_wp2_with fail
 refine HW.out.mono ?_
 rintro e w1 ⟨rfl, hb1⟩
 have HB1 := Lib.hid hb1
 have HL1 := Lib.hid (HLG.out _ (HV.out.keep hb1))
 clear hb1 HW HLG
 go_wp2_with fail
 refine HL1.out.mono ?_
 rintro e w2 ⟨bl, rfl, hb2, hsv⟩
 have HB2 := Lib.hid (HB1.out.trans (hb2.mono HB1.out.size))
 clear hb2 HL1 HB1
 cases bl
 rotate_left
 ·go_wp2_with fail
  go_ret
  exact ⟨rfl, HB2.out⟩
 have HSV := Lib.hid (hsv rfl)
 have HN := Lib.hid (vnew_any w2)
 clear hsv
 go_wp2_with fail
 refine HN.out.mono ?_
 rintro e w3 ⟨a, rfl, hV3, hb3⟩
 have hown : (w3.alloc (.map #[] 0)).ownsMap (H := Value) Tryz.prog 3 hR w3.heap.size 0 (.map []) := World.ownsMap_made _ _ _ _
 have hbm : Below w3.heap.size w3 (w3.alloc (.map #[] 0)) := Below.allocS (Below.refl _ _) _
 have hb23 : Below w.heap.size w w3 := HB2.out.trans (hb3.mono HB2.out.size)
 have HI3 : Hid (StI w w2.heap.size (w3.alloc (.map #[] 0)) a w3.heap.size 0 vs0 [] [] (.slice none 0 0)) := Lib.hid ⟨hV3.keep hbm, VsK.start, StG.start, WtM.nil hown, (fun _ h => (by cases h)), Nat.le_refl _, (by have := hV3.roots.lt; omega), (by have := hV3.sto.blt; omega), hb23.size, SRow.nil _ _, Nat.zero_le _, (fun _ h => (by cases h)), hb23.trans (hbm.mono hb23.size), Nat.le_trans hb3.size hbm.size, HB2.out.size, fun _ => rfl⟩
 clear hV3 hb3 HN HB2 hown hbm hb23
 go_wp2_with fail
 refine (HNT.out _).mono ?_
 rintro e w4 ⟨pn, rfl, hb4, hT4, _⟩
 have HI4 := Lib.hid (HI3.out.keep hb4)
 have HT4 := Lib.hid hT4
 clear hT4 hb4 HI3 HNT
 go_wp2_with fail
 go_loopw [32, 5, 6, 7] (fun s32 s5 s6 s7 wr => ∃ (i : Nat) (x : Vs) (W : List (Int × Tri)) (X : List Bs) (pn : Nat) (fb : Bool), s32 = .int .i64 i ∧ s6 = .pointer (some ⟨pn, 0, none⟩) ∧ s7 = .bool fb ∧ i ≤ l.length ∧ Hid (StI w w2.heap.size wr a w3.heap.size i x W X s5) ∧ Hid (TAt wr pn x.new) ∧ Hid (fb = true ∨ ¬ OneS X)) (fun s32 _ _ _ _ => l.length - (intOf s32).toNat)
 case atStart => exact ⟨0, vs0, [], [], pn, true, rfl, rfl, rfl, Nat.zero_le _, HI4, HT4, Lib.hid (.inl rfl)⟩
 case round =>
  obtain ⟨i, x, W, X, pn, fb, rfl, rfl, rfl, hi, HI, HT, HFI⟩ := hrel
  obtain ⟨wr, hwr⟩ := Below.name HI.out.bel
  subst hwr
  have hl10 := HSV.out.1
  by_cases hlt : i < l.length
  ·have e0 : decide ((i : Int) < (l.length : Int)) = true := by simp; omega
   have i0 : 0 ≤ (i : Int) ∧ (i : Int) < (l.length : Int) := by omega
   have hi10 : i < 10 := by omega
   have HI10 := Lib.hid hi10
   obtain ⟨g, off, ia, ic, rfl, hg', c0', c1', c2', cI0⟩ := HV.out.at i hlt
   have hg : g < wr.heap.size := Nat.lt_of_lt_of_le hg' HI.out.bel.size
   have c0 := (HI.out.bel.cell (p := ⟨g, off + i * 3, none⟩) hg').trans c0'
   have c1 := (HI.out.bel.cell (p := ⟨g, off + i * 3 + 1, none⟩) hg').trans c1'
   have c2 := (HI.out.bel.cell (p := ⟨g, off + i * 3 + 2, none⟩) hg').trans c2'
   have HIL0 := Lib.hid cI0
   clear hg' c0' c1' c2' cI0
   have hsa := HSV.out.2 i hlt
   have hfh := (HF.out i hlt).2.1
   have HLT := Lib.hid hlt
   generalize l.getD i vact0 = ac at *
   have hbA : Below wr.heap.size wr (wr.alloc (.cells #[.int .i64 ac.kind, .int .i64 ac.h, .slice ia ac.l.length ic] 29)) := Below.allocS (Below.refl _ _) _
   have HIA := Lib.hid (HI.out.keep hbA)
   have HTA := Lib.hid (HT.out.keep hbA)
   have HKA := Lib.hid (HK.out.keep HIA.out.bel)
   have HIL := Lib.hid (HIL0.out.keep HIA.out.bel)
   have HSA := Lib.hid hsa
   have HFH := Lib.hid hfh
   have HNM : Hid (wr.heap.size ∉ [a.v, a.rb, a.sb]) := Lib.hid (by
    have h1 := HI.out.va.typ.lt
    have h2 := HI.out.va.roots.lt
    have h3 := HI.out.va.sto.blt
    simp only [List.mem_cons, List.not_mem_nil, or_false, not_or]
    omega)
   have HBK : Hid (Blk (wr.alloc (.cells #[.int .i64 ac.kind, .int .i64 ac.h, .slice ia ac.l.length ic] 29)) wr.heap.size #[.int .i64 ac.kind, .int .i64 ac.h, .slice ia ac.l.length ic]) := Lib.hid (Blk.new _ _ _)
   clear hbA hsa hfh HI4 HT4 HI HT hl10 hi hi10
   go_upto_if 38 with fail
   go_cut [5, 6] (fun s5 s6 wx => ∃ (x' : Vs) (W' : List (Int × Tri)) (X' : List Bs) (pn' : Nat), s6 = .pointer (some ⟨pn', 0, none⟩) ∧ Hid (StI w w2.heap.size wx a w3.heap.size (i + 1) x' W' X' s5) ∧ Hid (TAt wx pn' x'.new) ∧ Hid (OneS X' → OneS X))
   case first =>
    have gL := HIA.out.g.L
    have gT := HIA.out.g.T
    have gR := HIA.out.g.R
    have hi10 := HI10.out
    by_cases hk1 : ac.kind = 1
    ·have z1 : (ac.kind == 1) = true := by simpa using hk1
     have HP := Lib.hid (vprune_any _ a x HIA.out.g.ok ac.h HFH.out (by omega) (by omega) _ HKA.out HIA.out.va)
     clear hk1 gL gT gR hi10
     go_wp2_with fail
     refine HP.out.mono ?_
     rintro e w5 ⟨rfl, ⟨S, I, hS, hI, hV5⟩, hm5⟩
     have HI5 := Lib.hid (HIA.out.prune ac.h HFH.out.2 hS hI hV5 hm5)
     have HT5 := Lib.hid (HTA.out.modA HIA.out.va hm5)
     clear hS hI hV5 hm5 HP
     go_wp2_with fail
     go_meet
     exact ⟨_, _, _, _, rfl, HI5, HT5, Lib.hid id⟩
    ·have z1 : (ac.kind == 1) = false := by simpa using hk1
     have hil := HSA.out.1
     have HC := Lib.hid (vcommit_any _ a x HIA.out.g.ok ac.h HFH.out _ ac.l (fun y hy => by have := HSA.out.2 y hy; omega) (by omega) (by omega) (by omega) _ HIA.out.bs HKA.out HIL.out HIA.out.va)
     clear hk1 gL gT gR hi10 hil
     go_wp2_with fail
     refine HC.out.mono ?_
     rintro e w5 ⟨rfl, hV5, hm5⟩
     have hB5 := HBK.out.mod hm5 HNM.out
     have q0 : w5.cell? ⟨wr.heap.size, 0, none⟩ = some (.int .i64 ac.kind) := hB5.cell 0
     have q1 : w5.cell? ⟨wr.heap.size, 1, none⟩ = some (.int .i64 ac.h) := hB5.cell 1
     have q2 : w5.cell? ⟨wr.heap.size, 2, none⟩ = some (.slice ia ac.l.length ic) := hB5.cell 2
     have HB5 := Lib.hid hB5
     clear hB5
     by_cases hc : (commitV x ac.h ac.l).2.2 = 0
     ·obtain ⟨c1, c2, c3, c4, c5⟩ := commit_ok hc
      have HM5 : Hid (StM w w2.heap.size w5 a w3.heap.size i x (commitV x ac.h ac.l).1 W X u5) := Lib.hid (HIA.out.commit (HIA.out.g.commit HI10.out ac.h ac.l HSA.out.1) hV5 hm5)
      have HT5 := Lib.hid (HTA.out.modA HIA.out.va hm5)
      have HHC := Lib.hid hc
      have HC4 := Lib.hid c4
      have z3 : ((commitV x ac.h ac.l).2.2 == 0) = true := by simpa using hc
      clear hV5 hm5 HC hc
      by_cases hk0 : ac.kind = 0
      ·have z2 : (ac.kind == 0) = true := by simpa using hk0
       clear hk0
       generalize hrr : (commitV x ac.h ac.l).2.1 = rr at *
       generalize hcc : (commitV x ac.h ac.l).2.2 = cc at *
       have HCC := Lib.hid hcc
       clear hrr hcc
       go_wp2_with fail
       go_loopw [62, 6] (fun s62 s6 ws => ∃ (j pj : Nat), s62 = .int .i64 j ∧ s6 = .pointer (some ⟨pj, 0, none⟩) ∧ j ≤ ac.l.length ∧ Hid (TAt ws pj (chgsR x.new x.L (ac.l.take j)).1.1) ∧ Hid (Below w5.heap.size w5 ws)) (fun s62 _ _ => ac.l.length - (intOf s62).toNat)
       case atStart => exact ⟨0, pn, rfl, rfl, Nat.zero_le _, HT5, Lib.hid (Below.refl _ _)⟩
       case round =>
        obtain ⟨j, pj, rfl, rfl, hj, HTj, HBj⟩ := hrel
        obtain ⟨ws, hws⟩ := Below.name HBj.out
        subst hws
        have hl11 := HSA.out.1
        by_cases hjl : j < ac.l.length
        ·have d0 : decide ((j : Int) < (ac.l.length : Int)) = true := by simp; omega
         have j0 : 0 ≤ (j : Int) ∧ (j : Int) < (ac.l.length : Int) := by omega
         have HB9 := Lib.hid (HM5.out.bel.trans (HBj.out.mono HM5.out.size))
         obtain ⟨g9, o9, rfl, hg9, e1, e2⟩ := (HIL0.out.keep HB9.out).at j hjl
         have hxm : ac.l.getD j ([], []) ∈ ac.l := by
          rw [List.getD_eq_getElem?_getD, List.getElem?_eq_getElem hjl]
          exact List.getElem_mem hjl
         have hs12 : (ac.l.getD j ([], [])).1.length ≤ 1000000 ∧ (ac.l.getD j ([], [])).2.length ≤ 1000000 := by have := HSA.out.2 _ hxm; omega
         obtain ⟨d1, d2⟩ := chgs_step HC4.out j hjl
         obtain ⟨hG, _⟩ := chgs_gtr HIA.out.g.ok.gt HC4.out j
         have hT9 := HTj.out
         rw [with_chg d1] at d2
         have HD2 : Hid ((chgsR x.new x.L (ac.l.take (j + 1))).1.1 = if withC (chgsR x.new x.L (ac.l.take j)).1.1 (chgsR x.new x.L (ac.l.take j)).1.2 (ac.l.getD j ([], [])) = 0 then withT (chgsR x.new x.L (ac.l.take j)).1.1 (ac.l.getD j ([], [])) else (chgsR x.new x.L (ac.l.take j)).1.1) := Lib.hid (by rw [d2])
         clear hxm d1 d2 HTj
         generalize chgsR x.new x.L (ac.l.take j) = r9 at *
         generalize ac.l.getD j ([], []) = y at *
         obtain ⟨⟨tj, Lj⟩, cj⟩ := r9
         obtain ⟨kk, uu⟩ := y
         simp only at hG hT9 HD2 hs12 e1 e2
         have hbA : Below ws.heap.size ws (ws.alloc (.cells #[.string ⟨List.toArray kk⟩, .string ⟨List.toArray uu⟩] 43)) := Below.allocS (Below.refl _ _) _
         have HWQ := Lib.hid (with_any pj tj Lj hG kk uu hs12.1 hs12.2 _ (HK.out.keep (HB9.out.trans (hbA.mono HB9.out.size))) (hT9.keep hbA))
         have HBA := Lib.hid (HBj.out.trans (hbA.mono HBj.out.size))
         have HT9 := Lib.hid (hT9.keep hbA)
         clear hbA hG hT9 hs12
         by_cases hw : withC tj Lj (kk, uu) = 0
         ·rw [if_pos hw] at HD2
          rw [hw] at HWQ
          clear hw
          go_wp2_with fail
          refine HWQ.out.mono ?_
          rintro e w9 ⟨hb9, he⟩
          rcases he with ⟨h0, _⟩ | ⟨_, p2, rfl, hT2⟩
          ·exact absurd rfl h0
          ·have HT2 := Lib.hid hT2
           have HB2 := Lib.hid (HBA.out.trans (hb9.mono HBA.out.size))
           clear hT2 hb9 HWQ
           go_wp2_with fail
           exact ⟨⟨j + 1, p2, by go_num, rfl, by omega, Lib.hid (by rw [HD2.out]; exact HT2.out), HB2⟩, by simp [intOf]; omega⟩
         ·rw [if_neg hw] at HD2
          generalize withC tj Lj (kk, uu) = c at *
          have z9 : (c == 0) = false := by simpa using hw
          have HW9 := Lib.hid hw
          clear hw
          go_wp2_with fail
          refine HWQ.out.mono ?_
          rintro e w9 ⟨hb9, he⟩
          rcases he with ⟨_, rfl⟩ | ⟨h0, _⟩
          ·have HT2 := Lib.hid (HT9.out.keep hb9)
           have HB2 := Lib.hid (HBA.out.trans (hb9.mono HBA.out.size))
           clear hb9 HWQ
           go_wp2_with fail
           exact ⟨⟨j + 1, pj, by go_num, rfl, by omega, Lib.hid (by rw [HD2.out]; exact HT2.out), HB2⟩, by simp [intOf]; omega⟩
          ·exact absurd h0 HW9.out
        ·have d0 : decide ((j : Int) < (ac.l.length : Int)) = false := by simp; omega
         have hje : j = ac.l.length := by omega
         subst hje
         rw [List.take_length] at HTj
         have HMs := Lib.hid (HM5.out.keep HBj.out)
         have hnk : ac.h ∉ hts W := fun hk => by have := HM5.out.wl _ hk; omega
         have hwn := HM5.out.wn
         have hi10 := HI10.out
         obtain ⟨w6, hrun6, hW6, hg6⟩ := HMs.out.wt.update (by omega) ac.h HFH.out hnk _ pj HTj.out
         have hmap := HMs.out.wt.map
         have hM6 := MM.of_grown hmap hg6
         have HT6 := Lib.hid (HTj.out.mm hM6)
         have HV6 := Lib.hid (HMs.out.va.grow hmap hg6 HMs.out.mr HMs.out.ms)
         have HR6 := Lib.hid (HMs.out.row.mm hM6)
         have HB6 : Hid (Below w.heap.size w w6) := Lib.hid (Below.mod HMs.out.bel (Mod.ofG hg6) HMs.out.size (by intro k hk; rw [List.mem_singleton] at hk; subst hk; exact HMs.out.mb))
         have HS6 : Hid (ws.heap.size ≤ w6.heap.size) := Lib.hid hg6.size
         have HW6 := Lib.hid hW6
         have HBS := Lib.hid (HB5.out.keep HBj.out)
         have HBS6 := Lib.hid (HBS.out.mm hM6 (by simp))
         have q1s : ws.cell? ⟨wr.heap.size, 1, none⟩ = some (.int .i64 ac.h) := HBS.out.cell 1
         obtain ⟨hG, hGl⟩ := chgs_gtr HIA.out.g.ok.gt HC4.out ac.l.length
         rw [List.take_length] at hG hGl
         have hgn := hG.nodes
         have hgL := HIA.out.g.L
         have hxl := HMs.out.xl
         have HNL : Hid (X.length + (nodesT (chgsR x.new x.L ac.l).1.1).length ≤ 1000000) := Lib.hid (by omega)
         have HNQ := Lib.hid (nodes_any pj _ hG.rep.ok (by omega) w6 HT6.out)
         clear hG hGl hgn hgL hxl hmap hM6 hg6 hW6 hwn hnk hi10
         go_wp2_with fail
         refine HNQ.out.mono ?_
         rintro e w7 ⟨v7, rfl, hr7, hb7⟩
         have HR7 := Lib.hid hr7
         have HB7 := Lib.hid hb7
         obtain ⟨va7, vc7, rfl⟩ := hr7.form
         clear hr7 hb7 HNQ
         go_wp2_with (at_builtin; refine wpList_appSG rfl (.tmp 80) (.tmp 82) rfl w.heap.size _ X rfl (HR6.out.keep HB7.out) _ (nodesT (chgsR x.new x.L ac.l).1.1) rfl HR7.out.ss HNL.out (Nat.le_trans (Nat.le_trans HMs.out.size HS6.out) HB7.out.size) ?_; intro v8 w8 hr8 hg8 he8)
         obtain ⟨f1, f2, f3, f4⟩ := app_frame (HR6.out.keep HB7.out) HMs.out.emp hg8
         have hT8 := f1 _ _ (HT6.out.keep HB7.out)
         have hV8 := f2 _ _ _ (HV6.out.keep HB7.out)
         have hW8 := f3 _ _ (HW6.out.keep HB7.out)
         have hB8 := f4 _ _ (HBS6.out.keep HB7.out) (fun s => by simp)
         have q0e : w8.cell? ⟨wr.heap.size, 0, none⟩ = some (.int .i64 ac.kind) := hB8.cell 0
         have hcw : (commitV x ac.h ac.l).2.2 = 0 := HCC.out.trans HHC.out
         have HI8 := Lib.hid (HMs.out.done HI10.out hcw hW8 hV8 hr8 ((HB6.out.trans (HB7.out.mono HB6.out.size)).trans (grown_below hg8 (Nat.le_trans (Nat.le_trans HMs.out.size HS6.out) HB7.out.size) (HR6.out.keep HB7.out).own)) (Nat.le_trans (Nat.le_trans HS6.out HB7.out.size) hg8.size) (fun e => by
          have h1 := List.append_eq_nil_iff.1 e
          rw [he8 h1.2]
          exact HMs.out.emp h1.1))
         have HT8 : Hid (TAt w8 pj (commitV x ac.h ac.l).1.new) := Lib.hid (by rw [c5]; exact hT8)
         have z4 : (ac.kind != 0) = false := by simpa using z2
         clear f1 f2 f3 f4 hT8 hV8 hW8 hB8 hr8 hg8 he8 hcw
         go_wp2_with fail
         go_meet
         exact ⟨_, _, _, _, rfl, HI8, HT8, Lib.hid (fun ho => ho.sub (fun a ha => List.mem_append.2 (.inl ha)))⟩
      ·have z2 : (ac.kind == 0) = false := by simpa using hk0
       have z4 : (ac.kind != 0) = true := by simpa using hk0
       clear hk0
       go_wp2_with fail
       go_ret
       exact ⟨rfl, HM5.out.bel⟩
     ·have HNC := Lib.hid (commit_no hc)
      rw [HNC.out] at hV5
      have HI5 := Lib.hid (HIA.out.still hV5 hm5).up1
      have HT5 := Lib.hid (HTA.out.modA HIA.out.va hm5)
      have z3 : ((commitV x ac.h ac.l).2.2 == 0) = false := by simpa using hc
      clear hV5 hm5 HC HNC hc
      generalize (commitV x ac.h ac.l).2.2 = c at *
      generalize (commitV x ac.h ac.l).2.1 = rr at *
      by_cases hk0 : ac.kind = 0
      ·have z2 : (ac.kind == 0) = true := by simpa using hk0
       have z4 : (ac.kind != 0) = false := by simpa using hk0
       clear hk0
       go_wp2_with fail
       go_meet
       exact ⟨_, _, _, _, rfl, HI5, HT5, Lib.hid id⟩
      ·have z2 : (ac.kind == 0) = false := by simpa using hk0
       have z4 : (ac.kind != 0) = true := by simpa using hk0
       clear hk0
       go_wp2_with fail
       go_meet
       exact ⟨_, _, _, _, rfl, HI5, HT5, Lib.hid id⟩
   case rest =>
    obtain ⟨x2, W2, X2, pn2, rfl, HI2, HT2, HO2⟩ := hcut
    obtain ⟨w5, hw5⟩ := Below.name HI2.out.bel
    subst hw5
    have gR := HI2.out.g.R
    have hi10 := HI10.out
    have HFI2 : Hid (fb = true ∨ ¬ OneS X2) := Lib.hid (HFI.out.imp id (fun h ho => h (HO2.out ho)))
    have HH := Lib.hid (vheights_any _ a x2 (by omega) _ HI2.out.va)
    rw [sortZ_id HI2.out.g.up.up] at HH
    have HLK : Hid (∀ n, n < (hrs x2.R).length → (hrs x2.R).getD n 0 ∈ hrs x2.R) := Lib.hid (fun n hn => by
     rw [List.getD_eq_getElem?_getD, List.getElem?_eq_getElem hn]
     exact List.getElem_mem hn)
    have HHB : Hid (∀ k ∈ hrs x2.R, 0 ≤ k ∧ k ≤ 1048576) := Lib.hid (fun k hk => by
     have h1 := HI2.out.g.up.top k hk
     have h2 := HI2.out.g.ok.last
     omega)
    have HNL : Hid ((hrs x2.R).length ≤ 10) := Lib.hid (by unfold hrs; rw [List.length_map]; omega)
    clear gR hi10 HIA HTA HKA HIL HBK HNM HFI HO2
    go_wp2_with fail
    refine HH.out.mono ?_
    rintro e w6 ⟨v6, rfl, hz, hb6⟩
    obtain ⟨z1, zc, rfl⟩ := hz.form
    obtain ⟨N, hN⟩ : ∃ N, N = hrs x2.R := ⟨_, rfl⟩
    have HLN : Hid (∀ n, n < N.length → N.getD n 0 ∈ hrs x2.R) := Lib.hid (by rw [hN]; exact HLK.out)
    rw [← hN] at hz HNL ⊢
    have HI6 := Lib.hid (HI2.out.keep hb6)
    have HT6 := Lib.hid (HT2.out.keep hb6)
    have HZ6 := Lib.hid hz
    clear hz hb6 HH HLK hN HI2 HT2
    go_wp2_with fail
    go_loopw [94, 7] (fun s94 s7 ws => ∃ (n : Nat) (fc : Bool), s94 = .int .i64 n ∧ s7 = .bool fc ∧ n ≤ N.length ∧ Hid (fc = true ∨ ¬ OneS X2) ∧ Hid (Below w6.heap.size w6 ws)) (fun s94 _ _ => N.length - (intOf s94).toNat)
    case atStart => exact ⟨0, fb, rfl, rfl, Nat.zero_le _, HFI2, Lib.hid (Below.refl _ _)⟩
    case round =>
     obtain ⟨n, fc, rfl, rfl, hn, HFC, HWs⟩ := hrel
     obtain ⟨ws, hws⟩ := Below.name HWs.out
     subst hws
     have hnl10 := HNL.out
     by_cases hnl : n < N.length
     ·have d0 : decide ((n : Int) < (N.length : Int)) = true := by simp; omega
      have j0 : 0 ≤ (n : Int) ∧ (n : Int) < (N.length : Int) := by omega
      obtain ⟨g9, cap9, ev, hgc⟩ : ∃ g cap, Value.slice z1 N.length zc = .slice (some ⟨g, 0, none⟩) N.length cap ∧ ws.cell? ⟨g, n, none⟩ = some (.int .i64 (N.getD n 0)) := by
       rcases (HZ6.out.keep HWs.out).cells with ⟨_, e⟩ | ⟨g, cap, e, _, _, _, _, hc, _⟩
       ·rw [e] at hnl; simp at hnl
       ·exact ⟨g, cap, e, hc n hnl⟩
      injection ev with ev1 _ ev2
      subst ev1 ev2
      have hkin := HLN.out n hnl
      have hbh := HHB.out _ hkin
      obtain ⟨t, L, a1, a2, a3, a4, a5, a6⟩ := HI6.out.st.loads hkin
      have HBW := Lib.hid (HI6.out.bel.trans (HWs.out.mono HI6.out.size))
      generalize N.getD n 0 = k at *
      have HKB : Hid (-9223372036854775808 ≤ k ∧ k ≤ 9223372036854775807) := Lib.hid (by omega)
      have HAT := Lib.hid (vat_any _ a x2 HI6.out.g.ok.short (fun e he => (HI6.out.g.ok.rts e he).1) k HKB.out ws (HK.out.keep HBW.out) (HI6.out.va.keep HWs.out))
      have HA1 := Lib.hid a1
      have HA2 := Lib.hid a2
      have HA3 := Lib.hid a3
      have HA4 := Lib.hid a4
      have HA5 := Lib.hid a5
      have HA6 := Lib.hid a6
      clear a1 a2 a3 a4 a5 a6 hkin hbh
      go_wp2_with fail
      refine HAT.out.mono ?_
      rintro e w8 ⟨hb8, he⟩
      have HB8 := Lib.hid (HWs.out.trans (hb8.mono HWs.out.size))
      have HRQ := Lib.hid (vroot_any _ a x2 k HKB.out w8 (HI6.out.va.keep HB8.out))
      rw [HA4.out] at HRQ
      clear hb8 HAT
      rcases he with ⟨hc, rfl⟩ | ⟨hc, p8, rfl, hT8⟩
      ·have HNO := Lib.hid (HA5.out hc)
       generalize (atV x2 k).2 = c at *
       have z1 : (c == 0) = false := by simpa using hc
       clear hc
       go_wp2_with fail
       refine HRQ.out.mono ?_
       rintro e w9 ⟨rfl, hb9⟩
       have HB9 := Lib.hid (HB8.out.trans (hb9.mono HB8.out.size))
       obtain ⟨p, hrun9, hTp⟩ := (HI6.out.wt.keep HB9.out).look k HKB.out t HA1.out
       have HTR := Lib.hid (troot_any p t w9 hTp)
       generalize sumT t = st at *
       have zz : (st == st) = true := by simp
       have zn : (st != st) = false := by simp
       clear hTp hb9 HRQ
       go_wp2_with fail
       refine HTR.out.mono ?_
       rintro e w10 ⟨rfl, rfl⟩
       cases fc
       ·go_wp2_with fail
        exact ⟨⟨n + 1, false, by go_num, rfl, by omega, Lib.hid (.inr HNO.out), HB9⟩, by simp [intOf]; omega⟩
       ·go_wp2_with fail
        exact ⟨⟨n + 1, false, by go_num, rfl, by omega, Lib.hid (.inr HNO.out), HB9⟩, by simp [intOf]; omega⟩
      ·obtain ⟨L', r1, r2, r3⟩ := HA6.out hc
       have HR1 := Lib.hid r1
       have HR2 := Lib.hid r2
       have HR3 := Lib.hid r3
       have HT8 := Lib.hid hT8
       clear hc r1 r2 r3 hT8
       generalize (atV x2 k).1 = t8 at *
       go_wp2_with fail
       refine HRQ.out.mono ?_
       rintro e w9 ⟨rfl, hb9⟩
       have HB9 := Lib.hid (HB8.out.trans (hb9.mono HB8.out.size))
       have HT9 := Lib.hid (HT8.out.keep hb9)
       obtain ⟨p, hrun9, hTp⟩ := (HI6.out.wt.keep HB9.out).look k HKB.out t HA1.out
       have HTP := Lib.hid hTp
       have HTR := Lib.hid (troot_any p t w9 hTp)
       have HIT1 := Lib.hid (titems_any p8 t8 L' HR1.out (by have := HR2.out; omega) w9 HT9.out)
       generalize sumT t = st at *
       have zz : (st == st) = true := by simp
       have zn : (st != st) = false := by simp
       clear hTp hb9 HRQ
       go_wp2_with fail
       refine HTR.out.mono ?_
       rintro e w10 ⟨rfl, rfl⟩
       cases fc
       ·go_wp2_with fail
        exact ⟨⟨n + 1, false, by go_num, rfl, by omega, HFC, HB9⟩, by simp [intOf]; omega⟩
       ·go_wp2_with fail
        refine HIT1.out.mono ?_
        rintro e w11 ⟨v11, rfl, hr11, hb11⟩
        have HR11 := Lib.hid hr11
        have HB11 := Lib.hid (HB9.out.trans (hb11.mono HB9.out.size))
        have HIT2 := Lib.hid (titems_any p t L HA2.out.rep (by have := HA3.out; omega) w11 (HTP.out.keep hb11))
        clear hr11 hb11 HIT1
        go_wp2_with fail
        refine HIT2.out.mono ?_
        rintro e w12 ⟨v12, rfl, hr12, hb12⟩
        have HSM := Lib.hid (sameitems_any v11 v12 L' L w12 (HR11.out.keep hb12).il hr12.il)
        have HB12 := Lib.hid (HB11.out.trans (hb12.mono HB11.out.size))
        clear hr12 hb12 HIT2
        go_wp2_with fail
        refine HSM.out.mono ?_
        rintro e w13 ⟨rfl, m13, rfl⟩
        have HFN : Hid (decide (L' = L) = true ∨ ¬ OneS X2) := Lib.hid (by
         by_cases ho : OneS X2
         ·exact .inl (by simpa using HR3.out ho)
         ·exact .inr ho)
        have HB13 : Hid (Below w6.heap.size w6 (w12.drewN m13)) := Lib.hid ⟨HB12.out.os, HB12.out.tape, HB12.out.output, HB12.out.size, HB12.out.block⟩
        generalize decide (L' = L) = fd at *
        clear HSM
        go_wp2_with fail
        exact ⟨⟨n + 1, fd, by go_num, rfl, by omega, HFN, HB13⟩, by simp [intOf]; omega⟩
     ·have d0 : decide ((n : Int) < (N.length : Int)) = false := by simp; omega
      have HIE := Lib.hid (HI6.out.keep HWs.out)
      have HTE := Lib.hid (HT6.out.keep HWs.out)
      go_wp2_with fail
      exact ⟨⟨i + 1, x2, W2, X2, pn2, fc, by go_num, rfl, rfl, by omega, HIE, HTE, HFC⟩, by simp [intOf]; omega⟩
  ·have e0 : decide ((i : Int) < (l.length : Int)) = false := by simp; omega
   have HBE := Lib.hid HI.out.bel
   obtain ⟨ra, rc, hre⟩ := HI.out.row.form
   have hre2 := hre
   subst hre2
   cases fb
   ·have hno : ¬ OneS X := HFI.out.resolve_left (by simp)
    have hxl := HI.out.xl
    have HUN := Lib.hid (unlike4_any 1 (by omega) _ X (by omega) (fun j hj => by
     have := HI.out.xs (X.getD j []) (by rw [List.getD_eq_getElem?_getD, List.getElem?_eq_getElem hj]; exact List.getElem_mem hj)
     omega) wr HI.out.row.ss)
    rw [OneS.not hno] at HUN
    clear hno hxl
    go_wp2_with fail
    refine HUN.out.mono ?_
    rintro e w9 ⟨rfl, hb9⟩
    have HB9 := Lib.hid (HBE.out.trans (hb9.mono HBE.out.size))
    clear hb9 HUN
    go_wp2_with fail
    go_ret
    exact ⟨rfl, HB9.out⟩
   ·go_wp2_with fail
    go_ret
    exact ⟨rfl, HBE.out⟩
end Go.Proofs.YtjppbomngnomhaaGreatDoor
namespace Go.Proofs.YtjppbomngnomhaaGreatDoor
open Go.ChangeShapes Go.WideShapes Go.ChangeAt Go.RowKit
theorem gK : Tryz.prog.globalNamed "pharos/sha.k" = some 0 := by kernel_rfl
theorem tK : (Tryz.prog.globals[0]?).map (·.type) = some 163 := by kernel_rfl
theorem laid_eq {H : Type} : (Rows.laid_pharos_sha_k : DataW H) = .agg (kList.map fun n => .lit (.int .u32 n)) := rfl
theorem c1K : Tryz.prog.cellsOf 117 = 1 := by kernel_rfl
theorem kt_of_laid {W : World} (h : laidMetH Tryz.prog [("pharos/sha.k", Rows.laid_pharos_sha_k)] W) : KT W := by
 rw [MakeChecks.laidMetH_plain _ _ _ (by kernel_rfl)] at h
 obtain ⟨ps, ⟨g0, t0, cs0, f0, p0, q0, hg0, ht0, hv0, hd0, hrest⟩, _, _⟩ := h
 obtain rfl := Option.some.inj (gK.symm.trans hg0)
 obtain rfl := Option.some.inj (tK.symm.trans ht0)
 rw [laid_eq] at hd0
 obtain ⟨xs, m1, _, hx1, hl, hlen, hel⟩ := DataW.trod_array Tryz.underlying163 hd0
 rw [c1K] at hel
 simp only [Prod.mk.injEq, DataW.agg.injEq] at hx1
 have hcell : ∀ i, i < 64 → W.cell? ⟨0, i, none⟩ = some (.int .u32 (kc i)) := by
  intro i hi
  have h3 := hel i (by omega)
  have hxi : i < xs.length := by omega
  rw [List.getElem?_eq_getElem hxi] at h3
  obtain ⟨n, e1, e2, _⟩ := DataW.trod_int Tryz.underlying117 h3
  have h4 := congrArg (fun l => l[i]?) hx1.1
  simp only [List.getElem?_map, List.getElem?_eq_getElem hxi, Option.map_some] at h4
  rw [e2, List.getElem?_eq_getElem (show i < kList.length from hi)] at h4
  simp at h4
  have hv := World.var?_cell hg0 hv0 i
  rw [Nat.mul_one] at e1
  have h5 := congrArg (fun l => l[0]?) e1
  simp at h5
  have hlt : i < kList.length := hi
  rw [hv, h5, show kc i = n from by rw [← h4]; simp [kc, List.getD, hlt]]
 refine ⟨hcell, ?_⟩
 rcases Nat.lt_or_ge 0 W.heap.size with hlt | hge
 ·exact hlt
 ·have := hcell 0 (by omega)
  simp [World.cell?, Array.getElem?_eq_none hge] at this
theorem laid_door (os : Os) (args : Array Value) : laidMetH Tryz.prog [("pharos/sha.k", Rows.laid_pharos_sha_k)] ((World.doorLaid Tryz.prog 14 os).forCall (fun _ _ => 0) ⟨#[], args, []⟩).memory :=
 laidMetH_of_parts3 (fuel := 8) (laidMet_of_run' 8 (by kernel_rfl) (by kernel_rfl)) (by kernel_rfl) (by kernel_rfl)
end Go.Proofs.YtjppbomngnomhaaGreatDoor
