/- SPlays, ActV, Laid. -/
import Derived.Test.YtdddcncjmnekcaaGreatDoorRows
import Derived.ProofKit
import Derived.LaidMore
import Derived.Stop.Joined
import Derived.Test.YtdddcncjmnekcaaGreatDoorMg6
import Derived.Test.YtdddcncjmnekcaaGreatDoorMg13
import Derived.Test.YtdddcncjmnekcaaGreatDoorMg26
set_option linter.unnecessarySimpa false

/- Whatever comes, is kept and forked: the walk of StorePlays. -/
set_option linter.unusedSimpArgs false
set_option linter.unusedVariables false
namespace Go.Proofs.YtdddcncjmnekcaaGreatDoor
open Go.RowKit Go.WideMaps Go.Maps Go.Sort Go.Shelf Pl

set_option maxRecDepth 100000 in
set_option maxHeartbeats 16000000 in
theorem stoplays_any (v : Value) (l : List ActP) (odd : Bs) (hodd : odd.length ≤ maxLen) (hsh : AShort l) (w : World) (hk : KT w) (hv : AS w v l) :
    Calls Tryz.prog 3 #[v, .string ⟨List.toArray (odd)⟩] w fun e w' => e = .returned (.bool true) ∧ Below w.heap.size w w' := by
  obtain ⟨va, vc, rfl⟩ := hv.form
  have hsm := hv.small
  have HV := Lib.hid hv
  have HSH := Lib.hid hsh
  have hnw := snew_any w
  clear hv hsh
  go_enter Tryz.func3, Tryz.ntmps3
  go_wp2_with fail
  refine hnw.mono ?_
  rintro e w1 ⟨rfl, hS1, hb1⟩
  clear hnw
  have hI0 : PlI w.heap.size w w1 (w.heap.size + 1) w.heap.size (.slice none 0 0) (.slice none 0 0) [] [] [] := ⟨hS1, NRow.nil _ _, SRow.nil _ _, SD.start, (fun _ h => by cases h), hb1, hb1.size⟩
  clear hS1 hb1
  generalize w.heap.size + 1 = p0 at *
  obtain ⟨b0, hb0⟩ : ∃ b0, b0 = w.heap.size := ⟨_, rfl⟩
  rw [show PlI w.heap.size w w1 p0 w.heap.size (.slice none 0 0) (.slice none 0 0) [] [] [] = PlI w.heap.size w w1 p0 b0 (.slice none 0 0) (.slice none 0 0) [] [] [] from by rw [hb0]] at hI0
  clear hb0
  go_wp2_with fail
  go_loopw [5, 6, 7, 8] (fun s5 s6 s7 s8 wr => ∃ (n p b : Nat) (T : List Ent) (D : List It) (X : List Bs), s5 = .pointer (some ⟨p, 0, none⟩) ∧ s8 = .int .i64 (n) ∧ n ≤ 30 ∧ n ≤ l.length ∧ PlI w.heap.size w wr p b s6 s7 T D X ∧ T.length ≤ n ∧ X.length ≤ n) (fun _ _ _ s8 _ => 30 - (intOf s8).toNat)
  case atStart => exact ⟨0, p0, b0, [], [], [], rfl, rfl, Nat.zero_le _, Nat.zero_le _, hI0, Nat.le_refl _, Nat.le_refl _⟩
  case round =>
    clear hI0
    obtain ⟨n, p, b, T, D, X, rfl, rfl, hn30, hnl, hI, hTL, hXL⟩ := hrel
    obtain ⟨a6, c6, rfl⟩ := hI.nrow.form
    obtain ⟨a7, c7, rfl⟩ := hI.srow.form
    obtain ⟨wr, hnm⟩ := Below.name' hI.below
    subst hnm
    by_cases h1 : n < l.length
    · have d1 : decide ((n : Int) < (l.length : Int)) = true := by simp; omega
      by_cases h2 : n < 30
      · have d2 : decide ((n : Int) < 30) = true := by simp; omega
        have d0 : 0 ≤ (n : Int) ∧ (n : Int) < (l.length : Int) := by omega
        obtain ⟨g, off, cap, hva, hg, c0, c1, c2, c3⟩ := HV.out.at n h1
        have l1 := HSH.out n
        injection hva with hva _ hvc
        subst hva hvc
        generalize hx : l.getD n act0 = x at *
        obtain ⟨kd, tx, xa1, xb1⟩ := x
        clear hx
        simp only at c0 c1 c2 c3 l1
        have HACT : Hid (∀ W, Below w.heap.size w W → W.cell? ⟨g, off + n * 4, none⟩ = some (.int .i64 (kd)) ∧ W.cell? ⟨g, off + n * 4 + 1, none⟩ = some (.string ⟨List.toArray (tx)⟩) ∧ W.cell? ⟨g, off + n * 4 + 2, none⟩ = some (.int .i64 (xa1)) ∧ W.cell? ⟨g, off + n * 4 + 3, none⟩ = some (.int .i64 (xb1))) := Lib.hid (fun W hb => ⟨(hb.cell (p := ⟨g, off + n * 4, none⟩) hg).trans c0, (hb.cell (p := ⟨g, off + n * 4 + 1, none⟩) hg).trans c1, (hb.cell (p := ⟨g, off + n * 4 + 2, none⟩) hg).trans c2, (hb.cell (p := ⟨g, off + n * 4 + 3, none⟩) hg).trans c3⟩)
        have HL1 := Lib.hid l1
        have HN := Lib.hid h1
        have HN30 := Lib.hid h2
        have HTL := Lib.hid hTL
        have HXL := Lib.hid hXL
        have HB9 : Hid (b < wr.heap.size) := Lib.hid hI.sto.blt
        have HV9 : Hid (∀ k, (Value.slice a7 X.length c7).ownBlock = some k → k < wr.heap.size) := Lib.hid hI.srow.lt
        have HI0 := Lib.hid hI
        clear c0 c1 c2 c3 l1 h1 h2 hTL hXL hI hn30 hnl
        by_cases hX : X.length = 0
        case pos =>
          have HBN : Hid (wr.heap.size ≤ (wr.alloc (.cells #[.string ⟨List.toArray (odd)⟩] 9)).heap.size) := Lib.hid (by simp)
          have HU : Hid (SRow (wr.alloc (.cells #[.string ⟨List.toArray (odd)⟩] 9)) wr.heap.size (.slice (some ⟨wr.heap.size, 0, none⟩) 1 1) [odd]) := Lib.hid (srow_one (Nat.le_refl _) (by simpa using heap_alloc_new wr (.cells #[.string ⟨List.toArray (odd)⟩] 9)))
          have HI := Lib.hid (HI0.out.keep (Below.allocS (Below.refl _ _) (.cells #[.string ⟨List.toArray (odd)⟩] 9)))
          have HSl : Hid (∀ x ∈ [odd], x.length ≤ maxLen) := Lib.hid (fun x hx => by rw [List.mem_singleton] at hx; subst hx; exact hodd)
          have dx : decide ((0 : Int) < (X.length : Int)) = false := by rw [decide_eq_false_iff_not]; omega
          have dx2 : decide (0 < X.length) = false := by rw [decide_eq_false_iff_not]; omega
          have hW0 : ∃ W, W = wr.alloc (.cells #[.string ⟨List.toArray (odd)⟩] 9) := ⟨_, rfl⟩
          clear HI0 hX
          go_upto_region 12 with fail
          generalize wr.alloc (.cells #[.string ⟨List.toArray (odd)⟩] 9) = W0 at *
          clear hW0
          obtain ⟨m0, m1, m2, m3⟩ := HACT.out _ HI.out.below
          by_cases hk2 : kd = 2
          case pos =>
            subst hk2
            have hle := lend_any (.slice (some ⟨wr.heap.size, 0, none⟩) 1 1) [odd] (by simp) W0 HU.out.ss
            go_wp2_with fail
            refine hle.mono ?_
            rintro e w10 ⟨u10, rfl, hl10, hb10⟩
            have hI1 := HI.out.keep hb10
            have hU1 := HU.out.keep hb10
            have hdk := dkeep_any (.slice a6 D.length c6) D (by have := HTL.out; have := HN30.out; have := hI1.sd.perm.length_eq; omega) hI1.sd.shortI (.slice (some ⟨wr.heap.size, 0, none⟩) 1 1) [odd] w10 hI1.nrow.nl hU1.ss
            have hWB := Nat.le_trans HI.out.le hb10.size
            have hW9 := HBN.out
            clear hle hb10 m0 m1 m2 m3
            go_wp2_with fail
            refine hdk.mono ?_
            rintro e w11 ⟨v11, rfl, hn11, hb11⟩
            have hI2 := hI1.keep hb11
            have hU2 := hU1.keep hb11
            have hl2 := hl10.keep hb11
            have hb9 := HB9.out
            have hsk := skeep_anyM w.heap.size wr.heap.size p b T hI2.sd.shortE (by have := HTL.out; have := HN30.out; omega) u10 [odd] (by simp) HSl.out (fun k hk => by rw [hI2.sd.k32 k hk]; unfold maxLen; omega) w11 hI2.sto (SRow.low hl2.row hW9)
            have hgone := fun I hI => hI2.sd.keep_gone [odd] I hI
            clear hdk hb11 hI1 hU1 hl10
            generalize hG : keepG D (lst D [odd]) = G at *
            go_wp2_with fail
            refine hsk.mono ?_
            rintro e w12 ⟨I, hI, rfl, hS12, hg12⟩
            rw [hgone I hI]
            have hsd := hI2.sd.keep [odd] I hI
            rw [hG] at hsd
            have hlt := hI2.sd.keepT_len I
            have hI3 := hI2.grown hg12 hS12 v11 (NRow.low hn11 hWB) hsd
            have hU3 := hU2.past9 hg12 hb9
            have hl3 := hl2.past hg12 (Nat.lt_of_lt_of_le hb9 hW9)
            have hkp := kept_any _ u10 (.slice (some ⟨wr.heap.size, 0, none⟩) 1 1) [odd] w12 hl3 hU3.ss
            have HT2 : Hid ((keepT T I).length ≤ n) := Lib.hid (by have := HTL.out; omega)
            clear hsk hgone hI2 hU2 hl2 hg12 hS12 hn11 hsd hG hI hlt hb9 hW9
            generalize keepT T I = T2 at *
            go_wp2_with fail
            refine hkp.mono ?_
            rintro e w13 ⟨rfl, hb13⟩
            have hI4 := hI3.keep hb13
            have hU4 := hU3.keep hb13
            have hte := tells9_any w.heap.size wr.heap.size p b T2 v11 G (.slice (some ⟨wr.heap.size, 0, none⟩) 1 1) [odd] hI4.sd (by have := HT2.out; have := HN30.out; omega) (by simp) HSl.out w13 hI4.sto hI4.nrow.nl hU4
            clear hkp hb13 hI3 hU3 hl3
            go_wp2_with fail
            refine hte.mono ?_
            rintro e w20 ⟨rfl, hb20⟩
            have HI20 := hI4.keep hb20
            clear hte hb20
            go_wp2_with fail
            exact ⟨⟨n + 1, p, b, T2, G, X, rfl, by go_num, by have := HN30.out; omega, by have := HN.out; omega, HI20, by have := HT2.out; omega, by have := HXL.out; omega⟩, by have := HN.out; have := HN30.out; simp [intOf]; omega⟩
          case neg =>
          have e2 : (kd == 2) = false := by simpa using hk2
          by_cases hk3 : kd = 3
          case pos =>
            subst hk3
            have hfk := sfork_any w.heap.size p b T W0 HI.out.sto
            go_wp2_with fail
            refine hfk.mono ?_
            rintro e w10 ⟨p2, b2, rfl, hS10, hp2, hb2, hb10⟩
            have hI1 := HI.out.keep hb10
            have hU1 := HU.out.keep hb10
            have hbt := HI.out.sto.blt
            have hI1' : PlI w.heap.size w w10 p2 b2 (.slice a6 D.length c6) (.slice a7 X.length c7) T D X := ⟨hS10, hI1.nrow, hI1.srow, hI1.sd, hI1.x32, hI1.below, hI1.le⟩
            have hpu := sput_any w.heap.size p b T oldT oldT_len (by have := HTL.out; have := HN30.out; omega) w10 (hI1.kt hk (Nat.le_refl _)) hI1.sto
            have hsh2 := hI1.sd.put oldT oldT_len
            have hpl2 := hI1.sd.put_len oldT
            have hT1 : (putT T oldT).length ≤ 1000 := by have := HTL.out; have := HN30.out; omega
            clear hfk hb10 hS10 m0 m1 m2 m3 hpl2
            generalize putT T oldT = T3 at *
            go_wp2_with fail
            refine hpu.mono ?_
            rintro e w11 ⟨rfl, hS11, hg11⟩
            have hI2' := hI1'.beside hg11 hI1.sto.map (by omega) hI1.sto.hb
            have hU2 := hU1.past9 hg11 HB9.out
            have hsk := skeep_anyM w.heap.size 0 p b T3 hsh2.shortE hT1 (.slice none 0 0) [] (by simp) (fun _ h => by cases h) (fun k hk => by rw [hsh2.k32 k hk]; unfold maxLen; omega) w11 hS11 (SRow.nil _ _)
            clear hpu hI1' hI1 hU1 hg11
            go_wp2_with fail
            refine hsk.mono ?_
            rintro e w12 ⟨I, _, rfl, _, hg12⟩
            have hI4 := hI2'.beside hg12 hS11.map (by omega) hS11.hb
            have hU4 := hU2.past9 hg12 HB9.out
            clear hsk hg12 hS11 hsh2 hI2' hU2 hT1
            have hte := tells9_any w.heap.size wr.heap.size p2 b2 T (.slice a6 D.length c6) D (.slice (some ⟨wr.heap.size, 0, none⟩) 1 1) [odd] hI4.sd (by have := HTL.out; have := HN30.out; omega) (by simp) HSl.out w12 hI4.sto hI4.nrow.nl hU4
            clear hbt
            go_wp2_with fail
            refine hte.mono ?_
            rintro e w20 ⟨rfl, hb20⟩
            have HI20 := hI4.keep hb20
            clear hte hb20
            go_wp2_with fail
            exact ⟨⟨n + 1, p2, b2, T, D, X, rfl, by go_num, by have := HN30.out; omega, by have := HN.out; omega, HI20, by have := HTL.out; omega, by have := HXL.out; omega⟩, by have := HN.out; have := HN30.out; simp [intOf]; omega⟩
          case neg =>
          have e3 : (kd == 3) = false := by simpa using hk3
          have htx := text_any kd tx xa1 xb1 HL1.out (.slice a7 X.length c7) X (by have := HXL.out; have := HN30.out; omega) (fun x hx => by rw [HI.out.x32 x hx]; omega) W0 HI.out.srow.ss
          have htl : (textA (kd, tx, xa1, xb1) X).length ≤ 1000 := textA_short HI.out.x32 _
          generalize textA (kd, tx, xa1, xb1) X = t at *
          clear hk2 hk3
          go_wp2_with fail
          refine htx.mono ?_
          rintro e w10 ⟨rfl, hb10⟩
          have hI1 := HI.out.keep hb10
          have hU1 := HU.out.keep hb10
          have hdp := dput_any w.heap.size (.slice a6 D.length c6) D t htl (by have := HTL.out; have := HN30.out; have := hI1.sd.perm.length_eq; omega) w10 hI1.le hI1.nrow
          clear htx hb10 m0 m1 m2 m3
          go_wp2_with fail
          refine hdp.mono ?_
          rintro e w11 ⟨v11, rfl, hn11, hb11⟩
          have hI2 := hI1.keep hb11
          have hU2 := hU1.keep hb11
          have hle2 := hI2.le
          have hba : Below w11.heap.size w11 (w11.alloc (.cells #[.string ⟨List.toArray (tagP 1 t)⟩] 9)) := Below.allocS (Below.refl _ _) _
          have HI3 := Lib.hid (hI2.keep hba)
          have HN3 := Lib.hid (hn11.keep hba)
          have HU3 := Lib.hid (hU2.keep hba)
          have HK3 := Lib.hid (Lib.ownsRow_kind HI3.out.srow)
          have HU3o := Lib.hid hU2.own
          have hr3 := HI3.out.srow
          have hsz : w.heap.size ≤ (w11.alloc (.cells #[.string ⟨List.toArray (tagP 1 t)⟩] 9)).heap.size := HI3.out.le
          have hxl : X.length ≤ 30 := by have := HXL.out; have := HN30.out; omega
          clear hdp hb11 hI1 hU1 hI2 hn11 hU2 hba
          go_wp2_with (first
            | (at_builtin; refine wpList_appAt rfl (.tmp 80) (.tmp 82) rfl w.heap.size _ X rfl hr3 _ [tagP 1 t] rfl (SS.of (l := [tagP 1 t]) (by simp) (by unfold maxLen; omega) (by simp) (ssrc1 _ _ _)) (by simp; omega) hsz ?_; rintro v12 w12 hr12 hg12 hv12)
            | fail)
          have hS12 := HI3.out.sto.grown hg12 HK3.out
          have hn12 := HN3.out.grown hg12 (HN3.out.notstr HK3.out)
          have hm12 := HI3.out.nrow.grown hg12 (HI3.out.nrow.notstr HK3.out)
          have hU12 := HU3.out.grown hg12 (fun k hk e => by have h1 := HV9.out k e; have h2 := HU3o.out k hk; omega)
          have hb12 := HI3.out.below.trans (grown_below hg12 HI3.out.le (fun k hk => HI3.out.srow.own k hk))
          have hI12 : PlI w.heap.size w w12 p b (.slice a6 D.length c6) v12 T D (X ++ [tagP 1 t]) := ⟨hS12, hm12, hr12, HI3.out.sd, fun x hx => by
            rcases List.mem_append.1 hx with hx | hx
            · exact HI3.out.x32 x hx
            · rw [List.mem_singleton] at hx; subst hx; exact tagP_len _ _, hb12, Nat.le_trans HI3.out.le hg12.size⟩
          have hpu := sput_any w.heap.size p b T t htl (by have := HTL.out; have := HN30.out; omega) w12 (hI12.kt hk (Nat.le_refl _)) hS12
          clear hS12 hm12 hr12 hb12 hg12 hv12 hr3 HI3 HN3 HU3 HK3 HU3o
          go_wp2_with fail
          refine hpu.mono ?_
          rintro e w13 ⟨rfl, hS13, hg13⟩
          have hpl := hI12.sd.put_len t
          have HT2 : Hid ((putT T t).length ≤ n + 1) := Lib.hid (by have := HTL.out; omega)
          have hI4 := hI12.grown hg13 hS13 v11 hn12 (hI12.sd.put t htl)
          have hU4 := hU12.past9 hg13 HB9.out
          clear hpu hS13 hg13 hI12 hn12 hU12 hpl
          have hI4' : PlI w.heap.size w w13 p b v11 v12 (putT T t) (putD D t) (X ++ [tagP 1 t]) := hI4
          clear hI4
          generalize putT T t = T2 at *
          generalize putD D t = G at *
          have HX2 : Hid ((X ++ [tagP 1 t]).length ≤ n + 1) := Lib.hid (by have := HXL.out; simp; omega)
          generalize X ++ [tagP 1 t] = X2 at *
          have hte := tells9_any w.heap.size wr.heap.size p b T2 v11 G (.slice (some ⟨wr.heap.size, 0, none⟩) 1 1) [odd] hI4'.sd (by have := HT2.out; have := HN30.out; omega) (by simp) HSl.out w13 hI4'.sto hI4'.nrow.nl hU4
          clear hxl hsz
          go_wp2_with fail
          refine hte.mono ?_
          rintro e w20 ⟨rfl, hb20⟩
          have HI20 := hI4'.keep hb20
          clear hte hb20
          go_wp2_with fail
          exact ⟨⟨n + 1, p, b, T2, G, X2, rfl, by go_num, by have := HN30.out; omega, by have := HN.out; omega, HI20, HT2.out, HX2.out⟩, by have := HN.out; have := HN30.out; simp [intOf]; omega⟩
        case neg =>
          have hX0 : 0 < X.length := by omega
          have dx : decide ((0 : Int) < (X.length : Int)) = true := by simp; omega
          have dx2 : decide (0 < X.length) = true := by simp; omega
          have hba := below_any xa1 X.length hX0 (by have := HXL.out; have := HN30.out; omega)
          have hbb := below_any xb1 X.length hX0 (by have := HXL.out; have := HN30.out; omega)
          have hma := modN_lt xa1 X.length hX0
          have hmb := modN_lt xb1 X.length hX0
          generalize modN xa1 X.length = na at *
          generalize modN xb1 X.length = nb at *
          obtain ⟨ga, oa, e7, hga, cx⟩ := HI0.out.srow.ss.at' na hma
          subst e7
          obtain ⟨ga', oa', e7, _, cy⟩ := HI0.out.srow.ss.at' nb hmb
          injection e7 with e7
          injection e7 with e1 e2 _
          subst e1 e2
          have hx32 := HI0.out.x32
          have hxa : (X.getD na []).length = 32 := hx32 _ (by rw [List.getD_eq_getElem?_getD, List.getElem?_eq_getElem hma]; exact List.getElem_mem _)
          have hxb : (X.getD nb []).length = 32 := hx32 _ (by rw [List.getD_eq_getElem?_getD, List.getElem?_eq_getElem hmb]; exact List.getElem_mem _)
          generalize X.getD na [] = sx at *
          generalize X.getD nb [] = sy at *
          have HSl : Hid (∀ x ∈ [odd, sx, sy], x.length ≤ maxLen) := Lib.hid (fun x hx => by
            simp only [List.mem_cons, List.not_mem_nil, or_false] at hx
            rcases hx with rfl | rfl | rfl
            · exact hodd
            · rw [hxa]; unfold maxLen; omega
            · rw [hxb]; unfold maxLen; omega)
          have HR9 : Hid (SRow (wr.alloc (.cells #[.string ⟨List.toArray (odd)⟩] 9)) wr.heap.size (.slice (some ⟨wr.heap.size, 0, none⟩) 1 1) [odd]) := Lib.hid (srow_one (Nat.le_refl _) (by simpa using heap_alloc_new wr (.cells #[.string ⟨List.toArray (odd)⟩] 9)))
          have HBS : Hid (wr.heap.size ≤ (wr.alloc (.cells #[.string ⟨List.toArray (odd)⟩] 9)).heap.size) := Lib.hid (by simp)
          have HW9 : Hid (Below wr.heap.size wr (wr.alloc (.cells #[.string ⟨List.toArray (odd)⟩] 9))) := Lib.hid (Below.allocS (Below.refl _ _) _)
          have ia : 0 ≤ (na : Int) ∧ (na : Int) < (X.length : Int) := by omega
          have ib : 0 ≤ (nb : Int) ∧ (nb : Int) < (X.length : Int) := by omega
          have HX0 := Lib.hid hX0
          clear hX hx32 hxa hxb hma hmb hX0
          go_upto_region 11 with fail
          refine wpH_startB (wr.heap.size) (by kernel_rfl) (fun hS => ?_)
          have hR := HR9.out.keep ((Below.refl _ _).drew)
          (refine wpH_pure 0 ?_ (oi := { dst := some 35, op := Op.move (Operand.tmp 9), type := 26, pos := "law.go:38", after := #[], guard := none }) rfl (by kernel_rfl) (by kernel_rfl) (by kernel_rfl) (by rfl) hS (fun _ _ _ h => h) ?_ ?_; rotate_left; focus (intro w; go_simp; try with_reducible rfl))
          try simp only [Act.put, List.setIfInBounds_toArray, List.set_cons_zero, List.set_cons_succ]
          (refine wpH_pure 1 ?_ (oi := { dst := some 36, op := Op.move (Operand.tmp 7), type := 26, pos := "law.go:38", after := #[], guard := none }) rfl (by kernel_rfl) (by kernel_rfl) (by kernel_rfl) (by rfl) hS (fun _ _ _ h => h) ?_ ?_; rotate_left; focus (intro w; go_simp; try with_reducible rfl))
          try simp only [Act.put, List.setIfInBounds_toArray, List.set_cons_zero, List.set_cons_succ]
          (refine wpH_pure 2 ?_ (oi := { dst := some 37, op := Op.move (Operand.tmp 0), type := 22, pos := "law.go:38", after := #[], guard := none }) rfl (by kernel_rfl) (by kernel_rfl) (by kernel_rfl) (by rfl) hS (fun _ _ _ h => h) ?_ ?_; rotate_left; focus (intro w; go_simp; try with_reducible rfl))
          try simp only [Act.put, List.setIfInBounds_toArray, List.set_cons_zero, List.set_cons_succ]
          (refine wpH_pure 3 ?_ (oi := { dst := some 38, op := Op.move (Operand.tmp 8), type := 3, pos := "law.go:38", after := #[], guard := none }) rfl (by kernel_rfl) (by kernel_rfl) (by kernel_rfl) (by rfl) hS (fun _ _ _ h => h) ?_ ?_; rotate_left; focus (intro w; go_simp; try with_reducible rfl))
          try simp only [Act.put, List.setIfInBounds_toArray, List.set_cons_zero, List.set_cons_succ]
          (refine wpH_pure 4 ?_ (oi := { dst := some 39, op := Op.indexAddr 22 (Operand.tmp 37) (Operand.tmp 38), type := 0, pos := "law.go:38", after := #[{ on := 2, ground := Ground.data }, { on := 3, ground := Ground.data }], guard := none }) rfl (by kernel_rfl) (by kernel_rfl) (by kernel_rfl) (by rfl) hS (fun _ _ _ h => h) ?_ ?_; rotate_left; focus (intro w; go_simp; try with_reducible rfl))
          try simp only [Act.put, List.setIfInBounds_toArray, List.set_cons_zero, List.set_cons_succ]
          (refine wpH_pure 5 ?_ (oi := { dst := some 40, op := Op.fieldAddr 30 (Operand.tmp 39) 2, type := 0, pos := "law.go:38", after := #[{ on := 4, ground := Ground.data }], guard := none }) rfl (by kernel_rfl) (by kernel_rfl) (by kernel_rfl) (by rfl) hS (fun _ _ _ h => h) ?_ ?_; rotate_left; focus (intro w; go_simp; try with_reducible rfl))
          try simp only [Act.put, List.setIfInBounds_toArray, List.set_cons_zero, List.set_cons_succ]
          (refine wpH_pure 6 ?_ (oi := { dst := some 41, op := Op.indexAddr 28 (Operand.tmp 40) (Operand.const (Value.int IntKind.i64 0)), type := 0, pos := "law.go:38", after := #[{ on := 5, ground := Ground.data }], guard := none }) rfl (by kernel_rfl) (by kernel_rfl) (by kernel_rfl) (by rfl) hS (fun _ _ _ h => h) ?_ ?_; rotate_left; focus (intro w; go_simp; try with_reducible rfl))
          try simp only [Act.put, List.setIfInBounds_toArray, List.set_cons_zero, List.set_cons_succ]
          refine wpH_load 7 (.int .i64 (xa1)) (oi := { dst := some 42, op := Op.load 3 (Operand.tmp 41), type := 3, pos := "law.go:38", after := #[{ on := 6, ground := Ground.data }], guard := none }) rfl (by kernel_rfl) (by kernel_rfl) (by kernel_rfl) (by rfl) hS (fun _ _ _ h => h) (fun w2 hb4 => (by have c := (HACT.out w2 (HI0.out.below.trans ((HW9.out.trans hb4).mono HI0.out.le))).2.2.1; go_simp; try rfl)) ?_
          try simp only [Act.put, List.setIfInBounds_toArray, List.set_cons_zero, List.set_cons_succ]
          (refine wpH_pure 8 ?_ (oi := { dst := some 43, op := Op.move (Operand.tmp 7), type := 26, pos := "law.go:38", after := #[], guard := none }) rfl (by kernel_rfl) (by kernel_rfl) (by kernel_rfl) (by rfl) hS (fun _ _ _ h => h) ?_ ?_; rotate_left; focus (intro w; go_simp; try with_reducible rfl))
          try simp only [Act.put, List.setIfInBounds_toArray, List.set_cons_zero, List.set_cons_succ]
          (refine wpH_pure 9 ?_ (oi := { dst := some 44, op := Op.call { callee := Callee.builtin Builtin.len, args := #[Operand.tmp 43], argTypes := #[26] }, type := 3, pos := "law.go:38", after := #[{ on := 8, ground := Ground.data }], guard := none }) rfl (by kernel_rfl) (by kernel_rfl) (by kernel_rfl) (by rfl) hS (fun _ _ _ h => h) ?_ ?_; rotate_left; focus (intro w; go_simp; try with_reducible rfl))
          try simp only [Act.put, List.setIfInBounds_toArray, List.set_cons_zero, List.set_cons_succ]
          (refine wpH_pure 13 ?_ (oi := { dst := some 48, op := Op.move (Operand.tmp 7), type := 26, pos := "law.go:38", after := #[], guard := none }) rfl (by kernel_rfl) (by kernel_rfl) (by kernel_rfl) (by rfl) hS (fun _ _ _ h => h) ?_ ?_; rotate_left; focus (intro w; go_simp; try with_reducible rfl))
          try simp only [Act.put, List.setIfInBounds_toArray, List.set_cons_zero, List.set_cons_succ]
          (refine wpH_pure 14 ?_ (oi := { dst := some 49, op := Op.move (Operand.tmp 0), type := 22, pos := "law.go:38", after := #[], guard := none }) rfl (by kernel_rfl) (by kernel_rfl) (by kernel_rfl) (by rfl) hS (fun _ _ _ h => h) ?_ ?_; rotate_left; focus (intro w; go_simp; try with_reducible rfl))
          try simp only [Act.put, List.setIfInBounds_toArray, List.set_cons_zero, List.set_cons_succ]
          (refine wpH_pure 15 ?_ (oi := { dst := some 50, op := Op.move (Operand.tmp 8), type := 3, pos := "law.go:38", after := #[], guard := none }) rfl (by kernel_rfl) (by kernel_rfl) (by kernel_rfl) (by rfl) hS (fun _ _ _ h => h) ?_ ?_; rotate_left; focus (intro w; go_simp; try with_reducible rfl))
          try simp only [Act.put, List.setIfInBounds_toArray, List.set_cons_zero, List.set_cons_succ]
          (refine wpH_pure 16 ?_ (oi := { dst := some 51, op := Op.indexAddr 22 (Operand.tmp 49) (Operand.tmp 50), type := 0, pos := "law.go:38", after := #[{ on := 14, ground := Ground.data }, { on := 15, ground := Ground.data }], guard := none }) rfl (by kernel_rfl) (by kernel_rfl) (by kernel_rfl) (by rfl) hS (fun _ _ _ h => h) ?_ ?_; rotate_left; focus (intro w; go_simp; try with_reducible rfl))
          try simp only [Act.put, List.setIfInBounds_toArray, List.set_cons_zero, List.set_cons_succ]
          (refine wpH_pure 17 ?_ (oi := { dst := some 52, op := Op.fieldAddr 30 (Operand.tmp 51) 2, type := 0, pos := "law.go:38", after := #[{ on := 16, ground := Ground.data }], guard := none }) rfl (by kernel_rfl) (by kernel_rfl) (by kernel_rfl) (by rfl) hS (fun _ _ _ h => h) ?_ ?_; rotate_left; focus (intro w; go_simp; try with_reducible rfl))
          try simp only [Act.put, List.setIfInBounds_toArray, List.set_cons_zero, List.set_cons_succ]
          (refine wpH_pure 18 ?_ (oi := { dst := some 53, op := Op.indexAddr 28 (Operand.tmp 52) (Operand.const (Value.int IntKind.i64 1)), type := 0, pos := "law.go:38", after := #[{ on := 17, ground := Ground.data }], guard := none }) rfl (by kernel_rfl) (by kernel_rfl) (by kernel_rfl) (by rfl) hS (fun _ _ _ h => h) ?_ ?_; rotate_left; focus (intro w; go_simp; try with_reducible rfl))
          try simp only [Act.put, List.setIfInBounds_toArray, List.set_cons_zero, List.set_cons_succ]
          refine wpH_load 19 (.int .i64 (xb1)) (oi := { dst := some 54, op := Op.load 3 (Operand.tmp 53), type := 3, pos := "law.go:38", after := #[{ on := 18, ground := Ground.data }], guard := none }) rfl (by kernel_rfl) (by kernel_rfl) (by kernel_rfl) (by rfl) hS (fun _ _ _ h => h) (fun w2 hb4 => (by have c := (HACT.out w2 (HI0.out.below.trans ((HW9.out.trans hb4).mono HI0.out.le))).2.2.2; go_simp; try rfl)) ?_
          try simp only [Act.put, List.setIfInBounds_toArray, List.set_cons_zero, List.set_cons_succ]
          (refine wpH_pure 20 ?_ (oi := { dst := some 55, op := Op.move (Operand.tmp 7), type := 26, pos := "law.go:38", after := #[], guard := none }) rfl (by kernel_rfl) (by kernel_rfl) (by kernel_rfl) (by rfl) hS (fun _ _ _ h => h) ?_ ?_; rotate_left; focus (intro w; go_simp; try with_reducible rfl))
          try simp only [Act.put, List.setIfInBounds_toArray, List.set_cons_zero, List.set_cons_succ]
          (refine wpH_pure 21 ?_ (oi := { dst := some 56, op := Op.call { callee := Callee.builtin Builtin.len, args := #[Operand.tmp 55], argTypes := #[26] }, type := 3, pos := "law.go:38", after := #[{ on := 20, ground := Ground.data }], guard := none }) rfl (by kernel_rfl) (by kernel_rfl) (by kernel_rfl) (by rfl) hS (fun _ _ _ h => h) ?_ ?_; rotate_left; focus (intro w; go_simp; try with_reducible rfl))
          try simp only [Act.put, List.setIfInBounds_toArray, List.set_cons_zero, List.set_cons_succ]
          refine wpH_call 10 (oi := { dst := some 45, op := Op.call { callee := Callee.value (Operand.func 5), args := #[Operand.tmp 42, Operand.tmp 44], argTypes := #[3, 3] }, type := 3, pos := "law.go:38", after := #[{ on := 7, ground := Ground.data }, { on := 9, ground := Ground.data }], guard := none }) rfl (by kernel_rfl) (by rfl) (hba _) ?_ ?_
          · (go_simp; try rfl)
          rintro e w' ⟨rfl, rfl⟩
          refine ⟨_, rfl, hS, ?_⟩
          try simp only [Act.put, List.setIfInBounds_toArray, List.set_cons_zero, List.set_cons_succ]
          (refine wpH_pure 11 ?_ (oi := { dst := some 46, op := Op.indexAddr 26 (Operand.tmp 36) (Operand.tmp 45), type := 0, pos := "law.go:38", after := #[{ on := 1, ground := Ground.data }, { on := 10, ground := Ground.data }], guard := none }) rfl (by kernel_rfl) (by kernel_rfl) (by kernel_rfl) (by rfl) hS (fun _ _ _ h => h) ?_ ?_; rotate_left; focus (intro w; go_simp; try with_reducible rfl))
          try simp only [Act.put, List.setIfInBounds_toArray, List.set_cons_zero, List.set_cons_succ]
          refine wpH_load 12 (.string ⟨List.toArray (sx)⟩) (oi := { dst := some 47, op := Op.load 9 (Operand.tmp 46), type := 9, pos := "law.go:38", after := #[{ on := 11, ground := Ground.data }], guard := none }) rfl (by kernel_rfl) (by kernel_rfl) (by kernel_rfl) (by rfl) hS (fun _ _ _ h => h) (fun w2 hb4 => (by have c := ((HW9.out.trans hb4).cell (p := ⟨ga, oa + na, none⟩) hga).trans cx; go_simp; try rfl)) ?_
          try simp only [Act.put, List.setIfInBounds_toArray, List.set_cons_zero, List.set_cons_succ]
          refine wpH_call 22 (oi := { dst := some 57, op := Op.call { callee := Callee.value (Operand.func 5), args := #[Operand.tmp 54, Operand.tmp 56], argTypes := #[3, 3] }, type := 3, pos := "law.go:38", after := #[{ on := 19, ground := Ground.data }, { on := 21, ground := Ground.data }, { on := 10, ground := Ground.chain }], guard := none }) rfl (by kernel_rfl) (by rfl) (hbb _) ?_ ?_
          · (go_simp; try rfl)
          rintro e w' ⟨rfl, rfl⟩
          refine ⟨_, rfl, hS, ?_⟩
          try simp only [Act.put, List.setIfInBounds_toArray, List.set_cons_zero, List.set_cons_succ]
          (refine wpH_pure 23 ?_ (oi := { dst := some 58, op := Op.indexAddr 26 (Operand.tmp 48) (Operand.tmp 57), type := 0, pos := "law.go:38", after := #[{ on := 13, ground := Ground.data }, { on := 22, ground := Ground.data }], guard := none }) rfl (by kernel_rfl) (by kernel_rfl) (by kernel_rfl) (by rfl) hS (fun _ _ _ h => h) ?_ ?_; rotate_left; focus (intro w; go_simp; try with_reducible rfl))
          try simp only [Act.put, List.setIfInBounds_toArray, List.set_cons_zero, List.set_cons_succ]
          refine wpH_load 24 (.string ⟨List.toArray (sy)⟩) (oi := { dst := some 59, op := Op.load 9 (Operand.tmp 58), type := 9, pos := "law.go:38", after := #[{ on := 23, ground := Ground.data }], guard := none }) rfl (by kernel_rfl) (by kernel_rfl) (by kernel_rfl) (by rfl) hS (fun _ _ _ h => h) (fun w2 hb4 => (by have c := ((HW9.out.trans hb4).cell (p := ⟨ga, oa + nb, none⟩) hga).trans cy; go_simp; try rfl)) ?_
          try simp only [Act.put, List.setIfInBounds_toArray, List.set_cons_zero, List.set_cons_succ]
          refine wpH_op 25 (oi := { dst := some 60, op := Op.buildSlice 26 2 #[(0, Operand.tmp 47), (1, Operand.tmp 59)], type := 26, pos := "law.go:38", after := #[{ on := 12, ground := Ground.data }, { on := 24, ground := Ground.data }], guard := none }) rfl (by kernel_rfl) (by rfl) ?_
          refine wp_newK 9 #[.string ⟨List.toArray (sx)⟩, .string ⟨List.toArray (sy)⟩] (fun k => .slice (some ⟨k, 0, none⟩) 2 2) (fun w => by go_simp; try rfl) (fun k60 W6 hk60 hh60 hlt60 hbk60 => ?_)
          have hS6 := hS.size
          refine hold_and (hS.trans (hbk60.mono (Nat.le_trans HBS.out hS.size))) (fun hS => ?_)
          have hR6 := hR.keep hbk60
          try simp only [Act.put, List.setIfInBounds_toArray, List.set_cons_zero, List.set_cons_succ]
          refine wpH_op 26 (oi := { dst := some 61, op := Op.call { callee := Callee.builtin Builtin.append, args := #[Operand.tmp 35, Operand.tmp 60], argTypes := #[26, 26] }, type := 26, pos := "law.go:38", after := #[{ on := 0, ground := Ground.data }, { on := 25, ground := Ground.data }, { on := 22, ground := Ground.chain }], guard := none }) rfl (by kernel_rfl) (by rfl) ?_
          refine wp_appS (.tmp 35) (.tmp 60) rfl wr.heap.size _ [odd] rfl hR6 k60 0 2 2 [sx, sy] rfl rfl (ssrc_two hh60) (by simp) (Nat.le_trans HBS.out hS.size) ?_
          rintro v61 W0 hU61 hb61
          refine hold_and (hS.trans hb61) (fun hS => ?_)
          try simp only [Act.put, List.setIfInBounds_toArray, List.set_cons_zero, List.set_cons_succ]
          (refine wpH_pure 27 ?_ (oi := { dst := some 9, op := Op.assign (Operand.tmp 61), type := 26, pos := "law.go:38", after := #[{ on := 26, ground := Ground.data }, { on := 26, ground := Ground.chain }, { on := 0, ground := Ground.phase }, { on := 1, ground := Ground.phase }, { on := 2, ground := Ground.phase }, { on := 3, ground := Ground.phase }, { on := 4, ground := Ground.phase }, { on := 5, ground := Ground.phase }, { on := 6, ground := Ground.phase }, { on := 7, ground := Ground.phase }, { on := 8, ground := Ground.phase }, { on := 9, ground := Ground.phase }, { on := 10, ground := Ground.phase }, { on := 11, ground := Ground.phase }, { on := 12, ground := Ground.phase }, { on := 13, ground := Ground.phase }, { on := 14, ground := Ground.phase }, { on := 15, ground := Ground.phase }, { on := 16, ground := Ground.phase }, { on := 17, ground := Ground.phase }, { on := 18, ground := Ground.phase }, { on := 19, ground := Ground.phase }, { on := 20, ground := Ground.phase }, { on := 21, ground := Ground.phase }, { on := 22, ground := Ground.phase }, { on := 23, ground := Ground.phase }, { on := 24, ground := Ground.phase }, { on := 25, ground := Ground.phase }, { on := 26, ground := Ground.phase }], guard := none }) rfl (by kernel_rfl) (by kernel_rfl) (by kernel_rfl) (by rfl) hS (fun _ _ _ h => h) ?_ ?_; rotate_left; focus (intro w; go_simp; try with_reducible rfl))
          try simp only [Act.put, List.setIfInBounds_toArray, List.set_cons_zero, List.set_cons_succ]
          refine wpAnyH_done (by kernel_rfl) ?_ _
          obtain ⟨a9, c9, rfl⟩ : ∃ a c, v61 = .slice a 3 c := SRow.form hU61
          have HU : Hid (SRow W0 wr.heap.size (.slice a9 3 c9) [odd, sx, sy]) := Lib.hid hU61
          have HI := Lib.hid (HI0.out.keep (HW9.out.trans hS))
          have HBN : Hid (wr.heap.size ≤ W0.heap.size) := Lib.hid (Nat.le_trans HBS.out hS.size)
          clear hS hU61 hb61 hR6 hh60 hk60 hlt60 hbk60 hba hbb cx cy ia ib HR9 HBS HW9 HI0
          obtain ⟨m0, m1, m2, m3⟩ := HACT.out _ HI.out.below
          by_cases hk2 : kd = 2
          case pos =>
            subst hk2
            have hle := lend_any (.slice a9 3 c9) [odd, sx, sy] (by simp) W0 HU.out.ss
            go_wp2_with fail
            refine hle.mono ?_
            rintro e w10 ⟨u10, rfl, hl10, hb10⟩
            have hI1 := HI.out.keep hb10
            have hU1 := HU.out.keep hb10
            have hdk := dkeep_any (.slice a6 D.length c6) D (by have := HTL.out; have := HN30.out; have := hI1.sd.perm.length_eq; omega) hI1.sd.shortI (.slice a9 3 c9) [odd, sx, sy] w10 hI1.nrow.nl hU1.ss
            have hWB := Nat.le_trans HI.out.le hb10.size
            have hW9 := HBN.out
            clear hle hb10 m0 m1 m2 m3
            go_wp2_with fail
            refine hdk.mono ?_
            rintro e w11 ⟨v11, rfl, hn11, hb11⟩
            have hI2 := hI1.keep hb11
            have hU2 := hU1.keep hb11
            have hl2 := hl10.keep hb11
            have hb9 := HB9.out
            have hsk := skeep_anyM w.heap.size wr.heap.size p b T hI2.sd.shortE (by have := HTL.out; have := HN30.out; omega) u10 [odd, sx, sy] (by simp) HSl.out (fun k hk => by rw [hI2.sd.k32 k hk]; unfold maxLen; omega) w11 hI2.sto (SRow.low hl2.row hW9)
            have hgone := fun I hI => hI2.sd.keep_gone [odd, sx, sy] I hI
            clear hdk hb11 hI1 hU1 hl10
            generalize hG : keepG D (lst D [odd, sx, sy]) = G at *
            go_wp2_with fail
            refine hsk.mono ?_
            rintro e w12 ⟨I, hI, rfl, hS12, hg12⟩
            rw [hgone I hI]
            have hsd := hI2.sd.keep [odd, sx, sy] I hI
            rw [hG] at hsd
            have hlt := hI2.sd.keepT_len I
            have hI3 := hI2.grown hg12 hS12 v11 (NRow.low hn11 hWB) hsd
            have hU3 := hU2.past9 hg12 hb9
            have hl3 := hl2.past hg12 (Nat.lt_of_lt_of_le hb9 hW9)
            have hkp := kept_any _ u10 (.slice a9 3 c9) [odd, sx, sy] w12 hl3 hU3.ss
            have HT2 : Hid ((keepT T I).length ≤ n) := Lib.hid (by have := HTL.out; omega)
            clear hsk hgone hI2 hU2 hl2 hg12 hS12 hn11 hsd hG hI hlt hb9 hW9
            generalize keepT T I = T2 at *
            go_wp2_with fail
            refine hkp.mono ?_
            rintro e w13 ⟨rfl, hb13⟩
            have hI4 := hI3.keep hb13
            have hU4 := hU3.keep hb13
            have hte := tells9_any w.heap.size wr.heap.size p b T2 v11 G (.slice a9 3 c9) [odd, sx, sy] hI4.sd (by have := HT2.out; have := HN30.out; omega) (by simp) HSl.out w13 hI4.sto hI4.nrow.nl hU4
            clear hkp hb13 hI3 hU3 hl3
            go_wp2_with fail
            refine hte.mono ?_
            rintro e w20 ⟨rfl, hb20⟩
            have HI20 := hI4.keep hb20
            clear hte hb20
            go_wp2_with fail
            exact ⟨⟨n + 1, p, b, T2, G, X, rfl, by go_num, by have := HN30.out; omega, by have := HN.out; omega, HI20, by have := HT2.out; omega, by have := HXL.out; omega⟩, by have := HN.out; have := HN30.out; simp [intOf]; omega⟩
          case neg =>
          have e2 : (kd == 2) = false := by simpa using hk2
          by_cases hk3 : kd = 3
          case pos =>
            subst hk3
            have hfk := sfork_any w.heap.size p b T W0 HI.out.sto
            go_wp2_with fail
            refine hfk.mono ?_
            rintro e w10 ⟨p2, b2, rfl, hS10, hp2, hb2, hb10⟩
            have hI1 := HI.out.keep hb10
            have hU1 := HU.out.keep hb10
            have hbt := HI.out.sto.blt
            have hI1' : PlI w.heap.size w w10 p2 b2 (.slice a6 D.length c6) (.slice (some ⟨ga, oa, none⟩) X.length c7) T D X := ⟨hS10, hI1.nrow, hI1.srow, hI1.sd, hI1.x32, hI1.below, hI1.le⟩
            have hpu := sput_any w.heap.size p b T oldT oldT_len (by have := HTL.out; have := HN30.out; omega) w10 (hI1.kt hk (Nat.le_refl _)) hI1.sto
            have hsh2 := hI1.sd.put oldT oldT_len
            have hpl2 := hI1.sd.put_len oldT
            have hT1 : (putT T oldT).length ≤ 1000 := by have := HTL.out; have := HN30.out; omega
            clear hfk hb10 hS10 m0 m1 m2 m3 hpl2
            generalize putT T oldT = T3 at *
            go_wp2_with fail
            refine hpu.mono ?_
            rintro e w11 ⟨rfl, hS11, hg11⟩
            have hI2' := hI1'.beside hg11 hI1.sto.map (by omega) hI1.sto.hb
            have hU2 := hU1.past9 hg11 HB9.out
            have hsk := skeep_anyM w.heap.size 0 p b T3 hsh2.shortE hT1 (.slice none 0 0) [] (by simp) (fun _ h => by cases h) (fun k hk => by rw [hsh2.k32 k hk]; unfold maxLen; omega) w11 hS11 (SRow.nil _ _)
            clear hpu hI1' hI1 hU1 hg11
            go_wp2_with fail
            refine hsk.mono ?_
            rintro e w12 ⟨I, _, rfl, _, hg12⟩
            have hI4 := hI2'.beside hg12 hS11.map (by omega) hS11.hb
            have hU4 := hU2.past9 hg12 HB9.out
            clear hsk hg12 hS11 hsh2 hI2' hU2 hT1
            have hte := tells9_any w.heap.size wr.heap.size p2 b2 T (.slice a6 D.length c6) D (.slice a9 3 c9) [odd, sx, sy] hI4.sd (by have := HTL.out; have := HN30.out; omega) (by simp) HSl.out w12 hI4.sto hI4.nrow.nl hU4
            clear hbt
            go_wp2_with fail
            refine hte.mono ?_
            rintro e w20 ⟨rfl, hb20⟩
            have HI20 := hI4.keep hb20
            clear hte hb20
            go_wp2_with fail
            exact ⟨⟨n + 1, p2, b2, T, D, X, rfl, by go_num, by have := HN30.out; omega, by have := HN.out; omega, HI20, by have := HTL.out; omega, by have := HXL.out; omega⟩, by have := HN.out; have := HN30.out; simp [intOf]; omega⟩
          case neg =>
          have e3 : (kd == 3) = false := by simpa using hk3
          have htx := text_any kd tx xa1 xb1 HL1.out (.slice (some ⟨ga, oa, none⟩) X.length c7) X (by have := HXL.out; have := HN30.out; omega) (fun x hx => by rw [HI.out.x32 x hx]; omega) W0 HI.out.srow.ss
          have htl : (textA (kd, tx, xa1, xb1) X).length ≤ 1000 := textA_short HI.out.x32 _
          generalize textA (kd, tx, xa1, xb1) X = t at *
          clear hk2 hk3
          go_wp2_with fail
          refine htx.mono ?_
          rintro e w10 ⟨rfl, hb10⟩
          have hI1 := HI.out.keep hb10
          have hU1 := HU.out.keep hb10
          have hdp := dput_any w.heap.size (.slice a6 D.length c6) D t htl (by have := HTL.out; have := HN30.out; have := hI1.sd.perm.length_eq; omega) w10 hI1.le hI1.nrow
          clear htx hb10 m0 m1 m2 m3
          go_wp2_with fail
          refine hdp.mono ?_
          rintro e w11 ⟨v11, rfl, hn11, hb11⟩
          have hI2 := hI1.keep hb11
          have hU2 := hU1.keep hb11
          have hle2 := hI2.le
          have hba : Below w11.heap.size w11 (w11.alloc (.cells #[.string ⟨List.toArray (tagP 1 t)⟩] 9)) := Below.allocS (Below.refl _ _) _
          have HI3 := Lib.hid (hI2.keep hba)
          have HN3 := Lib.hid (hn11.keep hba)
          have HU3 := Lib.hid (hU2.keep hba)
          have HK3 := Lib.hid (Lib.ownsRow_kind HI3.out.srow)
          have HU3o := Lib.hid hU2.own
          have hr3 := HI3.out.srow
          have hsz : w.heap.size ≤ (w11.alloc (.cells #[.string ⟨List.toArray (tagP 1 t)⟩] 9)).heap.size := HI3.out.le
          have hxl : X.length ≤ 30 := by have := HXL.out; have := HN30.out; omega
          clear hdp hb11 hI1 hU1 hI2 hn11 hU2 hba
          go_wp2_with (first
            | (at_builtin; refine wpList_appAt rfl (.tmp 80) (.tmp 82) rfl w.heap.size _ X rfl hr3 _ [tagP 1 t] rfl (SS.of (l := [tagP 1 t]) (by simp) (by unfold maxLen; omega) (by simp) (ssrc1 _ _ _)) (by simp; omega) hsz ?_; rintro v12 w12 hr12 hg12 hv12)
            | fail)
          have hS12 := HI3.out.sto.grown hg12 HK3.out
          have hn12 := HN3.out.grown hg12 (HN3.out.notstr HK3.out)
          have hm12 := HI3.out.nrow.grown hg12 (HI3.out.nrow.notstr HK3.out)
          have hU12 := HU3.out.grown hg12 (fun k hk e => by have h1 := HV9.out k e; have h2 := HU3o.out k hk; omega)
          have hb12 := HI3.out.below.trans (grown_below hg12 HI3.out.le (fun k hk => HI3.out.srow.own k hk))
          have hI12 : PlI w.heap.size w w12 p b (.slice a6 D.length c6) v12 T D (X ++ [tagP 1 t]) := ⟨hS12, hm12, hr12, HI3.out.sd, fun x hx => by
            rcases List.mem_append.1 hx with hx | hx
            · exact HI3.out.x32 x hx
            · rw [List.mem_singleton] at hx; subst hx; exact tagP_len _ _, hb12, Nat.le_trans HI3.out.le hg12.size⟩
          have hpu := sput_any w.heap.size p b T t htl (by have := HTL.out; have := HN30.out; omega) w12 (hI12.kt hk (Nat.le_refl _)) hS12
          clear hS12 hm12 hr12 hb12 hg12 hv12 hr3 HI3 HN3 HU3 HK3 HU3o
          go_wp2_with fail
          refine hpu.mono ?_
          rintro e w13 ⟨rfl, hS13, hg13⟩
          have hpl := hI12.sd.put_len t
          have HT2 : Hid ((putT T t).length ≤ n + 1) := Lib.hid (by have := HTL.out; omega)
          have hI4 := hI12.grown hg13 hS13 v11 hn12 (hI12.sd.put t htl)
          have hU4 := hU12.past9 hg13 HB9.out
          clear hpu hS13 hg13 hI12 hn12 hU12 hpl
          have hI4' : PlI w.heap.size w w13 p b v11 v12 (putT T t) (putD D t) (X ++ [tagP 1 t]) := hI4
          clear hI4
          generalize putT T t = T2 at *
          generalize putD D t = G at *
          have HX2 : Hid ((X ++ [tagP 1 t]).length ≤ n + 1) := Lib.hid (by have := HXL.out; simp; omega)
          generalize X ++ [tagP 1 t] = X2 at *
          have hte := tells9_any w.heap.size wr.heap.size p b T2 v11 G (.slice a9 3 c9) [odd, sx, sy] hI4'.sd (by have := HT2.out; have := HN30.out; omega) (by simp) HSl.out w13 hI4'.sto hI4'.nrow.nl hU4
          clear hxl hsz
          go_wp2_with fail
          refine hte.mono ?_
          rintro e w20 ⟨rfl, hb20⟩
          have HI20 := hI4'.keep hb20
          clear hte hb20
          go_wp2_with fail
          exact ⟨⟨n + 1, p, b, T2, G, X2, rfl, by go_num, by have := HN30.out; omega, by have := HN.out; omega, HI20, HT2.out, HX2.out⟩, by have := HN.out; have := HN30.out; simp [intOf]; omega⟩
      · have d2 : decide ((n : Int) < 30) = false := by simp; omega
        have hws := works9_any wr (hI.kt hk (Nat.le_refl _))
        have hbw := hI.below
        clear hI
        go_wp2_with fail
        refine hws.mono ?_
        rintro e w2 ⟨rfl, hb2⟩
        go_wp2_with fail
        go_ret
        exact ⟨rfl, hbw.trans (hb2.mono hbw.size)⟩
    · have d1 : decide ((n : Int) < (l.length : Int)) = false := by simp; omega
      have hws := works9_any wr (hI.kt hk (Nat.le_refl _))
      have hbw := hI.below
      clear hI
      go_wp2_with fail
      refine hws.mono ?_
      rintro e w2 ⟨rfl, hb2⟩
      go_wp2_with fail
      go_ret
      exact ⟨rfl, hbw.trans (hb2.mono hbw.size)⟩
end Go.Proofs.YtdddcncjmnekcaaGreatDoor

/- Acts done to a store, as an argument; two numbers. -/
set_option linter.unusedVariables false
set_option linter.unnecessarySimpa false
namespace Go.Proofs.YtdddcncjmnekcaaGreatDoor
open Go.ChangeShapes Go.WideShapes Go.ChangeAt Go.RowKit Pl

theorem act_val {W : World} {v : Value} (h : Sh.Val W (.slice 4 (.pair (.int .i64) (.pair .str (.pair (.pair (.int .i64) (.pair (.int .i64) .unit)) .unit)))) v) : ∃ l : List ActP, AS W v l ∧ AShort l := by
  rcases (show _ ∨ _ from h) with h | ⟨a, len, cap, hv, hlc, hcm, hel⟩
  · obtain rfl : v = .slice none 0 0 := by simpa using h
    exact ⟨[], ⟨none, 0, rfl, Nat.le_refl _, by unfold maxLen; omega, fun h => absurd rfl h⟩, fun i => by simp [maxLen]⟩
  · obtain rfl : v = .slice (some a) len cap := by simpa using hv
    rcases Nat.eq_zero_or_pos len with h0 | hpos
    · subst h0
      exact ⟨[], ⟨some a, cap, rfl, hlc, hcm, fun h => absurd rfl h⟩, fun i => by simp [maxLen]⟩
    · obtain ⟨hs, hc⟩ := slice_cells (by decide) hpos hel
      have hf : ∀ i, ∃ x : ActP, i < len → (W.cell? ⟨a.block, a.off + i * 4, none⟩ = some (.int .i64 (x.1)) ∧ W.cell? ⟨a.block, a.off + i * 4 + 1, none⟩ = some (.string ⟨List.toArray (x.2.1)⟩) ∧
          W.cell? ⟨a.block, a.off + i * 4 + 2, none⟩ = some (.int .i64 (x.2.2.1)) ∧ W.cell? ⟨a.block, a.off + i * 4 + 3, none⟩ = some (.int .i64 (x.2.2.2))) ∧ x.2.1.length ≤ maxLen := by
        intro i
        by_cases hi : i < len
        · obtain ⟨cs, ⟨c0, c1, rfl, ⟨n, rfl, _⟩, c2, c3, rfl, ⟨s, rfl, hs1⟩, c4, c5, rfl, ⟨c6, c7, rfl, ⟨n1, rfl, _⟩, c8, c9, rfl, ⟨n2, rfl, _⟩, hu1⟩, hu⟩, _, hj⟩ := hc i hi
          obtain rfl : c9 = [] := hu1
          obtain rfl : c5 = [] := hu
          have h0 := hj 0 (by decide)
          have h1 := hj 1 (by decide)
          have h2 := hj 2 (by decide)
          have h3 := hj 3 (by decide)
          refine ⟨(n, s.data.toList, n1, n2), fun _ => ⟨⟨?_, ?_, ?_, ?_⟩, by rw [Array.length_toList]; exact hs1⟩⟩
          · simpa using h0
          · rw [← str_list s]
            simpa using h1
          · simpa using h2
          · simpa using h3
        · exact ⟨act0, fun h => absurd h hi⟩
      obtain ⟨f, hf⟩ := Classical.axiomOfChoice hf
      obtain ⟨b, off, sp⟩ := a
      simp only at hs
      subst hs
      have hg : ∀ i, i < len → ((List.range len).map f).getD i act0 = f i := fun i hi' => by simp [List.getD, hi']
      refine ⟨(List.range len).map f, ⟨some ⟨b, off, none⟩, cap, by simp, by simpa using hlc, hcm, fun _ => ⟨b, off, rfl, cell_lt (hf 0 hpos).1.1, fun i hi => ?_⟩⟩, fun i => ?_⟩
      · have hi' : i < len := by simpa using hi
        rw [hg i hi']
        exact (hf i hi').1
      · by_cases hi' : i < len
        · rw [hg i hi']
          exact (hf i hi').2
        · rw [List.getD_eq_getElem?_getD, List.getElem?_eq_none (by simp; omega)]
          simp [maxLen]
theorem str_valL {W : World} {v : Value} (h : Sh.Val W .str v) : ∃ s : Bs, v = .string ⟨List.toArray (s)⟩ ∧ s.length ≤ maxLen := by
  obtain ⟨s, hs, hl⟩ := h
  obtain rfl : v = .string s := by simpa using hs
  refine ⟨s.data.toList, ?_, by rw [Array.length_toList]; exact hl⟩
  rw [← str_list s]
theorem two_val {W : World} {v : Value} (h : Sh.Val W (.pair (.int .i64) (.pair (.int .i64) .unit)) v) : ∃ x y : Int, v = .agg #[.int .i64 (x), .int .i64 (y)] := by
  obtain ⟨c0, rfl, _, _, rfl, ⟨k, rfl, _⟩, _, y, rfl, ⟨k2, rfl, _⟩, hu⟩ := h
  obtain rfl : y = [] := hu
  exact ⟨k, k2, rfl⟩
end Go.Proofs.YtdddcncjmnekcaaGreatDoor

/- The table of constants that the card lists lies where the walks ask for it; a world that has it. -/
set_option linter.unusedSimpArgs false
set_option linter.unusedVariables false
namespace Go.Proofs.YtdddcncjmnekcaaGreatDoor
open Go.ChangeShapes Go.WideShapes Go.ChangeAt Go.RowKit

theorem gK : Tryz.prog.globalNamed "pharos/sha.k" = some 0 := by kernel_rfl
theorem tK : (Tryz.prog.globals[0]?).map (·.type) = some 143 := by kernel_rfl
theorem laid_eq {H : Type} : (Rows.laid_pharos_sha_k : DataW H) = .agg (kList.map fun n => .lit (.int .u32 n)) := rfl
theorem c1K : Tryz.prog.cellsOf 95 = 1 := by kernel_rfl

theorem kt_of_laid {W : World} (h : laidMetH Tryz.prog [("pharos/sha.k", Rows.laid_pharos_sha_k)] W) : KT W := by
  rw [MakeChecks.laidMetH_plain _ _ _ (by kernel_rfl)] at h
  obtain ⟨ps, ⟨g0, t0, cs0, f0, p0, q0, hg0, ht0, hv0, hd0, hrest⟩, _, _⟩ := h
  obtain rfl := Option.some.inj (gK.symm.trans hg0)
  obtain rfl := Option.some.inj (tK.symm.trans ht0)
  rw [laid_eq] at hd0
  obtain ⟨xs, m1, _, hx1, hl, hlen, hel⟩ := DataW.trod_array Tryz.underlying143 hd0
  rw [c1K] at hel
  simp only [Prod.mk.injEq, DataW.agg.injEq] at hx1
  have hcell : ∀ i, i < 64 → W.cell? ⟨0, i, none⟩ = some (.int .u32 (kc i)) := by
    intro i hi
    have h3 := hel i (by omega)
    have hxi : i < xs.length := by omega
    rw [List.getElem?_eq_getElem hxi] at h3
    obtain ⟨n, e1, e2, _⟩ := DataW.trod_int Tryz.underlying95 h3
    have h4 := congrArg (fun l => l[i]?) hx1.1
    simp only [List.getElem?_map, List.getElem?_eq_getElem hxi, Option.map_some] at h4
    rw [e2, List.getElem?_eq_getElem (show i < kList.length from hi)] at h4
    simp at h4
    have hv := World.var?_cell hg0 hv0 i
    rw [Nat.mul_one] at e1
    have h5 := congrArg (fun l => l[0]?) e1
    simp at h5
    have hlt : i < kList.length := hi
    rw [hv, h5, show kc i = n from by rw [← h4]; simp [kc, List.getD, hlt]]
  refine ⟨hcell, ?_⟩
  rcases Nat.lt_or_ge 0 W.heap.size with hlt | hge
  · exact hlt
  · have := hcell 0 (by omega)
    simp [World.cell?, Array.getElem?_eq_none hge] at this

theorem laid_door (os : Os) (args : Array Value) : laidMetH Tryz.prog [("pharos/sha.k", Rows.laid_pharos_sha_k)] ((World.doorLaid Tryz.prog 14 os).forCall (fun _ _ => 0) ⟨#[], args, []⟩).memory :=
  laidMetH_of_parts3 (fuel := 8) (laidMet_of_run' 8 (by kernel_rfl) (by kernel_rfl)) (by kernel_rfl) (by kernel_rfl)

end Go.Proofs.YtdddcncjmnekcaaGreatDoor
