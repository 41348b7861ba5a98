/- TSafe. -/
import Derived.Test.YthgjdaomcpinaaaGreatDoorMn28
import Derived.Test.YthgjdaomcpinaaaGreatDoorMn30
set_option linter.unnecessarySimpa false

/- Changes, a crash, an opening: the law's walk of TrustSafe. Printed by mktsafe.py. -/
set_option linter.unusedSimpArgs false
set_option linter.unusedVariables false
namespace Go.Proofs.YthgjdaomcpinaaaGreatDoor
open Go.RowKit Go.WideMaps Go.Maps Go.Sort Go.Shelf Pl

theorem fuse_max (n : Nat) : max ((n : Nat) : Int) (-1) = n := by omega
/-- What the law knows behind its changes: what is safe, what came perhaps in part, and what a store has then. -/
structure SafeE (d : Dk) (B : List (List Bs)) (b : List Bs) (T T1 : List (Int × Tr)) : Prop where
  torn : Torn d B b
  ch : Chgs [] B.flatten T
  ch1 : Chgs T b T1
  inv : TInv T
  inv1 : TInv T1
  nd : (hts T).Nodup
  nd1 : (hts T1).Nodup
  fz : FzOk d
  l1 : B.flatten.length ≤ 200
  l2 : B.length ≤ 40
  l3 : b.length ≤ 20
  l4 : T.length ≤ 200
  l5 : T1.length ≤ 200
/-- Behind the crash. -/
structure SafeC (d : Dk) (B : List (List Bs)) (T : List (Int × Tr)) : Prop where
  sc : Sc d B
  ch : Chgs [] B.flatten T
  inv : TInv T
  len : T.length ≤ 200
  up : d.down = false
  fz : FzOk d
  l1 : B.flatten.length ≤ 300
  l2 : B.length ≤ 50
theorem SafeE.crash {d : Dk} {B : List (List Bs)} {b : List Bs} {T T1 : List (Int × Tr)} (h : SafeE d B b T T1) (keep : Int) : ∃ B' T', SafeC (crashD d keep) B' T' ∧ (imgT T' = imgT T ∨ imgT T' = imgT T1) := by
  obtain ⟨B', hB, hS⟩ := crash_torn h.torn keep
  have hfz : FzOk (crashD d keep) := by unfold FzOk crashD; simp
  have h1 := h.l1
  have h2 := h.l2
  have h3 := h.l3
  rcases hB with rfl | rfl
  · exact ⟨B', T, ⟨hS, h.ch, h.inv, h.l4, rfl, hfz, by omega, by omega⟩, .inl rfl⟩
  · exact ⟨B ++ [b], T1, ⟨hS, by rw [List.flatten_append]; simpa using h.ch.app h.ch1, h.inv1, h.l5, rfl, hfz, by rw [List.flatten_append]; simp only [List.flatten_cons, List.flatten_nil, List.append_nil, List.length_append]; omega, by simp; omega⟩, .inr rfl⟩
theorem SafeC.again {d dd : Dk} {B : List (List Bs)} {T : List (Int × Tr)} (h : SafeC d B T) (n : Nat) (keep : Int) (hc : Sc dd B) : SafeC (crashD dd keep) B T :=
  ⟨(crash_sc hc keep).1, h.ch, h.inv, h.len, rfl, by unfold FzOk crashD; simp, h.l1, h.l2⟩
theorem SafeC.fuse {d : Dk} {B : List (List Bs)} {T : List (Int × Tr)} (h : SafeC d B T) (n : Int) (hn : -1 ≤ n ∧ n ≤ 24) : SafeC (fuseD d n) B T :=
  ⟨fuse_sc h.sc n, h.ch, h.inv, h.len, h.up, by unfold FzOk fuseD; simp only; omega, h.l1, h.l2⟩
theorem Torn.bounds {d : Dk} {B : List (List Bs)} {b : List Bs} (h : Torn d B b) : 0 ≤ d.safe ∧ d.safe ≤ (d.s.length : Int) := by
  have := h.safe
  rcases h.s with e | e <;> rw [e] <;> (try rw [List.length_append]) <;> omega
set_option maxRecDepth 100000 in
set_option maxHeartbeats 16000000 in
theorem trustsafe_any (v : Value) (l : List ChgP) (f0 f1 k0 k1 : Int) (hf0 : -9223372036854775808 ≤ f0 ∧ f0 ≤ 9223372036854775807) (hf1 : -9223372036854775808 ≤ f1 ∧ f1 ≤ 9223372036854775807) (w : World) (hv : CS w v l) (hkt : KT w) :
    Calls Tryz.prog 4 #[v, .agg #[.int .i64 (f0), .int .i64 (f1)], .agg #[.int .i64 (k0), .int .i64 (k1)]] w fun e w' => e = .returned (.bool true) ∧ Below w.heap.size w w' := by
  obtain ⟨a, cap, rfl⟩ := hv.form
  have hls := hv.small
  obtain ⟨W0, hW0⟩ : ∃ W0, W0 = (w.alloc (.cells #[.int .i64 (f0), .int .i64 (f1)] 39)).alloc (.cells #[.int .i64 (k0), .int .i64 (k1)] 39) := ⟨_, rfl⟩
  have hb0 : Below w.heap.size w W0 := by rw [hW0]; exact Below.allocS (Below.allocS (Below.refl _ _) _) _
  have BF : Blk W0 w.heap.size #[.int .i64 (f0), .int .i64 (f1)] := by rw [hW0]; exact (Blk.new _ _ _).alloc _
  have BK : Blk W0 (w.heap.size + 1) #[.int .i64 (k0), .int .i64 (k1)] := by rw [hW0]; exact Blk.new' (by simp)
  have HV := Lib.hid hv
  have HK := Lib.hid hkt
  have HBF := Lib.hid BF
  have HBK := Lib.hid BK
  have HW := Lib.hid hW0
  have hkl := BK.lt
  have HB0 := Lib.hid hb0
  have hw0 := hb0.size
  have q1 := tworks_any W0 (hkt.keep hb0)
  clear hv hkt BF BK hW0 hb0
  go_enter Tryz.func4, Tryz.ntmps4
  go_wp2_with fail
  rw [← HW.out]
  refine q1.mono ?_
  rintro e w2 ⟨rfl, hb2⟩
  clear q1
  by_cases hbig : 10 < l.length
  · have d0 : decide (10 < (l.length : Int)) = true := by simp; omega
    go_wp2_with fail
    all_goals (go_ret; exact ⟨rfl, HB0.out.trans (hb2.mono hw0)⟩)
  have d0 : decide (10 < (l.length : Int)) = false := by simp; omega
  have q2 := dnew_any 524288 (by omega) (by omega) w2
  go_wp2_with fail
  refine q2.mono ?_
  rintro e w3 ⟨rfl, hD, hb⟩
  have hb3 := hb2.trans (hb.mono hb2.size)
  have hs3 := hb.size
  have hpl : w2.heap.size < w3.heap.size := by
    obtain ⟨_, _, h⟩ := hD.row
    exact h.lt
  clear q2 hb
  have q3 := topen_empty [w2.heap.size] w2.heap.size ⟨[], 0, 524288, -1, false⟩ 1048576 (by omega) (by omega) rfl (by simp) (by rfl) w3 hD
  rw [show (syncD ⟨[], 0, 524288, -1, false⟩).1 = ⟨[], 0, 524288, -1, false⟩ from by rfl] at q3
  have hsz2 := hb2.size
  clear hD
  go_wp2_with fail
  refine q3.mono ?_
  rintro e w4 ⟨j, m, q, rfl, hj, hjm, hmq, hJ, hD, ho, hQ, m4⟩
  have hb4 := Below.mod hb3 m4 hb3.size (by simp; omega)
  have hql := hQ.lt
  have hM : TrM w4 w4.heap.size m [] := TrM.nil ho
  obtain ⟨p, hp⟩ : ∃ p, p = w2.heap.size := ⟨_, rfl⟩
  rw [← hp] at hJ hD hpl ⊢
  have hpw : W0.heap.size ≤ p := by omega
  obtain ⟨base, hbs⟩ : ∃ base, base = w4.heap.size := ⟨_, rfl⟩
  rw [← hbs] at hM
  have hpj : p < j := by omega
  have hbase : base ≤ w4.heap.size := by omega
  have hqb : q < base := by omega
  clear q3 ho m4 hb3 hb2 hp hpl hs3 hbs hql
  obtain ⟨fz, hfz⟩ : ∃ fz : Nat, fz = modN f0 24 := ⟨_, rfl⟩
  have hfz24 : fz < 24 := by rw [hfz]; exact modN_lt f0 24 (by omega)
  have e1 := fun W => below_any f0 24 (by omega) (by omega) W
  rw [← hfz] at e1
  clear hfz
  obtain ⟨b1, b2, b3⟩ := id (HBF.out.keep hb4)
  have c1 := b1 0
  have hFd : fuseD ⟨[], 0, 524288, -1, false⟩ (fz : Int) = ⟨[], 0, 524288, (fz : Int), false⟩ := by unfold fuseD; rw [fuse_max]
  go_wp2_with fail
  refine (e1 _).mono ?_
  rintro e w5 ⟨rfl, rfl⟩
  clear e1
  have q4 := dfuse_any [q, m, j, p] p _ (fz : Int) w5 hD
  rw [hFd] at q4
  go_wp2_with fail
  refine q4.mono ?_
  rintro e w6 ⟨rfl, hD6, m6⟩
  have hb6 := Below.mod hb4 m6 hb4.size (by simp; omega)
  have hs6 := m6.size
  have hM6 := hM.modl m6 (by simp; omega) (by simp; omega)
  have hQ6 := hQ.mod m6 (by simp; omega)
  have hJ6 := hJ.mod m6 (by simp; omega)
  have q5 := fun W (hb : Below w6.heap.size w6 W) => timage_any base q m 1048576 (.pointer (some ⟨j, 0, none⟩)) [] (by simp) TInv.nil.sm TInv.nil.zero (by omega) W (hM6.keep hb) (hQ6.keep hb)
  clear q4 hD b1 b2 b3 c1 hFd hM hQ hJ m6
  go_wp2_with fail
  refine (q5 w6 (Below.refl _ _)).mono ?_
  rintro e w7 ⟨v7, rfl, hO7, hb7⟩
  go_wp2_with fail
  refine (q5 w7 hb7).mono ?_
  rintro e w8 ⟨v8, rfl, hO8, hb8⟩
  have hbx := hb7.trans (hb8.mono hb7.size)
  have hb8w := hb6.trans (hbx.mono hb6.size)
  have hs7 := hb7.size
  have hs8 := hb8.size
  obtain ⟨v7a, v7c, rfl⟩ := hO7.form
  obtain ⟨v8a, v8c, rfl⟩ := hO8.form
  have HO1 := Lib.hid ((hO7.keep hb8).low (show base ≤ w6.heap.size by omega))
  have HO2 := Lib.hid (hO8.low (show base ≤ w7.heap.size by omega))
  have HD := Lib.hid (hD6.keep hbx)
  have HM := Lib.hid (hM6.keep hbx)
  have HQ := Lib.hid (hQ6.keep hbx)
  have HJ := Lib.hid (hJ6.keep hbx)
  have HJN : Hid (Jn ⟨[], 0, 524288, (fz : Int), false⟩ []) := Lib.hid ⟨rfl, fun b hb => (by cases hb), rfl, rfl, rfl, by simp⟩
  have HFZ : Hid (FzOk ⟨[], 0, 524288, (fz : Int), false⟩) := Lib.hid ⟨by simp only; omega, by simp only; omega⟩
  clear q5 hO7 hO8 hD6 hM6 hQ6 hJ6 hb7 hb8 hbx hb6 hb4
  go_wp2_with fail
  go_loopw [11, 12, 44] (fun s11 s12 s44 wr => ∃ (i : Nat) (T : List (Int × Tr)) (d : Dk) (m1 : Nat) (B : List (List Bs)), i ≤ l.length ∧ s44 = .int .i64 (i) ∧ Hid (TInv T) ∧ T.length ≤ 6 * i ∧ Hid (Jn d B) ∧ Hid (FzOk d) ∧ Hid (Chgs [] B.flatten T) ∧ Hid (B.flatten.length ≤ 12 * i ∧ B.length ≤ 2 * i) ∧ Hid (TrM wr base m1 T) ∧ Hid (DkV wr [q, m, j, p] p d) ∧ Hid (Blk wr j #[.pointer (some ⟨p, 0, none⟩), .bool false]) ∧ Hid (Blk wr q #[.map (some m1), .int .i64 (1048576), .pointer (some ⟨j, 0, none⟩)]) ∧ Hid (TO wr base s11 (imgT T)) ∧ Hid (TO wr base s12 (imgT T)) ∧ Below W0.heap.size W0 wr ∧ base ≤ wr.heap.size) (fun _ _ s44 _ => l.length - (intOf s44).toNat)
  case atStart => exact ⟨0, [], _, m, [], by omega, rfl, Lib.hid TInv.nil, by simp, HJN, HFZ, Lib.hid (.nil _), Lib.hid ⟨by simp, by simp⟩, HM, HD, HJ, HQ, HO1, HO2, hb8w, by omega⟩
  case round =>
    obtain ⟨i, T, d, m1, B, hi, rfl, HT, hTl, HJN, HFZ, HCH, HLN, HTM, HDV, HBJ, HBQ, HO1, HO2, hbr, hsr⟩ := hrel
    clear HM HD HJ HQ hb8w
    by_cases hlt : i < l.length
    · have hbd : 0 ≤ (i : Int) ∧ (i : Int) < (l.length : Int) := by omega
      obtain ⟨⟨come, gos⟩, hx⟩ : ∃ x, l[i]? = some x := ⟨l[i], List.getElem?_eq_getElem hlt⟩
      obtain ⟨g, off, vc, vg, rfl, hg, hR, hpc, hig, hib⟩ := HV.out.at i _ hx
      simp only at hpc hig hib
      have hbw := HB0.out.trans (hbr.mono hw0)
      have hR2 := rangeAt_keep hR hg hbw
      obtain ⟨ca, cc, rfl⟩ := hpc.form
      obtain ⟨ga, gc, rfl⟩ := hig.form
      have HPC := Lib.hid hpc
      have HIG := Lib.hid hig
      have HIB := Lib.hid hib
      obtain ⟨s11a, s11c, rfl⟩ := HO1.out.form
      obtain ⟨s12a, s12c, rfl⟩ := HO2.out.form
      have hitl : (imgT T).length ≤ 60 := by rw [imgT_len]; omega
      have HITL := Lib.hid hitl
      clear hx hR hg hpc hig hib hitl HO2
      by_cases hc6 : 6 < come.length
      · have d1 : decide (6 < (come.length : Int)) = true := by simp; omega
        clear hc6
        go_wp2_with (first | (refine wpList_rowLoadAt row_chg rfl (.tmp 46) rfl rfl rfl hR2 ?_) | (refine wpList_rowStore row_chg rfl rfl (.tmp 14) (.tmp 47) rfl rfl rfl (vs := [.slice ca come.length cc, .slice ga gos.length gc]) rfl (by simp [Value.oneCell']) (us := [.slice none 0 0, .slice none 0 0]) rfl (Blk.new' (by simp)) ?_; intro wA NA mA; have na0 := NA.cell 0; have na1 := NA.cell 1) | (refine wpList_rowLoad row_chg rfl (.tmp 14) rfl rfl (vs := [.slice ca come.length cc, .slice ga gos.length gc]) rfl NA ?_))
        all_goals
          go_ret
          have hbA := Below.mod (Below.allocS (Below.refl wr.heap.size wr) (.cells #[.slice none 0 0, .slice none 0 0] 53)) mA (by simp) (by simp)
          exact ⟨rfl, hbw.trans (hbA.mono hbw.size)⟩
      have d1 : decide (6 < (come.length : Int)) = false := by simp; omega
      by_cases hg6 : 6 < gos.length
      · have d2 : decide (6 < (gos.length : Int)) = true := by simp; omega
        clear hc6 hg6
        go_wp2_with (first | (refine wpList_rowLoadAt row_chg rfl (.tmp 46) rfl rfl rfl hR2 ?_) | (refine wpList_rowStore row_chg rfl rfl (.tmp 14) (.tmp 47) rfl rfl rfl (vs := [.slice ca come.length cc, .slice ga gos.length gc]) rfl (by simp [Value.oneCell']) (us := [.slice none 0 0, .slice none 0 0]) rfl (Blk.new' (by simp)) ?_; intro wA NA mA; have na0 := NA.cell 0; have na1 := NA.cell 1) | (refine wpList_rowLoad row_chg rfl (.tmp 14) rfl rfl (vs := [.slice ca come.length cc, .slice ga gos.length gc]) rfl NA ?_))
        all_goals
          go_ret
          have hbA := Below.mod (Below.allocS (Below.refl wr.heap.size wr) (.cells #[.slice none 0 0, .slice none 0 0] 53)) mA (by simp) (by simp)
          exact ⟨rfl, hbw.trans (hbA.mono hbw.size)⟩
      have d2 : decide (6 < (gos.length : Int)) = false := by simp; omega
      have hnd := HTM.out.nodup
      obtain ⟨T0, a0, i0, n0, _⟩ := adds_ok (imgT T) [] (SInv.img HT.out hnd) TInv.nil
      obtain ⟨T2, a2, i2, n2, _⟩ := adds_ok (madeT come) T0 (SInv.made come) i0
      obtain ⟨T1, a1, i1, n1, nd1⟩ := adds_ok (madeT come) T (SInv.made come) HT.out
      have hbeh := behind_adds HT.out hnd (SInv.made come) a1 a0 a2
      have hlaw := add_law HJN.out HFZ.out HCH.out (SInv.made come) (by rw [made_len]; omega) a1
      rw [made_len] at n1 hlaw
      have hml : (madeT come).length ≤ 6 := by rw [made_len]; omega
      have qmade := fun (W : World) (hb : Below W0.heap.size W0 W) => tmade_any (.slice ca come.length cc) (.slice ga gos.length gc) ga gos.length gc rfl come (by omega) W (HK.out.keep (HB0.out.trans (hb.mono hw0))) (HPC.out.keep (HB0.out.trans (hb.mono hw0)))
      have HND := Lib.hid hnd
      have HND1 := Lib.hid (nd1 hnd)
      have HI1 := Lib.hid i1
      have HLAW := Lib.hid hlaw
      have HSM := Lib.hid (SInv.made come)
      have qbeh := fun (W : World) (vb : Value) (hb : Below W0.heap.size W0 W) (h1 : TL W (.slice s11a (imgT T).length s11c) (imgT T)) (h2 : TL W vb (madeT come)) => tbehind_any (.slice s11a (imgT T).length s11c) vb (.slice none 0 0) (imgT T) (madeT come) [] (SInv.img HT.out hnd) HSM.out (by have := HITL.out; omega) (by omega) (by simp) (fun k hk => by cases hk) T0 T2 a0 a2 W (HK.out.keep (HB0.out.trans (hb.mono hw0))) h1 h2 ⟨none, 0, rfl, Nat.le_refl _, by unfold maxLen; omega, fun h => absurd rfl h⟩
      rw [hbeh] at qbeh
      have hcl6 : come.length ≤ 6 := by omega
      have hgl6 : gos.length ≤ 6 := by omega
      clear hc6 hg6 a0 i0 n0 a2 i2 n2 hbeh i1 nd1 hlaw hnd
      go_wp2_with (first | (refine wpList_rowLoadAt row_chg rfl (.tmp 46) rfl rfl rfl hR2 ?_) | (refine wpList_rowStore row_chg rfl rfl (.tmp 14) (.tmp 47) rfl rfl rfl (vs := [.slice ca come.length cc, .slice ga gos.length gc]) rfl (by simp [Value.oneCell']) (us := [.slice none 0 0, .slice none 0 0]) rfl (Blk.new' (by simp)) ?_; intro wA NA mA; have na0 := NA.cell 0; have na1 := NA.cell 1) | (refine wpList_rowLoad row_chg rfl (.tmp 14) rfl rfl (vs := [.slice ca come.length cc, .slice ga gos.length gc]) rfl NA ?_))
      have hbA := Below.mod (Below.allocS (Below.refl wr.heap.size wr) (.cells #[.slice none 0 0, .slice none 0 0] 53)) mA (by simp) (by simp)
      have hwA := hbr.trans (hbA.mono hbr.size)
      have hsA := hbA.size
      have NH := Lib.hid NA
      obtain ⟨n1', n2', n3'⟩ := id NA
      clear NA mA hR2
      refine (qmade _ hwA).mono ?_
      rintro e wB ⟨vB, rfl, hOB, hbB⟩
      have hwB := hwA.trans (hbB.mono hwA.size)
      have hsB := hbB.size
      obtain ⟨vBa, vBc, rfl⟩ := hOB.form
      have hbAB := hbA.trans (hbB.mono hsA)
      have q1 := qbeh wB _ hwB (HO1.out.keep hbAB).tl hOB.tl
      clear hOB qbeh
      go_wp2_with fail
      refine q1.mono ?_
      rintro e wC ⟨vC, rfl, hOC, hbC⟩
      have hwC := hwB.trans (hbC.mono hwB.size)
      have hsC := hbC.size
      obtain ⟨vCa, vCc, rfl⟩ := hOC.form
      have HOC := Lib.hid (hOC.low (show base ≤ wB.heap.size from by omega))
      have hbAC := hbAB.trans (hbC.mono (by omega))
      have NC := NH.out.keep (hbB.trans (hbC.mono hsB))
      have NHC := Lib.hid NC
      clear q1 hOC n1' n2' n3' NH
      obtain ⟨n1', n2', n3'⟩ := id NC
      go_wp2_with (first | (refine wpList_rowLoad row_chg rfl (.tmp 14) rfl rfl (vs := [.slice ca come.length cc, .slice ga gos.length gc]) rfl NC ?_) | fail)
      refine (qmade _ hwC).mono ?_
      rintro e wD ⟨vD, rfl, hOD, hbD⟩
      have hwD := hwC.trans (hbD.mono hwC.size)
      have hsD := hbD.size
      obtain ⟨vDa, vDc, rfl⟩ := hOD.form
      have hbAD := hbAC.trans (hbD.mono (by omega))
      have hfb := HFZ.out
      unfold FzOk at hfb
      have q2 := tadd_any [q, m, j, p] base p j q m1 1048576 d T _ (madeT come) (by omega) (by omega) (HSM.out.may (by omega)) (by omega) ⟨by rw [HJN.out.room]; omega, by rw [HJN.out.room]; omega⟩ (by have := HJN.out.len; omega) HSM.out.sm wD (HK.out.keep (HB0.out.trans (hwD.mono hw0))) (HDV.out.keep hbAD) (HBJ.out.keep hbAD) (by omega) (by simp) (by simp) (by intro x hx; simp at hx; omega) (by omega) (by omega) hqb (by omega) (by omega) (by omega) (HBQ.out.keep hbAD) (HTM.out.keep hbAD) hOD.tl
      have HOA := Lib.hid (HO1.out.keep hbAD)
      have HOCD := Lib.hid (HOC.out.keep hbD)
      have NHD := Lib.hid (NHC.out.keep hbD)
      clear qmade hOD hbA hbB hbC hbD hbAB hbAC hbAD hfb NC NHC HOC HO1 HTM HDV HBJ HBQ n1' n2' n3'
      rcases HLAW.out with ⟨d', B', hadd, hJN', hFZ', hCH', hL1, hL2⟩ | ⟨d', c, f, hadd, hc0, hTo, hFZ', hCh'⟩
      · rw [hadd] at q2
        simp only at q2
        have HJN' := Lib.hid hJN'
        have HFZ' := Lib.hid hFZ'
        have HCH' := Lib.hid hCH'
        have HL' : Hid (B'.flatten.length ≤ 12 * i + 6 ∧ B'.length ≤ 2 * i + 1) := Lib.hid (by have := HLN.out; omega)
        clear hadd hJN' hFZ' hCH' hL1 hL2 HLAW HJN HFZ HCH HLN
        go_wp2_with fail
        refine q2.mono ?_
        rintro e wE ⟨m2, rfl, hQE, hME, hDE, hJE, hmE⟩
        have hwE := Below.mod hwD hmE hwD.size (by simp; omega)
        have hsE := hmE.size
        have NE := NHD.out.mod hmE (by simp; omega)
        have q3 := timage_any base q m2 1048576 (.pointer (some ⟨j, 0, none⟩)) T1 (by omega) HI1.out.sm HI1.out.zero (by omega) wE hME hQE
        have HQE := Lib.hid hQE
        have HME := Lib.hid hME
        have HDE := Lib.hid hDE
        have HJE := Lib.hid hJE
        clear q2 hmE hQE hME hDE hJE NHD HOA HOCD
        go_wp2_with fail
        refine q3.mono ?_
        rintro e wF ⟨vF, rfl, hOF, hbF⟩
        have hwF := hwE.trans (hbF.mono hwE.size)
        have hsF := hbF.size
        obtain ⟨vFa, vFc, rfl⟩ := hOF.form
        have NF := NE.keep hbF
        have NHF := Lib.hid NF
        obtain ⟨T0, a0, i0, n0, _⟩ := adds_ok (imgT T1) [] (SInv.img HI1.out HND1.out) TInv.nil
        have hbeh := behind_drops (g := gos) HI1.out HND1.out a0 (show addsT [] T0 = some T0 from rfl)
        have hitl1 : (imgT T1).length ≤ 70 := by rw [imgT_len]; omega
        have q4 := tbehind_any (.slice vFa (imgT T1).length vFc) (.slice none 0 0) (.slice ga gos.length gc) (imgT T1) [] gos (SInv.img HI1.out HND1.out) (fun t ht => by cases ht) (by omega) (by simp) (by omega) HIB.out T0 T0 a0 rfl wF (HK.out.keep (HB0.out.trans (hwF.mono hw0))) hOF.tl ⟨none, 0, rfl, Nat.le_refl _, by unfold maxLen; omega, fun h => absurd rfl h⟩ (HIG.out.keep (HB0.out.trans (hwF.mono hw0)))
        rw [hbeh] at q4
        have HOF := Lib.hid (hOF.low (show base ≤ wE.heap.size from by omega))
        obtain ⟨n1', n2', n3'⟩ := id NF
        have n10 := n1' 0
        have n11 := n1' 1
        clear q3 hOF a0 i0 n0 hbeh hitl1 NE
        go_wp2_with fail
        refine q4.mono ?_
        rintro e wG ⟨vG, rfl, hOG, hbG⟩
        have hwG := hwF.trans (hbG.mono hwF.size)
        have hsG := hbG.size
        obtain ⟨vGa, vGc, rfl⟩ := hOG.form
        have hbFG := hbF.trans (hbG.mono hsF)
        have HOFG := Lib.hid (HOF.out.keep hbG)
        have HOG := Lib.hid (hOG.low (show base ≤ wF.heap.size from by omega))
        have NG := NHF.out.keep hbG
        have hfb := HFZ'.out
        unfold FzOk at hfb
        have q5 := tdrop_any [q, m, j, p] base p j q m2 1048576 d' T1 _ gos (by omega) (by omega) (goes_may gos (by omega)) (by omega) ⟨by rw [HJN'.out.room]; omega, by rw [HJN'.out.room]; omega⟩ (by have := HJN'.out.len; omega) (fun k hk => by have := TInv.keyB HI1.out k hk; omega) HIB.out wG (HK.out.keep (HB0.out.trans (hwG.mono hw0))) (HDE.out.keep hbFG) (HJE.out.keep hbFG) (by omega) (by simp) (by simp) (by intro x hx; simp at hx; omega) (by omega) (by omega) hqb (by omega) (by omega) (by omega) (HQE.out.keep hbFG) (HME.out.keep hbFG) (HIG.out.keep (HB0.out.trans (hwG.mono hw0)))
        have hdl := drop_law HJN'.out HFZ'.out HCH'.out HI1.out (g := gos) (by omega)
        have HLF := Lib.hid (TInv.left HI1.out gos)
        clear q4 hOG hbF hbG hbFG hfb HOF HQE HME HDE HJE NF NHF n1' n2' n3' n10 n11
        obtain ⟨n1', n2', n3'⟩ := id NG
        have n10 := n1' 0
        have n11 := n1' 1
        rcases hdl with ⟨d2, B2, c, hdr, hc05, hJN2, hFZ2, hCH2, hL1, hL2⟩ | ⟨d2, c, f, hdr, hc0, hc5, hTo, hFZ2, hCh2⟩
        · rw [hdr] at q5
          simp only at q5
          have HJN2 := Lib.hid hJN2
          have HFZ2 := Lib.hid hFZ2
          have HCH2 := Lib.hid hCH2
          have HL2 : Hid (B2.flatten.length ≤ 12 * (i + 1) ∧ B2.length ≤ 2 * (i + 1)) := Lib.hid (by have := HL'.out; omega)
          have HTL2 : Hid ((leftT T1 gos).length ≤ 6 * (i + 1)) := Lib.hid (by have := HLF.out.2.1; omega)
          have q6 := fun (W : World) (m3 : Nat) (hM : TrM W base m3 (leftT T1 gos)) (hQ : Blk W q #[.map (some m3), .int .i64 (1048576), .pointer (some ⟨j, 0, none⟩)]) => timage_any base q m3 1048576 (.pointer (some ⟨j, 0, none⟩)) (leftT T1 gos) (by have := HTL2.out; omega) HLF.out.1.sm HLF.out.1.zero (by omega) W hM hQ
          generalize leftT T1 gos = T3 at *
          clear hdr hJN2 hFZ2 hCH2 hL1 hL2 HJN' HFZ' HCH' HL'
          rcases hc05 with rfl | rfl
          all_goals
            go_wp2_with fail
            refine q5.mono ?_
            rintro e wH ⟨m3, rfl, hQH, hMH, hDH, hJH, hmH⟩
            have hwH := Below.mod hwG hmH hwG.size (by simp; omega)
            have hsH := hmH.size
            have q7 := q6 wH m3 hMH hQH
            have HQH := Lib.hid hQH
            have HMH := Lib.hid hMH
            have HDH := Lib.hid hDH
            have HJH := Lib.hid hJH
            clear q5 hmH hQH hMH hDH hJH NG n1' n2' n3' n10 n11 HOFG HOG
            go_wp2_with fail
            refine q7.mono ?_
            rintro e wI ⟨vI, rfl, hOI, hbI⟩
            have hwI := hwH.trans (hbI.mono hwH.size)
            have hsI := hbI.size
            obtain ⟨vIa, vIc, rfl⟩ := hOI.form
            have HOI := Lib.hid (hOI.low (show base ≤ wH.heap.size from by omega))
            clear q7 hOI
            go_wp2_with fail
            exact ⟨⟨i + 1, T3, d2, m3, B2, by omega, by go_num, Lib.hid HLF.out.1, HTL2.out, HJN2, HFZ2, HCH2, HL2, Lib.hid (HMH.out.keep hbI), Lib.hid (HDH.out.keep hbI), Lib.hid (HJH.out.keep hbI), Lib.hid (HQH.out.keep hbI), HOI, HOI, hwI, by omega⟩, by simp [intOf]; omega⟩
        · rw [hdr] at q5
          simp only at q5
          have g1 : (c != 0) = true := by simpa using hc0
          have g2 : (c == 0) = false := by simpa using hc0
          have g3 : (c != 5) = true := by simpa using hc5
          have g4 : (c == 5) = false := by simpa using hc5
          have hlf := HLF.out
          have FE : Hid (SafeE d2 B' (goesT gos) T1 (leftT T1 gos)) := Lib.hid ⟨hTo, HCH'.out, hCh2, HI1.out, hlf.1, HND1.out, hlf.2.2 HND1.out, hFZ2, by have := HL'.out; omega, by have := HL'.out; omega, by rw [goes_len]; omega, by omega, by omega⟩
          clear hdr hTo hFZ2 hCh2 hc0 hc5 hlf HLF HJN' HFZ' HCH' HL'
          go_wp2_with fail
          refine q5.mono ?_
          rintro e wH ⟨m3, rfl, _, _, hDH, _, hmH⟩
          have hwz := Below.mod hwG hmH hwG.size (by simp; omega)
          have hsz : base ≤ wH.heap.size := by have := hmH.size; omega
          have HOa := Lib.hid (HOFG.out.modl hmH (by simp; omega))
          have HOb := Lib.hid (HOG.out.modl hmH (by simp; omega))
          have qcr := dcrash_any [q, m, j, p] p d2 k0 FE.out.torn.bounds (by have := FE.out.torn.len; omega) wH hDH
          clear n1' n2' n3' n10 n11 NG q5 hmH hDH
          obtain ⟨c1, c2, c3⟩ := id (HBK.out.keep hwz)
          go_wp2_with fail
          obtain ⟨B', T', hSC, hIT⟩ := FE.out.crash k0
          have HIT := Lib.hid hIT
          refine qcr.mono ?_
          rintro e wa ⟨rfl, hDa, ma⟩
          generalize crashD d2 k0 = da at *
          have hwa := Below.mod hwz ma hwz.size (by simp; omega)
          have hsa := ma.size
          have OAa := Lib.hid (HOa.out.modl ma (by simp; omega))
          have OBa := Lib.hid (HOb.out.modl ma (by simp; omega))
          clear qcr ma hIT FE HOa HOb c1 c2 c3 hwz
          obtain ⟨fy, hfy⟩ : ∃ fy : Nat, fy = modN f1 4 := ⟨_, rfl⟩
          have hfy4 : fy < 4 := by rw [hfy]; exact modN_lt f1 4 (by omega)
          have e1 := fun W => below_any f1 4 (by omega) (by omega) W
          rw [← hfy] at e1
          clear hfy
          obtain ⟨c1, c2, c3⟩ := id (HBF.out.keep hwa)
          have q1 := dfuse_any [q, m, j, p] p da (fy : Int) wa hDa
          go_wp2_with fail
          refine (e1 _).mono ?_
          rintro e wb ⟨rfl, hwb⟩
          subst hwb
          clear e1 c1 c2 c3
          go_wp2_with fail
          refine q1.mono ?_
          rintro e wc ⟨rfl, hDc, mc⟩
          have hSC2 := hSC.fuse (fy : Int) (by omega)
          generalize fuseD da (fy : Int) = dc at *
          have hwc := Below.mod hwa mc hwa.size (by simp; omega)
          have hsc := mc.size
          have OAc := Lib.hid (OAa.out.modl mc (by simp; omega))
          have OBc := Lib.hid (OBa.out.modl mc (by simp; omega))
          clear q1 mc hDa hSC OAa OBa
          have q2 := topen_any [q, m, j, p] p dc 1048576 (by omega) (by omega) B' T' hSC2.sc.s hSC2.sc.may (by have := hSC2.sc.len; omega) hSC2.ch (by have := hSC2.l1; omega) (by have := hSC2.l2; omega) (by have := hSC2.fz; unfold FzOk at this; omega) wc (HK.out.keep (HB0.out.trans (hwc.mono hw0))) hDc
          have hso := open_sc hSC2.sc
          have hfo := open_fz hSC2.fz (recsP B').length
          have huo := fun h => open_up (n := (recsP B').length) hSC2.up h
          have hpo : p < wc.heap.size := by
            obtain ⟨_, _, h⟩ := hDc.row
            exact h.lt
          generalize openD dc (recsP B').length = r at *
          obtain ⟨dd, co⟩ := r
          simp only at hso hfo huo
          have HSC2 := Lib.hid hSC2
          have HSO := Lib.hid hso
          have HFO := Lib.hid hfo
          have HUO := Lib.hid huo
          clear hDc hso hfo huo hSC2
          go_wp2_with fail
          refine q2.mono ?_
          rintro e wd ⟨mo, hyes, hno⟩
          simp only at hyes hno
          have hwd := Below.mod hwc mo hwc.size (by simp; omega)
          have hsd := mo.size
          have OAd := Lib.hid (OAc.out.modl mo (by simp; omega))
          have OBd := Lib.hid (OBc.out.modl mo (by simp; omega))
          clear q2 mo OAc OBc
          by_cases hco : co = 0
          · subst hco
            obtain ⟨j2, m2, q2, rfl, _, _, _, _, hDx, _, _⟩ := hyes rfl
            have hSX : SafeC dd B' T' := ⟨HSO.out, HSC2.out.ch, HSC2.out.inv, HSC2.out.len, HUO.out rfl, HFO.out, HSC2.out.l1, HSC2.out.l2⟩
            obtain ⟨dx, hdx⟩ : ∃ dx, dx = dd := ⟨_, rfl⟩
            rw [← hdx] at hDx hSX
            have wx := wd
            have hwx := hwd
            have hsx := hsd
            have OAx := OAd
            have OBx := OBd
            clear hyes hno hdx OAd OBd HSO HFO HUO HSC2
            have q1 := dfuse_any (q2 :: m2 :: j2 :: [q, m, j, p]) p dx (-1) _ hDx
            go_wp2_with fail
            refine q1.mono ?_
            rintro e wy ⟨rfl, hDy, my⟩
            have hSY := hSX.fuse (-1) (by omega)
            have hup : (fuseD dx (-1)).down = false := hSY.up
            have hfn : (fuseD dx (-1)).fuse = -1 := rfl
            generalize fuseD dx (-1) = dy at *
            have hwy := Below.mod hwx my hwx.size (by simp; omega)
            have hsy := my.size
            have OAy := Lib.hid (OAx.out.modl my (by simp; omega))
            have OBy := Lib.hid (OBx.out.modl my (by simp; omega))
            clear q1 my hDx hSX OAx OBx
            have hop := open_fine (B := B') hup hfn
            have q2 := topen_any (q2 :: m2 :: j2 :: [q, m, j, p]) p dy 1048576 (by omega) (by omega) B' T' hSY.sc.s hSY.sc.may (by have := hSY.sc.len; omega) hSY.ch (by have := hSY.l1; omega) (by have := hSY.l2; omega) (by have := hSY.fz; unfold FzOk at this; omega) wy (HK.out.keep (HB0.out.trans (hwy.mono hw0))) hDy
            generalize openD dy (recsP B').length = r at *
            obtain ⟨dz, cz⟩ := r
            simp only at hop
            subst hop
            have HSY := Lib.hid hSY
            clear hDy hup hfn hSY
            go_wp2_with fail
            refine q2.mono ?_
            rintro e wz2 ⟨mz, hyes, _⟩
            obtain ⟨j3, m3, q3, rfl, hj3, hjm3, hmq3, hJ3, hD3, hM3, hQ3⟩ := hyes rfl
            have hwz2 := Below.mod hwy mz hwy.size (by simp; omega)
            have hsz2 := mz.size
            have OAz := Lib.hid (OAy.out.modl mz (by simp; omega))
            have OBz := Lib.hid (OBy.out.modl mz (by simp; omega))
            have q4 := timage_any (q3 + 1) q3 m3 1048576 (.pointer (some ⟨j3, 0, none⟩)) T' (by have := HSY.out.len; omega) HSY.out.inv.sm HSY.out.inv.zero (by omega) wz2 hM3 hQ3
            clear q2 mz hyes OAy OBy hJ3 hD3 hM3 hQ3
            go_wp2_with fail
            refine q4.mono ?_
            rintro e w9 ⟨v9, rfl, hO9, hb9⟩
            have hw9 := hwz2.trans (hb9.mono hwz2.size)
            have OA9 := OAz.out.keep hb9
            have OB9 := OBz.out.keep hb9
            obtain ⟨v9a, v9c, rfl⟩ := hO9.form
            have q5 := talike_any _ _ _ _ w9 hO9.tl OA9.tl
            have q6 := fun W (hb : Below w9.heap.size w9 W) => talike_any _ _ _ _ W (hO9.keep hb).tl (OB9.keep hb).tl
            have HIT2 := Lib.hid HIT.out
            clear q4 hO9 hb9 OA9 OB9 OAz OBz
            generalize imgT T' = IT at *
            go_wp2_with fail
            refine q5.mono ?_
            rintro e w10 ⟨⟨r1, rfl, hr1⟩, hb10⟩
            have hw10 := hw9.trans (hb10.mono hw9.size)
            clear q5
            cases r1
            · have hne : IT ≠ imgT T1 := fun h => absurd (hr1 h) (by decide)
              have heq : IT = imgT (leftT T1 gos) := HIT2.out.resolve_left hne
              have HEQ := Lib.hid heq
              have q7 := q6 _ hb10
              clear hne heq hr1 q6
              go_wp2_with fail
              refine q7.mono ?_
              rintro e w11 ⟨⟨r2, rfl, hr2⟩, hb11⟩
              have hw11 := hw10.trans (hb11.mono hw10.size)
              obtain rfl := hr2 HEQ.out
              clear q7 hr2
              go_wp2_with fail
              all_goals (go_ret; exact ⟨rfl, HB0.out.trans (hw11.mono hw0)⟩)
            · clear hr1 q6
              go_wp2_with fail
              all_goals (go_ret; exact ⟨rfl, HB0.out.trans (hw10.mono hw0)⟩)
          · obtain ⟨rfl, hDd⟩ := hno hco
            have g1 : (co != 0) = true := by simpa using hco
            have q3 := dcrash_any [q, m, j, p] p dd k1 ⟨by have := HSO.out.safe; omega, by have := HSO.out.safe; omega⟩ (by have := HSO.out.len; omega) wd hDd
            have hSX := HSC2.out.again (recsP B').length k1 HSO.out
            obtain ⟨c1, c2, c3⟩ := id (HBK.out.keep hwd)
            clear hyes hno hco HSO HFO HUO HSC2
            go_wp2_with fail
            refine q3.mono ?_
            rintro e wx ⟨rfl, hDx, mx⟩
            generalize crashD dd k1 = dx at *
            have hwx := Below.mod hwd mx hwd.size (by simp; omega)
            have hsx := mx.size
            have OAx := Lib.hid (OAd.out.modl mx (by simp; omega))
            have OBx := Lib.hid (OBd.out.modl mx (by simp; omega))
            clear q3 mx hDd OAd OBd c1 c2 c3 g1
            have q1 := dfuse_any [q, m, j, p] p dx (-1) wx hDx
            go_wp2_with fail
            refine q1.mono ?_
            rintro e wy ⟨rfl, hDy, my⟩
            have hSY := hSX.fuse (-1) (by omega)
            have hup : (fuseD dx (-1)).down = false := hSY.up
            have hfn : (fuseD dx (-1)).fuse = -1 := rfl
            generalize fuseD dx (-1) = dy at *
            have hwy := Below.mod hwx my hwx.size (by simp; omega)
            have hsy := my.size
            have OAy := Lib.hid (OAx.out.modl my (by simp; omega))
            have OBy := Lib.hid (OBx.out.modl my (by simp; omega))
            clear q1 my hDx hSX OAx OBx
            have hop := open_fine (B := B') hup hfn
            have q2 := topen_any [q, m, j, p] p dy 1048576 (by omega) (by omega) B' T' hSY.sc.s hSY.sc.may (by have := hSY.sc.len; omega) hSY.ch (by have := hSY.l1; omega) (by have := hSY.l2; omega) (by have := hSY.fz; unfold FzOk at this; omega) wy (HK.out.keep (HB0.out.trans (hwy.mono hw0))) hDy
            generalize openD dy (recsP B').length = r at *
            obtain ⟨dz, cz⟩ := r
            simp only at hop
            subst hop
            have HSY := Lib.hid hSY
            clear hDy hup hfn hSY
            go_wp2_with fail
            refine q2.mono ?_
            rintro e wz2 ⟨mz, hyes, _⟩
            obtain ⟨j3, m3, q3, rfl, hj3, hjm3, hmq3, hJ3, hD3, hM3, hQ3⟩ := hyes rfl
            have hwz2 := Below.mod hwy mz hwy.size (by simp; omega)
            have hsz2 := mz.size
            have OAz := Lib.hid (OAy.out.modl mz (by simp; omega))
            have OBz := Lib.hid (OBy.out.modl mz (by simp; omega))
            have q4 := timage_any (q3 + 1) q3 m3 1048576 (.pointer (some ⟨j3, 0, none⟩)) T' (by have := HSY.out.len; omega) HSY.out.inv.sm HSY.out.inv.zero (by omega) wz2 hM3 hQ3
            clear q2 mz hyes OAy OBy hJ3 hD3 hM3 hQ3
            go_wp2_with fail
            refine q4.mono ?_
            rintro e w9 ⟨v9, rfl, hO9, hb9⟩
            have hw9 := hwz2.trans (hb9.mono hwz2.size)
            have OA9 := OAz.out.keep hb9
            have OB9 := OBz.out.keep hb9
            obtain ⟨v9a, v9c, rfl⟩ := hO9.form
            have q5 := talike_any _ _ _ _ w9 hO9.tl OA9.tl
            have q6 := fun W (hb : Below w9.heap.size w9 W) => talike_any _ _ _ _ W (hO9.keep hb).tl (OB9.keep hb).tl
            have HIT2 := Lib.hid HIT.out
            clear q4 hO9 hb9 OA9 OB9 OAz OBz
            generalize imgT T' = IT at *
            go_wp2_with fail
            refine q5.mono ?_
            rintro e w10 ⟨⟨r1, rfl, hr1⟩, hb10⟩
            have hw10 := hw9.trans (hb10.mono hw9.size)
            clear q5
            cases r1
            · have hne : IT ≠ imgT T1 := fun h => absurd (hr1 h) (by decide)
              have heq : IT = imgT (leftT T1 gos) := HIT2.out.resolve_left hne
              have HEQ := Lib.hid heq
              have q7 := q6 _ hb10
              clear hne heq hr1 q6
              go_wp2_with fail
              refine q7.mono ?_
              rintro e w11 ⟨⟨r2, rfl, hr2⟩, hb11⟩
              have hw11 := hw10.trans (hb11.mono hw10.size)
              obtain rfl := hr2 HEQ.out
              clear q7 hr2
              go_wp2_with fail
              all_goals (go_ret; exact ⟨rfl, HB0.out.trans (hw11.mono hw0)⟩)
            · clear hr1 q6
              go_wp2_with fail
              all_goals (go_ret; exact ⟨rfl, HB0.out.trans (hw10.mono hw0)⟩)
      · rw [hadd] at q2
        simp only at q2
        have g1 : (c != 0) = true := by simpa using hc0
        have g2 : (c == 0) = false := by simpa using hc0
        have FE : Hid (SafeE d' B (batchT (madeT come)) T T1) := Lib.hid ⟨hTo, HCH.out, hCh', HT.out, HI1.out, HND.out, HND1.out, hFZ', by have := HLN.out; omega, by have := HLN.out; omega, by rw [batch_len]; omega, by omega, by omega⟩
        clear hadd hTo hFZ' hCh' hc0 HLAW HJN HFZ HCH HLN HT
        go_wp2_with fail
        refine q2.mono ?_
        rintro e wE ⟨m2, rfl, _, _, hDE, _, hmE⟩
        have hwz := Below.mod hwD hmE hwD.size (by simp; omega)
        have hsz : base ≤ wE.heap.size := by have := hmE.size; omega
        have HOa := Lib.hid (HOA.out.modl hmE (by simp; omega))
        have HOb := Lib.hid (HOCD.out.modl hmE (by simp; omega))
        have qcr := dcrash_any [q, m, j, p] p d' k0 FE.out.torn.bounds (by have := FE.out.torn.len; omega) wE hDE
        clear q2 hmE hDE NHD
        obtain ⟨c1, c2, c3⟩ := id (HBK.out.keep hwz)
        go_wp2_with fail
        obtain ⟨B', T', hSC, hIT⟩ := FE.out.crash k0
        have HIT := Lib.hid hIT
        refine qcr.mono ?_
        rintro e wa ⟨rfl, hDa, ma⟩
        generalize crashD d' k0 = da at *
        have hwa := Below.mod hwz ma hwz.size (by simp; omega)
        have hsa := ma.size
        have OAa := Lib.hid (HOa.out.modl ma (by simp; omega))
        have OBa := Lib.hid (HOb.out.modl ma (by simp; omega))
        clear qcr ma hIT FE HOa HOb c1 c2 c3 hwz
        obtain ⟨fy, hfy⟩ : ∃ fy : Nat, fy = modN f1 4 := ⟨_, rfl⟩
        have hfy4 : fy < 4 := by rw [hfy]; exact modN_lt f1 4 (by omega)
        have e1 := fun W => below_any f1 4 (by omega) (by omega) W
        rw [← hfy] at e1
        clear hfy
        obtain ⟨c1, c2, c3⟩ := id (HBF.out.keep hwa)
        have q1 := dfuse_any [q, m, j, p] p da (fy : Int) wa hDa
        go_wp2_with fail
        refine (e1 _).mono ?_
        rintro e wb ⟨rfl, hwb⟩
        subst hwb
        clear e1 c1 c2 c3
        go_wp2_with fail
        refine q1.mono ?_
        rintro e wc ⟨rfl, hDc, mc⟩
        have hSC2 := hSC.fuse (fy : Int) (by omega)
        generalize fuseD da (fy : Int) = dc at *
        have hwc := Below.mod hwa mc hwa.size (by simp; omega)
        have hsc := mc.size
        have OAc := Lib.hid (OAa.out.modl mc (by simp; omega))
        have OBc := Lib.hid (OBa.out.modl mc (by simp; omega))
        clear q1 mc hDa hSC OAa OBa
        have q2 := topen_any [q, m, j, p] p dc 1048576 (by omega) (by omega) B' T' hSC2.sc.s hSC2.sc.may (by have := hSC2.sc.len; omega) hSC2.ch (by have := hSC2.l1; omega) (by have := hSC2.l2; omega) (by have := hSC2.fz; unfold FzOk at this; omega) wc (HK.out.keep (HB0.out.trans (hwc.mono hw0))) hDc
        have hso := open_sc hSC2.sc
        have hfo := open_fz hSC2.fz (recsP B').length
        have huo := fun h => open_up (n := (recsP B').length) hSC2.up h
        have hpo : p < wc.heap.size := by
          obtain ⟨_, _, h⟩ := hDc.row
          exact h.lt
        generalize openD dc (recsP B').length = r at *
        obtain ⟨dd, co⟩ := r
        simp only at hso hfo huo
        have HSC2 := Lib.hid hSC2
        have HSO := Lib.hid hso
        have HFO := Lib.hid hfo
        have HUO := Lib.hid huo
        clear hDc hso hfo huo hSC2
        go_wp2_with fail
        refine q2.mono ?_
        rintro e wd ⟨mo, hyes, hno⟩
        simp only at hyes hno
        have hwd := Below.mod hwc mo hwc.size (by simp; omega)
        have hsd := mo.size
        have OAd := Lib.hid (OAc.out.modl mo (by simp; omega))
        have OBd := Lib.hid (OBc.out.modl mo (by simp; omega))
        clear q2 mo OAc OBc
        by_cases hco : co = 0
        · subst hco
          obtain ⟨j2, m2, q2, rfl, _, _, _, _, hDx, _, _⟩ := hyes rfl
          have hSX : SafeC dd B' T' := ⟨HSO.out, HSC2.out.ch, HSC2.out.inv, HSC2.out.len, HUO.out rfl, HFO.out, HSC2.out.l1, HSC2.out.l2⟩
          obtain ⟨dx, hdx⟩ : ∃ dx, dx = dd := ⟨_, rfl⟩
          rw [← hdx] at hDx hSX
          have wx := wd
          have hwx := hwd
          have hsx := hsd
          have OAx := OAd
          have OBx := OBd
          clear hyes hno hdx OAd OBd HSO HFO HUO HSC2
          have q1 := dfuse_any (q2 :: m2 :: j2 :: [q, m, j, p]) p dx (-1) _ hDx
          go_wp2_with fail
          refine q1.mono ?_
          rintro e wy ⟨rfl, hDy, my⟩
          have hSY := hSX.fuse (-1) (by omega)
          have hup : (fuseD dx (-1)).down = false := hSY.up
          have hfn : (fuseD dx (-1)).fuse = -1 := rfl
          generalize fuseD dx (-1) = dy at *
          have hwy := Below.mod hwx my hwx.size (by simp; omega)
          have hsy := my.size
          have OAy := Lib.hid (OAx.out.modl my (by simp; omega))
          have OBy := Lib.hid (OBx.out.modl my (by simp; omega))
          clear q1 my hDx hSX OAx OBx
          have hop := open_fine (B := B') hup hfn
          have q2 := topen_any (q2 :: m2 :: j2 :: [q, m, j, p]) p dy 1048576 (by omega) (by omega) B' T' hSY.sc.s hSY.sc.may (by have := hSY.sc.len; omega) hSY.ch (by have := hSY.l1; omega) (by have := hSY.l2; omega) (by have := hSY.fz; unfold FzOk at this; omega) wy (HK.out.keep (HB0.out.trans (hwy.mono hw0))) hDy
          generalize openD dy (recsP B').length = r at *
          obtain ⟨dz, cz⟩ := r
          simp only at hop
          subst hop
          have HSY := Lib.hid hSY
          clear hDy hup hfn hSY
          go_wp2_with fail
          refine q2.mono ?_
          rintro e wz2 ⟨mz, hyes, _⟩
          obtain ⟨j3, m3, q3, rfl, hj3, hjm3, hmq3, hJ3, hD3, hM3, hQ3⟩ := hyes rfl
          have hwz2 := Below.mod hwy mz hwy.size (by simp; omega)
          have hsz2 := mz.size
          have OAz := Lib.hid (OAy.out.modl mz (by simp; omega))
          have OBz := Lib.hid (OBy.out.modl mz (by simp; omega))
          have q4 := timage_any (q3 + 1) q3 m3 1048576 (.pointer (some ⟨j3, 0, none⟩)) T' (by have := HSY.out.len; omega) HSY.out.inv.sm HSY.out.inv.zero (by omega) wz2 hM3 hQ3
          clear q2 mz hyes OAy OBy hJ3 hD3 hM3 hQ3
          go_wp2_with fail
          refine q4.mono ?_
          rintro e w9 ⟨v9, rfl, hO9, hb9⟩
          have hw9 := hwz2.trans (hb9.mono hwz2.size)
          have OA9 := OAz.out.keep hb9
          have OB9 := OBz.out.keep hb9
          obtain ⟨v9a, v9c, rfl⟩ := hO9.form
          have q5 := talike_any _ _ _ _ w9 hO9.tl OA9.tl
          have q6 := fun W (hb : Below w9.heap.size w9 W) => talike_any _ _ _ _ W (hO9.keep hb).tl (OB9.keep hb).tl
          have HIT2 := Lib.hid HIT.out
          clear q4 hO9 hb9 OA9 OB9 OAz OBz
          generalize imgT T' = IT at *
          go_wp2_with fail
          refine q5.mono ?_
          rintro e w10 ⟨⟨r1, rfl, hr1⟩, hb10⟩
          have hw10 := hw9.trans (hb10.mono hw9.size)
          clear q5
          cases r1
          · have hne : IT ≠ imgT T := fun h => absurd (hr1 h) (by decide)
            have heq : IT = imgT T1 := HIT2.out.resolve_left hne
            have HEQ := Lib.hid heq
            have q7 := q6 _ hb10
            clear hne heq hr1 q6
            go_wp2_with fail
            refine q7.mono ?_
            rintro e w11 ⟨⟨r2, rfl, hr2⟩, hb11⟩
            have hw11 := hw10.trans (hb11.mono hw10.size)
            obtain rfl := hr2 HEQ.out
            clear q7 hr2
            go_wp2_with fail
            all_goals (go_ret; exact ⟨rfl, HB0.out.trans (hw11.mono hw0)⟩)
          · clear hr1 q6
            go_wp2_with fail
            all_goals (go_ret; exact ⟨rfl, HB0.out.trans (hw10.mono hw0)⟩)
        · obtain ⟨rfl, hDd⟩ := hno hco
          have g1 : (co != 0) = true := by simpa using hco
          have q3 := dcrash_any [q, m, j, p] p dd k1 ⟨by have := HSO.out.safe; omega, by have := HSO.out.safe; omega⟩ (by have := HSO.out.len; omega) wd hDd
          have hSX := HSC2.out.again (recsP B').length k1 HSO.out
          obtain ⟨c1, c2, c3⟩ := id (HBK.out.keep hwd)
          clear hyes hno hco HSO HFO HUO HSC2
          go_wp2_with fail
          refine q3.mono ?_
          rintro e wx ⟨rfl, hDx, mx⟩
          generalize crashD dd k1 = dx at *
          have hwx := Below.mod hwd mx hwd.size (by simp; omega)
          have hsx := mx.size
          have OAx := Lib.hid (OAd.out.modl mx (by simp; omega))
          have OBx := Lib.hid (OBd.out.modl mx (by simp; omega))
          clear q3 mx hDd OAd OBd c1 c2 c3 g1
          have q1 := dfuse_any [q, m, j, p] p dx (-1) wx hDx
          go_wp2_with fail
          refine q1.mono ?_
          rintro e wy ⟨rfl, hDy, my⟩
          have hSY := hSX.fuse (-1) (by omega)
          have hup : (fuseD dx (-1)).down = false := hSY.up
          have hfn : (fuseD dx (-1)).fuse = -1 := rfl
          generalize fuseD dx (-1) = dy at *
          have hwy := Below.mod hwx my hwx.size (by simp; omega)
          have hsy := my.size
          have OAy := Lib.hid (OAx.out.modl my (by simp; omega))
          have OBy := Lib.hid (OBx.out.modl my (by simp; omega))
          clear q1 my hDx hSX OAx OBx
          have hop := open_fine (B := B') hup hfn
          have q2 := topen_any [q, m, j, p] p dy 1048576 (by omega) (by omega) B' T' hSY.sc.s hSY.sc.may (by have := hSY.sc.len; omega) hSY.ch (by have := hSY.l1; omega) (by have := hSY.l2; omega) (by have := hSY.fz; unfold FzOk at this; omega) wy (HK.out.keep (HB0.out.trans (hwy.mono hw0))) hDy
          generalize openD dy (recsP B').length = r at *
          obtain ⟨dz, cz⟩ := r
          simp only at hop
          subst hop
          have HSY := Lib.hid hSY
          clear hDy hup hfn hSY
          go_wp2_with fail
          refine q2.mono ?_
          rintro e wz2 ⟨mz, hyes, _⟩
          obtain ⟨j3, m3, q3, rfl, hj3, hjm3, hmq3, hJ3, hD3, hM3, hQ3⟩ := hyes rfl
          have hwz2 := Below.mod hwy mz hwy.size (by simp; omega)
          have hsz2 := mz.size
          have OAz := Lib.hid (OAy.out.modl mz (by simp; omega))
          have OBz := Lib.hid (OBy.out.modl mz (by simp; omega))
          have q4 := timage_any (q3 + 1) q3 m3 1048576 (.pointer (some ⟨j3, 0, none⟩)) T' (by have := HSY.out.len; omega) HSY.out.inv.sm HSY.out.inv.zero (by omega) wz2 hM3 hQ3
          clear q2 mz hyes OAy OBy hJ3 hD3 hM3 hQ3
          go_wp2_with fail
          refine q4.mono ?_
          rintro e w9 ⟨v9, rfl, hO9, hb9⟩
          have hw9 := hwz2.trans (hb9.mono hwz2.size)
          have OA9 := OAz.out.keep hb9
          have OB9 := OBz.out.keep hb9
          obtain ⟨v9a, v9c, rfl⟩ := hO9.form
          have q5 := talike_any _ _ _ _ w9 hO9.tl OA9.tl
          have q6 := fun W (hb : Below w9.heap.size w9 W) => talike_any _ _ _ _ W (hO9.keep hb).tl (OB9.keep hb).tl
          have HIT2 := Lib.hid HIT.out
          clear q4 hO9 hb9 OA9 OB9 OAz OBz
          generalize imgT T' = IT at *
          go_wp2_with fail
          refine q5.mono ?_
          rintro e w10 ⟨⟨r1, rfl, hr1⟩, hb10⟩
          have hw10 := hw9.trans (hb10.mono hw9.size)
          clear q5
          cases r1
          · have hne : IT ≠ imgT T := fun h => absurd (hr1 h) (by decide)
            have heq : IT = imgT T1 := HIT2.out.resolve_left hne
            have HEQ := Lib.hid heq
            have q7 := q6 _ hb10
            clear hne heq hr1 q6
            go_wp2_with fail
            refine q7.mono ?_
            rintro e w11 ⟨⟨r2, rfl, hr2⟩, hb11⟩
            have hw11 := hw10.trans (hb11.mono hw10.size)
            obtain rfl := hr2 HEQ.out
            clear q7 hr2
            go_wp2_with fail
            all_goals (go_ret; exact ⟨rfl, HB0.out.trans (hw11.mono hw0)⟩)
          · clear hr1 q6
            go_wp2_with fail
            all_goals (go_ret; exact ⟨rfl, HB0.out.trans (hw10.mono hw0)⟩)
    · have hil : i = l.length := by omega
      subst hil
      have FE : Hid (SafeE d B [] T T) := Lib.hid ⟨HJN.out.torn mayR_nil, HCH.out, .nil _, HT.out, HT.out, HTM.out.nodup, HTM.out.nodup, HFZ.out, by have := HLN.out; omega, by have := HLN.out; omega, by simp, by omega, by omega⟩
      obtain ⟨s11a, s11c, rfl⟩ := HO1.out.form
      obtain ⟨s12a, s12c, rfl⟩ := HO2.out.form
      have qcr := dcrash_any [q, m, j, p] p d k0 FE.out.torn.bounds (by have := FE.out.torn.len; omega) wr HDV.out
      obtain ⟨c1, c2, c3⟩ := id (HBK.out.keep hbr)
      have hwz := hbr
      have hsz := hsr
      clear hi hlt hbr hsr HT HJN HFZ HCH HLN HTM HBJ HBQ HDV
      go_wp2_with fail
      obtain ⟨B', T', hSC, hIT⟩ := FE.out.crash k0
      have HIT := Lib.hid hIT
      refine qcr.mono ?_
      rintro e wa ⟨rfl, hDa, ma⟩
      generalize crashD d k0 = da at *
      have hwa := Below.mod hwz ma hwz.size (by simp; omega)
      have hsa := ma.size
      have OAa := Lib.hid (HO1.out.modl ma (by simp; omega))
      have OBa := Lib.hid (HO2.out.modl ma (by simp; omega))
      clear qcr ma hIT FE HO1 HO2 c1 c2 c3 hwz
      obtain ⟨fy, hfy⟩ : ∃ fy : Nat, fy = modN f1 4 := ⟨_, rfl⟩
      have hfy4 : fy < 4 := by rw [hfy]; exact modN_lt f1 4 (by omega)
      have e1 := fun W => below_any f1 4 (by omega) (by omega) W
      rw [← hfy] at e1
      clear hfy
      obtain ⟨c1, c2, c3⟩ := id (HBF.out.keep hwa)
      have q1 := dfuse_any [q, m, j, p] p da (fy : Int) wa hDa
      go_wp2_with fail
      refine (e1 _).mono ?_
      rintro e wb ⟨rfl, hwb⟩
      subst hwb
      clear e1 c1 c2 c3
      go_wp2_with fail
      refine q1.mono ?_
      rintro e wc ⟨rfl, hDc, mc⟩
      have hSC2 := hSC.fuse (fy : Int) (by omega)
      generalize fuseD da (fy : Int) = dc at *
      have hwc := Below.mod hwa mc hwa.size (by simp; omega)
      have hsc := mc.size
      have OAc := Lib.hid (OAa.out.modl mc (by simp; omega))
      have OBc := Lib.hid (OBa.out.modl mc (by simp; omega))
      clear q1 mc hDa hSC OAa OBa
      have q2 := topen_any [q, m, j, p] p dc 1048576 (by omega) (by omega) B' T' hSC2.sc.s hSC2.sc.may (by have := hSC2.sc.len; omega) hSC2.ch (by have := hSC2.l1; omega) (by have := hSC2.l2; omega) (by have := hSC2.fz; unfold FzOk at this; omega) wc (HK.out.keep (HB0.out.trans (hwc.mono hw0))) hDc
      have hso := open_sc hSC2.sc
      have hfo := open_fz hSC2.fz (recsP B').length
      have huo := fun h => open_up (n := (recsP B').length) hSC2.up h
      have hpo : p < wc.heap.size := by
        obtain ⟨_, _, h⟩ := hDc.row
        exact h.lt
      generalize openD dc (recsP B').length = r at *
      obtain ⟨dd, co⟩ := r
      simp only at hso hfo huo
      have HSC2 := Lib.hid hSC2
      have HSO := Lib.hid hso
      have HFO := Lib.hid hfo
      have HUO := Lib.hid huo
      clear hDc hso hfo huo hSC2
      go_wp2_with fail
      refine q2.mono ?_
      rintro e wd ⟨mo, hyes, hno⟩
      simp only at hyes hno
      have hwd := Below.mod hwc mo hwc.size (by simp; omega)
      have hsd := mo.size
      have OAd := Lib.hid (OAc.out.modl mo (by simp; omega))
      have OBd := Lib.hid (OBc.out.modl mo (by simp; omega))
      clear q2 mo OAc OBc
      by_cases hco : co = 0
      · subst hco
        obtain ⟨j2, m2, q2, rfl, _, _, _, _, hDx, _, _⟩ := hyes rfl
        have hSX : SafeC dd B' T' := ⟨HSO.out, HSC2.out.ch, HSC2.out.inv, HSC2.out.len, HUO.out rfl, HFO.out, HSC2.out.l1, HSC2.out.l2⟩
        obtain ⟨dx, hdx⟩ : ∃ dx, dx = dd := ⟨_, rfl⟩
        rw [← hdx] at hDx hSX
        have wx := wd
        have hwx := hwd
        have hsx := hsd
        have OAx := OAd
        have OBx := OBd
        clear hyes hno hdx OAd OBd HSO HFO HUO HSC2
        have q1 := dfuse_any (q2 :: m2 :: j2 :: [q, m, j, p]) p dx (-1) _ hDx
        go_wp2_with fail
        refine q1.mono ?_
        rintro e wy ⟨rfl, hDy, my⟩
        have hSY := hSX.fuse (-1) (by omega)
        have hup : (fuseD dx (-1)).down = false := hSY.up
        have hfn : (fuseD dx (-1)).fuse = -1 := rfl
        generalize fuseD dx (-1) = dy at *
        have hwy := Below.mod hwx my hwx.size (by simp; omega)
        have hsy := my.size
        have OAy := Lib.hid (OAx.out.modl my (by simp; omega))
        have OBy := Lib.hid (OBx.out.modl my (by simp; omega))
        clear q1 my hDx hSX OAx OBx
        have hop := open_fine (B := B') hup hfn
        have q2 := topen_any (q2 :: m2 :: j2 :: [q, m, j, p]) p dy 1048576 (by omega) (by omega) B' T' hSY.sc.s hSY.sc.may (by have := hSY.sc.len; omega) hSY.ch (by have := hSY.l1; omega) (by have := hSY.l2; omega) (by have := hSY.fz; unfold FzOk at this; omega) wy (HK.out.keep (HB0.out.trans (hwy.mono hw0))) hDy
        generalize openD dy (recsP B').length = r at *
        obtain ⟨dz, cz⟩ := r
        simp only at hop
        subst hop
        have HSY := Lib.hid hSY
        clear hDy hup hfn hSY
        go_wp2_with fail
        refine q2.mono ?_
        rintro e wz2 ⟨mz, hyes, _⟩
        obtain ⟨j3, m3, q3, rfl, hj3, hjm3, hmq3, hJ3, hD3, hM3, hQ3⟩ := hyes rfl
        have hwz2 := Below.mod hwy mz hwy.size (by simp; omega)
        have hsz2 := mz.size
        have OAz := Lib.hid (OAy.out.modl mz (by simp; omega))
        have OBz := Lib.hid (OBy.out.modl mz (by simp; omega))
        have q4 := timage_any (q3 + 1) q3 m3 1048576 (.pointer (some ⟨j3, 0, none⟩)) T' (by have := HSY.out.len; omega) HSY.out.inv.sm HSY.out.inv.zero (by omega) wz2 hM3 hQ3
        clear q2 mz hyes OAy OBy hJ3 hD3 hM3 hQ3
        go_wp2_with fail
        refine q4.mono ?_
        rintro e w9 ⟨v9, rfl, hO9, hb9⟩
        have hw9 := hwz2.trans (hb9.mono hwz2.size)
        have OA9 := OAz.out.keep hb9
        have OB9 := OBz.out.keep hb9
        obtain ⟨v9a, v9c, rfl⟩ := hO9.form
        have q5 := talike_any _ _ _ _ w9 hO9.tl OA9.tl
        have q6 := fun W (hb : Below w9.heap.size w9 W) => talike_any _ _ _ _ W (hO9.keep hb).tl (OB9.keep hb).tl
        have HIT2 := Lib.hid HIT.out
        clear q4 hO9 hb9 OA9 OB9 OAz OBz
        generalize imgT T' = IT at *
        go_wp2_with fail
        refine q5.mono ?_
        rintro e w10 ⟨⟨r1, rfl, hr1⟩, hb10⟩
        have hw10 := hw9.trans (hb10.mono hw9.size)
        clear q5
        cases r1
        · have hne : IT ≠ imgT T := fun h => absurd (hr1 h) (by decide)
          have heq : IT = imgT T := HIT2.out.resolve_left hne
          have HEQ := Lib.hid heq
          have q7 := q6 _ hb10
          clear hne heq hr1 q6
          go_wp2_with fail
          refine q7.mono ?_
          rintro e w11 ⟨⟨r2, rfl, hr2⟩, hb11⟩
          have hw11 := hw10.trans (hb11.mono hw10.size)
          obtain rfl := hr2 HEQ.out
          clear q7 hr2
          go_wp2_with fail
          all_goals (go_ret; exact ⟨rfl, HB0.out.trans (hw11.mono hw0)⟩)
        · clear hr1 q6
          go_wp2_with fail
          all_goals (go_ret; exact ⟨rfl, HB0.out.trans (hw10.mono hw0)⟩)
      · obtain ⟨rfl, hDd⟩ := hno hco
        have g1 : (co != 0) = true := by simpa using hco
        have q3 := dcrash_any [q, m, j, p] p dd k1 ⟨by have := HSO.out.safe; omega, by have := HSO.out.safe; omega⟩ (by have := HSO.out.len; omega) wd hDd
        have hSX := HSC2.out.again (recsP B').length k1 HSO.out
        obtain ⟨c1, c2, c3⟩ := id (HBK.out.keep hwd)
        clear hyes hno hco HSO HFO HUO HSC2
        go_wp2_with fail
        refine q3.mono ?_
        rintro e wx ⟨rfl, hDx, mx⟩
        generalize crashD dd k1 = dx at *
        have hwx := Below.mod hwd mx hwd.size (by simp; omega)
        have hsx := mx.size
        have OAx := Lib.hid (OAd.out.modl mx (by simp; omega))
        have OBx := Lib.hid (OBd.out.modl mx (by simp; omega))
        clear q3 mx hDd OAd OBd c1 c2 c3 g1
        have q1 := dfuse_any [q, m, j, p] p dx (-1) wx hDx
        go_wp2_with fail
        refine q1.mono ?_
        rintro e wy ⟨rfl, hDy, my⟩
        have hSY := hSX.fuse (-1) (by omega)
        have hup : (fuseD dx (-1)).down = false := hSY.up
        have hfn : (fuseD dx (-1)).fuse = -1 := rfl
        generalize fuseD dx (-1) = dy at *
        have hwy := Below.mod hwx my hwx.size (by simp; omega)
        have hsy := my.size
        have OAy := Lib.hid (OAx.out.modl my (by simp; omega))
        have OBy := Lib.hid (OBx.out.modl my (by simp; omega))
        clear q1 my hDx hSX OAx OBx
        have hop := open_fine (B := B') hup hfn
        have q2 := topen_any [q, m, j, p] p dy 1048576 (by omega) (by omega) B' T' hSY.sc.s hSY.sc.may (by have := hSY.sc.len; omega) hSY.ch (by have := hSY.l1; omega) (by have := hSY.l2; omega) (by have := hSY.fz; unfold FzOk at this; omega) wy (HK.out.keep (HB0.out.trans (hwy.mono hw0))) hDy
        generalize openD dy (recsP B').length = r at *
        obtain ⟨dz, cz⟩ := r
        simp only at hop
        subst hop
        have HSY := Lib.hid hSY
        clear hDy hup hfn hSY
        go_wp2_with fail
        refine q2.mono ?_
        rintro e wz2 ⟨mz, hyes, _⟩
        obtain ⟨j3, m3, q3, rfl, hj3, hjm3, hmq3, hJ3, hD3, hM3, hQ3⟩ := hyes rfl
        have hwz2 := Below.mod hwy mz hwy.size (by simp; omega)
        have hsz2 := mz.size
        have OAz := Lib.hid (OAy.out.modl mz (by simp; omega))
        have OBz := Lib.hid (OBy.out.modl mz (by simp; omega))
        have q4 := timage_any (q3 + 1) q3 m3 1048576 (.pointer (some ⟨j3, 0, none⟩)) T' (by have := HSY.out.len; omega) HSY.out.inv.sm HSY.out.inv.zero (by omega) wz2 hM3 hQ3
        clear q2 mz hyes OAy OBy hJ3 hD3 hM3 hQ3
        go_wp2_with fail
        refine q4.mono ?_
        rintro e w9 ⟨v9, rfl, hO9, hb9⟩
        have hw9 := hwz2.trans (hb9.mono hwz2.size)
        have OA9 := OAz.out.keep hb9
        have OB9 := OBz.out.keep hb9
        obtain ⟨v9a, v9c, rfl⟩ := hO9.form
        have q5 := talike_any _ _ _ _ w9 hO9.tl OA9.tl
        have q6 := fun W (hb : Below w9.heap.size w9 W) => talike_any _ _ _ _ W (hO9.keep hb).tl (OB9.keep hb).tl
        have HIT2 := Lib.hid HIT.out
        clear q4 hO9 hb9 OA9 OB9 OAz OBz
        generalize imgT T' = IT at *
        go_wp2_with fail
        refine q5.mono ?_
        rintro e w10 ⟨⟨r1, rfl, hr1⟩, hb10⟩
        have hw10 := hw9.trans (hb10.mono hw9.size)
        clear q5
        cases r1
        · have hne : IT ≠ imgT T := fun h => absurd (hr1 h) (by decide)
          have heq : IT = imgT T := HIT2.out.resolve_left hne
          have HEQ := Lib.hid heq
          have q7 := q6 _ hb10
          clear hne heq hr1 q6
          go_wp2_with fail
          refine q7.mono ?_
          rintro e w11 ⟨⟨r2, rfl, hr2⟩, hb11⟩
          have hw11 := hw10.trans (hb11.mono hw10.size)
          obtain rfl := hr2 HEQ.out
          clear q7 hr2
          go_wp2_with fail
          all_goals (go_ret; exact ⟨rfl, HB0.out.trans (hw11.mono hw0)⟩)
        · clear hr1 q6
          go_wp2_with fail
          all_goals (go_ret; exact ⟨rfl, HB0.out.trans (hw10.mono hw0)⟩)
end Go.Proofs.YthgjdaomcpinaaaGreatDoor
