/- Walks of the document's answer for layer 8: the node of bytes. -/
import Derived.Test.YtmldonbmjgelnaaWrit8
import Derived.Test.YtmldonbmjgelnaaRef2R
import Derived.Test.YtmldonbmjgelnaaRef1U
import Derived.Test.YtmldonbmjgelnaaDecode
import Derived.Test.YtmldonbmjgelnaaRdecP
set_option linter.unusedSimpArgs false
set_option linter.unusedVariables false
namespace Go.Proofs.Ytmldonbmjgelnaa
open Go.RowKit Pl

theorem mText_rest (s : Bs) (c most : Int) : (mText s c most).2.1.length ≤ s.length := by
  have h := tx_len s most
  unfold mText
  split
  · exact Nat.le_refl _
  · split
    · exact Nat.le_refl _
    · exact h.2
theorem mBytes_rest (s : Bs) (c n : Int) : (mBytes s c n).2.1.length ≤ s.length := by
  unfold mBytes
  split
  · exact Nat.le_refl _
  · split
    · exact Nat.le_refl _
    · split
      · exact Nat.le_refl _
      · simp

theorem writ_any (kind : Int) (path val : Bs) (kid : Nat → Bs) (hf : fineR kind path val kid = true) (w : World) :
    Calls Try.prog 20 #[.agg (nd kind path val kid).toArray] w fun e w' => e = .returned (.string ⟨List.toArray (enc kind path val kid)⟩) ∧ Below w.heap.size w w' := by
  have hc : chk kind path val kid = true := by rw [← fine_chk]; exact hf
  unfold fineR at hf
  split at hf
  · cases hf
  · rename_i ha
    have ha' : all32 (kidsF kid) = true := by simpa using ha
    split at hf
    · cases hf
    · rename_i hb
      simp only [not_or] at hb
      obtain ⟨_, hp, hv⟩ := hb
      by_cases k1 : kind = 1
      · subst k1
        rw [show enc 1 path val kid = 1 :: (text (pack path true).1 ++ text val) from by simp [enc]]
        exact writ_leaf path val kid (by omega) (by omega) w
      · by_cases k2 : kind = 2
        · subst k2
          have h0 : (kid 0).length ≤ 32 := by
            simp [chk, all32] at hc
            omega
          rw [show enc 2 path val kid = 2 :: (text (pack path false).1 ++ kid 0) from by simp [enc]]
          exact writ_ext path val kid (by omega) h0 w
        · by_cases k3 : kind = 3
          · subst k3
            rw [show enc 3 path val kid = [3, UInt8.ofNat (hiK kid), UInt8.ofNat (loK kid)] ++ (kidsF kid).flatten ++ text val from by simp [enc]]
            exact writ_branch path val kid ha' (by omega) w
          · rw [if_neg k1, if_neg k2, if_neg k3] at hf
            cases hf

set_option maxRecDepth 100000 in
set_option maxHeartbeats 1000000 in
theorem rdec_nil (w : World) :
    Calls Try.prog 7 #[.string ⟨List.toArray ([])⟩] w fun e w' => e = .returned (.tuple #[.agg (nd 0 ([]) ([]) noK).toArray, .int .i64 (80)]) ∧ Below w.heap.size w w' := by
  have hQ := Blk.new w (nd 0 [] [] noK).toArray 25
  have hb0 : Below w.heap.size w (w.alloc (.cells (nd 0 [] [] noK).toArray 25)) := Below.allocS (Below.refl _ _) _
  rw [zero_node] at hb0 hQ
  rw [← zero_node] at hQ
  go_enter Try.func7, Try.ntmps7
  go_wp2_with (refine wpList_nodeStore rfl rfl (.tmp 2) (.tmp 14) rfl rfl (kind := 0) (path := []) (val := []) (kid := noK) rfl hQ ?_; intro wZ QZ mZ)
  have hld := run_loadVar_mid (P := Try.prog) wZ w.heap.size 0 25 _ _ (nd_range QZ) Try.underlying25 rfl (by rw [nd_len]; exact nd_info)
  refine bodyPost_ret (results_cell_tmp rfl _ _ _ _ rfl hld) rfl ?_
  exact ⟨rfl, Below.mod hb0 mZ (by simp) (by simp)⟩

set_option maxRecDepth 100000 in
set_option maxHeartbeats 1000000 in
theorem rdec_leaf (r : Bs) (hl : r.length < 35184372088000) (w : World) :
    Calls Try.prog 7 #[.string ⟨List.toArray (1 :: r)⟩] w fun e w' => e = .returned (.tuple #[.agg (nd ((rdec (1 :: r)).1.kind) ((rdec (1 :: r)).1.path) ((rdec (1 :: r)).1.val) ((rdec (1 :: r)).1.kid)).toArray, .int .i64 ((rdec (1 :: r)).2)]) ∧ Below w.heap.size w w' := by
  generalize hd : rdec (1 :: r) = d
  have hml := mText_len r 0 100 (by omega)
  have hmr := mText_rest r 0 100
  rw [show rdec (1 :: r) = if (unpack (mText r 0 100).1).2.2 ≠ 0 then (ndZ, 80) else rfin (1 :: r) (qL r) from by simp [rdec]] at hd
  unfold qL at hd
  generalize hm : mText r 0 100 = m at *
  generalize hu : unpack m.1 = u at *
  have hul := unpack_len m.1
  rw [hu] at hul
  have HM := Lib.hid hm
  have HU := Lib.hid hu
  have HD0 := Lib.hid hd
  clear hm hu hd
  obtain ⟨u1, u2, u3⟩ := u
  have hQ0 := Blk.new w (nd 0 [] [] noK).toArray 25
  have hb0 : Below w.heap.size w (w.alloc (.cells (nd 0 [] [] noK).toArray 25)) := Below.allocS (Below.refl _ _) _
  rw [zero_node] at hb0 hQ0
  go_enter Try.func7, Try.ntmps7
  go_wp2_with (refine wpList_nodeStore rfl rfl (.tmp 5) (.tmp 22) rfl rfl (kind := 1) (path := []) (val := []) (kid := noK) rfl (k2 := 0) (p2 := []) (v2 := []) (kid2 := noK) (Blk.new' (by simp)) ?_; intro wN N mN; obtain ⟨b1, b2, b3⟩ := id N)
  have Q := ((hQ0.alloc (.cells #[.string ⟨List.toArray (r)⟩, .int .i64 (0)] 44)).alloc (.cells #[.int .i64 (0), .string ⟨List.toArray ([])⟩, .string ⟨List.toArray ([])⟩, .string ⟨List.toArray ([])⟩, .string ⟨List.toArray ([])⟩, .string ⟨List.toArray ([])⟩, .string ⟨List.toArray ([])⟩, .string ⟨List.toArray ([])⟩, .string ⟨List.toArray ([])⟩, .string ⟨List.toArray ([])⟩, .string ⟨List.toArray ([])⟩, .string ⟨List.toArray ([])⟩, .string ⟨List.toArray ([])⟩, .string ⟨List.toArray ([])⟩, .string ⟨List.toArray ([])⟩, .string ⟨List.toArray ([])⟩, .string ⟨List.toArray ([])⟩, .string ⟨List.toArray ([])⟩, .string ⟨List.toArray ([])⟩] 25)).mod mN (by simp; omega)
  have hb := Below.mod (Below.allocS (Below.allocS hb0 (.cells #[.string ⟨List.toArray (r)⟩, .int .i64 (0)] 44)) (.cells #[.int .i64 (0), .string ⟨List.toArray ([])⟩, .string ⟨List.toArray ([])⟩, .string ⟨List.toArray ([])⟩, .string ⟨List.toArray ([])⟩, .string ⟨List.toArray ([])⟩, .string ⟨List.toArray ([])⟩, .string ⟨List.toArray ([])⟩, .string ⟨List.toArray ([])⟩, .string ⟨List.toArray ([])⟩, .string ⟨List.toArray ([])⟩, .string ⟨List.toArray ([])⟩, .string ⟨List.toArray ([])⟩, .string ⟨List.toArray ([])⟩, .string ⟨List.toArray ([])⟩, .string ⟨List.toArray ([])⟩, .string ⟨List.toArray ([])⟩, .string ⟨List.toArray ([])⟩, .string ⟨List.toArray ([])⟩] 25)) mN (by simp; omega) (by simp; omega)
  have R := ((Blk.new' (w := w.alloc (.cells #[.int .i64 (0), .string ⟨List.toArray ([])⟩, .string ⟨List.toArray ([])⟩, .string ⟨List.toArray ([])⟩, .string ⟨List.toArray ([])⟩, .string ⟨List.toArray ([])⟩, .string ⟨List.toArray ([])⟩, .string ⟨List.toArray ([])⟩, .string ⟨List.toArray ([])⟩, .string ⟨List.toArray ([])⟩, .string ⟨List.toArray ([])⟩, .string ⟨List.toArray ([])⟩, .string ⟨List.toArray ([])⟩, .string ⟨List.toArray ([])⟩, .string ⟨List.toArray ([])⟩, .string ⟨List.toArray ([])⟩, .string ⟨List.toArray ([])⟩, .string ⟨List.toArray ([])⟩, .string ⟨List.toArray ([])⟩] 25)) (cs := #[.string ⟨List.toArray (r)⟩, .int .i64 (0)]) (t := 44) (n := w.heap.size + 1) (by simp)).alloc (.cells #[.int .i64 (0), .string ⟨List.toArray ([])⟩, .string ⟨List.toArray ([])⟩, .string ⟨List.toArray ([])⟩, .string ⟨List.toArray ([])⟩, .string ⟨List.toArray ([])⟩, .string ⟨List.toArray ([])⟩, .string ⟨List.toArray ([])⟩, .string ⟨List.toArray ([])⟩, .string ⟨List.toArray ([])⟩, .string ⟨List.toArray ([])⟩, .string ⟨List.toArray ([])⟩, .string ⟨List.toArray ([])⟩, .string ⟨List.toArray ([])⟩, .string ⟨List.toArray ([])⟩, .string ⟨List.toArray ([])⟩, .string ⟨List.toArray ([])⟩, .string ⟨List.toArray ([])⟩, .string ⟨List.toArray ([])⟩] 25)).mod mN (by simp)
  rw [← zero_node] at Q
  replace R : RRdr wN (w.heap.size + 1) r 0 := R
  have hsN : w.heap.size + 1 + 1 < wN.heap.size := by have := N.lt; omega
  clear hQ0 hb0 mN
  refine (rrText_any r 0 100 (w.heap.size + 1) wN (by omega) R).mono ?_
  rw [HM.out]
  rintro e w1 ⟨rfl, R1, m1⟩
  have N1 := N.mod m1 (by simp)
  have Q1 := Q.mod m1 (by simp)
  have hb1 := Below.mod hb m1 (by omega) (by simp)
  clear b1 b2 b3 N Q hb m1 R
  go_wp2_with fail
  refine (runpack_any m.1 (by omega) _).mono ?_
  rw [HU.out]
  rintro e w2 ⟨rfl, hb2⟩
  have N2 := N1.keep hb2
  have Q2 := Q1.keep hb2
  have R2 := R1.keep hb2
  have hb3 := hb1.trans (hb2.mono hb1.size)
  clear N1 Q1 R1 hb1 hb2
  by_cases h0 : u3 = 0
  · subst h0
    have HD : Hid (rfin (1 :: r) (⟨1, u1, (mText m.2.1 m.2.2 32).1, noK⟩, (mText m.2.1 m.2.2 32).2) = d) := Lib.hid (by rw [← HD0.out, if_neg (by simp)])
    clear HD0
    obtain ⟨b1, b2, b3⟩ := id N2
    go_wp2_with fail
    have N3 := N2.set 1 (.string ⟨List.toArray (u1)⟩)
    rw [nd_set1] at N3
    have R3 := R2.other (a := ⟨w.heap.size + 1 + 1, 1, none⟩) (by simp) (.string ⟨List.toArray (u1)⟩)
    have m3 : Mod [w.heap.size + 1 + 1] w2 (w2.setCell ⟨w.heap.size + 1 + 1, 1, none⟩ (.string ⟨List.toArray (u1)⟩)) := (Mod.refl _ _).setCell (.inl (by simp)) _
    have Q3 := Q2.mod m3 (by simp <;> omega)
    have hb4 := Below.mod hb3 m3 (by have := N2.lt; omega) (by simp <;> omega)
    clear m3 b1 b2 b3 N2 R2 Q2 hb3
    generalize w2.setCell ⟨w.heap.size + 1 + 1, 1, none⟩ (.string ⟨List.toArray (u1)⟩) = w3 at *
    refine (rrText_any m.2.1 m.2.2 32 (w.heap.size + 1) w3 (by omega) R3).mono ?_
    rintro e w4 ⟨rfl, R4, m4⟩
    have N4 := N3.mod m4 (by simp)
    have Q4 := Q3.mod m4 (by simp)
    have hb5 := Below.mod hb4 m4 (by have := N3.lt; omega) (by simp)
    clear m4 N3 R3 Q3 hb4
    have N5 := N4.set 2 (.string ⟨List.toArray ((mText m.2.1 m.2.2 32).1)⟩)
    rw [nd_set2] at N5
    have m5 : Mod [w.heap.size + 1 + 1] w4 (w4.setCell ⟨w.heap.size + 1 + 1, 2, none⟩ (.string ⟨List.toArray ((mText m.2.1 m.2.2 32).1)⟩)) := (Mod.refl _ _).setCell (.inl (by simp)) _
    have Q3 := Q4.mod m5 (by simp; omega)
    have hb3 := Below.mod hb5 m5 (by have := N4.lt; omega) (by simp; omega)
    obtain ⟨b1, b2, b3⟩ := id N4
    obtain ⟨r1, r2, r3⟩ := id R4
    generalize hx : ((⟨1, u1, (mText m.2.1 m.2.2 32).1, noK⟩, (mText m.2.1 m.2.2 32).2) : Nd × Bs × Int) = x at HD
    have hx' : x.1.kind = 1 := by subst hx; rfl
    have hpl : x.1.path.length ≤ 9223372036854775807 := by subst hx; show u1.length ≤ _; omega
    have e1 : (mText m.2.1 m.2.2 32).1 = x.1.val := by subst hx; rfl
    have e2 : (mText m.2.1 m.2.2 32).2.2 = x.2.2 := by subst hx; rfl
    have R3 := R4
    have N3 : Blk (w4.setCell ⟨w.heap.size + 1 + 1, 2, none⟩ (.string ⟨List.toArray ((mText m.2.1 m.2.2 32).1)⟩)) (w.heap.size + 1 + 1) (nd x.1.kind x.1.path x.1.val x.1.kid).toArray := by subst hx; exact N5
    rw [e1] at N3 Q3 hb3 ⊢
    rw [e2] at r1
    clear N5 N4 R4 Q4 hb5 m5 hx e1 e2 HU HM
    obtain ⟨⟨kd, pa, va, kk⟩, rest, code⟩ := x
    have hk0 : kd = 1 := hx'
    subst hk0
    clear hx'
    by_cases hE : code = 0
    · subst hE
      go_wp2_with (refine wpList_nodeG ?hw (.tmp 5) rfl rfl N3 ?_; (case hw => rfl))
      refine (rfine_any _ pa va kk hpl _).mono ?_
      rintro e w4 ⟨rfl, hbc⟩
      have N4 := N3.keep hbc
      have Q4 := Q3.keep hbc
      have hb4 := hb3.trans (hbc.mono hb3.size)
      clear b1 b2 b3 r1 r2 r3 N3 Q3 hb3 R3 hbc
      cases hf : fineR 1 pa va kk
      · have HZ : Hid (d = (ndZ, 80)) := Lib.hid (by rw [← HD.out, rfin, if_neg (fun h => by have := h.2.1; simp only at this; rw [hf] at this; cases this)])
        go_wp2_with (refine wpList_nodeStore rfl rfl (.tmp 2) (.tmp 94) rfl rfl (kind := 0) (path := []) (val := []) (kid := noK) rfl Q4 ?_; intro wZ QZ mZ)
        have hld := run_loadVar_mid (P := Try.prog) wZ w.heap.size 0 25 _ _ (nd_range QZ) Try.underlying25 rfl (by rw [nd_len]; exact nd_info)
        refine bodyPost_ret (results_cell_tmp rfl _ _ _ _ rfl hld) rfl ?_
        exact ⟨by rw [HZ.out]; rfl, Below.mod hb4 mZ (by have := (Q4).lt; omega) (by simp)⟩
      · have hw := writ_any 1 pa va kk hf
        have HW := Lib.hid hw
        clear hw
        by_cases hs : enc 1 pa va kk = 1 :: r
        · have HZ : Hid (d = (⟨1, pa, va, kk⟩, 0)) := Lib.hid (by rw [← HD.out, rfin, if_pos ⟨rfl, hf, hs⟩])
          have HS := Lib.hid hs
          clear hs hf
          go_wp2_with (refine wpList_nodeG ?hw (.tmp 5) rfl rfl N4 ?_; (case hw => rfl))
          refine (HW.out _).mono ?_
          rw [HS.out]
          rintro e w5 ⟨rfl, hbc⟩
          have N5 := N4.keep hbc
          have Q5 := Q4.keep hbc
          have hb5 := hb4.trans (hbc.mono hb4.size)
          go_wp2_with (first | (refine wpList_node rfl (.tmp 5) rfl rfl N5 ?_) | (refine wpList_nodeStore rfl rfl (.tmp 2) (.tmp 95) rfl rfl (kind := 1) (path := pa) (val := va) (kid := kk) rfl Q5 ?_; intro w6 Q6 m6))
          have hld := run_loadVar_mid (P := Try.prog) w6 w.heap.size 0 25 _ _ (nd_range Q6) Try.underlying25 rfl (by rw [nd_len]; exact nd_info)
          refine bodyPost_ret (results_cell_tmp rfl _ _ _ _ rfl hld) rfl ?_
          exact ⟨by rw [HZ.out]; rfl, Below.mod hb5 m6 (by have := Q5.lt; omega) (by simp)⟩
        · have HZ : Hid (d = (ndZ, 80)) := Lib.hid (by rw [← HD.out, rfin, if_neg (fun h => hs h.2.2)])
          have hs2 : (enc 1 pa va kk == (1 :: r : Bs)) = false := by simpa using hs
          clear hs hf
          generalize enc 1 pa va kk = en at *
          go_wp2_with (refine wpList_nodeG ?hw (.tmp 5) rfl rfl N4 ?_; (case hw => rfl))
          refine (HW.out _).mono ?_
          rintro e w5 ⟨rfl, hbc⟩
          have Q5 := Q4.keep hbc
          have hb5 := hb4.trans (hbc.mono hb4.size)
          go_wp2_with (refine wpList_nodeStore rfl rfl (.tmp 2) (.tmp 94) rfl rfl (kind := 0) (path := []) (val := []) (kid := noK) rfl Q5 ?_; intro wZ QZ mZ)
          have hld := run_loadVar_mid (P := Try.prog) wZ w.heap.size 0 25 _ _ (nd_range QZ) Try.underlying25 rfl (by rw [nd_len]; exact nd_info)
          refine bodyPost_ret (results_cell_tmp rfl _ _ _ _ rfl hld) rfl ?_
          exact ⟨by rw [HZ.out]; rfl, Below.mod hb5 mZ (by have := (Q5).lt; omega) (by simp)⟩
    · have hE3 : (code != 0) = true := by simpa using hE
      have HZ : Hid (d = (ndZ, 80)) := Lib.hid (by rw [← HD.out, rfin, if_neg (fun h => hE h.1)])
      clear hE
      go_wp2_with (refine wpList_nodeStore rfl rfl (.tmp 2) (.tmp 94) rfl rfl (kind := 0) (path := []) (val := []) (kid := noK) rfl Q3 ?_; intro wZ QZ mZ)
      have hld := run_loadVar_mid (P := Try.prog) wZ w.heap.size 0 25 _ _ (nd_range QZ) Try.underlying25 rfl (by rw [nd_len]; exact nd_info)
      refine bodyPost_ret (results_cell_tmp rfl _ _ _ _ rfl hld) rfl ?_
      exact ⟨by rw [HZ.out]; rfl, Below.mod hb3 mZ (by have := (Q3).lt; omega) (by simp)⟩
  · have HZ : Hid (d = (ndZ, 80)) := Lib.hid (by rw [← HD0.out, if_pos h0])
    have h1 : (u3 != 0) = true := by simpa using h0
    go_wp2_with (refine wpList_nodeStore rfl rfl (.tmp 2) (.tmp 65) rfl rfl (kind := 0) (path := []) (val := []) (kid := noK) rfl Q2 ?_; intro wZ QZ mZ)
    have hld := run_loadVar_mid (P := Try.prog) wZ w.heap.size 0 25 _ _ (nd_range QZ) Try.underlying25 rfl (by rw [nd_len]; exact nd_info)
    refine bodyPost_ret (results_cell_tmp rfl _ _ _ _ rfl hld) rfl ?_
    exact ⟨by rw [HZ.out]; rfl, Below.mod hb3 mZ (by have := (Q2).lt; omega) (by simp)⟩

set_option maxRecDepth 100000 in
set_option maxHeartbeats 1000000 in
theorem rdec_ext (k : UInt8) (hk1 : k ≠ 1) (hk3 : k ≠ 3) (r : Bs) (hl : r.length < 35184372088000) (w : World) :
    Calls Try.prog 7 #[.string ⟨List.toArray (k :: r)⟩] w fun e w' => e = .returned (.tuple #[.agg (nd ((rdec (k :: r)).1.kind) ((rdec (k :: r)).1.path) ((rdec (k :: r)).1.val) ((rdec (k :: r)).1.kid)).toArray, .int .i64 ((rdec (k :: r)).2)]) ∧ Below w.heap.size w w' := by
  generalize hd : rdec (k :: r) = d
  have hn1 : k.toNat ≠ 1 := fun h => hk1 (by rw [← UInt8.toNat_inj]; exact h)
  have hn3 : k.toNat ≠ 3 := fun h => hk3 (by rw [← UInt8.toNat_inj]; exact h)
  have hnl := k.toNat_lt
  have hk1b : ((k.toNat : Int) == 1) = false := by simp; omega
  have hk3b : ((k.toNat : Int) == 3) = false := by simp; omega
  have hml := mText_len r 0 100 (by omega)
  have hmr := mText_rest r 0 100
  rw [show rdec (k :: r) = if (unpack (mText r 0 100).1).2.2 ≠ 0 then (ndZ, 80) else rfin (k :: r) (qE k.toNat r) from by simp [rdec, hk1, hk3]] at hd
  unfold qE at hd
  clear hk1 hk3 hn1 hn3
  generalize hm : mText r 0 100 = m at *
  generalize hu : unpack m.1 = u at *
  have hul := unpack_len m.1
  rw [hu] at hul
  have HM := Lib.hid hm
  have HU := Lib.hid hu
  have HD0 := Lib.hid hd
  clear hm hu hd
  obtain ⟨u1, u2, u3⟩ := u
  have hQ0 := Blk.new w (nd 0 [] [] noK).toArray 25
  have hb0 : Below w.heap.size w (w.alloc (.cells (nd 0 [] [] noK).toArray 25)) := Below.allocS (Below.refl _ _) _
  rw [zero_node] at hb0 hQ0
  go_enter Try.func7, Try.ntmps7
  go_wp2_with (refine wpList_nodeStore rfl rfl (.tmp 5) (.tmp 22) rfl rfl (kind := (k.toNat : Int)) (path := []) (val := []) (kid := noK) rfl (k2 := 0) (p2 := []) (v2 := []) (kid2 := noK) (Blk.new' (by simp)) ?_; intro wN N mN; obtain ⟨b1, b2, b3⟩ := id N)
  have Q := ((hQ0.alloc (.cells #[.string ⟨List.toArray (r)⟩, .int .i64 (0)] 44)).alloc (.cells #[.int .i64 (0), .string ⟨List.toArray ([])⟩, .string ⟨List.toArray ([])⟩, .string ⟨List.toArray ([])⟩, .string ⟨List.toArray ([])⟩, .string ⟨List.toArray ([])⟩, .string ⟨List.toArray ([])⟩, .string ⟨List.toArray ([])⟩, .string ⟨List.toArray ([])⟩, .string ⟨List.toArray ([])⟩, .string ⟨List.toArray ([])⟩, .string ⟨List.toArray ([])⟩, .string ⟨List.toArray ([])⟩, .string ⟨List.toArray ([])⟩, .string ⟨List.toArray ([])⟩, .string ⟨List.toArray ([])⟩, .string ⟨List.toArray ([])⟩, .string ⟨List.toArray ([])⟩, .string ⟨List.toArray ([])⟩] 25)).mod mN (by simp; omega)
  have hb := Below.mod (Below.allocS (Below.allocS hb0 (.cells #[.string ⟨List.toArray (r)⟩, .int .i64 (0)] 44)) (.cells #[.int .i64 (0), .string ⟨List.toArray ([])⟩, .string ⟨List.toArray ([])⟩, .string ⟨List.toArray ([])⟩, .string ⟨List.toArray ([])⟩, .string ⟨List.toArray ([])⟩, .string ⟨List.toArray ([])⟩, .string ⟨List.toArray ([])⟩, .string ⟨List.toArray ([])⟩, .string ⟨List.toArray ([])⟩, .string ⟨List.toArray ([])⟩, .string ⟨List.toArray ([])⟩, .string ⟨List.toArray ([])⟩, .string ⟨List.toArray ([])⟩, .string ⟨List.toArray ([])⟩, .string ⟨List.toArray ([])⟩, .string ⟨List.toArray ([])⟩, .string ⟨List.toArray ([])⟩, .string ⟨List.toArray ([])⟩] 25)) mN (by simp; omega) (by simp; omega)
  have R := ((Blk.new' (w := w.alloc (.cells #[.int .i64 (0), .string ⟨List.toArray ([])⟩, .string ⟨List.toArray ([])⟩, .string ⟨List.toArray ([])⟩, .string ⟨List.toArray ([])⟩, .string ⟨List.toArray ([])⟩, .string ⟨List.toArray ([])⟩, .string ⟨List.toArray ([])⟩, .string ⟨List.toArray ([])⟩, .string ⟨List.toArray ([])⟩, .string ⟨List.toArray ([])⟩, .string ⟨List.toArray ([])⟩, .string ⟨List.toArray ([])⟩, .string ⟨List.toArray ([])⟩, .string ⟨List.toArray ([])⟩, .string ⟨List.toArray ([])⟩, .string ⟨List.toArray ([])⟩, .string ⟨List.toArray ([])⟩, .string ⟨List.toArray ([])⟩] 25)) (cs := #[.string ⟨List.toArray (r)⟩, .int .i64 (0)]) (t := 44) (n := w.heap.size + 1) (by simp)).alloc (.cells #[.int .i64 (0), .string ⟨List.toArray ([])⟩, .string ⟨List.toArray ([])⟩, .string ⟨List.toArray ([])⟩, .string ⟨List.toArray ([])⟩, .string ⟨List.toArray ([])⟩, .string ⟨List.toArray ([])⟩, .string ⟨List.toArray ([])⟩, .string ⟨List.toArray ([])⟩, .string ⟨List.toArray ([])⟩, .string ⟨List.toArray ([])⟩, .string ⟨List.toArray ([])⟩, .string ⟨List.toArray ([])⟩, .string ⟨List.toArray ([])⟩, .string ⟨List.toArray ([])⟩, .string ⟨List.toArray ([])⟩, .string ⟨List.toArray ([])⟩, .string ⟨List.toArray ([])⟩, .string ⟨List.toArray ([])⟩] 25)).mod mN (by simp)
  rw [← zero_node] at Q
  replace R : RRdr wN (w.heap.size + 1) r 0 := R
  have hsN : w.heap.size + 1 + 1 < wN.heap.size := by have := N.lt; omega
  clear hQ0 hb0 mN
  refine (rrText_any r 0 100 (w.heap.size + 1) wN (by omega) R).mono ?_
  rw [HM.out]
  rintro e w1 ⟨rfl, R1, m1⟩
  have N1 := N.mod m1 (by simp)
  have Q1 := Q.mod m1 (by simp)
  have hb1 := Below.mod hb m1 (by omega) (by simp)
  clear b1 b2 b3 N Q hb m1 R
  go_wp2_with fail
  refine (runpack_any m.1 (by omega) _).mono ?_
  rw [HU.out]
  rintro e w2 ⟨rfl, hb2⟩
  have N2 := N1.keep hb2
  have Q2 := Q1.keep hb2
  have R2 := R1.keep hb2
  have hb3 := hb1.trans (hb2.mono hb1.size)
  clear N1 Q1 R1 hb1 hb2
  by_cases h0 : u3 = 0
  · subst h0
    have HD : Hid (rfin (k :: r) (⟨k.toNat, u1, [], upd noK 0 (mBytes m.2.1 m.2.2 32).1⟩, (mBytes m.2.1 m.2.2 32).2) = d) := Lib.hid (by rw [← HD0.out, if_neg (by simp)])
    clear HD0
    obtain ⟨b1, b2, b3⟩ := id N2
    go_wp2_with fail
    have N3 := N2.set 1 (.string ⟨List.toArray (u1)⟩)
    rw [nd_set1] at N3
    have R3 := R2.other (a := ⟨w.heap.size + 1 + 1, 1, none⟩) (by simp) (.string ⟨List.toArray (u1)⟩)
    have m3 : Mod [w.heap.size + 1 + 1] w2 (w2.setCell ⟨w.heap.size + 1 + 1, 1, none⟩ (.string ⟨List.toArray (u1)⟩)) := (Mod.refl _ _).setCell (.inl (by simp)) _
    have Q3 := Q2.mod m3 (by simp <;> omega)
    have hb4 := Below.mod hb3 m3 (by have := N2.lt; omega) (by simp <;> omega)
    clear m3 b1 b2 b3 N2 R2 Q2 hb3
    generalize w2.setCell ⟨w.heap.size + 1 + 1, 1, none⟩ (.string ⟨List.toArray (u1)⟩) = w3 at *
    refine (rrBytes_any m.2.1 m.2.2 32 (w.heap.size + 1) w3 (by omega) (by omega) R3).mono ?_
    rintro e w4 ⟨rfl, R4, m4⟩
    have N4 := N3.mod m4 (by simp)
    have Q4 := Q3.mod m4 (by simp)
    have hb5 := Below.mod hb4 m4 (by have := N3.lt; omega) (by simp)
    clear m4 N3 R3 Q3 hb4
    have N5 := N4.set (3 + 0) (.string ⟨List.toArray ((mBytes m.2.1 m.2.2 32).1)⟩)
    rw [nd_setk _ _ _ _ _ (by omega)] at N5
    have m5 : Mod [w.heap.size + 1 + 1] w4 (w4.setCell ⟨w.heap.size + 1 + 1, 3, none⟩ (.string ⟨List.toArray ((mBytes m.2.1 m.2.2 32).1)⟩)) := (Mod.refl _ _).setCell (.inl (by simp)) _
    have Q3 := Q4.mod m5 (by simp; omega)
    have hb3 := Below.mod hb5 m5 (by have := N4.lt; omega) (by simp; omega)
    obtain ⟨b1, b2, b3⟩ := id N4
    obtain ⟨r1, r2, r3⟩ := id R4
    generalize hx : ((⟨k.toNat, u1, [], upd noK 0 (mBytes m.2.1 m.2.2 32).1⟩, (mBytes m.2.1 m.2.2 32).2) : Nd × Bs × Int) = x at HD
    have hx' : x.1.kind = (k.toNat : Int) := by subst hx; rfl
    have hpl : x.1.path.length ≤ 9223372036854775807 := by subst hx; show u1.length ≤ _; omega
    have e1 : (mBytes m.2.1 m.2.2 32).1 = x.1.kid 0 := by subst hx; rfl
    have e2 : (mBytes m.2.1 m.2.2 32).2.2 = x.2.2 := by subst hx; rfl
    have R3 := R4
    have N3 : Blk (w4.setCell ⟨w.heap.size + 1 + 1, 3, none⟩ (.string ⟨List.toArray ((mBytes m.2.1 m.2.2 32).1)⟩)) (w.heap.size + 1 + 1) (nd x.1.kind x.1.path x.1.val x.1.kid).toArray := by subst hx; exact N5
    rw [e1] at N3 Q3 hb3 ⊢
    rw [e2] at r1
    clear N5 N4 R4 Q4 hb5 m5 hx e1 e2 HU HM
    obtain ⟨⟨kd, pa, va, kk⟩, rest, code⟩ := x
    have hk0 : kd = (k.toNat : Int) := hx'
    subst hk0
    clear hx'
    by_cases hE : code = 0
    · subst hE
      go_wp2_with (refine wpList_nodeG ?hw (.tmp 5) rfl rfl N3 ?_; (case hw => rfl))
      refine (rfine_any _ pa va kk hpl _).mono ?_
      rintro e w4 ⟨rfl, hbc⟩
      have N4 := N3.keep hbc
      have Q4 := Q3.keep hbc
      have hb4 := hb3.trans (hbc.mono hb3.size)
      clear b1 b2 b3 r1 r2 r3 N3 Q3 hb3 R3 hbc
      cases hf : fineR (k.toNat : Int) pa va kk
      · have HZ : Hid (d = (ndZ, 80)) := Lib.hid (by rw [← HD.out, rfin, if_neg (fun h => by have := h.2.1; simp only at this; rw [hf] at this; cases this)])
        go_wp2_with (refine wpList_nodeStore rfl rfl (.tmp 2) (.tmp 94) rfl rfl (kind := 0) (path := []) (val := []) (kid := noK) rfl Q4 ?_; intro wZ QZ mZ)
        have hld := run_loadVar_mid (P := Try.prog) wZ w.heap.size 0 25 _ _ (nd_range QZ) Try.underlying25 rfl (by rw [nd_len]; exact nd_info)
        refine bodyPost_ret (results_cell_tmp rfl _ _ _ _ rfl hld) rfl ?_
        exact ⟨by rw [HZ.out]; rfl, Below.mod hb4 mZ (by have := (Q4).lt; omega) (by simp)⟩
      · have hw := writ_any (k.toNat : Int) pa va kk hf
        have HW := Lib.hid hw
        clear hw
        by_cases hs : enc (k.toNat : Int) pa va kk = k :: r
        · have HZ : Hid (d = (⟨(k.toNat : Int), pa, va, kk⟩, 0)) := Lib.hid (by rw [← HD.out, rfin, if_pos ⟨rfl, hf, hs⟩])
          have HS := Lib.hid hs
          clear hs hf
          go_wp2_with (refine wpList_nodeG ?hw (.tmp 5) rfl rfl N4 ?_; (case hw => rfl))
          refine (HW.out _).mono ?_
          rw [HS.out]
          rintro e w5 ⟨rfl, hbc⟩
          have N5 := N4.keep hbc
          have Q5 := Q4.keep hbc
          have hb5 := hb4.trans (hbc.mono hb4.size)
          go_wp2_with (first | (refine wpList_node rfl (.tmp 5) rfl rfl N5 ?_) | (refine wpList_nodeStore rfl rfl (.tmp 2) (.tmp 95) rfl rfl (kind := (k.toNat : Int)) (path := pa) (val := va) (kid := kk) rfl Q5 ?_; intro w6 Q6 m6))
          have hld := run_loadVar_mid (P := Try.prog) w6 w.heap.size 0 25 _ _ (nd_range Q6) Try.underlying25 rfl (by rw [nd_len]; exact nd_info)
          refine bodyPost_ret (results_cell_tmp rfl _ _ _ _ rfl hld) rfl ?_
          exact ⟨by rw [HZ.out]; rfl, Below.mod hb5 m6 (by have := Q5.lt; omega) (by simp)⟩
        · have HZ : Hid (d = (ndZ, 80)) := Lib.hid (by rw [← HD.out, rfin, if_neg (fun h => hs h.2.2)])
          have hs2 : (enc (k.toNat : Int) pa va kk == (k :: r : Bs)) = false := by simpa using hs
          clear hs hf
          generalize enc (k.toNat : Int) pa va kk = en at *
          go_wp2_with (refine wpList_nodeG ?hw (.tmp 5) rfl rfl N4 ?_; (case hw => rfl))
          refine (HW.out _).mono ?_
          rintro e w5 ⟨rfl, hbc⟩
          have Q5 := Q4.keep hbc
          have hb5 := hb4.trans (hbc.mono hb4.size)
          go_wp2_with (refine wpList_nodeStore rfl rfl (.tmp 2) (.tmp 94) rfl rfl (kind := 0) (path := []) (val := []) (kid := noK) rfl Q5 ?_; intro wZ QZ mZ)
          have hld := run_loadVar_mid (P := Try.prog) wZ w.heap.size 0 25 _ _ (nd_range QZ) Try.underlying25 rfl (by rw [nd_len]; exact nd_info)
          refine bodyPost_ret (results_cell_tmp rfl _ _ _ _ rfl hld) rfl ?_
          exact ⟨by rw [HZ.out]; rfl, Below.mod hb5 mZ (by have := (Q5).lt; omega) (by simp)⟩
    · have hE3 : (code != 0) = true := by simpa using hE
      have HZ : Hid (d = (ndZ, 80)) := Lib.hid (by rw [← HD.out, rfin, if_neg (fun h => hE h.1)])
      clear hE
      go_wp2_with (refine wpList_nodeStore rfl rfl (.tmp 2) (.tmp 94) rfl rfl (kind := 0) (path := []) (val := []) (kid := noK) rfl Q3 ?_; intro wZ QZ mZ)
      have hld := run_loadVar_mid (P := Try.prog) wZ w.heap.size 0 25 _ _ (nd_range QZ) Try.underlying25 rfl (by rw [nd_len]; exact nd_info)
      refine bodyPost_ret (results_cell_tmp rfl _ _ _ _ rfl hld) rfl ?_
      exact ⟨by rw [HZ.out]; rfl, Below.mod hb3 mZ (by have := (Q3).lt; omega) (by simp)⟩
  · have HZ : Hid (d = (ndZ, 80)) := Lib.hid (by rw [← HD0.out, if_pos h0])
    have h1 : (u3 != 0) = true := by simpa using h0
    go_wp2_with (refine wpList_nodeStore rfl rfl (.tmp 2) (.tmp 65) rfl rfl (kind := 0) (path := []) (val := []) (kid := noK) rfl Q2 ?_; intro wZ QZ mZ)
    have hld := run_loadVar_mid (P := Try.prog) wZ w.heap.size 0 25 _ _ (nd_range QZ) Try.underlying25 rfl (by rw [nd_len]; exact nd_info)
    refine bodyPost_ret (results_cell_tmp rfl _ _ _ _ rfl hld) rfl ?_
    exact ⟨by rw [HZ.out]; rfl, Below.mod hb3 mZ (by have := (Q2).lt; omega) (by simp)⟩

end Go.Proofs.Ytmldonbmjgelnaa
