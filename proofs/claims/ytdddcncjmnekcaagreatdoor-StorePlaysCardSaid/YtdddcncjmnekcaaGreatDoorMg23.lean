/- Rdec, Rdec2, Ref9N. -/
import Derived.Test.YtdddcncjmnekcaaGreatDoorMg10
import Derived.Test.YtdddcncjmnekcaaGreatDoorMg15
import Derived.Test.YtdddcncjmnekcaaGreatDoorMg20
import Derived.Test.YtdddcncjmnekcaaGreatDoorMg21
import Derived.Test.YtdddcncjmnekcaaGreatDoorMg22
set_option linter.unnecessarySimpa false

/- Walks of the document's answer for layer 8: the node of bytes. -/
set_option linter.unusedSimpArgs false
set_option linter.unusedVariables false
namespace Go.Proofs.YtdddcncjmnekcaaGreatDoor
open Go.RowKit Pl

theorem mText_rest (s : Bs) (c most : Int) : (mText s c most).2.1.length ≤ s.length := by
  have h := tx_len s most
  unfold mText
  split
  · exact Nat.le_refl _
  · split
    · exact Nat.le_refl _
    · exact h.2
theorem mBytes_rest (s : Bs) (c n : Int) : (mBytes s c n).2.1.length ≤ s.length := by
  unfold mBytes
  split
  · exact Nat.le_refl _
  · split
    · exact Nat.le_refl _
    · split
      · exact Nat.le_refl _
      · simp

set_option maxRecDepth 100000 in
set_option maxHeartbeats 1000000 in
theorem rdec_nil (w : World) :
    Calls Tryz.prog 32 #[.string ⟨List.toArray ([])⟩] w fun e w' => e = .returned (.tuple #[.agg (nd 0 ([]) ([]) noK).toArray, .int .i64 (80)]) ∧ Below w.heap.size w w' := by
  have hQ := Blk.new w (nd 0 [] [] noK).toArray 69
  have hb0 : Below w.heap.size w (w.alloc (.cells (nd 0 [] [] noK).toArray 69)) := Below.allocS (Below.refl _ _) _
  rw [zero_node] at hb0 hQ
  rw [← zero_node] at hQ
  go_enter Tryz.func32, Tryz.ntmps32
  go_wp2_with (refine wpList_nodeStore rfl rfl (.tmp 2) (.tmp 14) rfl rfl (kind := 0) (path := []) (val := []) (kid := noK) rfl hQ ?_; intro wZ QZ mZ)
  have hld := run_loadVar_mid (P := Tryz.prog) wZ w.heap.size 0 69 _ _ (nd_range QZ) Tryz.underlying69 rfl (by rw [nd_len]; exact nd_info)
  refine bodyPost_ret (results_cell_tmp rfl _ _ _ _ rfl hld) rfl ?_
  exact ⟨rfl, Below.mod hb0 mZ (by simp) (by simp)⟩

set_option maxRecDepth 100000 in
set_option maxHeartbeats 1000000 in
theorem rdec_leaf (r : Bs) (hl : r.length < 35184372088000) (w : World) :
    Calls Tryz.prog 32 #[.string ⟨List.toArray (1 :: r)⟩] w fun e w' => e = .returned (.tuple #[.agg (nd ((rdec (1 :: r)).1.kind) ((rdec (1 :: r)).1.path) ((rdec (1 :: r)).1.val) ((rdec (1 :: r)).1.kid)).toArray, .int .i64 ((rdec (1 :: r)).2)]) ∧ Below w.heap.size w w' := by
  generalize hd : rdec (1 :: r) = d
  have hml := mText_len r 0 100 (by omega)
  have hmr := mText_rest r 0 100
  rw [show rdec (1 :: r) = if (unpack (mText r 0 100).1).2.2 ≠ 0 then (ndZ, 80) else rfin (1 :: r) (qL r) from by simp [rdec]] at hd
  unfold qL at hd
  generalize hm : mText r 0 100 = m at *
  generalize hu : unpack m.1 = u at *
  have hul := unpack_len m.1
  rw [hu] at hul
  have HM := Lib.hid hm
  have HU := Lib.hid hu
  have HD0 := Lib.hid hd
  clear hm hu hd
  obtain ⟨u1, u2, u3⟩ := u
  have hQ0 := Blk.new w (nd 0 [] [] noK).toArray 69
  have hb0 : Below w.heap.size w (w.alloc (.cells (nd 0 [] [] noK).toArray 69)) := Below.allocS (Below.refl _ _) _
  rw [zero_node] at hb0 hQ0
  go_enter Tryz.func32, Tryz.ntmps32
  go_wp2_with (refine wpList_nodeStore rfl rfl (.tmp 5) (.tmp 22) rfl rfl (kind := 1) (path := []) (val := []) (kid := noK) rfl (k2 := 0) (p2 := []) (v2 := []) (kid2 := noK) (Blk.new' (by simp)) ?_; intro wN N mN; obtain ⟨b1, b2, b3⟩ := id N)
  have Q := ((hQ0.alloc (.cells #[.string ⟨List.toArray (r)⟩, .int .i64 (0)] 83)).alloc (.cells #[.int .i64 (0), .string ⟨List.toArray ([])⟩, .string ⟨List.toArray ([])⟩, .string ⟨List.toArray ([])⟩, .string ⟨List.toArray ([])⟩, .string ⟨List.toArray ([])⟩, .string ⟨List.toArray ([])⟩, .string ⟨List.toArray ([])⟩, .string ⟨List.toArray ([])⟩, .string ⟨List.toArray ([])⟩, .string ⟨List.toArray ([])⟩, .string ⟨List.toArray ([])⟩, .string ⟨List.toArray ([])⟩, .string ⟨List.toArray ([])⟩, .string ⟨List.toArray ([])⟩, .string ⟨List.toArray ([])⟩, .string ⟨List.toArray ([])⟩, .string ⟨List.toArray ([])⟩, .string ⟨List.toArray ([])⟩] 69)).mod mN (by simp; omega)
  have hb := Below.mod (Below.allocS (Below.allocS hb0 (.cells #[.string ⟨List.toArray (r)⟩, .int .i64 (0)] 83)) (.cells #[.int .i64 (0), .string ⟨List.toArray ([])⟩, .string ⟨List.toArray ([])⟩, .string ⟨List.toArray ([])⟩, .string ⟨List.toArray ([])⟩, .string ⟨List.toArray ([])⟩, .string ⟨List.toArray ([])⟩, .string ⟨List.toArray ([])⟩, .string ⟨List.toArray ([])⟩, .string ⟨List.toArray ([])⟩, .string ⟨List.toArray ([])⟩, .string ⟨List.toArray ([])⟩, .string ⟨List.toArray ([])⟩, .string ⟨List.toArray ([])⟩, .string ⟨List.toArray ([])⟩, .string ⟨List.toArray ([])⟩, .string ⟨List.toArray ([])⟩, .string ⟨List.toArray ([])⟩, .string ⟨List.toArray ([])⟩] 69)) mN (by simp; omega) (by simp; omega)
  have R := ((Blk.new' (w := w.alloc (.cells #[.int .i64 (0), .string ⟨List.toArray ([])⟩, .string ⟨List.toArray ([])⟩, .string ⟨List.toArray ([])⟩, .string ⟨List.toArray ([])⟩, .string ⟨List.toArray ([])⟩, .string ⟨List.toArray ([])⟩, .string ⟨List.toArray ([])⟩, .string ⟨List.toArray ([])⟩, .string ⟨List.toArray ([])⟩, .string ⟨List.toArray ([])⟩, .string ⟨List.toArray ([])⟩, .string ⟨List.toArray ([])⟩, .string ⟨List.toArray ([])⟩, .string ⟨List.toArray ([])⟩, .string ⟨List.toArray ([])⟩, .string ⟨List.toArray ([])⟩, .string ⟨List.toArray ([])⟩, .string ⟨List.toArray ([])⟩] 69)) (cs := #[.string ⟨List.toArray (r)⟩, .int .i64 (0)]) (t := 83) (n := w.heap.size + 1) (by simp)).alloc (.cells #[.int .i64 (0), .string ⟨List.toArray ([])⟩, .string ⟨List.toArray ([])⟩, .string ⟨List.toArray ([])⟩, .string ⟨List.toArray ([])⟩, .string ⟨List.toArray ([])⟩, .string ⟨List.toArray ([])⟩, .string ⟨List.toArray ([])⟩, .string ⟨List.toArray ([])⟩, .string ⟨List.toArray ([])⟩, .string ⟨List.toArray ([])⟩, .string ⟨List.toArray ([])⟩, .string ⟨List.toArray ([])⟩, .string ⟨List.toArray ([])⟩, .string ⟨List.toArray ([])⟩, .string ⟨List.toArray ([])⟩, .string ⟨List.toArray ([])⟩, .string ⟨List.toArray ([])⟩, .string ⟨List.toArray ([])⟩] 69)).mod mN (by simp)
  rw [← zero_node] at Q
  replace R : RRdr wN (w.heap.size + 1) r 0 := R
  have hsN : w.heap.size + 1 + 1 < wN.heap.size := by have := N.lt; omega
  clear hQ0 hb0 mN
  refine (rrText_any r 0 100 (w.heap.size + 1) wN (by omega) R).mono ?_
  rw [HM.out]
  rintro e w1 ⟨rfl, R1, m1⟩
  have N1 := N.mod m1 (by simp)
  have Q1 := Q.mod m1 (by simp)
  have hb1 := Below.mod hb m1 (by omega) (by simp)
  clear b1 b2 b3 N Q hb m1 R
  go_wp2_with fail
  refine (runpack_any m.1 (by omega) _).mono ?_
  rw [HU.out]
  rintro e w2 ⟨rfl, hb2⟩
  have N2 := N1.keep hb2
  have Q2 := Q1.keep hb2
  have R2 := R1.keep hb2
  have hb3 := hb1.trans (hb2.mono hb1.size)
  clear N1 Q1 R1 hb1 hb2
  by_cases h0 : u3 = 0
  · subst h0
    have HD : Hid (rfin (1 :: r) (⟨1, u1, (mText m.2.1 m.2.2 32).1, noK⟩, (mText m.2.1 m.2.2 32).2) = d) := Lib.hid (by rw [← HD0.out, if_neg (by simp)])
    clear HD0
    obtain ⟨b1, b2, b3⟩ := id N2
    go_wp2_with fail
    have N3 := N2.set 1 (.string ⟨List.toArray (u1)⟩)
    rw [nd_set1] at N3
    have R3 := R2.other (a := ⟨w.heap.size + 1 + 1, 1, none⟩) (by simp) (.string ⟨List.toArray (u1)⟩)
    have m3 : Mod [w.heap.size + 1 + 1] w2 (w2.setCell ⟨w.heap.size + 1 + 1, 1, none⟩ (.string ⟨List.toArray (u1)⟩)) := (Mod.refl _ _).setCell (.inl (by simp)) _
    have Q3 := Q2.mod m3 (by simp <;> omega)
    have hb4 := Below.mod hb3 m3 (by have := N2.lt; omega) (by simp <;> omega)
    clear m3 b1 b2 b3 N2 R2 Q2 hb3
    generalize w2.setCell ⟨w.heap.size + 1 + 1, 1, none⟩ (.string ⟨List.toArray (u1)⟩) = w3 at *
    refine (rrText_any m.2.1 m.2.2 32 (w.heap.size + 1) w3 (by omega) R3).mono ?_
    rintro e w4 ⟨rfl, R4, m4⟩
    have N4 := N3.mod m4 (by simp)
    have Q4 := Q3.mod m4 (by simp)
    have hb5 := Below.mod hb4 m4 (by have := N3.lt; omega) (by simp)
    clear m4 N3 R3 Q3 hb4
    have N5 := N4.set 2 (.string ⟨List.toArray ((mText m.2.1 m.2.2 32).1)⟩)
    rw [nd_set2] at N5
    have m5 : Mod [w.heap.size + 1 + 1] w4 (w4.setCell ⟨w.heap.size + 1 + 1, 2, none⟩ (.string ⟨List.toArray ((mText m.2.1 m.2.2 32).1)⟩)) := (Mod.refl _ _).setCell (.inl (by simp)) _
    have Q3 := Q4.mod m5 (by simp; omega)
    have hb3 := Below.mod hb5 m5 (by have := N4.lt; omega) (by simp; omega)
    obtain ⟨b1, b2, b3⟩ := id N4
    obtain ⟨r1, r2, r3⟩ := id R4
    generalize hx : ((⟨1, u1, (mText m.2.1 m.2.2 32).1, noK⟩, (mText m.2.1 m.2.2 32).2) : Nd × Bs × Int) = x at HD
    have hx' : x.1.kind = 1 := by subst hx; rfl
    have hpl : x.1.path.length ≤ 9223372036854775807 := by subst hx; show u1.length ≤ _; omega
    have e1 : (mText m.2.1 m.2.2 32).1 = x.1.val := by subst hx; rfl
    have e2 : (mText m.2.1 m.2.2 32).2.2 = x.2.2 := by subst hx; rfl
    have R3 := R4
    have N3 : Blk (w4.setCell ⟨w.heap.size + 1 + 1, 2, none⟩ (.string ⟨List.toArray ((mText m.2.1 m.2.2 32).1)⟩)) (w.heap.size + 1 + 1) (nd x.1.kind x.1.path x.1.val x.1.kid).toArray := by subst hx; exact N5
    rw [e1] at N3 Q3 hb3 ⊢
    rw [e2] at r1
    clear N5 N4 R4 Q4 hb5 m5 hx e1 e2 HU HM
    obtain ⟨⟨kd, pa, va, kk⟩, rest, code⟩ := x
    have hk0 : kd = 1 := hx'
    subst hk0
    clear hx'
    by_cases hE : code = 0
    · subst hE
      go_wp2_with (refine wpList_nodeG ?hw (.tmp 5) rfl rfl N3 ?_; (case hw => rfl))
      refine (rfine_any _ pa va kk hpl _).mono ?_
      rintro e w4 ⟨rfl, hbc⟩
      have N4 := N3.keep hbc
      have Q4 := Q3.keep hbc
      have hb4 := hb3.trans (hbc.mono hb3.size)
      clear b1 b2 b3 r1 r2 r3 N3 Q3 hb3 R3 hbc
      cases hf : fineR 1 pa va kk
      · have HZ : Hid (d = (ndZ, 80)) := Lib.hid (by rw [← HD.out, rfin, if_neg (fun h => by have := h.2.1; simp only at this; rw [hf] at this; cases this)])
        go_wp2_with (refine wpList_nodeStore rfl rfl (.tmp 2) (.tmp 94) rfl rfl (kind := 0) (path := []) (val := []) (kid := noK) rfl Q4 ?_; intro wZ QZ mZ)
        have hld := run_loadVar_mid (P := Tryz.prog) wZ w.heap.size 0 69 _ _ (nd_range QZ) Tryz.underlying69 rfl (by rw [nd_len]; exact nd_info)
        refine bodyPost_ret (results_cell_tmp rfl _ _ _ _ rfl hld) rfl ?_
        exact ⟨by rw [HZ.out]; rfl, Below.mod hb4 mZ (by have := (Q4).lt; omega) (by simp)⟩
      · have hw := writ_any 1 pa va kk hf
        have HW := Lib.hid hw
        clear hw
        by_cases hs : enc 1 pa va kk = 1 :: r
        · have HZ : Hid (d = (⟨1, pa, va, kk⟩, 0)) := Lib.hid (by rw [← HD.out, rfin, if_pos ⟨rfl, hf, hs⟩])
          have HS := Lib.hid hs
          clear hs hf
          go_wp2_with (refine wpList_nodeG ?hw (.tmp 5) rfl rfl N4 ?_; (case hw => rfl))
          refine (HW.out _).mono ?_
          rw [HS.out]
          rintro e w5 ⟨rfl, hbc⟩
          have N5 := N4.keep hbc
          have Q5 := Q4.keep hbc
          have hb5 := hb4.trans (hbc.mono hb4.size)
          go_wp2_with (first | (refine wpList_node rfl (.tmp 5) rfl rfl N5 ?_) | (refine wpList_nodeStore rfl rfl (.tmp 2) (.tmp 95) rfl rfl (kind := 1) (path := pa) (val := va) (kid := kk) rfl Q5 ?_; intro w6 Q6 m6))
          have hld := run_loadVar_mid (P := Tryz.prog) w6 w.heap.size 0 69 _ _ (nd_range Q6) Tryz.underlying69 rfl (by rw [nd_len]; exact nd_info)
          refine bodyPost_ret (results_cell_tmp rfl _ _ _ _ rfl hld) rfl ?_
          exact ⟨by rw [HZ.out]; rfl, Below.mod hb5 m6 (by have := Q5.lt; omega) (by simp)⟩
        · have HZ : Hid (d = (ndZ, 80)) := Lib.hid (by rw [← HD.out, rfin, if_neg (fun h => hs h.2.2)])
          have hs2 : (enc 1 pa va kk == (1 :: r : Bs)) = false := by simpa using hs
          clear hs hf
          generalize enc 1 pa va kk = en at *
          go_wp2_with (refine wpList_nodeG ?hw (.tmp 5) rfl rfl N4 ?_; (case hw => rfl))
          refine (HW.out _).mono ?_
          rintro e w5 ⟨rfl, hbc⟩
          have Q5 := Q4.keep hbc
          have hb5 := hb4.trans (hbc.mono hb4.size)
          go_wp2_with (refine wpList_nodeStore rfl rfl (.tmp 2) (.tmp 94) rfl rfl (kind := 0) (path := []) (val := []) (kid := noK) rfl Q5 ?_; intro wZ QZ mZ)
          have hld := run_loadVar_mid (P := Tryz.prog) wZ w.heap.size 0 69 _ _ (nd_range QZ) Tryz.underlying69 rfl (by rw [nd_len]; exact nd_info)
          refine bodyPost_ret (results_cell_tmp rfl _ _ _ _ rfl hld) rfl ?_
          exact ⟨by rw [HZ.out]; rfl, Below.mod hb5 mZ (by have := (Q5).lt; omega) (by simp)⟩
    · have hE3 : (code != 0) = true := by simpa using hE
      have HZ : Hid (d = (ndZ, 80)) := Lib.hid (by rw [← HD.out, rfin, if_neg (fun h => hE h.1)])
      clear hE
      go_wp2_with (refine wpList_nodeStore rfl rfl (.tmp 2) (.tmp 94) rfl rfl (kind := 0) (path := []) (val := []) (kid := noK) rfl Q3 ?_; intro wZ QZ mZ)
      have hld := run_loadVar_mid (P := Tryz.prog) wZ w.heap.size 0 69 _ _ (nd_range QZ) Tryz.underlying69 rfl (by rw [nd_len]; exact nd_info)
      refine bodyPost_ret (results_cell_tmp rfl _ _ _ _ rfl hld) rfl ?_
      exact ⟨by rw [HZ.out]; rfl, Below.mod hb3 mZ (by have := (Q3).lt; omega) (by simp)⟩
  · have HZ : Hid (d = (ndZ, 80)) := Lib.hid (by rw [← HD0.out, if_pos h0])
    have h1 : (u3 != 0) = true := by simpa using h0
    go_wp2_with (refine wpList_nodeStore rfl rfl (.tmp 2) (.tmp 65) rfl rfl (kind := 0) (path := []) (val := []) (kid := noK) rfl Q2 ?_; intro wZ QZ mZ)
    have hld := run_loadVar_mid (P := Tryz.prog) wZ w.heap.size 0 69 _ _ (nd_range QZ) Tryz.underlying69 rfl (by rw [nd_len]; exact nd_info)
    refine bodyPost_ret (results_cell_tmp rfl _ _ _ _ rfl hld) rfl ?_
    exact ⟨by rw [HZ.out]; rfl, Below.mod hb3 mZ (by have := (Q2).lt; omega) (by simp)⟩

set_option maxRecDepth 100000 in
set_option maxHeartbeats 1000000 in
theorem rdec_ext (k : UInt8) (hk1 : k ≠ 1) (hk3 : k ≠ 3) (r : Bs) (hl : r.length < 35184372088000) (w : World) :
    Calls Tryz.prog 32 #[.string ⟨List.toArray (k :: r)⟩] w fun e w' => e = .returned (.tuple #[.agg (nd ((rdec (k :: r)).1.kind) ((rdec (k :: r)).1.path) ((rdec (k :: r)).1.val) ((rdec (k :: r)).1.kid)).toArray, .int .i64 ((rdec (k :: r)).2)]) ∧ Below w.heap.size w w' := by
  generalize hd : rdec (k :: r) = d
  have hn1 : k.toNat ≠ 1 := fun h => hk1 (by rw [← UInt8.toNat_inj]; exact h)
  have hn3 : k.toNat ≠ 3 := fun h => hk3 (by rw [← UInt8.toNat_inj]; exact h)
  have hnl := k.toNat_lt
  have hk1b : ((k.toNat : Int) == 1) = false := by simp; omega
  have hk3b : ((k.toNat : Int) == 3) = false := by simp; omega
  have hml := mText_len r 0 100 (by omega)
  have hmr := mText_rest r 0 100
  rw [show rdec (k :: r) = if (unpack (mText r 0 100).1).2.2 ≠ 0 then (ndZ, 80) else rfin (k :: r) (qE k.toNat r) from by simp [rdec, hk1, hk3]] at hd
  unfold qE at hd
  clear hk1 hk3 hn1 hn3
  generalize hm : mText r 0 100 = m at *
  generalize hu : unpack m.1 = u at *
  have hul := unpack_len m.1
  rw [hu] at hul
  have HM := Lib.hid hm
  have HU := Lib.hid hu
  have HD0 := Lib.hid hd
  clear hm hu hd
  obtain ⟨u1, u2, u3⟩ := u
  have hQ0 := Blk.new w (nd 0 [] [] noK).toArray 69
  have hb0 : Below w.heap.size w (w.alloc (.cells (nd 0 [] [] noK).toArray 69)) := Below.allocS (Below.refl _ _) _
  rw [zero_node] at hb0 hQ0
  go_enter Tryz.func32, Tryz.ntmps32
  go_wp2_with (refine wpList_nodeStore rfl rfl (.tmp 5) (.tmp 22) rfl rfl (kind := (k.toNat : Int)) (path := []) (val := []) (kid := noK) rfl (k2 := 0) (p2 := []) (v2 := []) (kid2 := noK) (Blk.new' (by simp)) ?_; intro wN N mN; obtain ⟨b1, b2, b3⟩ := id N)
  have Q := ((hQ0.alloc (.cells #[.string ⟨List.toArray (r)⟩, .int .i64 (0)] 83)).alloc (.cells #[.int .i64 (0), .string ⟨List.toArray ([])⟩, .string ⟨List.toArray ([])⟩, .string ⟨List.toArray ([])⟩, .string ⟨List.toArray ([])⟩, .string ⟨List.toArray ([])⟩, .string ⟨List.toArray ([])⟩, .string ⟨List.toArray ([])⟩, .string ⟨List.toArray ([])⟩, .string ⟨List.toArray ([])⟩, .string ⟨List.toArray ([])⟩, .string ⟨List.toArray ([])⟩, .string ⟨List.toArray ([])⟩, .string ⟨List.toArray ([])⟩, .string ⟨List.toArray ([])⟩, .string ⟨List.toArray ([])⟩, .string ⟨List.toArray ([])⟩, .string ⟨List.toArray ([])⟩, .string ⟨List.toArray ([])⟩] 69)).mod mN (by simp; omega)
  have hb := Below.mod (Below.allocS (Below.allocS hb0 (.cells #[.string ⟨List.toArray (r)⟩, .int .i64 (0)] 83)) (.cells #[.int .i64 (0), .string ⟨List.toArray ([])⟩, .string ⟨List.toArray ([])⟩, .string ⟨List.toArray ([])⟩, .string ⟨List.toArray ([])⟩, .string ⟨List.toArray ([])⟩, .string ⟨List.toArray ([])⟩, .string ⟨List.toArray ([])⟩, .string ⟨List.toArray ([])⟩, .string ⟨List.toArray ([])⟩, .string ⟨List.toArray ([])⟩, .string ⟨List.toArray ([])⟩, .string ⟨List.toArray ([])⟩, .string ⟨List.toArray ([])⟩, .string ⟨List.toArray ([])⟩, .string ⟨List.toArray ([])⟩, .string ⟨List.toArray ([])⟩, .string ⟨List.toArray ([])⟩, .string ⟨List.toArray ([])⟩] 69)) mN (by simp; omega) (by simp; omega)
  have R := ((Blk.new' (w := w.alloc (.cells #[.int .i64 (0), .string ⟨List.toArray ([])⟩, .string ⟨List.toArray ([])⟩, .string ⟨List.toArray ([])⟩, .string ⟨List.toArray ([])⟩, .string ⟨List.toArray ([])⟩, .string ⟨List.toArray ([])⟩, .string ⟨List.toArray ([])⟩, .string ⟨List.toArray ([])⟩, .string ⟨List.toArray ([])⟩, .string ⟨List.toArray ([])⟩, .string ⟨List.toArray ([])⟩, .string ⟨List.toArray ([])⟩, .string ⟨List.toArray ([])⟩, .string ⟨List.toArray ([])⟩, .string ⟨List.toArray ([])⟩, .string ⟨List.toArray ([])⟩, .string ⟨List.toArray ([])⟩, .string ⟨List.toArray ([])⟩] 69)) (cs := #[.string ⟨List.toArray (r)⟩, .int .i64 (0)]) (t := 83) (n := w.heap.size + 1) (by simp)).alloc (.cells #[.int .i64 (0), .string ⟨List.toArray ([])⟩, .string ⟨List.toArray ([])⟩, .string ⟨List.toArray ([])⟩, .string ⟨List.toArray ([])⟩, .string ⟨List.toArray ([])⟩, .string ⟨List.toArray ([])⟩, .string ⟨List.toArray ([])⟩, .string ⟨List.toArray ([])⟩, .string ⟨List.toArray ([])⟩, .string ⟨List.toArray ([])⟩, .string ⟨List.toArray ([])⟩, .string ⟨List.toArray ([])⟩, .string ⟨List.toArray ([])⟩, .string ⟨List.toArray ([])⟩, .string ⟨List.toArray ([])⟩, .string ⟨List.toArray ([])⟩, .string ⟨List.toArray ([])⟩, .string ⟨List.toArray ([])⟩] 69)).mod mN (by simp)
  rw [← zero_node] at Q
  replace R : RRdr wN (w.heap.size + 1) r 0 := R
  have hsN : w.heap.size + 1 + 1 < wN.heap.size := by have := N.lt; omega
  clear hQ0 hb0 mN
  refine (rrText_any r 0 100 (w.heap.size + 1) wN (by omega) R).mono ?_
  rw [HM.out]
  rintro e w1 ⟨rfl, R1, m1⟩
  have N1 := N.mod m1 (by simp)
  have Q1 := Q.mod m1 (by simp)
  have hb1 := Below.mod hb m1 (by omega) (by simp)
  clear b1 b2 b3 N Q hb m1 R
  go_wp2_with fail
  refine (runpack_any m.1 (by omega) _).mono ?_
  rw [HU.out]
  rintro e w2 ⟨rfl, hb2⟩
  have N2 := N1.keep hb2
  have Q2 := Q1.keep hb2
  have R2 := R1.keep hb2
  have hb3 := hb1.trans (hb2.mono hb1.size)
  clear N1 Q1 R1 hb1 hb2
  by_cases h0 : u3 = 0
  · subst h0
    have HD : Hid (rfin (k :: r) (⟨k.toNat, u1, [], upd noK 0 (mBytes m.2.1 m.2.2 32).1⟩, (mBytes m.2.1 m.2.2 32).2) = d) := Lib.hid (by rw [← HD0.out, if_neg (by simp)])
    clear HD0
    obtain ⟨b1, b2, b3⟩ := id N2
    go_wp2_with fail
    have N3 := N2.set 1 (.string ⟨List.toArray (u1)⟩)
    rw [nd_set1] at N3
    have R3 := R2.other (a := ⟨w.heap.size + 1 + 1, 1, none⟩) (by simp) (.string ⟨List.toArray (u1)⟩)
    have m3 : Mod [w.heap.size + 1 + 1] w2 (w2.setCell ⟨w.heap.size + 1 + 1, 1, none⟩ (.string ⟨List.toArray (u1)⟩)) := (Mod.refl _ _).setCell (.inl (by simp)) _
    have Q3 := Q2.mod m3 (by simp <;> omega)
    have hb4 := Below.mod hb3 m3 (by have := N2.lt; omega) (by simp <;> omega)
    clear m3 b1 b2 b3 N2 R2 Q2 hb3
    generalize w2.setCell ⟨w.heap.size + 1 + 1, 1, none⟩ (.string ⟨List.toArray (u1)⟩) = w3 at *
    refine (rrBytes_any m.2.1 m.2.2 32 (w.heap.size + 1) w3 (by omega) (by omega) R3).mono ?_
    rintro e w4 ⟨rfl, R4, m4⟩
    have N4 := N3.mod m4 (by simp)
    have Q4 := Q3.mod m4 (by simp)
    have hb5 := Below.mod hb4 m4 (by have := N3.lt; omega) (by simp)
    clear m4 N3 R3 Q3 hb4
    have N5 := N4.set (3 + 0) (.string ⟨List.toArray ((mBytes m.2.1 m.2.2 32).1)⟩)
    rw [nd_setk _ _ _ _ _ (by omega)] at N5
    have m5 : Mod [w.heap.size + 1 + 1] w4 (w4.setCell ⟨w.heap.size + 1 + 1, 3, none⟩ (.string ⟨List.toArray ((mBytes m.2.1 m.2.2 32).1)⟩)) := (Mod.refl _ _).setCell (.inl (by simp)) _
    have Q3 := Q4.mod m5 (by simp; omega)
    have hb3 := Below.mod hb5 m5 (by have := N4.lt; omega) (by simp; omega)
    obtain ⟨b1, b2, b3⟩ := id N4
    obtain ⟨r1, r2, r3⟩ := id R4
    generalize hx : ((⟨k.toNat, u1, [], upd noK 0 (mBytes m.2.1 m.2.2 32).1⟩, (mBytes m.2.1 m.2.2 32).2) : Nd × Bs × Int) = x at HD
    have hx' : x.1.kind = (k.toNat : Int) := by subst hx; rfl
    have hpl : x.1.path.length ≤ 9223372036854775807 := by subst hx; show u1.length ≤ _; omega
    have e1 : (mBytes m.2.1 m.2.2 32).1 = x.1.kid 0 := by subst hx; rfl
    have e2 : (mBytes m.2.1 m.2.2 32).2.2 = x.2.2 := by subst hx; rfl
    have R3 := R4
    have N3 : Blk (w4.setCell ⟨w.heap.size + 1 + 1, 3, none⟩ (.string ⟨List.toArray ((mBytes m.2.1 m.2.2 32).1)⟩)) (w.heap.size + 1 + 1) (nd x.1.kind x.1.path x.1.val x.1.kid).toArray := by subst hx; exact N5
    rw [e1] at N3 Q3 hb3 ⊢
    rw [e2] at r1
    clear N5 N4 R4 Q4 hb5 m5 hx e1 e2 HU HM
    obtain ⟨⟨kd, pa, va, kk⟩, rest, code⟩ := x
    have hk0 : kd = (k.toNat : Int) := hx'
    subst hk0
    clear hx'
    by_cases hE : code = 0
    · subst hE
      go_wp2_with (refine wpList_nodeG ?hw (.tmp 5) rfl rfl N3 ?_; (case hw => rfl))
      refine (rfine_any _ pa va kk hpl _).mono ?_
      rintro e w4 ⟨rfl, hbc⟩
      have N4 := N3.keep hbc
      have Q4 := Q3.keep hbc
      have hb4 := hb3.trans (hbc.mono hb3.size)
      clear b1 b2 b3 r1 r2 r3 N3 Q3 hb3 R3 hbc
      cases hf : fineR (k.toNat : Int) pa va kk
      · have HZ : Hid (d = (ndZ, 80)) := Lib.hid (by rw [← HD.out, rfin, if_neg (fun h => by have := h.2.1; simp only at this; rw [hf] at this; cases this)])
        go_wp2_with (refine wpList_nodeStore rfl rfl (.tmp 2) (.tmp 94) rfl rfl (kind := 0) (path := []) (val := []) (kid := noK) rfl Q4 ?_; intro wZ QZ mZ)
        have hld := run_loadVar_mid (P := Tryz.prog) wZ w.heap.size 0 69 _ _ (nd_range QZ) Tryz.underlying69 rfl (by rw [nd_len]; exact nd_info)
        refine bodyPost_ret (results_cell_tmp rfl _ _ _ _ rfl hld) rfl ?_
        exact ⟨by rw [HZ.out]; rfl, Below.mod hb4 mZ (by have := (Q4).lt; omega) (by simp)⟩
      · have hw := writ_any (k.toNat : Int) pa va kk hf
        have HW := Lib.hid hw
        clear hw
        by_cases hs : enc (k.toNat : Int) pa va kk = k :: r
        · have HZ : Hid (d = (⟨(k.toNat : Int), pa, va, kk⟩, 0)) := Lib.hid (by rw [← HD.out, rfin, if_pos ⟨rfl, hf, hs⟩])
          have HS := Lib.hid hs
          clear hs hf
          go_wp2_with (refine wpList_nodeG ?hw (.tmp 5) rfl rfl N4 ?_; (case hw => rfl))
          refine (HW.out _).mono ?_
          rw [HS.out]
          rintro e w5 ⟨rfl, hbc⟩
          have N5 := N4.keep hbc
          have Q5 := Q4.keep hbc
          have hb5 := hb4.trans (hbc.mono hb4.size)
          go_wp2_with (first | (refine wpList_node rfl (.tmp 5) rfl rfl N5 ?_) | (refine wpList_nodeStore rfl rfl (.tmp 2) (.tmp 95) rfl rfl (kind := (k.toNat : Int)) (path := pa) (val := va) (kid := kk) rfl Q5 ?_; intro w6 Q6 m6))
          have hld := run_loadVar_mid (P := Tryz.prog) w6 w.heap.size 0 69 _ _ (nd_range Q6) Tryz.underlying69 rfl (by rw [nd_len]; exact nd_info)
          refine bodyPost_ret (results_cell_tmp rfl _ _ _ _ rfl hld) rfl ?_
          exact ⟨by rw [HZ.out]; rfl, Below.mod hb5 m6 (by have := Q5.lt; omega) (by simp)⟩
        · have HZ : Hid (d = (ndZ, 80)) := Lib.hid (by rw [← HD.out, rfin, if_neg (fun h => hs h.2.2)])
          have hs2 : (enc (k.toNat : Int) pa va kk == (k :: r : Bs)) = false := by simpa using hs
          clear hs hf
          generalize enc (k.toNat : Int) pa va kk = en at *
          go_wp2_with (refine wpList_nodeG ?hw (.tmp 5) rfl rfl N4 ?_; (case hw => rfl))
          refine (HW.out _).mono ?_
          rintro e w5 ⟨rfl, hbc⟩
          have Q5 := Q4.keep hbc
          have hb5 := hb4.trans (hbc.mono hb4.size)
          go_wp2_with (refine wpList_nodeStore rfl rfl (.tmp 2) (.tmp 94) rfl rfl (kind := 0) (path := []) (val := []) (kid := noK) rfl Q5 ?_; intro wZ QZ mZ)
          have hld := run_loadVar_mid (P := Tryz.prog) wZ w.heap.size 0 69 _ _ (nd_range QZ) Tryz.underlying69 rfl (by rw [nd_len]; exact nd_info)
          refine bodyPost_ret (results_cell_tmp rfl _ _ _ _ rfl hld) rfl ?_
          exact ⟨by rw [HZ.out]; rfl, Below.mod hb5 mZ (by have := (Q5).lt; omega) (by simp)⟩
    · have hE3 : (code != 0) = true := by simpa using hE
      have HZ : Hid (d = (ndZ, 80)) := Lib.hid (by rw [← HD.out, rfin, if_neg (fun h => hE h.1)])
      clear hE
      go_wp2_with (refine wpList_nodeStore rfl rfl (.tmp 2) (.tmp 94) rfl rfl (kind := 0) (path := []) (val := []) (kid := noK) rfl Q3 ?_; intro wZ QZ mZ)
      have hld := run_loadVar_mid (P := Tryz.prog) wZ w.heap.size 0 69 _ _ (nd_range QZ) Tryz.underlying69 rfl (by rw [nd_len]; exact nd_info)
      refine bodyPost_ret (results_cell_tmp rfl _ _ _ _ rfl hld) rfl ?_
      exact ⟨by rw [HZ.out]; rfl, Below.mod hb3 mZ (by have := (Q3).lt; omega) (by simp)⟩
  · have HZ : Hid (d = (ndZ, 80)) := Lib.hid (by rw [← HD0.out, if_pos h0])
    have h1 : (u3 != 0) = true := by simpa using h0
    go_wp2_with (refine wpList_nodeStore rfl rfl (.tmp 2) (.tmp 65) rfl rfl (kind := 0) (path := []) (val := []) (kid := noK) rfl Q2 ?_; intro wZ QZ mZ)
    have hld := run_loadVar_mid (P := Tryz.prog) wZ w.heap.size 0 69 _ _ (nd_range QZ) Tryz.underlying69 rfl (by rw [nd_len]; exact nd_info)
    refine bodyPost_ret (results_cell_tmp rfl _ _ _ _ rfl hld) rfl ?_
    exact ⟨by rw [HZ.out]; rfl, Below.mod hb3 mZ (by have := (Q2).lt; omega) (by simp)⟩

end Go.Proofs.YtdddcncjmnekcaaGreatDoor

/- Walks of the document's answer for layer 8: the node of bytes, a branch. -/
set_option linter.unusedSimpArgs false
set_option linter.unusedVariables false
namespace Go.Proofs.YtdddcncjmnekcaaGreatDoor
open Go.RowKit Pl

set_option maxRecDepth 100000 in
set_option maxHeartbeats 1000000 in
theorem rdec_short (r : Bs) (hl : r.length < 2) (w : World) :
    Calls Tryz.prog 32 #[.string ⟨List.toArray (3 :: r)⟩] w fun e w' => e = .returned (.tuple #[.agg (nd 0 ([]) ([]) noK).toArray, .int .i64 (80)]) ∧ Below w.heap.size w w' := by
  generalize hd : ((ndZ, 80) : Nd × Int) = d
  have HZ : Hid (d = (ndZ, 80)) := Lib.hid hd.symm
  clear hd
  have hQ0 := Blk.new w (nd 0 [] [] noK).toArray 69
  have hb0 : Below w.heap.size w (w.alloc (.cells (nd 0 [] [] noK).toArray 69)) := Below.allocS (Below.refl _ _) _
  rw [zero_node] at hb0 hQ0
  go_enter Tryz.func32, Tryz.ntmps32
  go_wp2_with (refine wpList_nodeStore rfl rfl (.tmp 5) (.tmp 22) rfl rfl (kind := 3) (path := []) (val := []) (kid := noK) rfl (k2 := 0) (p2 := []) (v2 := []) (kid2 := noK) (Blk.new' (by simp)) ?_; intro wN N mN; obtain ⟨b1, b2, b3⟩ := id N)
  have Q := ((hQ0.alloc (.cells #[.string ⟨List.toArray (r)⟩, .int .i64 (0)] 83)).alloc (.cells #[.int .i64 (0), .string ⟨List.toArray ([])⟩, .string ⟨List.toArray ([])⟩, .string ⟨List.toArray ([])⟩, .string ⟨List.toArray ([])⟩, .string ⟨List.toArray ([])⟩, .string ⟨List.toArray ([])⟩, .string ⟨List.toArray ([])⟩, .string ⟨List.toArray ([])⟩, .string ⟨List.toArray ([])⟩, .string ⟨List.toArray ([])⟩, .string ⟨List.toArray ([])⟩, .string ⟨List.toArray ([])⟩, .string ⟨List.toArray ([])⟩, .string ⟨List.toArray ([])⟩, .string ⟨List.toArray ([])⟩, .string ⟨List.toArray ([])⟩, .string ⟨List.toArray ([])⟩, .string ⟨List.toArray ([])⟩] 69)).mod mN (by simp; omega)
  have hb := Below.mod (Below.allocS (Below.allocS hb0 (.cells #[.string ⟨List.toArray (r)⟩, .int .i64 (0)] 83)) (.cells #[.int .i64 (0), .string ⟨List.toArray ([])⟩, .string ⟨List.toArray ([])⟩, .string ⟨List.toArray ([])⟩, .string ⟨List.toArray ([])⟩, .string ⟨List.toArray ([])⟩, .string ⟨List.toArray ([])⟩, .string ⟨List.toArray ([])⟩, .string ⟨List.toArray ([])⟩, .string ⟨List.toArray ([])⟩, .string ⟨List.toArray ([])⟩, .string ⟨List.toArray ([])⟩, .string ⟨List.toArray ([])⟩, .string ⟨List.toArray ([])⟩, .string ⟨List.toArray ([])⟩, .string ⟨List.toArray ([])⟩, .string ⟨List.toArray ([])⟩, .string ⟨List.toArray ([])⟩, .string ⟨List.toArray ([])⟩] 69)) mN (by simp; omega) (by simp; omega)
  have R := ((Blk.new' (w := w.alloc (.cells #[.int .i64 (0), .string ⟨List.toArray ([])⟩, .string ⟨List.toArray ([])⟩, .string ⟨List.toArray ([])⟩, .string ⟨List.toArray ([])⟩, .string ⟨List.toArray ([])⟩, .string ⟨List.toArray ([])⟩, .string ⟨List.toArray ([])⟩, .string ⟨List.toArray ([])⟩, .string ⟨List.toArray ([])⟩, .string ⟨List.toArray ([])⟩, .string ⟨List.toArray ([])⟩, .string ⟨List.toArray ([])⟩, .string ⟨List.toArray ([])⟩, .string ⟨List.toArray ([])⟩, .string ⟨List.toArray ([])⟩, .string ⟨List.toArray ([])⟩, .string ⟨List.toArray ([])⟩, .string ⟨List.toArray ([])⟩] 69)) (cs := #[.string ⟨List.toArray (r)⟩, .int .i64 (0)]) (t := 83) (n := w.heap.size + 1) (by simp)).alloc (.cells #[.int .i64 (0), .string ⟨List.toArray ([])⟩, .string ⟨List.toArray ([])⟩, .string ⟨List.toArray ([])⟩, .string ⟨List.toArray ([])⟩, .string ⟨List.toArray ([])⟩, .string ⟨List.toArray ([])⟩, .string ⟨List.toArray ([])⟩, .string ⟨List.toArray ([])⟩, .string ⟨List.toArray ([])⟩, .string ⟨List.toArray ([])⟩, .string ⟨List.toArray ([])⟩, .string ⟨List.toArray ([])⟩, .string ⟨List.toArray ([])⟩, .string ⟨List.toArray ([])⟩, .string ⟨List.toArray ([])⟩, .string ⟨List.toArray ([])⟩, .string ⟨List.toArray ([])⟩, .string ⟨List.toArray ([])⟩] 69)).mod mN (by simp)
  rw [← zero_node] at Q
  replace R : RRdr wN (w.heap.size + 1) r 0 := R
  have hsN : w.heap.size + 1 + 1 < wN.heap.size := by have := N.lt; omega
  clear hQ0 hb0 mN
  refine (rrBytes_any r 0 2 (w.heap.size + 1) wN (by omega) (by omega) R).mono ?_
  rw [show mBytes r 0 2 = ([], r, 20) from by unfold mBytes; rw [if_neg (by simp), if_neg (by omega), if_pos (by omega)]]
  rintro e w1 ⟨rfl, R1, m1⟩
  have Q1 := Q.mod m1 (by simp)
  have hb1 := Below.mod hb m1 (by omega) (by simp)
  go_wp2_with (refine wpList_nodeStore rfl rfl (.tmp 2) (.tmp 31) rfl rfl (kind := 0) (path := []) (val := []) (kid := noK) rfl Q1 ?_; intro wZ QZ mZ)
  have hld := run_loadVar_mid (P := Tryz.prog) wZ w.heap.size 0 69 _ _ (nd_range QZ) Tryz.underlying69 rfl (by rw [nd_len]; exact nd_info)
  refine bodyPost_ret (results_cell_tmp rfl _ _ _ _ rfl hld) rfl ?_
  exact ⟨rfl, Below.mod hb1 mZ (by have := Q1.lt; omega) (by simp)⟩

theorem rdKids_rest (set : Nat) (s : Bs) (c : Int) : ∀ k, (rdKids set s c k).2.1.length ≤ s.length
  | 0 => Nat.le_refl _
  | k + 1 => by
    rw [rdKids]
    split
    · exact Nat.le_trans (mBytes_rest _ _ _) (rdKids_rest set s c k)
    · exact rdKids_rest set s c k
theorem bit_tmod (a n : Nat) : ((a : Int) / 2 ^ n).tmod 2 = ((a / 2 ^ n % 2 : Nat) : Int) := by
  have h : ((a : Int) / 2 ^ n) = ((a / 2 ^ n : Nat) : Int) := by push_cast; rfl
  rw [h, Int.tmod_eq_emod_of_nonneg (Int.natCast_nonneg _)]
  omega

set_option maxRecDepth 100000 in
set_option maxHeartbeats 4000000 in
theorem rdec_branch (a b : UInt8) (r2 : Bs) (hl : (a :: b :: r2).length < 35184372088000) (w : World) :
    Calls Tryz.prog 32 #[.string ⟨List.toArray (3 :: a :: b :: r2)⟩] w fun e w' => e = .returned (.tuple #[.agg (nd ((rdec (3 :: a :: b :: r2)).1.kind) ((rdec (3 :: a :: b :: r2)).1.path) ((rdec (3 :: a :: b :: r2)).1.val) ((rdec (3 :: a :: b :: r2)).1.kid)).toArray, .int .i64 ((rdec (3 :: a :: b :: r2)).2)]) ∧ Below w.heap.size w w' := by
  have hal := a.toNat_lt
  have hbl := b.toNat_lt
  generalize hd : rdec (3 :: a :: b :: r2) = d
  rw [show rdec (3 :: a :: b :: r2) = rfin (3 :: a :: b :: r2) (rdB (a.toNat * 256 + b.toNat) r2) from by simp [rdec]] at hd
  unfold rdB at hd
  generalize hset : a.toNat * 256 + b.toNat = set at *
  have hbits : ∀ k, k < 16 → (k < 8 → set / 2 ^ (15 - k) % 2 = a.toNat / 2 ^ (7 - k) % 2) ∧ (¬ k < 8 → set / 2 ^ (15 - k) % 2 = b.toNat / 2 ^ (15 - k) % 2) := by
    intro k hk
    subst hset
    have hc : k = 0 ∨ k = 1 ∨ k = 2 ∨ k = 3 ∨ k = 4 ∨ k = 5 ∨ k = 6 ∨ k = 7 ∨ k = 8 ∨ k = 9 ∨ k = 10 ∨ k = 11 ∨ k = 12 ∨ k = 13 ∨ k = 14 ∨ k = 15 := by omega
    rcases hc with rfl | rfl | rfl | rfl | rfl | rfl | rfl | rfl | rfl | rfl | rfl | rfl | rfl | rfl | rfl | rfl <;> simp <;> omega
  have HB := Lib.hid hbits
  have HS := Lib.hid hset
  have HD0 := Lib.hid hd
  clear hset hd hbits
  have HL := Lib.hid hl
  generalize hr : a :: b :: r2 = r at hl
  have HR := Lib.hid hr
  clear hr
  have hQ0 := Blk.new w (nd 0 [] [] noK).toArray 69
  have hb0 : Below w.heap.size w (w.alloc (.cells (nd 0 [] [] noK).toArray 69)) := Below.allocS (Below.refl _ _) _
  rw [zero_node] at hb0 hQ0
  go_enter Tryz.func32, Tryz.ntmps32
  go_wp2_with (refine wpList_nodeStore rfl rfl (.tmp 5) (.tmp 22) rfl rfl (kind := 3) (path := []) (val := []) (kid := noK) rfl (k2 := 0) (p2 := []) (v2 := []) (kid2 := noK) (Blk.new' (by simp)) ?_; intro wN N mN; obtain ⟨b1, b2, b3⟩ := id N)
  have Q := ((hQ0.alloc (.cells #[.string ⟨List.toArray (r)⟩, .int .i64 (0)] 83)).alloc (.cells #[.int .i64 (0), .string ⟨List.toArray ([])⟩, .string ⟨List.toArray ([])⟩, .string ⟨List.toArray ([])⟩, .string ⟨List.toArray ([])⟩, .string ⟨List.toArray ([])⟩, .string ⟨List.toArray ([])⟩, .string ⟨List.toArray ([])⟩, .string ⟨List.toArray ([])⟩, .string ⟨List.toArray ([])⟩, .string ⟨List.toArray ([])⟩, .string ⟨List.toArray ([])⟩, .string ⟨List.toArray ([])⟩, .string ⟨List.toArray ([])⟩, .string ⟨List.toArray ([])⟩, .string ⟨List.toArray ([])⟩, .string ⟨List.toArray ([])⟩, .string ⟨List.toArray ([])⟩, .string ⟨List.toArray ([])⟩] 69)).mod mN (by simp; omega)
  have hb := Below.mod (Below.allocS (Below.allocS hb0 (.cells #[.string ⟨List.toArray (r)⟩, .int .i64 (0)] 83)) (.cells #[.int .i64 (0), .string ⟨List.toArray ([])⟩, .string ⟨List.toArray ([])⟩, .string ⟨List.toArray ([])⟩, .string ⟨List.toArray ([])⟩, .string ⟨List.toArray ([])⟩, .string ⟨List.toArray ([])⟩, .string ⟨List.toArray ([])⟩, .string ⟨List.toArray ([])⟩, .string ⟨List.toArray ([])⟩, .string ⟨List.toArray ([])⟩, .string ⟨List.toArray ([])⟩, .string ⟨List.toArray ([])⟩, .string ⟨List.toArray ([])⟩, .string ⟨List.toArray ([])⟩, .string ⟨List.toArray ([])⟩, .string ⟨List.toArray ([])⟩, .string ⟨List.toArray ([])⟩, .string ⟨List.toArray ([])⟩] 69)) mN (by simp; omega) (by simp; omega)
  have R := ((Blk.new' (w := w.alloc (.cells #[.int .i64 (0), .string ⟨List.toArray ([])⟩, .string ⟨List.toArray ([])⟩, .string ⟨List.toArray ([])⟩, .string ⟨List.toArray ([])⟩, .string ⟨List.toArray ([])⟩, .string ⟨List.toArray ([])⟩, .string ⟨List.toArray ([])⟩, .string ⟨List.toArray ([])⟩, .string ⟨List.toArray ([])⟩, .string ⟨List.toArray ([])⟩, .string ⟨List.toArray ([])⟩, .string ⟨List.toArray ([])⟩, .string ⟨List.toArray ([])⟩, .string ⟨List.toArray ([])⟩, .string ⟨List.toArray ([])⟩, .string ⟨List.toArray ([])⟩, .string ⟨List.toArray ([])⟩, .string ⟨List.toArray ([])⟩] 69)) (cs := #[.string ⟨List.toArray (r)⟩, .int .i64 (0)]) (t := 83) (n := w.heap.size + 1) (by simp)).alloc (.cells #[.int .i64 (0), .string ⟨List.toArray ([])⟩, .string ⟨List.toArray ([])⟩, .string ⟨List.toArray ([])⟩, .string ⟨List.toArray ([])⟩, .string ⟨List.toArray ([])⟩, .string ⟨List.toArray ([])⟩, .string ⟨List.toArray ([])⟩, .string ⟨List.toArray ([])⟩, .string ⟨List.toArray ([])⟩, .string ⟨List.toArray ([])⟩, .string ⟨List.toArray ([])⟩, .string ⟨List.toArray ([])⟩, .string ⟨List.toArray ([])⟩, .string ⟨List.toArray ([])⟩, .string ⟨List.toArray ([])⟩, .string ⟨List.toArray ([])⟩, .string ⟨List.toArray ([])⟩, .string ⟨List.toArray ([])⟩] 69)).mod mN (by simp)
  rw [← zero_node] at Q
  replace R : RRdr wN (w.heap.size + 1) r 0 := R
  have hsN : w.heap.size + 1 + 1 < wN.heap.size := by have := N.lt; omega
  clear hQ0 hb0 mN
  rw [← HR.out] at R
  refine (rrBytes_any (a :: b :: r2) 0 2 (w.heap.size + 1) wN (by have := HL.out; omega) (by omega) R).mono ?_
  rw [show mBytes (a :: b :: r2) 0 2 = ([a, b], r2, 0) from by unfold mBytes; rw [if_neg (by simp), if_neg (by omega), if_neg (by simp; omega)]; simp]
  rintro e w1 ⟨rfl, R1, m1⟩
  have Q1 := Q.mod m1 (by simp)
  have N1 := N.mod m1 (by simp)
  have hb1 := Below.mod hb m1 (by omega) (by simp)
  clear b1 b2 b3 N Q hb m1 R
  go_wp2_with fail
  go_loopw [7] (fun s7 wr => ∃ k : Nat, k ≤ 16 ∧ s7 = .int .i64 k ∧ RRdr wr (w.heap.size + 1) (rdKids set r2 0 k).2.1 (rdKids set r2 0 k).2.2 ∧ Blk wr (w.heap.size + 1 + 1) (nd 3 ([]) ([]) ((rdKids set r2 0 k).1)).toArray ∧ Blk wr w.heap.size (nd 0 ([]) ([]) noK).toArray ∧ Below w.heap.size w wr) (fun s7 _ => 16 - (intOf s7).toNat)
  case atStart => exact ⟨0, by omega, rfl, R1, N1, Q1, hb1⟩
  case round =>
    obtain ⟨k, hk, rfl, R2, N2, Q2, hb2⟩ := hrel
    rename_i wr
    clear R1 N1 Q1 hb1
    have hsw := N2.lt
    by_cases hlt : k < 16
    · have hlt' : (k : Int) < 16 := by omega
      obtain ⟨g1, g2⟩ := HB.out k hlt
      by_cases h8 : k < 8
      · have hq : (k : Int) / 8 = 0 := by omega
        have hsh : 7 - (k : Int) % 8 = ((7 - k : Nat) : Int) := by omega
        have HT : ((a.toNat : Int) / 2 ^ (7 - k)).tmod 2 = ((set / 2 ^ (15 - k) % 2 : Nat) : Int) := by rw [bit_tmod, g1 h8]
        clear g1 g2
        by_cases hbit : set / 2 ^ (15 - k) % 2 = 1
        · rw [hbit] at HT
          have HK : Hid (rdKids set r2 0 (k + 1) = (upd (rdKids set r2 0 k).1 k (mBytes (rdKids set r2 0 k).2.1 (rdKids set r2 0 k).2.2 32).1, (mBytes (rdKids set r2 0 k).2.1 (rdKids set r2 0 k).2.2 32).2)) := Lib.hid (by rw [rdKids, if_pos hbit])
          have hlr := Nat.lt_of_le_of_lt (rdKids_rest set r2 0 k) (show r2.length < 9223372036854775800 by have := HL.out; simp at this; omega)
          clear hbit
          generalize rdKids set r2 0 k = st at *
          go_wp2_with fail
          refine (rrBytes_any st.2.1 st.2.2 32 (w.heap.size + 1) wr hlr (by omega) R2).mono ?_
          rintro e w2 ⟨rfl, R3, m3⟩
          have N3 := N2.mod m3 (by simp)
          have Q3 := Q2.mod m3 (by simp)
          have hb3 := Below.mod hb2 m3 (by omega) (by simp)
          have hck := blk_kid N3 k hlt
          have c2 := N3.froz
          have c3 := N3.lt
          have N4 := N3.set (3 + k) (.string ⟨List.toArray ((mBytes st.2.1 st.2.2 32).1)⟩)
          rw [nd_setk _ _ _ _ _ hlt] at N4
          have m4 : Mod [w.heap.size + 1 + 1] w2 (w2.setCell ⟨w.heap.size + 1 + 1, 3 + k, none⟩ (.string ⟨List.toArray ((mBytes st.2.1 st.2.2 32).1)⟩)) := (Mod.refl _ _).setCell (.inl (by simp)) _
          have Q4 := Q3.mod m4 (by simp <;> omega)
          have R4 := R3.other (a := ⟨w.heap.size + 1 + 1, 3 + k, none⟩) (by simp <;> omega) (.string ⟨List.toArray ((mBytes st.2.1 st.2.2 32).1)⟩)
          have hb4 := Below.mod hb3 m4 (by omega) (by simp <;> omega)
          have HQ4 := Lib.hid Q4
          have HR4 := Lib.hid R4
          have HN4 := Lib.hid N4
          have Hb4 := Lib.hid hb4
          clear N4 R4 Q4 hb4 m4 N3 Q3 R3 hb3 m3 N2 R2 Q2 hb2
          go_wp2_with fail
          exact ⟨⟨k + 1, by omega, by go_num, by rw [HK.out]; exact HR4.out, by rw [HK.out]; exact HN4.out, HQ4.out, Hb4.out⟩, by simp [intOf]; omega⟩
        · have hbit0 : set / 2 ^ (15 - k) % 2 = 0 := by omega
          rw [hbit0] at HT
          have HK : Hid (rdKids set r2 0 (k + 1) = rdKids set r2 0 k) := Lib.hid (by rw [rdKids, if_neg hbit])
          clear hbit hbit0
          go_wp2_with fail
          exact ⟨⟨k + 1, by omega, by go_num, by rw [HK.out]; exact R2, by rw [HK.out]; exact N2, Q2, hb2⟩, by simp [intOf]; omega⟩
      · have hq : (k : Int) / 8 = 1 := by omega
        have hsh : 7 - (k : Int) % 8 = ((15 - k : Nat) : Int) := by omega
        have HT : ((b.toNat : Int) / 2 ^ (15 - k)).tmod 2 = ((set / 2 ^ (15 - k) % 2 : Nat) : Int) := by rw [bit_tmod, g2 h8]
        clear g1 g2
        by_cases hbit : set / 2 ^ (15 - k) % 2 = 1
        · rw [hbit] at HT
          have HK : Hid (rdKids set r2 0 (k + 1) = (upd (rdKids set r2 0 k).1 k (mBytes (rdKids set r2 0 k).2.1 (rdKids set r2 0 k).2.2 32).1, (mBytes (rdKids set r2 0 k).2.1 (rdKids set r2 0 k).2.2 32).2)) := Lib.hid (by rw [rdKids, if_pos hbit])
          have hlr := Nat.lt_of_le_of_lt (rdKids_rest set r2 0 k) (show r2.length < 9223372036854775800 by have := HL.out; simp at this; omega)
          clear hbit
          generalize rdKids set r2 0 k = st at *
          go_wp2_with fail
          refine (rrBytes_any st.2.1 st.2.2 32 (w.heap.size + 1) wr hlr (by omega) R2).mono ?_
          rintro e w2 ⟨rfl, R3, m3⟩
          have N3 := N2.mod m3 (by simp)
          have Q3 := Q2.mod m3 (by simp)
          have hb3 := Below.mod hb2 m3 (by omega) (by simp)
          have hck := blk_kid N3 k hlt
          have c2 := N3.froz
          have c3 := N3.lt
          have N4 := N3.set (3 + k) (.string ⟨List.toArray ((mBytes st.2.1 st.2.2 32).1)⟩)
          rw [nd_setk _ _ _ _ _ hlt] at N4
          have m4 : Mod [w.heap.size + 1 + 1] w2 (w2.setCell ⟨w.heap.size + 1 + 1, 3 + k, none⟩ (.string ⟨List.toArray ((mBytes st.2.1 st.2.2 32).1)⟩)) := (Mod.refl _ _).setCell (.inl (by simp)) _
          have Q4 := Q3.mod m4 (by simp <;> omega)
          have R4 := R3.other (a := ⟨w.heap.size + 1 + 1, 3 + k, none⟩) (by simp <;> omega) (.string ⟨List.toArray ((mBytes st.2.1 st.2.2 32).1)⟩)
          have hb4 := Below.mod hb3 m4 (by omega) (by simp <;> omega)
          have HQ4 := Lib.hid Q4
          have HR4 := Lib.hid R4
          have HN4 := Lib.hid N4
          have Hb4 := Lib.hid hb4
          clear N4 R4 Q4 hb4 m4 N3 Q3 R3 hb3 m3 N2 R2 Q2 hb2
          go_wp2_with fail
          exact ⟨⟨k + 1, by omega, by go_num, by rw [HK.out]; exact HR4.out, by rw [HK.out]; exact HN4.out, HQ4.out, Hb4.out⟩, by simp [intOf]; omega⟩
        · have hbit0 : set / 2 ^ (15 - k) % 2 = 0 := by omega
          rw [hbit0] at HT
          have HK : Hid (rdKids set r2 0 (k + 1) = rdKids set r2 0 k) := Lib.hid (by rw [rdKids, if_neg hbit])
          clear hbit hbit0
          go_wp2_with fail
          exact ⟨⟨k + 1, by omega, by go_num, by rw [HK.out]; exact R2, by rw [HK.out]; exact N2, Q2, hb2⟩, by simp [intOf]; omega⟩
    · have hke : k = 16 := by omega
      subst hke
      have HD : Hid (rfin (3 :: r) (⟨3, [], (mText (rdKids set r2 0 16).2.1 (rdKids set r2 0 16).2.2 32).1, (rdKids set r2 0 16).1⟩, (mText (rdKids set r2 0 16).2.1 (rdKids set r2 0 16).2.2 32).2) = d) := by
        have h := HD0.out
        rw [HR.out] at h
        exact Lib.hid h
      have hlr := Nat.lt_of_le_of_lt (rdKids_rest set r2 0 16) (show r2.length < 9223372036854775800 by have := HL.out; simp at this; omega)
      clear HD0 HS HB
      generalize rdKids set r2 0 16 = st at *
      go_wp2_with fail
      refine (rrText_any st.2.1 st.2.2 32 (w.heap.size + 1) wr hlr R2).mono ?_
      rintro e w4 ⟨rfl, R4, m4⟩
      have N4 := N2.mod m4 (by simp)
      have Q4 := Q2.mod m4 (by simp)
      have hb5 := Below.mod hb2 m4 (by omega) (by simp)
      clear m4 N2 R2 Q2 hb2
      have N5 := N4.set 2 (.string ⟨List.toArray ((mText st.2.1 st.2.2 32).1)⟩)
      rw [nd_set2] at N5
      have m5 : Mod [w.heap.size + 1 + 1] w4 (w4.setCell ⟨w.heap.size + 1 + 1, 2, none⟩ (.string ⟨List.toArray ((mText st.2.1 st.2.2 32).1)⟩)) := (Mod.refl _ _).setCell (.inl (by simp)) _
      have Q3 := Q4.mod m5 (by simp <;> omega)
      have hb3 := Below.mod hb5 m5 (by have := N4.lt; omega) (by simp <;> omega)
      obtain ⟨b1, b2, b3⟩ := id N4
      obtain ⟨r1, r2, r3⟩ := id R4
      generalize hx : ((⟨3, [], (mText st.2.1 st.2.2 32).1, st.1⟩, (mText st.2.1 st.2.2 32).2) : Nd × Bs × Int) = x at HD
      have hx' : x.1.kind = 3 := by subst hx; rfl
      have hpl : x.1.path.length ≤ 9223372036854775807 := by subst hx; show ([] : Bs).length ≤ _; simp
      have e1 : (mText st.2.1 st.2.2 32).1 = x.1.val := by subst hx; rfl
      have e2 : (mText st.2.1 st.2.2 32).2.2 = x.2.2 := by subst hx; rfl
      have R3 := R4
      have N3 : Blk (w4.setCell ⟨w.heap.size + 1 + 1, 2, none⟩ (.string ⟨List.toArray ((mText st.2.1 st.2.2 32).1)⟩)) (w.heap.size + 1 + 1) (nd x.1.kind x.1.path x.1.val x.1.kid).toArray := by subst hx; exact N5
      rw [e1] at N3 Q3 hb3 ⊢
      rw [e2] at r1
      clear N5 N4 R4 Q4 hb5 m5 hx e1 e2 HR HL
      obtain ⟨⟨kd, pa, va, kk⟩, rest, code⟩ := x
      have hk0 : kd = 3 := hx'
      subst hk0
      clear hx'
      by_cases hE : code = 0
      · subst hE
        go_wp2_with (refine wpList_nodeG ?hw (.tmp 5) rfl rfl N3 ?_; (case hw => rfl))
        refine (rfine_any _ pa va kk hpl _).mono ?_
        rintro e w4 ⟨rfl, hbc⟩
        have N4 := N3.keep hbc
        have Q4 := Q3.keep hbc
        have hb4 := hb3.trans (hbc.mono hb3.size)
        clear b1 b2 b3 r1 r2 r3 N3 Q3 hb3 R3 hbc
        cases hf : fineR 3 pa va kk
        · have HZ : Hid (d = (ndZ, 80)) := Lib.hid (by rw [← HD.out, rfin, if_neg (fun h => by have := h.2.1; simp only at this; rw [hf] at this; cases this)])
          go_wp2_with (refine wpList_nodeStore rfl rfl (.tmp 2) (.tmp 94) rfl rfl (kind := 0) (path := []) (val := []) (kid := noK) rfl Q4 ?_; intro wZ QZ mZ)
          have hld := run_loadVar_mid (P := Tryz.prog) wZ w.heap.size 0 69 _ _ (nd_range QZ) Tryz.underlying69 rfl (by rw [nd_len]; exact nd_info)
          refine bodyPost_ret (results_cell_tmp rfl _ _ _ _ rfl hld) rfl ?_
          exact ⟨by rw [HZ.out]; rfl, Below.mod hb4 mZ (by have := (Q4).lt; omega) (by simp)⟩
        · have hw := writ_any 3 pa va kk hf
          have HW := Lib.hid hw
          clear hw
          by_cases hs : enc 3 pa va kk = 3 :: r
          · have HZ : Hid (d = (⟨3, pa, va, kk⟩, 0)) := Lib.hid (by rw [← HD.out, rfin, if_pos ⟨rfl, hf, hs⟩])
            have HS := Lib.hid hs
            clear hs hf
            go_wp2_with (refine wpList_nodeG ?hw (.tmp 5) rfl rfl N4 ?_; (case hw => rfl))
            refine (HW.out _).mono ?_
            rw [HS.out]
            rintro e w5 ⟨rfl, hbc⟩
            have N5 := N4.keep hbc
            have Q5 := Q4.keep hbc
            have hb5 := hb4.trans (hbc.mono hb4.size)
            go_wp2_with (first | (refine wpList_node rfl (.tmp 5) rfl rfl N5 ?_) | (refine wpList_nodeStore rfl rfl (.tmp 2) (.tmp 95) rfl rfl (kind := 3) (path := pa) (val := va) (kid := kk) rfl Q5 ?_; intro w6 Q6 m6))
            have hld := run_loadVar_mid (P := Tryz.prog) w6 w.heap.size 0 69 _ _ (nd_range Q6) Tryz.underlying69 rfl (by rw [nd_len]; exact nd_info)
            refine bodyPost_ret (results_cell_tmp rfl _ _ _ _ rfl hld) rfl ?_
            exact ⟨by rw [HZ.out]; rfl, Below.mod hb5 m6 (by have := Q5.lt; omega) (by simp)⟩
          · have HZ : Hid (d = (ndZ, 80)) := Lib.hid (by rw [← HD.out, rfin, if_neg (fun h => hs h.2.2)])
            have hs2 : (enc 3 pa va kk == (3 :: r : Bs)) = false := by simpa using hs
            clear hs hf
            generalize enc 3 pa va kk = en at *
            go_wp2_with (refine wpList_nodeG ?hw (.tmp 5) rfl rfl N4 ?_; (case hw => rfl))
            refine (HW.out _).mono ?_
            rintro e w5 ⟨rfl, hbc⟩
            have Q5 := Q4.keep hbc
            have hb5 := hb4.trans (hbc.mono hb4.size)
            go_wp2_with (refine wpList_nodeStore rfl rfl (.tmp 2) (.tmp 94) rfl rfl (kind := 0) (path := []) (val := []) (kid := noK) rfl Q5 ?_; intro wZ QZ mZ)
            have hld := run_loadVar_mid (P := Tryz.prog) wZ w.heap.size 0 69 _ _ (nd_range QZ) Tryz.underlying69 rfl (by rw [nd_len]; exact nd_info)
            refine bodyPost_ret (results_cell_tmp rfl _ _ _ _ rfl hld) rfl ?_
            exact ⟨by rw [HZ.out]; rfl, Below.mod hb5 mZ (by have := (Q5).lt; omega) (by simp)⟩
      · have hE3 : (code != 0) = true := by simpa using hE
        have HZ : Hid (d = (ndZ, 80)) := Lib.hid (by rw [← HD.out, rfin, if_neg (fun h => hE h.1)])
        clear hE
        go_wp2_with (refine wpList_nodeStore rfl rfl (.tmp 2) (.tmp 94) rfl rfl (kind := 0) (path := []) (val := []) (kid := noK) rfl Q3 ?_; intro wZ QZ mZ)
        have hld := run_loadVar_mid (P := Tryz.prog) wZ w.heap.size 0 69 _ _ (nd_range QZ) Tryz.underlying69 rfl (by rw [nd_len]; exact nd_info)
        refine bodyPost_ret (results_cell_tmp rfl _ _ _ _ rfl hld) rfl ?_
        exact ⟨by rw [HZ.out]; rfl, Below.mod hb3 mZ (by have := (Q3).lt; omega) (by simp)⟩

theorem rdecode_any (s : Bs) (hl : s.length < 35184372088000) (w : World) :
    Calls Tryz.prog 32 #[.string ⟨List.toArray (s)⟩] w fun e w' => e = .returned (.tuple #[.agg (nd ((dec s).1.kind) ((dec s).1.path) ((dec s).1.val) ((dec s).1.kid)).toArray, .int .i64 ((dec s).2)]) ∧ Below w.heap.size w w' := by
  rw [← rdec_dec]
  match s, hl with
  | [], _ => exact rdec_nil w
  | k :: r, hl =>
    simp at hl
    by_cases h1 : k = 1
    · subst h1; exact rdec_leaf r (by omega) w
    · by_cases h3 : k = 3
      · subst h3
        match r, hl with
        | [], _ => exact rdec_short [] (by simp) w
        | [x], _ => exact rdec_short [x] (by simp) w
        | a :: b :: r, hl => exact rdec_branch a b r (by simp at hl ⊢; omega) w
      · exact rdec_ext k h1 h3 r (by omega) w

end Go.Proofs.YtdddcncjmnekcaaGreatDoor

/- Walks of the document's answer for layer 9: the node of a sum. -/
set_option linter.unusedSimpArgs false
set_option linter.unusedVariables false
namespace Go.Proofs.YtdddcncjmnekcaaGreatDoor
open Go.RowKit Pl

def nodeD (l : List (Bs × Bs)) (k : Bs) : Nd × Int := if hereI k l then dec (getD9 l k) else (ndZ, 90)
theorem nodeD_in {l : List (Bs × Bs)} {k : Bs} (h : hereI k l = true) : nodeD l k = dec (getD9 l k) := if_pos h
theorem nodeD_out {l : List (Bs × Bs)} {k : Bs} (h : hereI k l = false) : nodeD l k = (ndZ, 90) := by unfold nodeD; rw [h]; rfl
set_option maxRecDepth 100000 in
set_option maxHeartbeats 1000000 in
theorem dnode_any (val : Value) (l : List (Bs × Bs)) (k : Bs) (hsh : (getD9 l k).length ≤ 1000) (w : World) (hv : NL w val l) :
    Calls Tryz.prog 31 #[val, .string ⟨List.toArray (k)⟩] w fun e w' => e = .returned (.tuple #[.agg (nd ((nodeD l k).1.kind) ((nodeD l k).1.path) ((nodeD l k).1.val) ((nodeD l k).1.kid)).toArray, .int .i64 ((nodeD l k).2)]) ∧ Below w.heap.size w w' := by
  have hQ0 := Blk.new w (nd 0 [] [] noK).toArray 69
  have hb0 : Below w.heap.size w (w.alloc (.cells (nd 0 [] [] noK).toArray 69)) := Below.allocS (Below.refl _ _) _
  have hg := dget_any val l k _ (hv.keep hb0)
  have HI : Hid (hereI k l = true → nodeD l k = dec (getD9 l k)) := Lib.hid nodeD_in
  have HO : Hid (hereI k l = false → nodeD l k = (ndZ, 90)) := Lib.hid nodeD_out
  generalize getD9 l k = s at *
  generalize hr : nodeD l k = r at *
  clear hr hv
  rw [zero_node] at hb0 hQ0 hg
  cases hin : hereI k l
  · rw [hin] at hg
    have hr := HO.out hin
    subst hr
    clear HI HO hin
    go_enter Tryz.func31, Tryz.ntmps31
    go_wp2_with fail
    refine hg.mono ?_
    rintro e w1 ⟨rfl, n1, rfl⟩
    have hb1 := below_drewN hb0 n1
    have hQ1 := hQ0.keep (below_drewN (Below.refl _ _) n1)
    rw [← zero_node] at hQ1
    clear hg hb0 hQ0
    go_wp2_with (refine wpList_nodeStore rfl rfl (.tmp 4) (.tmp 16) rfl rfl (kind := 0) (path := []) (val := []) (kid := noK) rfl hQ1 ?_; intro w3 Q3 m3)
    have hld := run_loadVar_mid (P := Tryz.prog) w3 w.heap.size 0 69 _ _ (nd_range Q3) Tryz.underlying69 rfl (by rw [nd_len]; exact nd_info)
    refine bodyPost_ret (results_cell_tmp rfl _ _ _ _ rfl hld) rfl ?_
    exact ⟨rfl, Below.mod hb1 m3 hb1.size (by simp)⟩
  · rw [hin] at hg
    have hr := HI.out hin
    have HR := Lib.hid hr
    have hde := rdecode_any s (by omega)
    rw [← HR.out] at hde
    obtain ⟨⟨kd, pa, va, kk⟩, code⟩ := r
    simp only at hde
    clear HI HO hin hr HR
    go_enter Tryz.func31, Tryz.ntmps31
    go_wp2_with fail
    refine hg.mono ?_
    rintro e w1 ⟨rfl, n1, rfl⟩
    have hb1 := below_drewN hb0 n1
    have hQ1 := hQ0.keep (below_drewN (Below.refl _ _) n1)
    rw [← zero_node] at hQ1
    clear hg hb0 hQ0
    go_wp2_with fail
    refine (hde _).mono ?_
    rintro e w2 ⟨rfl, hb⟩
    have hb2 := hb1.trans (hb.mono hb1.size)
    have hQ2 := hQ1.keep hb
    go_wp2_with (refine wpList_nodeStore rfl rfl (.tmp 4) (.tmp 19) rfl rfl (kind := kd) (path := pa) (val := va) (kid := kk) rfl hQ2 ?_; intro w3 Q3 m3)
    have hld := run_loadVar_mid (P := Tryz.prog) w3 w.heap.size 0 69 _ _ (nd_range Q3) Tryz.underlying69 rfl (by rw [nd_len]; exact nd_info)
    refine bodyPost_ret (results_cell_tmp rfl _ _ _ _ rfl hld) rfl ?_
    exact ⟨rfl, Below.mod hb2 m3 hb2.size (by simp)⟩
end Go.Proofs.YtdddcncjmnekcaaGreatDoor
