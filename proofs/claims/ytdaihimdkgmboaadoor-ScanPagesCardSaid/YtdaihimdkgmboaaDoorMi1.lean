/- ScPages. -/
import Derived.Test.YtdaihimdkgmboaaDoorMh1
set_option linter.unnecessarySimpa false

/- Page by page: the walk of ScanPages. -/
set_option linter.unusedSimpArgs false
set_option linter.unusedVariables false
namespace Go.Proofs.YtdaihimdkgmboaaDoor
open Go.RowKit Pl

namespace Pl
/-- A page, and what is behind it. -/
theorem page_go (f e : Bs) (m : Nat) (l : List It) (h : Rise l) (hk : ∀ x ∈ l, x.1.length ≤ 8) (h1 : 1 ≤ m) :
    ((wI f e l).length ≤ m ∧ nextP (wI f e l) m = [] ∧ (wI f e l).take m = wI f e l) ∨
    (m < (wI f e l).length ∧ nextP (wI f e l) m ≠ [] ∧ ((wI f e l).take m).length = m ∧ wI f e l = (wI f e l).take m ++ wI (nextP (wI f e l) m) e l) := by
  rcases Nat.lt_or_ge m (wI f e l).length with hm | hm
  · right
    have hall := wI_all f e l h
    have hn : nextP (wI f e l) m = pageN f e m l := by
      unfold nextP pageN
      rw [hall]
    rw [hall] at hm
    obtain ⟨p1, p2⟩ := page_next f e m l h hk h1 hm
    refine ⟨by rw [hall]; exact hm, by rw [hn]; exact p1, by rw [hall, List.length_take]; omega, ?_⟩
    rw [hn, wI_all (pageN f e m l) e l h, p2, hall, List.take_append_drop]
  · left
    refine ⟨hm, ?_, List.take_of_length_le hm⟩
    unfold nextP
    rw [if_pos hm]
end Pl

namespace Pl
theorem allI_take (f e : Bs) (l : List It) (i : Nat) (hi : i < l.length) : allI f e (l.take (i + 1)) = if inR f e (l.getD i ([], [])).1 then allI f e (l.take i) ++ [l.getD i ([], [])] else allI f e (l.take i) := by
  rw [takeI l i hi]
  unfold allI
  rw [List.filter_append]
  by_cases h : inR f e (l.getD i ([], [])).1 = true
  · rw [if_pos h, List.filter_cons, if_pos h]; rfl
  · rw [if_neg h, List.filter_cons, if_neg h]; simp
end Pl

set_option maxRecDepth 100000 in
set_option maxHeartbeats 8000000 in
theorem scanpages_any (v : Value) (l : List It) (hsh : ∀ x ∈ l, x.1.length ≤ 9223372036854775807 ∧ x.2.length ≤ 9223372036854775807) (a b : Bs) (mo : Int) (w : World) (hk : KT w) (hv : IL w v l) :
    Calls Tryd.prog 5 #[v, .agg #[.string ⟨List.toArray (a)⟩, .string ⟨List.toArray (b)⟩], .int .i64 (mo)] w fun e w' => e = .returned (.bool true) ∧ Below w.heap.size w w' := by
  have B0 := Blk.new w #[.string ⟨List.toArray (a)⟩, .string ⟨List.toArray (b)⟩] 26
  have hb0 : Below w.heap.size w (w.alloc (.cells #[.string ⟨List.toArray (a)⟩, .string ⟨List.toArray (b)⟩] 26)) := Below.allocS (Below.refl _ _) _
  have HW := Lib.hid (works11_any _ (hk.keep hb0))
  have HO := Lib.hid (fun W (hb : Below w.heap.size w W) => tof_any v l hsh W (hk.keep hb) (hv.keep hb))
  obtain ⟨va, vc, rfl⟩ := hv.form
  have hls := hv.small
  have HB0 := Lib.hid B0
  have Hb0 := Lib.hid hb0
  clear hsh hk hv B0 hb0
  go_enter Tryd.func5, Tryd.ntmps5
  go_wp2_with fail
  refine HW.out.mono ?_
  rintro e w1 ⟨rfl, hb1⟩
  have hw1 := Hb0.out.trans (hb1.mono Hb0.out.size)
  have HB1 := Lib.hid (HB0.out.keep hb1)
  clear HW HB0 Hb0 hb1
  go_wp2_with fail
  refine (HO.out w1 hw1).mono ?_
  rintro e w2 ⟨hb2, h | h⟩
  · obtain ⟨hc0, pt, t, rfl, hT, hR⟩ := h
    have hw2 := hw1.trans (hb2.mono hw1.size)
    have B2 := HB1.out.keep hb2
    by_cases h1 : 40 < l.length
    · have d1 : decide ((40 : Int) < (l.length : Int)) = true := by simp only [decide_eq_true_eq]; omega
      clear hc0 hT hR h1 B2
      go_wp2_with fail
      go_ret
      exact ⟨rfl, hw2⟩
    have d1 : decide ((40 : Int) < (l.length : Int)) = false := by simp only [decide_eq_false_iff_not]; omega
    have hris := hR.rise
    have hLs := rep_small (by omega) hR
    have hgood := ofI_good l [] GoodI.nil
    generalize (ofI [] l).1 = L at *
    have hm := modN_lt mo 16 (by omega)
    have HBL := Lib.hid (below_any mo 16 (by omega) (by omega))
    rw [show ((16 : Nat) : Int) = 16 from rfl] at HBL
    have HC := Lib.hid (fun W hW => count_any pt t L hR (by omega) a b W hW)
    have HI := Lib.hid (fun W hW => titems_any pt t L hR (by omega) W hW)
    have HR := Lib.hid (fun f W hW => range_yes pt t L hR (by omega) f b (modN mo 16 + 1) (by omega) (by omega) W hW)
    rw [show ((modN mo 16 + 1 : Nat) : Int) = 1 + (modN mo 16 : Int) from by omega] at HR
    have HPG := Lib.hid (fun f => page_go f b (modN mo 16 + 1) L hris hgood.keys (by omega))
    have HALL := Lib.hid (wI_all a b L hris)
    have hwl := wI_len a b L
    have HT2 := Lib.hid hT
    have HB2 := Lib.hid B2
    clear hc0 hT hR h1 hris hgood B2 HB1 HO hb2 hw1
    generalize modN mo 16 = m at *
    go_wp2_with fail
    refine (HBL.out _).mono ?_
    rintro e wz ⟨rfl, rfl⟩
    clear HBL
    go_wp2_with fail
    refine (HI.out _ HT2.out).mono ?_
    rintro e w3 ⟨v3, rfl, hr3, hb3⟩
    obtain ⟨va3, vc3, rfl⟩ := hr3.form
    have hil3 := hr3.il
    have hw3 := hw2.trans (hb3.mono hw2.size)
    have HT3 := Lib.hid (HT2.out.keep hb3)
    have HB3 := Lib.hid (HB2.out.keep hb3)
    have HIL3 := Lib.hid hil3
    clear HI HT2 HB2 hr3 hil3 hb3
    go_wp2_with fail
    go_loopw [9, 37] (fun s9 s37 wr => ∃ (i : Nat) (X : List It), s37 = .int .i64 (i) ∧ i ≤ L.length ∧ Hid (IRow wr w3.heap.size s9 X) ∧ Hid (X = allI a b (L.take i)) ∧ Hid (X.length ≤ i) ∧ Below w3.heap.size w3 wr) (fun _ s37 _ => L.length - (intOf s37).toNat)
    case atStart => exact ⟨0, [], rfl, Nat.zero_le _, Lib.hid (IRow.nil _ _), Lib.hid (by simp [allI]), Lib.hid (by simp), Below.refl _ _⟩
    case round =>
      obtain ⟨i, X, rfl, hi, HX, HA, HXL, hb⟩ := hrel
      obtain ⟨xa, xc, rfl⟩ := HX.out.form
      by_cases hlt : i < L.length
      · have i1 : decide ((i : Int) < (L.length : Int)) = true := by simp; omega
        have i0 : 0 ≤ (i : Int) ∧ (i : Int) < (L.length : Int) := by omega
        have q0 : wr.cell? ⟨w.heap.size, 0, none⟩ = some (.string ⟨List.toArray (a)⟩) := (HB3.out.keep hb).cell 0
        have q1 : wr.cell? ⟨w.heap.size, 1, none⟩ = some (.string ⟨List.toArray (b)⟩) := (HB3.out.keep hb).cell 1
        have q2 := (HB3.out.keep hb).lt
        obtain ⟨g, off, e1, hg, c1, c2⟩ := (HIL3.out.keep hb).at i hlt
        have hat := allI_take a b L i hlt
        rw [← HA.out] at hat
        have HAT := Lib.hid hat
        clear hat
        generalize L.getD i ([], []) = x at *
        obtain ⟨xk, xv⟩ := x
        simp only at c1 c2
        subst e1
        by_cases h2 : xk < a
        · have k1 : decide (xk < a) = true := by simpa using h2
          have HA' : Hid (Hid (X = allI a b (L.take (i + 1)))) := Lib.hid (Lib.hid (by rw [HAT.out, if_neg (by simp [inR, h2])]))
          clear h2 hlt
          go_wp2_with fail
          exact ⟨⟨i + 1, X, by go_num, by omega, Lib.hid (HX.out.keep (Below.allocS (Below.refl _ _) _)), HA'.out, Lib.hid (by have := HXL.out; omega), Below.allocS hb _⟩, by simp [intOf]; omega⟩
        · have k1 : decide (xk < a) = false := by simpa using h2
          by_cases h3 : b = []
          · subst h3
            have HA' : Hid (Hid (X ++ [(xk, xv)] = allI a [] (L.take (i + 1)))) := Lib.hid (Lib.hid (by rw [HAT.out, if_pos (by simp [inR, h2])]))
            clear h2 hlt
            go_wp2_with (first
              | (at_builtin; refine wpList_appI rfl (.tmp 58) (.tmp 60) rfl w3.heap.size _ X rfl ((HX.out.keep (Below.allocS (Below.refl _ _) _)).keep (Below.allocS (Below.refl _ _) _)) (wr.heap.size + 1) 0 1 1 [(xk, xv)] rfl rfl (by have h := isrc1 (wr.alloc (.cells #[.string ⟨List.toArray (xk)⟩, .string ⟨List.toArray (xv)⟩] 44)) xk xv 44; rwa [World.size_alloc] at h) (by have := HXL.out; omega) (by have := hb.size; simp; omega) ?_; intro v5 w5 hr5 hb5)
              | fail)
            exact ⟨⟨i + 1, X ++ [(xk, xv)], by go_num, by omega, Lib.hid hr5, HA'.out, Lib.hid (by have := HXL.out; simp; omega), (Below.allocS (Below.allocS hb _) _).trans hb5⟩, by simp [intOf]; omega⟩
          · have k2 : b.isEmpty = false := by simpa using h3
            by_cases h4 : xk < b
            · have k3 : decide (xk < b) = true := by simpa using h4
              have HA' : Hid (Hid (X ++ [(xk, xv)] = allI a b (L.take (i + 1)))) := Lib.hid (Lib.hid (by rw [HAT.out, if_pos (by simp [inR, h2, h4])]))
              clear h2 h3 h4 hlt
              go_wp2_with (first
                | (at_builtin; refine wpList_appI rfl (.tmp 58) (.tmp 60) rfl w3.heap.size _ X rfl ((HX.out.keep (Below.allocS (Below.refl _ _) _)).keep (Below.allocS (Below.refl _ _) _)) (wr.heap.size + 1) 0 1 1 [(xk, xv)] rfl rfl (by have h := isrc1 (wr.alloc (.cells #[.string ⟨List.toArray (xk)⟩, .string ⟨List.toArray (xv)⟩] 44)) xk xv 44; rwa [World.size_alloc] at h) (by have := HXL.out; omega) (by have := hb.size; simp; omega) ?_; intro v5 w5 hr5 hb5)
                | fail)
              exact ⟨⟨i + 1, X ++ [(xk, xv)], by go_num, by omega, Lib.hid hr5, HA'.out, Lib.hid (by have := HXL.out; simp; omega), (Below.allocS (Below.allocS hb _) _).trans hb5⟩, by simp [intOf]; omega⟩
            · have k3 : decide (xk < b) = false := by simpa using h4
              have HA' : Hid (Hid (X = allI a b (L.take (i + 1)))) := Lib.hid (Lib.hid (by rw [HAT.out, if_neg (by simp [inR, h3, h4])]))
              clear h2 h3 h4 hlt
              go_wp2_with fail
              exact ⟨⟨i + 1, X, by go_num, by omega, Lib.hid (HX.out.keep (Below.allocS (Below.refl _ _) _)), HA'.out, Lib.hid (by have := HXL.out; omega), Below.allocS hb _⟩, by simp [intOf]; omega⟩
      · have e : i = L.length := by omega
        subst e
        have i1 : decide ((L.length : Int) < (L.length : Int)) = false := by simp
        have hXW : X = wI a b L := by rw [HA.out, List.take_length, HALL.out]
        subst hXW
        obtain ⟨w4, hnm⟩ := Below.nm hb
        subst hnm
        have hw4 := hw3.trans (hb.mono hw3.size)
        have HT4 := Lib.hid (HT3.out.keep hb)
        have HB4 := Lib.hid (HB3.out.keep hb)
        have q0 : w4.cell? ⟨w.heap.size, 0, none⟩ = some (.string ⟨List.toArray (a)⟩) := HB4.out.cell 0
        have hwl2 : ((wI a b L).length : Int) ≤ 40 := by omega
        have HWX := HX
        clear HT3 HB3 HIL3 HX HA HXL hb
        go_wp2_with fail
        go_loopw [10, 13, 65] (fun s10 s13 s65 wr => ∃ (j : Nat) (f : Bs) (X : List It), s65 = .int .i64 (j) ∧ s13 = .string ⟨List.toArray (f)⟩ ∧ Hid (IRow wr w4.heap.size s10 X) ∧ Hid (X ++ wI f b L = wI a b L) ∧ Hid (j ≤ X.length) ∧ Below w4.heap.size w4 wr) (fun _ _ s65 _ => 50 - (intOf s65).toNat)
        case atStart => exact ⟨0, a, [], rfl, rfl, Lib.hid (IRow.nil _ _), Lib.hid (by simp), Lib.hid (Nat.zero_le _), Below.refl _ _⟩
        case round =>
          obtain ⟨j, f, X, rfl, rfl, HX, HA, HJ, hb⟩ := hrel
          obtain ⟨xa, xc, rfl⟩ := HX.out.form
          have hAl := congrArg List.length HA.out
          rw [List.length_append] at hAl
          have hjx := HJ.out
          have j50 : decide ((j : Int) < 50) = true := by simp; omega
          have jlt : (j : Int) < 50 := by omega
          have q1 : wr.cell? ⟨w.heap.size, 1, none⟩ = some (.string ⟨List.toArray (b)⟩) := (HB4.out.keep hb).cell 1
          have hXl : X.length ≤ 40 := by omega
          have HRf := Lib.hid (HR.out f _ (HT4.out.keep hb))
          have hwr := hw4.trans (hb.mono hw4.size)
          clear q0
          rcases HPG.out f with ⟨p1, p2, p3⟩ | ⟨p1, p2, p3, p4⟩
          · rw [p2, p3] at HRf
            have hYl : (wI f b L).length ≤ 40 := by omega
            have g1 : decide ((1 : Int) + (m : Int) < ((wI f b L).length : Int)) = false := by simp only [decide_eq_false_iff_not]; omega
            have HAB := HA
            clear hAl p1 p2 p3 HPG HR HA
            generalize wI f b L = Y at *
            generalize wI a b L = Z at *
            go_wp2_with fail
            refine HRf.out.mono ?_
            rintro e w6 ⟨v6, rfl, hr6, hb6⟩
            obtain ⟨va6, vc6, rfl⟩ := hr6.form
            have hil6 := hr6.il
            have hX6 := HX.out.keep hb6
            have hb06 := hb.trans (hb6.mono hb.size)
            have hs6 := hb06.size
            have hZ6 := (HWX.out.keep hb06).il
            have HZ6 := Lib.hid hZ6
            have HT6 := Lib.hid (HT4.out.keep hb06)
            have HB6 := Lib.hid (HB4.out.keep hb06)
            have hw6 := hw4.trans (hb06.mono hw4.size)
            clear hr6 hb6 hZ6 q1
            go_wp2_with (first
              | (at_builtin; refine wpList_appII rfl (.tmp 95) (.tmp 96) rfl w4.heap.size _ X rfl hX6 _ Y rfl hil6 (by omega) hs6 ?_; intro v7 w7 hr7 hb7; obtain ⟨va7, vc7, rfl⟩ := hr7.form)
              | fail)
            have hb07 := hb06.trans hb7
            have hil7 := hr7.il
            have hZ7 := (HWX.out.keep hb07).il
            obtain ⟨za, zc, e7⟩ := hZ7.form
            have hsm := sameitems_any _ _ (X ++ Y) Z w7 hil7 hZ7
            rw [show decide (X ++ Y = Z) = true from by simpa using HAB.out, List.length_append] at hsm
            have HSM := Lib.hid hsm
            have q0 : w7.cell? ⟨w.heap.size, 0, none⟩ = some (.string ⟨List.toArray (a)⟩) := (HB4.out.keep hb07).cell 0
            have q1 : w7.cell? ⟨w.heap.size, 1, none⟩ = some (.string ⟨List.toArray (b)⟩) := (HB4.out.keep hb07).cell 1
            have HT7 := Lib.hid (HT4.out.keep hb07)
            have hw7 := hw4.trans (hb07.mono hw4.size)
            clear hsm hil7 hZ7 hr7 hb7 e7
            refine HSM.out.mono ?_
            rintro e w8 ⟨rfl, n8, rfl⟩
            go_wp2_with fail
            refine (HC.out _ (HT7.out.keep (below_drewN (Below.refl _ _) _))).mono ?_
            rintro e w9 ⟨rfl, hb9⟩
            go_wp2_with fail
            go_ret
            exact ⟨rfl, (below_drewN hw7 _).trans (hb9.mono (below_drewN hw7 n8).size)⟩
          · have h7 := congrArg List.length p4
            rw [List.length_append, p3] at h7
            have g0 : (nextP (wI f b L) (m + 1)).isEmpty = false := by simpa using p2
            have HP4 := Lib.hid p4
            have HAB := HA
            clear p1 p2 p4 HPG HA
            generalize (wI f b L).take (m + 1) = G at *
            generalize nextP (wI f b L) (m + 1) = nx at *
            have g1 : decide ((1 : Int) + (m : Int) < (G.length : Int)) = false := by simp only [decide_eq_false_iff_not]; omega
            have g2 : ((G.length : Int) == (1 : Int) + (m : Int)) = true := by rw [beq_iff_eq]; omega
            have g3 : ((G.length : Int) != (1 : Int) + (m : Int)) = false := by rw [bne, g2]; rfl
            have hGl : G.length ≤ 40 := by omega
            have HP3 := Lib.hid p3
            clear hAl h7 p3
            go_wp2_with fail
            refine HRf.out.mono ?_
            rintro e w6 ⟨v6, rfl, hr6, hb6⟩
            obtain ⟨va6, vc6, rfl⟩ := hr6.form
            have hil6 := hr6.il
            have hX6 := HX.out.keep hb6
            have hb06 := hb.trans (hb6.mono hb.size)
            have hs6 := hb06.size
            clear hr6 hb6 q1
            go_wp2_with (first
              | (at_builtin; refine wpList_appII rfl (.tmp 95) (.tmp 96) rfl w4.heap.size _ X rfl hX6 _ G rfl hil6 (by omega) hs6 ?_; intro v7 w7 hr7 hb7)
              | fail)
            exact ⟨⟨j + 1, nx, X ++ G, by go_num, rfl, Lib.hid hr7, Lib.hid (by rw [List.append_assoc, ← HP4.out]; exact HAB.out), Lib.hid (by have := HP3.out; have := HJ.out; rw [List.length_append]; omega), hb06.trans hb7⟩, by simp [intOf]; omega⟩
  · obtain ⟨hc0, rfl⟩ := h
    have d0 : ((ofI [] l).2 == 0) = false := by simpa using hc0
    have d0' : ((ofI [] l).2 != 0) = true := by simpa using hc0
    have hw2 := hw1.trans (hb2.mono hw1.size)
    clear hc0
    generalize (ofI [] l).2 = cd at *
    go_wp2_with fail
    go_ret
    exact ⟨rfl, hw2⟩
end Go.Proofs.YtdaihimdkgmboaaDoor
