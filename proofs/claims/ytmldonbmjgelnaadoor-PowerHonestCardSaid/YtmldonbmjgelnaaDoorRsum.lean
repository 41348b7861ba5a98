/- Walks of the document's answer for layer 3: a text's sum. -/
import Derived.Test.YtmldonbmjgelnaaDoorSum
import Derived.Test.YtmldonbmjgelnaaDoorRef3
import Derived.Deep.OwnRows
set_option linter.unusedSimpArgs false
set_option linter.unusedVariables false
namespace Go.Proofs.YtmldonbmjgelnaaDoor
open Go.RowKit

theorem Below.name' {B : Nat} {a w : World} (_ : Below B a w) : ∃ w' : World, w' = w := ⟨w, rfl⟩
theorem be8_drop (x i : Nat) (hi : i < 8) : (be8 x).drop (8 - (i + 1)) = UInt8.ofNat (x / 2 ^ (8 * i) % 256) :: (be8 x).drop (8 - i) := by
  have h1 : 8 - (i + 1) < (be8 x).length := by rw [be8_len]; omega
  rw [List.drop_eq_getElem_cons h1, show 8 - (i + 1) + 1 = 8 - i from by omega]
  congr 1
  simp only [be8, List.getElem_map, List.getElem_range]
  rw [show 56 - 8 * (8 - (i + 1)) = 8 * i from by omega]
def bTo (l : List UInt8) (k j : Nat) : Nat → Int := fun i => if i < j then blkB l k i else 0
theorem bTo_succ (l : List UInt8) (k j : Nat) : updI (bTo l k j) j (blkB l k j) = bTo l k (j + 1) := by
  funext i
  unfold updI bTo
  by_cases h : i = j
  · subst h; rw [if_pos rfl, if_pos (by omega)]
  · rw [if_neg h]
    by_cases h2 : i < j
    · rw [if_pos h2, if_pos (by omega)]
    · rw [if_neg h2, if_neg (by omega)]
theorem blkB_at (l : List UInt8) (k j : Nat) (h : 64 * k + j < l.length) : blkB l k j = ((l[64 * k + j]).toNat : Int) := by
  unfold blkB
  rw [List.getD_eq_getElem?_getD, List.getElem?_drop, List.getElem?_eq_getElem h]
  rfl
theorem arb_ext {n : Nat} {f g : Nat → Int} (h : ∀ i, i < n → f i = g i) : arb n f = arb n g := by
  unfold arb
  apply List.map_congr_left
  intro i hi
  rw [h i (by simpa using hi)]
theorem zero64b : (arb 64 fun _ => 0).toArray = #[Value.int .u8 0, Value.int .u8 0, Value.int .u8 0, Value.int .u8 0, Value.int .u8 0, Value.int .u8 0, Value.int .u8 0, Value.int .u8 0, Value.int .u8 0, Value.int .u8 0, Value.int .u8 0, Value.int .u8 0, Value.int .u8 0, Value.int .u8 0, Value.int .u8 0, Value.int .u8 0, Value.int .u8 0, Value.int .u8 0, Value.int .u8 0, Value.int .u8 0, Value.int .u8 0, Value.int .u8 0, Value.int .u8 0, Value.int .u8 0, Value.int .u8 0, Value.int .u8 0, Value.int .u8 0, Value.int .u8 0, Value.int .u8 0, Value.int .u8 0, Value.int .u8 0, Value.int .u8 0, Value.int .u8 0, Value.int .u8 0, Value.int .u8 0, Value.int .u8 0, Value.int .u8 0, Value.int .u8 0, Value.int .u8 0, Value.int .u8 0, Value.int .u8 0, Value.int .u8 0, Value.int .u8 0, Value.int .u8 0, Value.int .u8 0, Value.int .u8 0, Value.int .u8 0, Value.int .u8 0, Value.int .u8 0, Value.int .u8 0, Value.int .u8 0, Value.int .u8 0, Value.int .u8 0, Value.int .u8 0, Value.int .u8 0, Value.int .u8 0, Value.int .u8 0, Value.int .u8 0, Value.int .u8 0, Value.int .u8 0, Value.int .u8 0, Value.int .u8 0, Value.int .u8 0, Value.int .u8 0] := rfl
theorem pow_step (x i : Nat) : x / 2 ^ (8 * i) / 256 = x / 2 ^ (8 * (i + 1)) := by
  rw [Nat.div_div_eq_div_mul, show 8 * (i + 1) = 8 * i + 8 from by omega, Nat.pow_add]

set_option maxRecDepth 100000 in
set_option maxHeartbeats 1000000 in
theorem rsum_any (s : List UInt8) (hs : s.length ≤ 1099511627776) (w : World) :
    Calls Tryd.prog 102 #[.string ⟨List.toArray (s)⟩] w fun e w' => e = .returned (.string ⟨List.toArray (sumP s)⟩) ∧ Below w.heap.size w w' := by
  generalize hR : sumP s = R
  have HR := Lib.hid hR
  clear hR
  have hz : ((119 - (s.length : Int) % 64) % 64) = ((zer s.length : Nat) : Int) := by unfold zer; omega
  have hzl : zer s.length < 64 := by unfold zer; omega
  have HZ := Lib.hid (rfl : zer s.length = zer s.length)
  have HPD : Hid (padP s = s ++ [128] ++ List.replicate (zer s.length) 0 ++ be8 (8 * s.length)) := Lib.hid (by simp [padP, padEnd])
  generalize zer s.length = z at *
  have hbits : (s.length : Int) * 8 = ((8 * s.length : Nat) : Int) := by omega
  have hbl : 8 * s.length < 9223372036854775807 := by omega
  generalize 8 * s.length = x at *
  go_enter Tryd.func102, Tryd.ntmps102
  go_wp2_with fail
  go_loopw [4, 5, 6] (fun s4 s5 s6 wr => ∃ i : Nat, i ≤ 8 ∧ s6 = .int .i64 i ∧ s4 = .int .i64 (x / 2 ^ (8 * i) : Nat) ∧ s5 = .string ⟨List.toArray ((be8 x).drop (8 - i))⟩ ∧ Below w.heap.size w wr) (fun _ _ s6 _ => 8 - (intOf s6).toNat)
  case atStart => exact ⟨0, by omega, rfl, by simp, by simp [be8], Below.refl _ _⟩
  case round =>
    obtain ⟨i, hi, rfl, rfl, rfl, hb⟩ := hrel
    rename_i wr
    by_cases hlt : i < 8
    · have hlt' : (i : Int) < 8 := by omega
      have HD := Lib.hid (be8_drop x i hlt)
      have hdl : ((be8 x).drop (8 - i)).length ≤ 8 := by rw [List.length_drop, be8_len]; omega
      have HP := Lib.hid (pow_step x i)
      have hbb : x / 2 ^ (8 * i) ≤ x := Nat.div_le_self _ _
      generalize x / 2 ^ (8 * i) = y at *
      generalize (be8 x).drop (8 - i) = t at *
      have hcat : ¬ 9223372036854775807 < 1 + t.length := by omega
      have hcat2 : ¬ 9223372036854775807 < t.length + 1 := by omega
      go_wp2_with fail
      exact ⟨⟨i + 1, by omega, by go_num, by rw [← HP.out]; go_num, by rw [HD.out], Below.allocS hb _⟩, by simp [intOf]; omega⟩
    · have hie : i = 8 := by omega
      subst hie
      have e8 : (be8 x).drop (8 - 8) = be8 x := rfl
      rw [e8]
      have hrl : (List.replicate z (0 : UInt8)).length = z := by simp
      have hrg : ∀ i, i < z → (List.replicate z (0 : UInt8)).getD i 0 = 0 := fun i hi => by simp [List.getD, List.getElem?_replicate, hi]
      generalize List.replicate z (0 : UInt8) = zr at *
      have hmk := fun w => run_make_row' (P := Tryd.prog) 71 5 (.int .u8 0) 1 Tryd.underlying71 infoU8 rfl .i64 .i64 z (by omega) (by omega) w
      have hcv := conv_str (P := Tryd.prog) (w := wr.alloc (.cells (madeCells #[.int .u8 0] z) 5)) 71 5 9 Tryd.underlying71 Tryd.underlying5 Tryd.underlying9 wr.heap.size 0 z z zr hrl (fun i hi => by
        rw [Nat.zero_add, World.cell?_alloc_new, hrg i hi]
        simp [madeCells, hi, Nat.mod_one])
      have hl8 : (be8 x).length ≤ 8 := Nat.le_of_eq (be8_len x)
      have hrl2 : zr.length ≤ 64 := by omega
      have HLS : Hid ((padP s).length = s.length + 1 + z + 8) := Lib.hid (by rw [HPD.out]; simp [hrl, be8_len]; omega)
      clear hrl hrg e8
      generalize be8 x = be at *
      have hcat : ¬ 9223372036854775807 < s.length + 1 := by omega
      have hcat2 : ¬ 9223372036854775807 < s.length + 1 + zr.length := by omega
      have hcat3 : ¬ 9223372036854775807 < s.length + 1 + zr.length + be.length := by omega
      rw [show ((8 : Nat) : Int) = 8 from rfl]
      go_wp2_with fail
      rw [show s ++ 128 :: (zr ++ be) = padP s from by rw [HPD.out]; simp]
      refine (rfirst_any _).mono ?_
      rintro e w1 ⟨rfl, hb1⟩
      have hb2 : Below w.heap.size w w1 := (Below.allocS hb _).trans (hb1.mono (by have := hb.size; simp; omega))
      have HRR : Hid (toldP (blkN firstW (padP s) ((padP s).length / 64)) = R) := HR
      have hlen : (padP s).length ≤ 1099511628000 := by have := HLS.out; omega
      clear HR HPD HLS hcv hmk hcat hcat2 hcat3 hb hb1 hz hbits hbl hrl2 hl8 hzl
      generalize padP s = l at *
      go_wp2_with (refine wpList_rowStore row8w rfl rfl (.tmp 8) (.tmp 41) rfl rfl rfl (arr_len 8 _) (arr_one 8 _) (us := (arr 8 fun _ => 0)) (arr_len 8 _) (by rw [zero8w]; exact Blk.new' (by simp)) ?_; intro w2 S2 m2)
      have hb3 := Below.mod (Below.allocS hb2 (.cells #[Value.int .u32 0, Value.int .u32 0, Value.int .u32 0, Value.int .u32 0, Value.int .u32 0, Value.int .u32 0, Value.int .u32 0, Value.int .u32 0] 127)) m2 (by simp; have := hb2.size; omega) (by simp; have := hb2.size; omega)
      have hq := hb2.size
      generalize w1.heap.size = q at *
      clear hb2 m2
      go_loopw [9] (fun s9 wq => ∃ k : Nat, 64 * k ≤ l.length ∧ s9 = .int .i64 (64 * (k : Int)) ∧ Blk wq q (arr 8 (blkN firstW l k)).toArray ∧ Below w.heap.size w wq) (fun s9 _ => l.length + 64 - (intOf s9).toNat)
      case atStart => exact ⟨0, by omega, rfl, S2, hb3⟩
      case round =>
        clear S2 hb3
        obtain ⟨k, hk, rfl, B, hb⟩ := hrel
        obtain ⟨wq, hwq⟩ := Below.name' hb
        subst hwq
        by_cases hge : 64 * k + 64 ≤ l.length
        · have hge' : 64 * (k : Int) + 64 ≤ (l.length : Int) := by omega
          have hdec : decide (64 * (k : Int) + 64 ≤ (l.length : Int)) = true := by simp; omega
          have B1 := B.alloc (.cells #[Value.int .u8 0, Value.int .u8 0, Value.int .u8 0, Value.int .u8 0, Value.int .u8 0, Value.int .u8 0, Value.int .u8 0, Value.int .u8 0, Value.int .u8 0, Value.int .u8 0, Value.int .u8 0, Value.int .u8 0, Value.int .u8 0, Value.int .u8 0, Value.int .u8 0, Value.int .u8 0, Value.int .u8 0, Value.int .u8 0, Value.int .u8 0, Value.int .u8 0, Value.int .u8 0, Value.int .u8 0, Value.int .u8 0, Value.int .u8 0, Value.int .u8 0, Value.int .u8 0, Value.int .u8 0, Value.int .u8 0, Value.int .u8 0, Value.int .u8 0, Value.int .u8 0, Value.int .u8 0, Value.int .u8 0, Value.int .u8 0, Value.int .u8 0, Value.int .u8 0, Value.int .u8 0, Value.int .u8 0, Value.int .u8 0, Value.int .u8 0, Value.int .u8 0, Value.int .u8 0, Value.int .u8 0, Value.int .u8 0, Value.int .u8 0, Value.int .u8 0, Value.int .u8 0, Value.int .u8 0, Value.int .u8 0, Value.int .u8 0, Value.int .u8 0, Value.int .u8 0, Value.int .u8 0, Value.int .u8 0, Value.int .u8 0, Value.int .u8 0, Value.int .u8 0, Value.int .u8 0, Value.int .u8 0, Value.int .u8 0, Value.int .u8 0, Value.int .u8 0, Value.int .u8 0, Value.int .u8 0] 129)
          have hb4 := Below.allocS hb (.cells #[Value.int .u8 0, Value.int .u8 0, Value.int .u8 0, Value.int .u8 0, Value.int .u8 0, Value.int .u8 0, Value.int .u8 0, Value.int .u8 0, Value.int .u8 0, Value.int .u8 0, Value.int .u8 0, Value.int .u8 0, Value.int .u8 0, Value.int .u8 0, Value.int .u8 0, Value.int .u8 0, Value.int .u8 0, Value.int .u8 0, Value.int .u8 0, Value.int .u8 0, Value.int .u8 0, Value.int .u8 0, Value.int .u8 0, Value.int .u8 0, Value.int .u8 0, Value.int .u8 0, Value.int .u8 0, Value.int .u8 0, Value.int .u8 0, Value.int .u8 0, Value.int .u8 0, Value.int .u8 0, Value.int .u8 0, Value.int .u8 0, Value.int .u8 0, Value.int .u8 0, Value.int .u8 0, Value.int .u8 0, Value.int .u8 0, Value.int .u8 0, Value.int .u8 0, Value.int .u8 0, Value.int .u8 0, Value.int .u8 0, Value.int .u8 0, Value.int .u8 0, Value.int .u8 0, Value.int .u8 0, Value.int .u8 0, Value.int .u8 0, Value.int .u8 0, Value.int .u8 0, Value.int .u8 0, Value.int .u8 0, Value.int .u8 0, Value.int .u8 0, Value.int .u8 0, Value.int .u8 0, Value.int .u8 0, Value.int .u8 0, Value.int .u8 0, Value.int .u8 0, Value.int .u8 0, Value.int .u8 0] 129)
          have C1 : Blk (wq.alloc (.cells #[Value.int .u8 0, Value.int .u8 0, Value.int .u8 0, Value.int .u8 0, Value.int .u8 0, Value.int .u8 0, Value.int .u8 0, Value.int .u8 0, Value.int .u8 0, Value.int .u8 0, Value.int .u8 0, Value.int .u8 0, Value.int .u8 0, Value.int .u8 0, Value.int .u8 0, Value.int .u8 0, Value.int .u8 0, Value.int .u8 0, Value.int .u8 0, Value.int .u8 0, Value.int .u8 0, Value.int .u8 0, Value.int .u8 0, Value.int .u8 0, Value.int .u8 0, Value.int .u8 0, Value.int .u8 0, Value.int .u8 0, Value.int .u8 0, Value.int .u8 0, Value.int .u8 0, Value.int .u8 0, Value.int .u8 0, Value.int .u8 0, Value.int .u8 0, Value.int .u8 0, Value.int .u8 0, Value.int .u8 0, Value.int .u8 0, Value.int .u8 0, Value.int .u8 0, Value.int .u8 0, Value.int .u8 0, Value.int .u8 0, Value.int .u8 0, Value.int .u8 0, Value.int .u8 0, Value.int .u8 0, Value.int .u8 0, Value.int .u8 0, Value.int .u8 0, Value.int .u8 0, Value.int .u8 0, Value.int .u8 0, Value.int .u8 0, Value.int .u8 0, Value.int .u8 0, Value.int .u8 0, Value.int .u8 0, Value.int .u8 0, Value.int .u8 0, Value.int .u8 0, Value.int .u8 0, Value.int .u8 0] 129)) wq.heap.size (arb 64 fun _ => 0).toArray := by rw [zero64b]; exact Blk.new' rfl
          have hbl := B.lt
          go_wp2_with fail
          go_loopw [11] (fun s11 wi => ∃ j : Nat, j ≤ 64 ∧ s11 = .int .i64 j ∧ Blk wi q (arr 8 (blkN firstW l k)).toArray ∧ Blk wi wq.heap.size (arb 64 (bTo l k j)).toArray ∧ Below w.heap.size w wi) (fun s11 _ => 64 - (intOf s11).toNat)
          case atStart => exact ⟨0, by omega, rfl, B1, by rw [show bTo l k 0 = fun _ => 0 from by funext i; simp [bTo]]; exact C1, hb4⟩
          case round =>
            clear B1 hb4 C1
            have hbq := hb.size
            clear B hb
            obtain ⟨j, hj, rfl, B, C, hb⟩ := hrel
            by_cases hlt : j < 64
            · have hlt' : (j : Int) < 64 := by omega
              have hin : 64 * k + j < l.length := by omega
              have hx := blkB_at l k j hin
              have hs := bTo_succ l k j
              have C1 := C.set j (.int .u8 (blkB l k j))
              rw [arb_set, hs, hx] at C1
              have HC := Lib.hid C1
              clear C1 hx hs
              have c0 := C.cell j
              rw [arb_at 64 _ _ hlt] at c0
              have cf := C.froz
              have t0 : (64 * (k : Int) + (j : Int)).toNat = 64 * k + j := by omega
              have q0 : 64 * (k : Int) + (j : Int) < (l.length : Int) := by omega
              go_wp2_with fail
              exact ⟨⟨j + 1, by omega, by go_num, B.other (by simp; omega) _, HC.out, hb.setCell (by simp; exact hbq) _⟩, by simp [intOf]; omega⟩
            · have hje : j = 64 := by omega
              subst hje
              have hce : arb 64 (bTo l k 64) = arb 64 (blkB l k) := arb_ext (fun i hi => if_pos hi)
              rw [hce] at C
              have HN : Hid (blkN firstW l (k + 1) = blk (blkN firstW l k) (blkB l k)) := Lib.hid rfl
              have HW := Lib.hid (blkN_bd firstW l firstW_bd k)
              have HBB := Lib.hid (blkB_bd l k)
              clear hce
              generalize blkN firstW l k = f at *
              generalize blkB l k = bb at *
              go_wp2_with (first
                | (refine wpList_rowLoad row8w rfl (.tmp 8) rfl rfl (arr_len 8 _) B ?_)
                | (refine wpList_rowLoad row64b rfl (.tmp 10) rfl rfl (arb_len 64 _) C ?_))
              refine (rblock_any f bb HW.out (fun i _ => HBB.out i) _).mono ?_
              rintro e w5 ⟨rfl, hb5⟩
              have B5 := B.keep hb5
              have hb6 := hb.trans (hb5.mono hb.size)
              go_wp2_with (refine wpList_rowStore row8w rfl rfl (.tmp 8) (.tmp 62) rfl rfl rfl (arr_len 8 _) (arr_one 8 _) (arr_len 8 _) B5 ?_; intro w6 B6 m6)
              have hb7 := Below.mod hb6 m6 hb6.size (by simp; exact hq)
              exact ⟨⟨k + 1, by omega, by go_num, by rw [HN.out]; exact B6, hb7⟩, by simp [intOf]; omega⟩
        · have hge' : ¬ 64 * (k : Int) + 64 ≤ (l.length : Int) := by omega
          have hke : l.length / 64 = k := by omega
          have HRk : Hid (toldP (blkN firstW l k) = R) := Lib.hid (by rw [← hke]; exact HRR.out)
          have HW := Lib.hid (blkN_bd firstW l firstW_bd k)
          clear hke HRR
          generalize blkN firstW l k = f at *
          go_wp2_with (refine wpList_rowLoad row8w rfl (.tmp 8) rfl rfl (arr_len 8 _) B ?_)
          refine (rtold_any f HW.out _).mono ?_
          rintro e w5 ⟨rfl, hb5⟩
          go_wp2_with fail
          go_ret
          exact ⟨by rw [← HRk.out]; rfl, hb.trans (hb5.mono hb.size)⟩

end Go.Proofs.YtmldonbmjgelnaaDoor
