/- Rsum, Dig, Jour, JourW. -/
import Derived.Deep.OwnRows
import Derived.Test.YthgjdaomcpinaaaGreatDoorMp18
set_option linter.unnecessarySimpa false
set_option linter.unusedSimpArgs false
set_option linter.unusedVariables false
set_option maxRecDepth 100000
set_option maxHeartbeats 32000000
namespace Go.Proofs.YthgjdaomcpinaaaGreatDoor
open Go.RowKit
theorem Below.name' {B : Nat} {a w : World} (_ : Below B a w) : ∃ w' : World, w' = w := ⟨w, rfl⟩
theorem be8_drop (x i : Nat) (hi : i < 8) : (be8 x).drop (8 - (i + 1)) = UInt8.ofNat (x / 2 ^ (8 * i) % 256) :: (be8 x).drop (8 - i) := by
 have h1 : 8 - (i + 1) < (be8 x).length := by rw [be8_len]; omega
 rw [List.drop_eq_getElem_cons h1, show 8 - (i + 1) + 1 = 8 - i from by omega]
 congr 1
 simp only [be8, List.getElem_map, List.getElem_range]
 rw [show 56 - 8 * (8 - (i + 1)) = 8 * i from by omega]
def bTo (l : List UInt8) (k j : Nat) : Nat → Int := fun i => if i < j then blkB l k i else 0
theorem bTo_succ (l : List UInt8) (k j : Nat) : updI (bTo l k j) j (blkB l k j) = bTo l k (j + 1) := by
 funext i
 unfold updI bTo
 by_cases h : i = j
 ·subst h; rw [if_pos rfl, if_pos (by omega)]
 ·rw [if_neg h]
  by_cases h2 : i < j
  ·rw [if_pos h2, if_pos (by omega)]
  ·rw [if_neg h2, if_neg (by omega)]
theorem blkB_at (l : List UInt8) (k j : Nat) (h : 64 * k + j < l.length) : blkB l k j = ((l[64 * k + j]).toNat : Int) := by
 unfold blkB
 rw [List.getD_eq_getElem?_getD, List.getElem?_drop, List.getElem?_eq_getElem h]
 rfl
theorem arb_ext {n : Nat} {f g : Nat → Int} (h : ∀ i, i < n → f i = g i) : arb n f = arb n g := by
 unfold arb
 apply List.map_congr_left
 intro i hi
 rw [h i (by simpa using hi)]
theorem zero64b : (arb 64 fun _ => 0).toArray = #[Value.int .u8 0, Value.int .u8 0, Value.int .u8 0, Value.int .u8 0, Value.int .u8 0, Value.int .u8 0, Value.int .u8 0, Value.int .u8 0, Value.int .u8 0, Value.int .u8 0, Value.int .u8 0, Value.int .u8 0, Value.int .u8 0, Value.int .u8 0, Value.int .u8 0, Value.int .u8 0, Value.int .u8 0, Value.int .u8 0, Value.int .u8 0, Value.int .u8 0, Value.int .u8 0, Value.int .u8 0, Value.int .u8 0, Value.int .u8 0, Value.int .u8 0, Value.int .u8 0, Value.int .u8 0, Value.int .u8 0, Value.int .u8 0, Value.int .u8 0, Value.int .u8 0, Value.int .u8 0, Value.int .u8 0, Value.int .u8 0, Value.int .u8 0, Value.int .u8 0, Value.int .u8 0, Value.int .u8 0, Value.int .u8 0, Value.int .u8 0, Value.int .u8 0, Value.int .u8 0, Value.int .u8 0, Value.int .u8 0, Value.int .u8 0, Value.int .u8 0, Value.int .u8 0, Value.int .u8 0, Value.int .u8 0, Value.int .u8 0, Value.int .u8 0, Value.int .u8 0, Value.int .u8 0, Value.int .u8 0, Value.int .u8 0, Value.int .u8 0, Value.int .u8 0, Value.int .u8 0, Value.int .u8 0, Value.int .u8 0, Value.int .u8 0, Value.int .u8 0, Value.int .u8 0, Value.int .u8 0] := rfl
theorem pow_step (x i : Nat) : x / 2 ^ (8 * i) / 256 = x / 2 ^ (8 * (i + 1)) := by
 rw [Nat.div_div_eq_div_mul, show 8 * (i + 1) = 8 * i + 8 from by omega, Nat.pow_add]
theorem rsum_any (s : List UInt8) (hs : s.length ≤ 1099511627776) (w : World) :
  Calls Tryz.prog 170 #[.string ⟨List.toArray s⟩] w fun e w' => e = .returned (.string ⟨List.toArray (sumP s)⟩) ∧ Below w.heap.size w w' := by
 generalize hR : sumP s = R
 have HR := Lib.hid hR
 clear hR
 have hz : ((119 - (s.length : Int) % 64) % 64) = ((zer s.length : Nat) : Int) := by unfold zer; omega
 have hzl : zer s.length < 64 := by unfold zer; omega
 have HZ := Lib.hid (rfl : zer s.length = zer s.length)
 have HPD : Hid (padP s = s ++ [128] ++ List.replicate (zer s.length) 0 ++ be8 (8 * s.length)) := Lib.hid (by simp [padP, padEnd])
 generalize zer s.length = z at *
 have hbits : (s.length : Int) * 8 = ((8 * s.length : Nat) : Int) := by omega
 have hbl : 8 * s.length < 9223372036854775807 := by omega
 generalize 8 * s.length = x at *
 go_enter Tryz.func170, Tryz.ntmps170
 go_wp2_with fail
 go_loopw [4, 5, 6] (fun s4 s5 s6 wr => ∃ i : Nat, i ≤ 8 ∧ s6 = .int .i64 i ∧ s4 = .int .i64 (x / 2 ^ (8 * i) : Nat) ∧ s5 = .string ⟨List.toArray ((be8 x).drop (8 - i))⟩ ∧ Below w.heap.size w wr) (fun _ _ s6 _ => 8 - (intOf s6).toNat)
 case atStart => exact ⟨0, by omega, rfl, by simp, by simp [be8], Below.refl _ _⟩
 case round =>
  obtain ⟨i, hi, rfl, rfl, rfl, hb⟩ := hrel
  rename_i wr
  by_cases hlt : i < 8
  ·have hlt' : (i : Int) < 8 := by omega
   have HD := Lib.hid (be8_drop x i hlt)
   have hdl : ((be8 x).drop (8 - i)).length ≤ 8 := by rw [List.length_drop, be8_len]; omega
   have HP := Lib.hid (pow_step x i)
   have hbb : x / 2 ^ (8 * i) ≤ x := Nat.div_le_self _ _
   generalize x / 2 ^ (8 * i) = y at *
   generalize (be8 x).drop (8 - i) = t at *
   have hcat : ¬ 9223372036854775807 < 1 + t.length := by omega
   have hcat2 : ¬ 9223372036854775807 < t.length + 1 := by omega
   go_wp2_with fail
   exact ⟨⟨i + 1, by omega, by go_num, by rw [← HP.out]; go_num, by rw [HD.out], Below.allocS hb _⟩, by simp [intOf]; omega⟩
  ·have hie : i = 8 := by omega
   subst hie
   have e8 : (be8 x).drop (8 - 8) = be8 x := rfl
   rw [e8]
   have hrl : (List.replicate z (0 : UInt8)).length = z := by simp
   have hrg : ∀ i, i < z → (List.replicate z (0 : UInt8)).getD i 0 = 0 := fun i hi => by simp [List.getD, List.getElem?_replicate, hi]
   generalize List.replicate z (0 : UInt8) = zr at *
   have hmk := fun w => run_make_row' (P := Tryz.prog) 113 5 (.int .u8 0) 1 Tryz.underlying113 infoU8 rfl .i64 .i64 z (by omega) (by omega) w
   have hcv := conv_str (P := Tryz.prog) (w := wr.alloc (.cells (madeCells #[.int .u8 0] z) 5)) 113 5 9 Tryz.underlying113 Tryz.underlying5 Tryz.underlying9 wr.heap.size 0 z z zr hrl (fun i hi => by
    rw [Nat.zero_add, World.cell?_alloc_new, hrg i hi]
    simp [madeCells, hi, Nat.mod_one])
   have hl8 : (be8 x).length ≤ 8 := Nat.le_of_eq (be8_len x)
   have hrl2 : zr.length ≤ 64 := by omega
   have HLS : Hid ((padP s).length = s.length + 1 + z + 8) := Lib.hid (by rw [HPD.out]; simp [hrl, be8_len]; omega)
   clear hrl hrg e8
   generalize be8 x = be at *
   have hcat : ¬ 9223372036854775807 < s.length + 1 := by omega
   have hcat2 : ¬ 9223372036854775807 < s.length + 1 + zr.length := by omega
   have hcat3 : ¬ 9223372036854775807 < s.length + 1 + zr.length + be.length := by omega
   rw [show ((8 : Nat) : Int) = 8 from rfl]
   go_wp2_with fail
   rw [show s ++ 128 :: (zr ++ be) = padP s from by rw [HPD.out]; simp]
   refine (rfirst_any _).mono ?_
   rintro e w1 ⟨rfl, hb1⟩
   have hb2 : Below w.heap.size w w1 := (Below.allocS hb _).trans (hb1.mono (by have := hb.size; simp; omega))
   have HRR : Hid (toldP (blkN firstW (padP s) ((padP s).length / 64)) = R) := HR
   have hlen : (padP s).length ≤ 1099511628000 := by have := HLS.out; omega
   clear HR HPD HLS hcv hmk hcat hcat2 hcat3 hb hb1 hz hbits hbl hrl2 hl8 hzl
   generalize padP s = l at *
   go_wp2_with (refine wpList_rowStore row8w rfl rfl (.tmp 8) (.tmp 41) rfl rfl rfl (arr_len 8 _) (arr_one 8 _) (us := (arr 8 fun _ => 0)) (arr_len 8 _) (by rw [zero8w]; exact Blk.new' (by simp)) ?_; intro w2 S2 m2)
   have hb3 := Below.mod (Below.allocS hb2 (.cells #[Value.int .u32 0, Value.int .u32 0, Value.int .u32 0, Value.int .u32 0, Value.int .u32 0, Value.int .u32 0, Value.int .u32 0, Value.int .u32 0] 227)) m2 (by simp; have := hb2.size; omega) (by simp; have := hb2.size; omega)
   have hq := hb2.size
   generalize w1.heap.size = q at *
   clear hb2 m2
   go_loopw [9] (fun s9 wq => ∃ k : Nat, 64 * k ≤ l.length ∧ s9 = .int .i64 (64 * (k : Int)) ∧ Blk wq q (arr 8 (blkN firstW l k)).toArray ∧ Below w.heap.size w wq) (fun s9 _ => l.length + 64 - (intOf s9).toNat)
   case atStart => exact ⟨0, by omega, rfl, S2, hb3⟩
   case round =>
    clear S2 hb3
    obtain ⟨k, hk, rfl, B, hb⟩ := hrel
    obtain ⟨wq, hwq⟩ := Below.name' hb
    subst hwq
    by_cases hge : 64 * k + 64 ≤ l.length
    ·have hge' : 64 * (k : Int) + 64 ≤ (l.length : Int) := by omega
     have hdec : decide (64 * (k : Int) + 64 ≤ (l.length : Int)) = true := by simp; omega
     have B1 := B.alloc (.cells #[Value.int .u8 0, Value.int .u8 0, Value.int .u8 0, Value.int .u8 0, Value.int .u8 0, Value.int .u8 0, Value.int .u8 0, Value.int .u8 0, Value.int .u8 0, Value.int .u8 0, Value.int .u8 0, Value.int .u8 0, Value.int .u8 0, Value.int .u8 0, Value.int .u8 0, Value.int .u8 0, Value.int .u8 0, Value.int .u8 0, Value.int .u8 0, Value.int .u8 0, Value.int .u8 0, Value.int .u8 0, Value.int .u8 0, Value.int .u8 0, Value.int .u8 0, Value.int .u8 0, Value.int .u8 0, Value.int .u8 0, Value.int .u8 0, Value.int .u8 0, Value.int .u8 0, Value.int .u8 0, Value.int .u8 0, Value.int .u8 0, Value.int .u8 0, Value.int .u8 0, Value.int .u8 0, Value.int .u8 0, Value.int .u8 0, Value.int .u8 0, Value.int .u8 0, Value.int .u8 0, Value.int .u8 0, Value.int .u8 0, Value.int .u8 0, Value.int .u8 0, Value.int .u8 0, Value.int .u8 0, Value.int .u8 0, Value.int .u8 0, Value.int .u8 0, Value.int .u8 0, Value.int .u8 0, Value.int .u8 0, Value.int .u8 0, Value.int .u8 0, Value.int .u8 0, Value.int .u8 0, Value.int .u8 0, Value.int .u8 0, Value.int .u8 0, Value.int .u8 0, Value.int .u8 0, Value.int .u8 0] 229)
     have hb4 := Below.allocS hb (.cells #[Value.int .u8 0, Value.int .u8 0, Value.int .u8 0, Value.int .u8 0, Value.int .u8 0, Value.int .u8 0, Value.int .u8 0, Value.int .u8 0, Value.int .u8 0, Value.int .u8 0, Value.int .u8 0, Value.int .u8 0, Value.int .u8 0, Value.int .u8 0, Value.int .u8 0, Value.int .u8 0, Value.int .u8 0, Value.int .u8 0, Value.int .u8 0, Value.int .u8 0, Value.int .u8 0, Value.int .u8 0, Value.int .u8 0, Value.int .u8 0, Value.int .u8 0, Value.int .u8 0, Value.int .u8 0, Value.int .u8 0, Value.int .u8 0, Value.int .u8 0, Value.int .u8 0, Value.int .u8 0, Value.int .u8 0, Value.int .u8 0, Value.int .u8 0, Value.int .u8 0, Value.int .u8 0, Value.int .u8 0, Value.int .u8 0, Value.int .u8 0, Value.int .u8 0, Value.int .u8 0, Value.int .u8 0, Value.int .u8 0, Value.int .u8 0, Value.int .u8 0, Value.int .u8 0, Value.int .u8 0, Value.int .u8 0, Value.int .u8 0, Value.int .u8 0, Value.int .u8 0, Value.int .u8 0, Value.int .u8 0, Value.int .u8 0, Value.int .u8 0, Value.int .u8 0, Value.int .u8 0, Value.int .u8 0, Value.int .u8 0, Value.int .u8 0, Value.int .u8 0, Value.int .u8 0, Value.int .u8 0] 229)
     have C1 : Blk (wq.alloc (.cells #[Value.int .u8 0, Value.int .u8 0, Value.int .u8 0, Value.int .u8 0, Value.int .u8 0, Value.int .u8 0, Value.int .u8 0, Value.int .u8 0, Value.int .u8 0, Value.int .u8 0, Value.int .u8 0, Value.int .u8 0, Value.int .u8 0, Value.int .u8 0, Value.int .u8 0, Value.int .u8 0, Value.int .u8 0, Value.int .u8 0, Value.int .u8 0, Value.int .u8 0, Value.int .u8 0, Value.int .u8 0, Value.int .u8 0, Value.int .u8 0, Value.int .u8 0, Value.int .u8 0, Value.int .u8 0, Value.int .u8 0, Value.int .u8 0, Value.int .u8 0, Value.int .u8 0, Value.int .u8 0, Value.int .u8 0, Value.int .u8 0, Value.int .u8 0, Value.int .u8 0, Value.int .u8 0, Value.int .u8 0, Value.int .u8 0, Value.int .u8 0, Value.int .u8 0, Value.int .u8 0, Value.int .u8 0, Value.int .u8 0, Value.int .u8 0, Value.int .u8 0, Value.int .u8 0, Value.int .u8 0, Value.int .u8 0, Value.int .u8 0, Value.int .u8 0, Value.int .u8 0, Value.int .u8 0, Value.int .u8 0, Value.int .u8 0, Value.int .u8 0, Value.int .u8 0, Value.int .u8 0, Value.int .u8 0, Value.int .u8 0, Value.int .u8 0, Value.int .u8 0, Value.int .u8 0, Value.int .u8 0] 229)) wq.heap.size (arb 64 fun _ => 0).toArray := by rw [zero64b]; exact Blk.new' rfl
     have hbl := B.lt
     go_wp2_with fail
     go_loopw [11] (fun s11 wi => ∃ j : Nat, j ≤ 64 ∧ s11 = .int .i64 j ∧ Blk wi q (arr 8 (blkN firstW l k)).toArray ∧ Blk wi wq.heap.size (arb 64 (bTo l k j)).toArray ∧ Below w.heap.size w wi) (fun s11 _ => 64 - (intOf s11).toNat)
     case atStart => exact ⟨0, by omega, rfl, B1, by rw [show bTo l k 0 = fun _ => 0 from by funext i; simp [bTo]]; exact C1, hb4⟩
     case round =>
      clear B1 hb4 C1
      have hbq := hb.size
      clear B hb
      obtain ⟨j, hj, rfl, B, C, hb⟩ := hrel
      by_cases hlt : j < 64
      ·have hlt' : (j : Int) < 64 := by omega
       have hin : 64 * k + j < l.length := by omega
       have hx := blkB_at l k j hin
       have hs := bTo_succ l k j
       have C1 := C.set j (.int .u8 (blkB l k j))
       rw [arb_set, hs, hx] at C1
       have HC := Lib.hid C1
       clear C1 hx hs
       have c0 := C.cell j
       rw [arb_at 64 _ _ hlt] at c0
       have cf := C.froz
       have t0 : (64 * (k : Int) + (j : Int)).toNat = 64 * k + j := by omega
       have q0 : 64 * (k : Int) + (j : Int) < (l.length : Int) := by omega
       go_wp2_with fail
       exact ⟨⟨j + 1, by omega, by go_num, B.other (by simp; omega) _, HC.out, hb.setCell (by simp; exact hbq) _⟩, by simp [intOf]; omega⟩
      ·have hje : j = 64 := by omega
       subst hje
       have hce : arb 64 (bTo l k 64) = arb 64 (blkB l k) := arb_ext (fun i hi => if_pos hi)
       rw [hce] at C
       have HN : Hid (blkN firstW l (k + 1) = blk (blkN firstW l k) (blkB l k)) := Lib.hid rfl
       have HW := Lib.hid (blkN_bd firstW l firstW_bd k)
       have HBB := Lib.hid (blkB_bd l k)
       clear hce
       generalize blkN firstW l k = f at *
       generalize blkB l k = bb at *
       go_wp2_with (first
        | (refine wpList_rowLoad row8w rfl (.tmp 8) rfl rfl (arr_len 8 _) B ?_)
        | (refine wpList_rowLoad row64b rfl (.tmp 10) rfl rfl (arb_len 64 _) C ?_))
       refine (rblock_any f bb HW.out (fun i _ => HBB.out i) _).mono ?_
       rintro e w5 ⟨rfl, hb5⟩
       have B5 := B.keep hb5
       have hb6 := hb.trans (hb5.mono hb.size)
       go_wp2_with (refine wpList_rowStore row8w rfl rfl (.tmp 8) (.tmp 62) rfl rfl rfl (arr_len 8 _) (arr_one 8 _) (arr_len 8 _) B5 ?_; intro w6 B6 m6)
       have hb7 := Below.mod hb6 m6 hb6.size (by simp; exact hq)
       exact ⟨⟨k + 1, by omega, by go_num, by rw [HN.out]; exact B6, hb7⟩, by simp [intOf]; omega⟩
    ·have hge' : ¬ 64 * (k : Int) + 64 ≤ (l.length : Int) := by omega
     have hke : l.length / 64 = k := by omega
     have HRk : Hid (toldP (blkN firstW l k) = R) := Lib.hid (by rw [← hke]; exact HRR.out)
     have HW := Lib.hid (blkN_bd firstW l firstW_bd k)
     clear hke HRR
     generalize blkN firstW l k = f at *
     go_wp2_with (refine wpList_rowLoad row8w rfl (.tmp 8) rfl rfl (arr_len 8 _) B ?_)
     refine (rtold_any f HW.out _).mono ?_
     rintro e w5 ⟨rfl, hb5⟩
     go_wp2_with fail
     go_ret
     exact ⟨by rw [← HRk.out]; rfl, hb.trans (hb5.mono hb.size)⟩
end Go.Proofs.YthgjdaomcpinaaaGreatDoor
namespace Go.Proofs.YthgjdaomcpinaaaGreatDoor
open Go.RowKit
def tagP (tag : Nat) (s : List UInt8) : List UInt8 := sumP (UInt8.ofNat tag :: s)
theorem tagP_len (tag : Nat) (s : List UInt8) : (tagP tag s).length = 32 := sumP_len _
theorem digsum_ok (tag : Nat) (h1 : 1 ≤ tag) (h2 : tag ≤ 255) (s : List UInt8) (hs : s.length ≤ 1099511627000) (w : World) (hk : KT w) :
  Calls Tryz.prog 121 #[.int .i64 ((tag : Int)), .string ⟨List.toArray s⟩] w fun e w' => e = .returned (.tuple #[.string ⟨List.toArray (tagP tag s)⟩, .int .i64 0]) ∧ Below w.heap.size w w' := by
 have hd1 : decide ((tag : Int) < 1) = false := by simp; omega
 have hd2 : decide ((255 : Int) < (tag : Int)) = false := by simp; omega
 have q : IntKind.u8.wrap (tag : Int) = (tag : Int) := by rw [IntKind.wrap_u8']; omega
 have hcat : ¬ 9223372036854775807 < 1 + s.length := by omega
 have hcat2 : ¬ 9223372036854775807 < s.length + 1 := by omega
 have hb0 : Below w.heap.size w (w.alloc (.cells #[.int .u8 (tag : Int)] 5)) := Below.allocS (Below.refl _ _) _
 go_enter Tryz.func121, Tryz.ntmps121
 go_wp2_with fail
 refine (shasum_any (UInt8.ofNat tag :: s) (by simp; omega) _ (hk.keep hb0)).mono ?_
 rintro e w2 ⟨rfl, hb⟩
 go_wp2_with fail
 go_ret2
 exact ⟨rfl, hb0.trans (hb.mono (by simp))⟩
theorem tagged_any (tag : Nat) (h2 : tag ≤ 255) (s : List UInt8) (hs : s.length ≤ 1099511627000) (w : World) :
  Calls Tryz.prog 145 #[.int .i64 ((tag : Int)), .string ⟨List.toArray s⟩] w fun e w' => e = .returned (.string ⟨List.toArray (tagP tag s)⟩) ∧ Below w.heap.size w w' := by
 have q : IntKind.u8.wrap (tag : Int) = (tag : Int) := by rw [IntKind.wrap_u8']; omega
 have hcat : ¬ 9223372036854775807 < 1 + s.length := by omega
 have hcat2 : ¬ 9223372036854775807 < s.length + 1 := by omega
 have hb0 : Below w.heap.size w (w.alloc (.cells #[.int .u8 (tag : Int)] 5)) := Below.allocS (Below.refl _ _) _
 go_enter Tryz.func145, Tryz.ntmps145
 go_wp2_with fail
 refine (rsum_any (UInt8.ofNat tag :: s) (by simp; omega) _).mono ?_
 rintro e w2 ⟨rfl, hb⟩
 go_wp2_with fail
 go_ret
 exact ⟨rfl, hb0.trans (hb.mono (by simp))⟩
end Go.Proofs.YthgjdaomcpinaaaGreatDoor
namespace Go.Proofs.YthgjdaomcpinaaaGreatDoor
open Go.RowKit Pl
namespace Pl
def recP (l : List Bs) : Bs := text (encS l) ++ (sumP (text (encS l))).take 4
def mayR (l : List Bs) : Bool := decide (l.length ≤ 1024) && l.all (fun s => decide (s.length ≤ 65536)) && decide ((encS l).length ≤ 524288)
end Pl
theorem jrecord_any (v : Value) (l : List Bs) (hn : l.length ≤ 1000) (hm : mayR l = true) (w : World) (hk : KT w) (hv : SS w v l) :
  Calls Tryz.prog 155 #[v] w fun e w' => e = .returned (.tuple #[.string ⟨List.toArray (recP l)⟩, .int .i64 0]) ∧ Below w.heap.size w w' := by
 unfold mayR at hm
 simp only [Bool.and_eq_true, decide_eq_true_eq, List.all_eq_true] at hm
 obtain ⟨⟨h1, h2⟩, h3⟩ := hm
 have hl : ∀ i, i < l.length → (l.getD i []).length ≤ 65536 := fun i hi => h2 _ (by rw [List.getD_eq_getElem?_getD, List.getElem?_eq_getElem hi]; exact List.getElem_mem _)
 have HL := Lib.hid hl
 have q1 := fun W (hb : Below w.heap.size w W) => clist_any v l W hn (fun i hi => by have := hl i hi; omega) (hv.keep hb)
 have q2 := fun W => ctext_any (encS l) (by omega) W
 have ht := text_len (encS l)
 have q3 := fun W (hb : Below w.heap.size w W) => shasum_any (text (encS l)) (by omega) W (hk.keep hb)
 have hsl := sumP_len (text (encS l))
 have hr : recP l = text (encS l) ++ (sumP (text (encS l))).take 4 := rfl
 rw [hr]
 obtain ⟨va, vc, rfl⟩ := hv.form
 have HV := Lib.hid hv
 have d1 : decide (1024 < (l.length : Int)) = false := by rw [decide_eq_false_iff_not]; omega
 have d2 : decide (524288 < ((encS l).length : Int)) = false := by rw [decide_eq_false_iff_not]; omega
 have d3 : ¬ 524288 < ((encS l).length : Int) := by omega
 clear hl h2 hr hv
 generalize encS l = E at *
 generalize text E = T at *
 generalize sumP T = D at *
 have hcat : ¬ 9223372036854775807 < T.length + 4 := by omega
 have h4 : (D.take 4).length = 4 := by rw [List.length_take]; omega
 go_enter Tryz.func155, Tryz.ntmps155
 go_wp2_with fail
 go_loopw [13] (fun s13 wr => ∃ i : Nat, s13 = .int .i64 i ∧ i ≤ l.length ∧ Below w.heap.size w wr) (fun s13 _ => l.length - (intOf s13).toNat)
 case atStart => exact ⟨0, rfl, Nat.zero_le _, Below.refl _ _⟩
 case round =>
  obtain ⟨i, rfl, hi, hb⟩ := hrel
  obtain ⟨wr, hnm⟩ := Below.name hb
  subst hnm
  by_cases hlt : i < l.length
  ·have HLT := Lib.hid hlt
   have i1 : decide ((i : Int) < (l.length : Int)) = true := by simp; omega
   have i0 : 0 ≤ (i : Int) ∧ (i : Int) < (l.length : Int) := by omega
   obtain ⟨g, off, e1, hg, c1⟩ := (HV.out.keep hb).at' i hlt
   subst e1
   have hx := HL.out i hlt
   generalize l.getD i [] = x at *
   have d4 : decide (65536 < (x.length : Int)) = false := by rw [decide_eq_false_iff_not]; omega
   have d5 : ¬ 65536 < (x.length : Int) := by omega
   clear hlt hx
   go_wp2_with fail
   exact ⟨⟨i + 1, by go_num, by have := HLT.out; omega, hb⟩, by have := HLT.out; simp [intOf]; omega⟩
  ·have e : i = l.length := by omega
   subst e
   clear hlt
   go_wp2_with fail
   refine (q1 _ hb).mono ?_
   rintro e w2 ⟨rfl, hb2⟩
   have hb2 := hb.trans (hb2.mono hb.size)
   go_wp2_with fail
   refine (q2 _).mono ?_
   rintro e w3 ⟨rfl, hb3⟩
   have hb3 := hb2.trans (hb3.mono hb2.size)
   go_wp2_with fail
   refine (q3 _ hb3).mono ?_
   rintro e w4 ⟨rfl, hb4⟩
   have hb4 := hb3.trans (hb4.mono hb3.size)
   go_wp2_with fail
   go_ret2
   exact ⟨by simp, hb4⟩
end Go.Proofs.YthgjdaomcpinaaaGreatDoor
namespace Go.Proofs.YthgjdaomcpinaaaGreatDoor
open Go.RowKit Pl
namespace Pl
def writeD (d : Dk) (l : List Bs) : Dk × Int := if (appD d (recP l)).2 = 0 then syncD (appD d (recP l)).1 else appD d (recP l)
theorem burnt_fuse (d : Dk) : (burntD d).1.fuse = d.fuse ∨ ((burntD d).1.fuse = d.fuse - 1 ∧ 0 < d.fuse) := by
 unfold burntD
 split
 ·exact .inl rfl
 ·split
  ·rename_i h
   exact .inr ⟨rfl, h⟩
  ·exact .inl rfl
theorem app_fuse (d : Dk) (t : Bs) : (appD d t).1.fuse = d.fuse ∨ ((appD d t).1.fuse = d.fuse - 1 ∧ 0 < d.fuse) := by
 unfold appD
 split
 ·exact .inl rfl
 ·split
  ·exact .inl rfl
  ·split
   ·exact burnt_fuse d
   ·exact burnt_fuse d
def tornD (c : Int) : Bool := decide (c ≠ 0) && decide (c ≠ 310)
end Pl
theorem jscan_empty (w : World) : Calls Tryz.prog 122 #[.string ⟨List.toArray []⟩] w fun e w' => e = .returned (.tuple #[.slice none 0 0, .int .i64 0]) ∧ w' = w := by
 go_enter Tryz.func122, Tryz.ntmps122
 go_wp2_with fail
 go_step3
 go_wp2_with fail
 go_step3
 go_wp2_with fail
 go_loopw [2, 3] (fun s2 s3 wr => s2 = .slice none 0 0 ∧ s3 = .int .i64 0 ∧ wr = w) (fun _ _ _ => 0)
 case atStart => exact ⟨rfl, rfl, rfl⟩
 case round =>
  obtain ⟨rfl, rfl, rfl⟩ := hrel
  go_wp2_with fail
  rw [Exit.noGoto_ret]
  go_ret2
  exact ⟨rfl, rfl⟩
theorem jopen_empty (av : List Nat) (p : Nat) (d : Dk) (hd : d.s = []) (hf : -9223372036854775808 ≤ d.fuse ∧ d.fuse ≤ 9223372036854775807) (hsy : (syncD d).2 = 0) (w : World) (h : DkV w av p d) :
  Calls Tryz.prog 68 #[.pointer (some ⟨p, 0, none⟩)] w fun e w' => ∃ j, e = .returned (.tuple #[.pointer (some ⟨j, 0, none⟩), .slice none 0 0, .int .i64 0]) ∧ w.heap.size ≤ j ∧ Blk w' j #[.pointer (some ⟨p, 0, none⟩), .bool false] ∧ DkV w' (j :: av) p (syncD d).1 ∧ Mod [p] w w' := by
 have q1 := dread_any av p d w h
 rw [hd] at q1
 have q2 := jscan_empty w
 have q3 := dsync_any av p d hf w h
 generalize syncD d = x at *
 obtain ⟨d1, c⟩ := x
 simp only at hsy q3
 subst hsy
 clear hd h
 go_enter Tryz.func68, Tryz.ntmps68
 go_wp2_with fail
 refine q1.mono ?_
 rintro e w1 ⟨rfl, rfl⟩
 go_wp2_with fail
 refine q2.mono ?_
 rintro e w2 ⟨rfl, rfl⟩
 go_wp2_with fail
 refine q3.mono ?_
 rintro e w3 ⟨rfl, h3, m3⟩
 go_wp2_with fail
 go_ret3
 exact ⟨w3.heap.size, rfl, m3.size, Blk.new _ _ _, (h3.more (Nat.le_refl _)).keep (Below.allocS (Below.refl _ _) _), m3.trans (Mod.of_below (Below.allocS (Below.refl _ _) _))⟩
theorem jwrite_any (av : List Nat) (p j : Nat) (d : Dk) (v : Value) (l : List Bs) (hn : l.length ≤ 1000) (hm : mayR l = true) (hf : -9223372036854775808 ≤ d.fuse ∧ d.fuse ≤ 9223372036854775807) (hrm : 0 ≤ d.room ∧ d.room ≤ 1048576) (hsl : d.s.length ≤ 1048576) (w : World) (hk : KT w) (h : DkV w av p d) (hj : Blk w j #[.pointer (some ⟨p, 0, none⟩), .bool false]) (hpj : p ≠ j) (hjb : j ∈ av) (hav : ∀ x ∈ av, x < w.heap.size) (hv : SS w v l) :
  Calls Tryz.prog 128 #[.pointer (some ⟨j, 0, none⟩), v] w fun e w' => e = .returned (.int .i64 ((writeD d l).2)) ∧ DkV w' av p (writeD d l).1 ∧ Blk w' j #[.pointer (some ⟨p, 0, none⟩), .bool (tornD (writeD d l).2)] ∧ Mod [p, j] w w' := by
 have q1 := jrecord_any v l hn hm w hk hv
 have hlen : (recP l).length ≤ 1000000 := by
  unfold mayR at hm
  simp only [Bool.and_eq_true, decide_eq_true_eq] at hm
  have h1 := text_len (encS l)
  unfold recP
  rw [List.length_append, List.length_take]
  omega
 have q2 := fun W (h : DkV W av p d) (hb : ∀ x ∈ av, x < W.heap.size) => dappend_any av p d (recP l) hf hrm hsl (by omega) W h hb
 have hap := app_fuse d (recP l)
 have q3 := fun W (h : DkV W av p (appD d (recP l)).1) => dsync_any av p (appD d (recP l)).1 (by omega) W h
 have HW : Hid (writeD d l = if (appD d (recP l)).2 = 0 then syncD (appD d (recP l)).1 else appD d (recP l)) := Lib.hid rfl
 generalize writeD d l = R at *
 generalize appD d (recP l) = x at *
 obtain ⟨d1, c1⟩ := x
 simp only at q2 q3 hap
 generalize syncD d1 = y at *
 obtain ⟨d2, c2⟩ := y
 simp only at q3
 generalize recP l = rr at *
 obtain ⟨b1, b2, b3⟩ := id hj
 have HT : Hid (∀ c, tornD c = (decide (c ≠ 0) && decide (c ≠ 310))) := Lib.hid (fun _ => rfl)
 clear hm hlen hap
 go_enter Tryz.func128, Tryz.ntmps128
 go_wp2_with fail
 refine q1.mono ?_
 rintro e w1 ⟨rfl, hb1⟩
 have h1 := h.keep hb1
 have hj1 := hj.keep hb1
 have hbs1 := fun x (hx : x ∈ av) => Nat.lt_of_lt_of_le (hav x hx) hb1.size
 clear b1 b2 b3 q1 h hj
 obtain ⟨b1, b2, b3⟩ := id hj1
 go_wp2_with fail
 refine (q2 _ h1 hbs1).mono ?_
 rintro e w2 ⟨rfl, h2, m2⟩
 have hj2 := hj1.mod m2 (by simp; omega)
 clear b1 b2 b3 q2 h1 hj1
 obtain ⟨b1, b2, b3⟩ := id hj2
 have hkp := hb1
 by_cases h0 : c1 = 0
 ·subst h0
  have HR : Hid (R = (d2, c2)) := Lib.hid (by rw [HW.out, if_pos rfl])
  clear HW
  go_wp2_with fail
  refine (q3 _ h2).mono ?_
  rintro e w3 ⟨rfl, h3, m3⟩
  have hj3 := hj2.mod m3 (by simp; omega)
  clear b1 b2 b3 q3 h2 hj2
  obtain ⟨b1, b2, b3⟩ := id hj3
  by_cases h1 : c2 = 0
  ·subst h1
   go_wp2_with fail
   go_ret
   have hm := (Mod.refl [p, j] w3).setCell (p := ⟨j, 1, none⟩) (.inl (by simp)) (.bool false)
   have hmj := (Mod.refl [j] w3).setCell (p := ⟨j, 1, none⟩) (.inl (by simp)) (.bool false)
   rw [HR.out]
   refine ⟨rfl, ⟨h3.lt, ?_⟩, ?_, ?_⟩
   ·obtain ⟨vx, hx1, hx2⟩ := h3.row
    exact ⟨vx, hx1.mod hmj hjb, hx2.mod hmj (by simp; omega)⟩
   ·rw [show tornD 0 = false from rfl]
    simpa using hj3.set 1 (.bool false)
   ·exact (((Mod.of_below hb1).trans (m2.sub (by simp))).trans (m3.sub (by simp))).trans hm
  ·have g1 : (c2 == 0) = false := by simpa using h1
   have g2 : (c2 != 0) = true := by simpa using h1
   by_cases h5 : c2 = 310
   ·subst h5
    go_wp2_with fail
    go_ret
    have hm := (Mod.refl [p, j] w3).setCell (p := ⟨j, 1, none⟩) (.inl (by simp)) (.bool false)
    have hmj := (Mod.refl [j] w3).setCell (p := ⟨j, 1, none⟩) (.inl (by simp)) (.bool false)
    rw [HR.out]
    refine ⟨rfl, ⟨h3.lt, ?_⟩, ?_, ?_⟩
    ·obtain ⟨vx, hx1, hx2⟩ := h3.row
     exact ⟨vx, hx1.mod hmj hjb, hx2.mod hmj (by simp; omega)⟩
    ·rw [show tornD 310 = false from rfl]
     simpa using hj3.set 1 (.bool false)
    ·exact (((Mod.of_below hb1).trans (m2.sub (by simp))).trans (m3.sub (by simp))).trans hm
   ·have g3 : (c2 == 310) = false := by simpa using h5
    have g4 : (c2 != 310) = true := by simpa using h5
    have HTT : Hid (tornD c2 = true) := Lib.hid (by unfold tornD; simp [h1, h5])
    clear h1 h5
    go_wp2_with fail
    go_ret
    have hm := (Mod.refl [p, j] w3).setCell (p := ⟨j, 1, none⟩) (.inl (by simp)) (.bool true)
    have hmj := (Mod.refl [j] w3).setCell (p := ⟨j, 1, none⟩) (.inl (by simp)) (.bool true)
    rw [HR.out]
    refine ⟨rfl, ⟨h3.lt, ?_⟩, ?_, ?_⟩
    ·obtain ⟨vx, hx1, hx2⟩ := h3.row
     exact ⟨vx, hx1.mod hmj hjb, hx2.mod hmj (by simp; omega)⟩
    ·rw [show tornD c2 = true from HTT.out]
     simpa using hj3.set 1 (.bool true)
    ·exact (((Mod.of_below hb1).trans (m2.sub (by simp))).trans (m3.sub (by simp))).trans hm
 ·have g1 : (c1 == 0) = false := by simpa using h0
  have g2 : (c1 != 0) = true := by simpa using h0
  have HR : Hid (R = (d1, c1)) := Lib.hid (by rw [HW.out, if_neg h0])
  clear HW q3
  by_cases h5 : c1 = 310
  ·subst h5
   go_wp2_with fail
   go_ret
   have hm := (Mod.refl [p, j] w2).setCell (p := ⟨j, 1, none⟩) (.inl (by simp)) (.bool false)
   have hmj := (Mod.refl [j] w2).setCell (p := ⟨j, 1, none⟩) (.inl (by simp)) (.bool false)
   rw [HR.out]
   refine ⟨rfl, ⟨h2.lt, ?_⟩, ?_, ?_⟩
   ·obtain ⟨vx, hx1, hx2⟩ := h2.row
    exact ⟨vx, hx1.mod hmj hjb, hx2.mod hmj (by simp; omega)⟩
   ·rw [show tornD 310 = false from rfl]
    simpa using hj2.set 1 (.bool false)
   ·exact ((Mod.of_below hb1).trans (m2.sub (by simp))).trans hm
  ·have g3 : (c1 == 310) = false := by simpa using h5
   have g4 : (c1 != 310) = true := by simpa using h5
   have HTT : Hid (tornD c1 = true) := Lib.hid (by unfold tornD; simp [h0, h5])
   clear h0 h5
   go_wp2_with fail
   go_ret
   have hm := (Mod.refl [p, j] w2).setCell (p := ⟨j, 1, none⟩) (.inl (by simp)) (.bool true)
   have hmj := (Mod.refl [j] w2).setCell (p := ⟨j, 1, none⟩) (.inl (by simp)) (.bool true)
   rw [HR.out]
   refine ⟨rfl, ⟨h2.lt, ?_⟩, ?_, ?_⟩
   ·obtain ⟨vx, hx1, hx2⟩ := h2.row
    exact ⟨vx, hx1.mod hmj hjb, hx2.mod hmj (by simp; omega)⟩
   ·rw [show tornD c1 = true from HTT.out]
    simpa using hj2.set 1 (.bool true)
   ·exact ((Mod.of_below hb1).trans (m2.sub (by simp))).trans hm
end Go.Proofs.YthgjdaomcpinaaaGreatDoor
