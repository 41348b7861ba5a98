/- Rsum, Dig, NodeD, Knot, Tied, TrieW. -/
import Derived.Deep.OwnRows
import Derived.Laws.Tables
import Derived.Test.YtjppbomngnomhaaGreatDoorMx6
set_option linter.unnecessarySimpa false
set_option linter.unusedSimpArgs false
set_option linter.unusedVariables false
set_option maxRecDepth 100000
set_option maxHeartbeats 32000000
namespace Go.Proofs.YtjppbomngnomhaaGreatDoor
open Go.RowKit
theorem Below.name' {B : Nat} {a w : World} (_ : Below B a w) : ∃ w' : World, w' = w := ⟨w, rfl⟩
theorem be8_drop (x i : Nat) (hi : i < 8) : (be8 x).drop (8 - (i + 1)) = UInt8.ofNat (x / 2 ^ (8 * i) % 256) :: (be8 x).drop (8 - i) := by
 have h1 : 8 - (i + 1) < (be8 x).length := by rw [be8_len]; omega
 rw [List.drop_eq_getElem_cons h1, show 8 - (i + 1) + 1 = 8 - i from by omega]
 congr 1
 simp only [be8, List.getElem_map, List.getElem_range]
 rw [show 56 - 8 * (8 - (i + 1)) = 8 * i from by omega]
def bTo (l : List UInt8) (k j : Nat) : Nat → Int := fun i => if i < j then blkB l k i else 0
theorem bTo_succ (l : List UInt8) (k j : Nat) : updI (bTo l k j) j (blkB l k j) = bTo l k (j + 1) := by
 funext i
 unfold updI bTo
 by_cases h : i = j
 ·subst h; rw [if_pos rfl, if_pos (by omega)]
 ·rw [if_neg h]
  by_cases h2 : i < j
  ·rw [if_pos h2, if_pos (by omega)]
  ·rw [if_neg h2, if_neg (by omega)]
theorem blkB_at (l : List UInt8) (k j : Nat) (h : 64 * k + j < l.length) : blkB l k j = ((l[64 * k + j]).toNat : Int) := by
 unfold blkB
 rw [List.getD_eq_getElem?_getD, List.getElem?_drop, List.getElem?_eq_getElem h]
 rfl
theorem arb_ext {n : Nat} {f g : Nat → Int} (h : ∀ i, i < n → f i = g i) : arb n f = arb n g := by
 unfold arb
 apply List.map_congr_left
 intro i hi
 rw [h i (by simpa using hi)]
theorem zero64b : (arb 64 fun _ => 0).toArray = #[Value.int .u8 0, Value.int .u8 0, Value.int .u8 0, Value.int .u8 0, Value.int .u8 0, Value.int .u8 0, Value.int .u8 0, Value.int .u8 0, Value.int .u8 0, Value.int .u8 0, Value.int .u8 0, Value.int .u8 0, Value.int .u8 0, Value.int .u8 0, Value.int .u8 0, Value.int .u8 0, Value.int .u8 0, Value.int .u8 0, Value.int .u8 0, Value.int .u8 0, Value.int .u8 0, Value.int .u8 0, Value.int .u8 0, Value.int .u8 0, Value.int .u8 0, Value.int .u8 0, Value.int .u8 0, Value.int .u8 0, Value.int .u8 0, Value.int .u8 0, Value.int .u8 0, Value.int .u8 0, Value.int .u8 0, Value.int .u8 0, Value.int .u8 0, Value.int .u8 0, Value.int .u8 0, Value.int .u8 0, Value.int .u8 0, Value.int .u8 0, Value.int .u8 0, Value.int .u8 0, Value.int .u8 0, Value.int .u8 0, Value.int .u8 0, Value.int .u8 0, Value.int .u8 0, Value.int .u8 0, Value.int .u8 0, Value.int .u8 0, Value.int .u8 0, Value.int .u8 0, Value.int .u8 0, Value.int .u8 0, Value.int .u8 0, Value.int .u8 0, Value.int .u8 0, Value.int .u8 0, Value.int .u8 0, Value.int .u8 0, Value.int .u8 0, Value.int .u8 0, Value.int .u8 0, Value.int .u8 0] := rfl
theorem pow_step (x i : Nat) : x / 2 ^ (8 * i) / 256 = x / 2 ^ (8 * (i + 1)) := by
 rw [Nat.div_div_eq_div_mul, show 8 * (i + 1) = 8 * i + 8 from by omega, Nat.pow_add]
theorem rsum_any (s : List UInt8) (hs : s.length ≤ 1099511627776) (w : World) :
  Calls Tryz.prog 53 #[.string ⟨List.toArray s⟩] w fun e w' => e = .returned (.string ⟨List.toArray (sumP s)⟩) ∧ Below w.heap.size w w' := by
 generalize hR : sumP s = R
 have HR := Lib.hid hR
 clear hR
 have hz : ((119 - (s.length : Int) % 64) % 64) = ((zer s.length : Nat) : Int) := by unfold zer; omega
 have hzl : zer s.length < 64 := by unfold zer; omega
 have HZ := Lib.hid (rfl : zer s.length = zer s.length)
 have HPD : Hid (padP s = s ++ [128] ++ List.replicate (zer s.length) 0 ++ be8 (8 * s.length)) := Lib.hid (by simp [padP, padEnd])
 generalize zer s.length = z at *
 have hbits : (s.length : Int) * 8 = ((8 * s.length : Nat) : Int) := by omega
 have hbl : 8 * s.length < 9223372036854775807 := by omega
 generalize 8 * s.length = x at *
 go_enter Tryz.func53, Tryz.ntmps53
 go_wp2_with fail
 go_loopw [4, 5, 6] (fun s4 s5 s6 wr => ∃ i : Nat, i ≤ 8 ∧ s6 = .int .i64 i ∧ s4 = .int .i64 (x / 2 ^ (8 * i) : Nat) ∧ s5 = .string ⟨List.toArray ((be8 x).drop (8 - i))⟩ ∧ Below w.heap.size w wr) (fun _ _ s6 _ => 8 - (intOf s6).toNat)
 case atStart => exact ⟨0, by omega, rfl, by simp, by simp [be8], Below.refl _ _⟩
 case round =>
  obtain ⟨i, hi, rfl, rfl, rfl, hb⟩ := hrel
  rename_i wr
  by_cases hlt : i < 8
  ·have hlt' : (i : Int) < 8 := by omega
   have HD := Lib.hid (be8_drop x i hlt)
   have hdl : ((be8 x).drop (8 - i)).length ≤ 8 := by rw [List.length_drop, be8_len]; omega
   have HP := Lib.hid (pow_step x i)
   have hbb : x / 2 ^ (8 * i) ≤ x := Nat.div_le_self _ _
   generalize x / 2 ^ (8 * i) = y at *
   generalize (be8 x).drop (8 - i) = t at *
   have hcat : ¬ 9223372036854775807 < 1 + t.length := by omega
   have hcat2 : ¬ 9223372036854775807 < t.length + 1 := by omega
   go_wp2_with fail
   exact ⟨⟨i + 1, by omega, by go_num, by rw [← HP.out]; go_num, by rw [HD.out], Below.allocS hb _⟩, by simp [intOf]; omega⟩
  ·have hie : i = 8 := by omega
   subst hie
   have e8 : (be8 x).drop (8 - 8) = be8 x := rfl
   rw [e8]
   have hrl : (List.replicate z (0 : UInt8)).length = z := by simp
   have hrg : ∀ i, i < z → (List.replicate z (0 : UInt8)).getD i 0 = 0 := fun i hi => by simp [List.getD, List.getElem?_replicate, hi]
   generalize List.replicate z (0 : UInt8) = zr at *
   have hmk := fun w => run_make_row' (P := Tryz.prog) 59 5 (.int .u8 0) 1 Tryz.underlying59 infoU8 rfl .i64 .i64 z (by omega) (by omega) w
   have hcv := conv_str (P := Tryz.prog) (w := wr.alloc (.cells (madeCells #[.int .u8 0] z) 5)) 59 5 9 Tryz.underlying59 Tryz.underlying5 Tryz.underlying9 wr.heap.size 0 z z zr hrl (fun i hi => by
    rw [Nat.zero_add, World.cell?_alloc_new, hrg i hi]
    simp [madeCells, hi, Nat.mod_one])
   have hl8 : (be8 x).length ≤ 8 := Nat.le_of_eq (be8_len x)
   have hrl2 : zr.length ≤ 64 := by omega
   have HLS : Hid ((padP s).length = s.length + 1 + z + 8) := Lib.hid (by rw [HPD.out]; simp [hrl, be8_len]; omega)
   clear hrl hrg e8
   generalize be8 x = be at *
   have hcat : ¬ 9223372036854775807 < s.length + 1 := by omega
   have hcat2 : ¬ 9223372036854775807 < s.length + 1 + zr.length := by omega
   have hcat3 : ¬ 9223372036854775807 < s.length + 1 + zr.length + be.length := by omega
   rw [show ((8 : Nat) : Int) = 8 from rfl]
   go_wp2_with fail
   rw [show s ++ 128 :: (zr ++ be) = padP s from by rw [HPD.out]; simp]
   refine (rfirst_any _).mono ?_
   rintro e w1 ⟨rfl, hb1⟩
   have hb2 : Below w.heap.size w w1 := (Below.allocS hb _).trans (hb1.mono (by have := hb.size; simp; omega))
   have HRR : Hid (toldP (blkN firstW (padP s) ((padP s).length / 64)) = R) := HR
   have hlen : (padP s).length ≤ 1099511628000 := by have := HLS.out; omega
   clear HR HPD HLS hcv hmk hcat hcat2 hcat3 hb hb1 hz hbits hbl hrl2 hl8 hzl
   generalize padP s = l at *
   go_wp2_with (refine wpList_rowStore row8w rfl rfl (.tmp 8) (.tmp 41) rfl rfl rfl (arr_len 8 _) (arr_one 8 _) (us := (arr 8 fun _ => 0)) (arr_len 8 _) (by rw [zero8w]; exact Blk.new' (by simp)) ?_; intro w2 S2 m2)
   have hb3 := Below.mod (Below.allocS hb2 (.cells #[Value.int .u32 0, Value.int .u32 0, Value.int .u32 0, Value.int .u32 0, Value.int .u32 0, Value.int .u32 0, Value.int .u32 0, Value.int .u32 0] 118)) m2 (by simp; have := hb2.size; omega) (by simp; have := hb2.size; omega)
   have hq := hb2.size
   generalize w1.heap.size = q at *
   clear hb2 m2
   go_loopw [9] (fun s9 wq => ∃ k : Nat, 64 * k ≤ l.length ∧ s9 = .int .i64 (64 * (k : Int)) ∧ Blk wq q (arr 8 (blkN firstW l k)).toArray ∧ Below w.heap.size w wq) (fun s9 _ => l.length + 64 - (intOf s9).toNat)
   case atStart => exact ⟨0, by omega, rfl, S2, hb3⟩
   case round =>
    clear S2 hb3
    obtain ⟨k, hk, rfl, B, hb⟩ := hrel
    obtain ⟨wq, hwq⟩ := Below.name' hb
    subst hwq
    by_cases hge : 64 * k + 64 ≤ l.length
    ·have hge' : 64 * (k : Int) + 64 ≤ (l.length : Int) := by omega
     have hdec : decide (64 * (k : Int) + 64 ≤ (l.length : Int)) = true := by simp; omega
     have B1 := B.alloc (.cells #[Value.int .u8 0, Value.int .u8 0, Value.int .u8 0, Value.int .u8 0, Value.int .u8 0, Value.int .u8 0, Value.int .u8 0, Value.int .u8 0, Value.int .u8 0, Value.int .u8 0, Value.int .u8 0, Value.int .u8 0, Value.int .u8 0, Value.int .u8 0, Value.int .u8 0, Value.int .u8 0, Value.int .u8 0, Value.int .u8 0, Value.int .u8 0, Value.int .u8 0, Value.int .u8 0, Value.int .u8 0, Value.int .u8 0, Value.int .u8 0, Value.int .u8 0, Value.int .u8 0, Value.int .u8 0, Value.int .u8 0, Value.int .u8 0, Value.int .u8 0, Value.int .u8 0, Value.int .u8 0, Value.int .u8 0, Value.int .u8 0, Value.int .u8 0, Value.int .u8 0, Value.int .u8 0, Value.int .u8 0, Value.int .u8 0, Value.int .u8 0, Value.int .u8 0, Value.int .u8 0, Value.int .u8 0, Value.int .u8 0, Value.int .u8 0, Value.int .u8 0, Value.int .u8 0, Value.int .u8 0, Value.int .u8 0, Value.int .u8 0, Value.int .u8 0, Value.int .u8 0, Value.int .u8 0, Value.int .u8 0, Value.int .u8 0, Value.int .u8 0, Value.int .u8 0, Value.int .u8 0, Value.int .u8 0, Value.int .u8 0, Value.int .u8 0, Value.int .u8 0, Value.int .u8 0, Value.int .u8 0] 120)
     have hb4 := Below.allocS hb (.cells #[Value.int .u8 0, Value.int .u8 0, Value.int .u8 0, Value.int .u8 0, Value.int .u8 0, Value.int .u8 0, Value.int .u8 0, Value.int .u8 0, Value.int .u8 0, Value.int .u8 0, Value.int .u8 0, Value.int .u8 0, Value.int .u8 0, Value.int .u8 0, Value.int .u8 0, Value.int .u8 0, Value.int .u8 0, Value.int .u8 0, Value.int .u8 0, Value.int .u8 0, Value.int .u8 0, Value.int .u8 0, Value.int .u8 0, Value.int .u8 0, Value.int .u8 0, Value.int .u8 0, Value.int .u8 0, Value.int .u8 0, Value.int .u8 0, Value.int .u8 0, Value.int .u8 0, Value.int .u8 0, Value.int .u8 0, Value.int .u8 0, Value.int .u8 0, Value.int .u8 0, Value.int .u8 0, Value.int .u8 0, Value.int .u8 0, Value.int .u8 0, Value.int .u8 0, Value.int .u8 0, Value.int .u8 0, Value.int .u8 0, Value.int .u8 0, Value.int .u8 0, Value.int .u8 0, Value.int .u8 0, Value.int .u8 0, Value.int .u8 0, Value.int .u8 0, Value.int .u8 0, Value.int .u8 0, Value.int .u8 0, Value.int .u8 0, Value.int .u8 0, Value.int .u8 0, Value.int .u8 0, Value.int .u8 0, Value.int .u8 0, Value.int .u8 0, Value.int .u8 0, Value.int .u8 0, Value.int .u8 0] 120)
     have C1 : Blk (wq.alloc (.cells #[Value.int .u8 0, Value.int .u8 0, Value.int .u8 0, Value.int .u8 0, Value.int .u8 0, Value.int .u8 0, Value.int .u8 0, Value.int .u8 0, Value.int .u8 0, Value.int .u8 0, Value.int .u8 0, Value.int .u8 0, Value.int .u8 0, Value.int .u8 0, Value.int .u8 0, Value.int .u8 0, Value.int .u8 0, Value.int .u8 0, Value.int .u8 0, Value.int .u8 0, Value.int .u8 0, Value.int .u8 0, Value.int .u8 0, Value.int .u8 0, Value.int .u8 0, Value.int .u8 0, Value.int .u8 0, Value.int .u8 0, Value.int .u8 0, Value.int .u8 0, Value.int .u8 0, Value.int .u8 0, Value.int .u8 0, Value.int .u8 0, Value.int .u8 0, Value.int .u8 0, Value.int .u8 0, Value.int .u8 0, Value.int .u8 0, Value.int .u8 0, Value.int .u8 0, Value.int .u8 0, Value.int .u8 0, Value.int .u8 0, Value.int .u8 0, Value.int .u8 0, Value.int .u8 0, Value.int .u8 0, Value.int .u8 0, Value.int .u8 0, Value.int .u8 0, Value.int .u8 0, Value.int .u8 0, Value.int .u8 0, Value.int .u8 0, Value.int .u8 0, Value.int .u8 0, Value.int .u8 0, Value.int .u8 0, Value.int .u8 0, Value.int .u8 0, Value.int .u8 0, Value.int .u8 0, Value.int .u8 0] 120)) wq.heap.size (arb 64 fun _ => 0).toArray := by rw [zero64b]; exact Blk.new' rfl
     have hbl := B.lt
     go_wp2_with fail
     go_loopw [11] (fun s11 wi => ∃ j : Nat, j ≤ 64 ∧ s11 = .int .i64 j ∧ Blk wi q (arr 8 (blkN firstW l k)).toArray ∧ Blk wi wq.heap.size (arb 64 (bTo l k j)).toArray ∧ Below w.heap.size w wi) (fun s11 _ => 64 - (intOf s11).toNat)
     case atStart => exact ⟨0, by omega, rfl, B1, by rw [show bTo l k 0 = fun _ => 0 from by funext i; simp [bTo]]; exact C1, hb4⟩
     case round =>
      clear B1 hb4 C1
      have hbq := hb.size
      clear B hb
      obtain ⟨j, hj, rfl, B, C, hb⟩ := hrel
      by_cases hlt : j < 64
      ·have hlt' : (j : Int) < 64 := by omega
       have hin : 64 * k + j < l.length := by omega
       have hx := blkB_at l k j hin
       have hs := bTo_succ l k j
       have C1 := C.set j (.int .u8 (blkB l k j))
       rw [arb_set, hs, hx] at C1
       have HC := Lib.hid C1
       clear C1 hx hs
       have c0 := C.cell j
       rw [arb_at 64 _ _ hlt] at c0
       have cf := C.froz
       have t0 : (64 * (k : Int) + (j : Int)).toNat = 64 * k + j := by omega
       have q0 : 64 * (k : Int) + (j : Int) < (l.length : Int) := by omega
       go_wp2_with fail
       exact ⟨⟨j + 1, by omega, by go_num, B.other (by simp; omega) _, HC.out, hb.setCell (by simp; exact hbq) _⟩, by simp [intOf]; omega⟩
      ·have hje : j = 64 := by omega
       subst hje
       have hce : arb 64 (bTo l k 64) = arb 64 (blkB l k) := arb_ext (fun i hi => if_pos hi)
       rw [hce] at C
       have HN : Hid (blkN firstW l (k + 1) = blk (blkN firstW l k) (blkB l k)) := Lib.hid rfl
       have HW := Lib.hid (blkN_bd firstW l firstW_bd k)
       have HBB := Lib.hid (blkB_bd l k)
       clear hce
       generalize blkN firstW l k = f at *
       generalize blkB l k = bb at *
       go_wp2_with (first
        | (refine wpList_rowLoad row8w rfl (.tmp 8) rfl rfl (arr_len 8 _) B ?_)
        | (refine wpList_rowLoad row64b rfl (.tmp 10) rfl rfl (arb_len 64 _) C ?_))
       refine (rblock_any f bb HW.out (fun i _ => HBB.out i) _).mono ?_
       rintro e w5 ⟨rfl, hb5⟩
       have B5 := B.keep hb5
       have hb6 := hb.trans (hb5.mono hb.size)
       go_wp2_with (refine wpList_rowStore row8w rfl rfl (.tmp 8) (.tmp 62) rfl rfl rfl (arr_len 8 _) (arr_one 8 _) (arr_len 8 _) B5 ?_; intro w6 B6 m6)
       have hb7 := Below.mod hb6 m6 hb6.size (by simp; exact hq)
       exact ⟨⟨k + 1, by omega, by go_num, by rw [HN.out]; exact B6, hb7⟩, by simp [intOf]; omega⟩
    ·have hge' : ¬ 64 * (k : Int) + 64 ≤ (l.length : Int) := by omega
     have hke : l.length / 64 = k := by omega
     have HRk : Hid (toldP (blkN firstW l k) = R) := Lib.hid (by rw [← hke]; exact HRR.out)
     have HW := Lib.hid (blkN_bd firstW l firstW_bd k)
     clear hke HRR
     generalize blkN firstW l k = f at *
     go_wp2_with (refine wpList_rowLoad row8w rfl (.tmp 8) rfl rfl (arr_len 8 _) B ?_)
     refine (rtold_any f HW.out _).mono ?_
     rintro e w5 ⟨rfl, hb5⟩
     go_wp2_with fail
     go_ret
     exact ⟨by rw [← HRk.out]; rfl, hb.trans (hb5.mono hb.size)⟩
end Go.Proofs.YtjppbomngnomhaaGreatDoor
namespace Go.Proofs.YtjppbomngnomhaaGreatDoor
open Go.RowKit
def tagP (tag : Nat) (s : List UInt8) : List UInt8 := sumP (UInt8.ofNat tag :: s)
theorem tagP_len (tag : Nat) (s : List UInt8) : (tagP tag s).length = 32 := sumP_len _
theorem digsum_ok (tag : Nat) (h1 : 1 ≤ tag) (h2 : tag ≤ 255) (s : List UInt8) (hs : s.length ≤ 1099511627000) (w : World) (hk : KT w) :
  Calls Tryz.prog 56 #[.int .i64 ((tag : Int)), .string ⟨List.toArray s⟩] w fun e w' => e = .returned (.tuple #[.string ⟨List.toArray (tagP tag s)⟩, .int .i64 0]) ∧ Below w.heap.size w w' := by
 have hd1 : decide ((tag : Int) < 1) = false := by simp; omega
 have hd2 : decide ((255 : Int) < (tag : Int)) = false := by simp; omega
 have q : IntKind.u8.wrap (tag : Int) = (tag : Int) := by rw [IntKind.wrap_u8']; omega
 have hcat : ¬ 9223372036854775807 < 1 + s.length := by omega
 have hcat2 : ¬ 9223372036854775807 < s.length + 1 := by omega
 have hb0 : Below w.heap.size w (w.alloc (.cells #[.int .u8 (tag : Int)] 5)) := Below.allocS (Below.refl _ _) _
 go_enter Tryz.func56, Tryz.ntmps56
 go_wp2_with fail
 refine (shasum_any (UInt8.ofNat tag :: s) (by simp; omega) _ (hk.keep hb0)).mono ?_
 rintro e w2 ⟨rfl, hb⟩
 go_wp2_with fail
 go_ret2
 exact ⟨rfl, hb0.trans (hb.mono (by simp))⟩
theorem tagged_any (tag : Nat) (h2 : tag ≤ 255) (s : List UInt8) (hs : s.length ≤ 1099511627000) (w : World) :
  Calls Tryz.prog 35 #[.int .i64 ((tag : Int)), .string ⟨List.toArray s⟩] w fun e w' => e = .returned (.string ⟨List.toArray (tagP tag s)⟩) ∧ Below w.heap.size w w' := by
 have q : IntKind.u8.wrap (tag : Int) = (tag : Int) := by rw [IntKind.wrap_u8']; omega
 have hcat : ¬ 9223372036854775807 < 1 + s.length := by omega
 have hcat2 : ¬ 9223372036854775807 < s.length + 1 := by omega
 have hb0 : Below w.heap.size w (w.alloc (.cells #[.int .u8 (tag : Int)] 5)) := Below.allocS (Below.refl _ _) _
 go_enter Tryz.func35, Tryz.ntmps35
 go_wp2_with fail
 refine (rsum_any (UInt8.ofNat tag :: s) (by simp; omega) _).mono ?_
 rintro e w2 ⟨rfl, hb⟩
 go_wp2_with fail
 go_ret
 exact ⟨rfl, hb0.trans (hb.mono (by simp))⟩
end Go.Proofs.YtjppbomngnomhaaGreatDoor
namespace Go.Proofs.YtjppbomngnomhaaGreatDoor
open Go.RowKit Pl
theorem flat_take (kid : Nat → Bs) (ha : all32 (kidsF kid) = true) (k : Nat) (hk : k ≤ 16) : (kidsTo kid k).flatten.length ≤ 512 := by
 have h : ∃ m, kidsTo kid k ++ m = kidsF kid := by
  have : ∀ j, ∃ m, kidsTo kid k ++ m = kidsTo kid (k + j) := by
   intro j
   induction j with
   | zero => exact ⟨[], by simp⟩
   | succ j ih =>
    obtain ⟨m, hm⟩ := ih
    exact ⟨m ++ (if kid (k + j) = [] then [] else [kid (k + j)]), by rw [← List.append_assoc, hm, ← Nat.add_assoc, kidsTo_succ]⟩
  obtain ⟨m, hm⟩ := this (16 - k)
  exact ⟨m, by rw [hm, show k + (16 - k) = 16 from by omega]; rfl⟩
 obtain ⟨m, hm⟩ := h
 have h2 := flat_len _ ha
 have h3 : (kidsF kid).length ≤ 16 := kidsTo_len kid 16
 have h4 : (kidsF kid).flatten.length = (kidsTo kid k).flatten.length + m.flatten.length := by
  rw [← hm, List.flatten_append, List.length_append]
 omega
theorem enc_small (kind : Int) (path val : Bs) (kid : Nat → Bs) (h : chk kind path val kid = true) : (enc kind path val kid).length ≤ 1000 := by
 have hf : fineR kind path val kid = true := by rw [fine_chk]; exact h
 unfold fineR at hf
 split at hf
 ·cases hf
 ·rename_i ha
  have ha' : all32 (kidsF kid) = true := by simpa using ha
  split at hf
  ·cases hf
  ·rename_i hb
   simp only [not_or] at hb
   obtain ⟨_, hp, hv⟩ := hb
   have h1 := text_len val
   have h2 := text_len (pack path true).1
   have h3 := pack_len path true
   have h4 := text_len (pack path false).1
   have h5 := pack_len path false
   have h6 := flat_take kid ha' 16 (by omega)
   have h6' : (kidsF kid).flatten.length ≤ 512 := h6
   unfold enc
   by_cases k3 : kind = 3
   ·rw [if_pos k3]; simp only [List.length_append, List.length_cons, List.length_nil]; omega
   ·rw [if_neg k3]
    by_cases k1 : kind = 1
    ·rw [if_pos k1]; simp only [List.length_append, List.length_cons]; omega
    ·rw [if_neg k1]
     by_cases k2 : kind = 2
     ·subst k2
      have h0 : (kid 0).length = 32 := by simp [chk, all32] at h; omega
      simp only [List.length_append, List.length_cons]; omega
     ·rw [if_neg k1, if_neg k2, if_neg k3] at hf; cases hf
def dgP (kind : Int) (path val : Bs) (kid : Nat → Bs) : Bs := if chk kind path val kid then tagP 1 (enc kind path val kid) else []
theorem ndigest_any (kind : Int) (path val : Bs) (kid : Nat → Bs) (hp : path.length ≤ 1000) (w : World) (hk : KT w) :
  Calls Tryz.prog 92 #[.agg (nd kind path val kid).toArray] w fun e w' => e = .returned (.string ⟨List.toArray (dgP kind path val kid)⟩) ∧ Below w.heap.size w w' := by
 generalize hd : dgP kind path val kid = d
 have HD := Lib.hid hd
 clear hd
 have hB := Blk.new w (nd kind path val kid).toArray 76
 have hb0 : Below w.heap.size w (w.alloc (.cells (nd kind path val kid).toArray 76)) := Below.allocS (Below.refl _ _) _
 go_enter Tryz.func92, Tryz.ntmps92
 go_wp2_with (refine wpList_node rfl (.tmp 1) rfl rfl hB ?_)
 refine (encode_any kind path val kid (by omega) _).mono ?_
 rintro e w1 ⟨rfl, hb1⟩
 have hb2 := hb0.trans (hb1.mono (by simp))
 cases hc : chk kind path val kid
 ·have HZ : Hid (d = []) := Lib.hid (by rw [← HD.out]; simp [dgP, hc])
  rw [show encR kind path val kid = ([], 80) from by simp [encR, hc]]
  go_wp2_with fail
  go_ret
  exact ⟨by rw [HZ.out]; rfl, hb2⟩
 ·have hl := enc_small kind path val kid hc
  have HZ : Hid (d = tagP 1 (enc kind path val kid)) := Lib.hid (by rw [← HD.out]; simp [dgP, hc])
  rw [show encR kind path val kid = (enc kind path val kid, 0) from by simp [encR, hc]]
  generalize enc kind path val kid = en at *
  go_wp2_with fail
  refine (digsum_ok 1 (by omega) (by omega) en (by omega) _ (hk.keep hb2)).mono ?_
  rintro e w2 ⟨rfl, hb3⟩
  go_wp2_with fail
  go_ret
  exact ⟨by rw [HZ.out]; rfl, hb2.trans (hb3.mono hb2.size)⟩
end Go.Proofs.YtjppbomngnomhaaGreatDoor
namespace Go.Proofs.YtjppbomngnomhaaGreatDoor
open Go.RowKit Pl
def kindT : Tri → Int
 | .nil => 0
 | .leaf _ _ => 1
 | .ext _ _ => 2
 | .br _ _ => 3
def pathT : Tri → Bs
 | .leaf p _ => p
 | .ext p _ => p
 | _ => []
def valT : Tri → Bs
 | .leaf _ v => v
 | .br v _ => v
 | _ => []
def kidsOf : Tri → Nat → Tri
 | .ext _ t => updT noT 0 t
 | .br _ kids => kids
 | _ => noT
def kidF (f : Nat → Bs) : Nat → Bs := fun i => if i < 16 then f i else []
def sumT : Tri → Bs
 | .nil => []
 | .leaf p v => dgP 1 p v (kidF fun _ => [])
 | .ext p t => dgP 2 p [] (kidF fun i => if i = 0 then sumT t else [])
 | .br v kids => dgP 3 [] v (kidF fun i => sumT (kids i))
theorem sumT_knot (t : Tri) (h : t ≠ .nil) : sumT t = dgP (kindT t) (pathT t) (valT t) (kidF fun i => sumT (kidsOf t i)) := by
 cases t with
 | nil => exact absurd rfl h
 | leaf p v => simp [sumT, kindT, pathT, valT, kidsOf, noT]
 | ext p t =>
  simp only [sumT, kindT, pathT, valT, kidsOf]
  congr 2
  funext i
  simp only [updT]
  split
  ·rfl
  ·simp [noT, sumT]
 | br v kids => simp [sumT, kindT, pathT, valT, kidsOf]
def textT (t : Tri) : Bs := (encR (kindT t) (pathT t) (valT t) (kidF fun i => sumT (kidsOf t i))).1
def cntT (f : Nat → Tri) : Nat → Nat
 | 0 => 0
 | i + 1 => cntT f i + (rp (f i)).length
theorem cntT_flat (f : Nat → Tri) (g : Nat → It → It) : ∀ n, ((List.range n).flatMap fun i => (rp (f i)).map (g i)).length = cntT f n
 | 0 => rfl
 | n + 1 => by
  rw [List.range_succ, List.flatMap_append, List.length_append, cntT_flat f g n, cntT]
  simp
theorem cntT_no : ∀ n, cntT noT n = 0
 | 0 => rfl
 | n + 1 => by rw [cntT, cntT_no n]; rfl
theorem cntT_one (t : Tri) : ∀ n, cntT (updT noT 0 t) (n + 1) = (rp t).length
 | 0 => by simp [cntT, updT]
 | n + 1 => by rw [cntT, cntT_one t n]; simp [updT, noT, rp]
def ownN (v : Bs) : Nat := if v = [] then 0 else 1
theorem rp_len (t : Tri) (h : t ≠ .nil) : (rp t).length = cntT (kidsOf t) 16 + ownN (valT t) := by
 cases t with
 | nil => exact absurd rfl h
 | leaf p v =>
  simp only [rp, kidsOf, valT, cntT_no, ownN]
  split <;> simp [*]
 | ext p t =>
  simp only [rp, kidsOf, valT, ownN, List.length_map]
  rw [cntT_one]; simp
 | br v kids =>
  simp only [rp, kidsOf, valT, List.length_append, ownN]
  rw [cntT_flat kids (fun i x => (UInt8.ofNat i :: x.1, x.2)) 16, Nat.add_comm]
  congr 1
  split <;> simp [*]
def w64 (n : Nat) : Int := IntKind.i64.wrap n
theorem w64_add (a b : Nat) : IntKind.i64.wrap (w64 a + w64 b) = w64 (a + b) := by
 unfold w64
 simp only [IntKind.wrap_i64]
 omega
theorem w64_one (a : Nat) : IntKind.i64.wrap (w64 a + 1) = w64 (a + 1) := by
 unfold w64
 simp only [IntKind.wrap_i64]
 omega
theorem w64_zero : w64 0 = 0 := by
 unfold w64
 simp [IntKind.wrap_i64]
theorem w64_small (a : Nat) (h : a < 9223372036854775808) : w64 a = a := by
 unfold w64
 simp only [IntKind.wrap_i64]
 omega
abbrev Ps := Nat → Option Nat
def ptV : Option Nat → Value
 | none => .pointer none
 | some b => .pointer (some ⟨b, 0, none⟩)
def pk (ps : Ps) : List Value := (List.range 16).map fun i => ptV (ps i)
def kn (kind : Int) (path val : Bs) (kid : Nat → Bs) (ps : Ps) (text sum : Bs) (many : Int) : List Value :=
 nd kind path val kid ++ (pk ps ++ [.string ⟨List.toArray text⟩, .string ⟨List.toArray sum⟩, .int .i64 many])
theorem pk_len (ps : Ps) : (pk ps).length = 16 := by simp [pk]
theorem kn_len (kind : Int) (path val : Bs) (kid : Nat → Bs) (ps : Ps) (text sum : Bs) (many : Int) : (kn kind path val kid ps text sum many).length = 38 := by
 simp [kn, nd_len, pk_len]
theorem pk_at (ps : Ps) (k : Nat) (hk : k < 16) : (pk ps)[k]? = some (ptV (ps k)) := by simp [pk, hk]
def noP : Ps := fun _ => none
def updP (f : Ps) (i : Nat) (x : Option Nat) : Ps := fun j => if j = i then x else f j
inductive KAt (w : World) : Tri → Option Nat → Prop
 | nil : KAt w .nil none
 | knot (t : Tri) (b : Nat) (ps : Ps) (h : t ≠ .nil) (hk : ∀ i, i < 16 → KAt w (kidsOf t i) (ps i))
   (hB : Blk w b (kn (kindT t) (pathT t) (valT t) (kidF fun i => sumT (kidsOf t i)) ps (textT t) (sumT t) (w64 (rp t).length)).toArray) : KAt w t (some b)
theorem KAt.keep {W w : World} (hb : Below W.heap.size W w) {t : Tri} {p : Option Nat} (h : KAt W t p) : KAt w t p := by
 induction h with
 | nil => exact .nil
 | knot t b ps h hk hB ih => exact .knot t b ps h ih (hB.keep hb)
theorem KAt.none' {w : World} {t : Tri} (h : KAt w t none) : t = .nil := by cases h; rfl
theorem KAt.some' {w : World} {t : Tri} {b : Nat} (h : KAt w t (some b)) : t ≠ .nil ∧ ∃ ps, (∀ i, i < 16 → KAt w (kidsOf t i) (ps i)) ∧
  Blk w b (kn (kindT t) (pathT t) (valT t) (kidF fun i => sumT (kidsOf t i)) ps (textT t) (sumT t) (w64 (rp t).length)).toArray := by
 cases h with
 | knot _ _ ps h hk hB => exact ⟨h, ps, hk, hB⟩
theorem KAt.isNil {w : World} {p : Option Nat} (h : KAt w .nil p) : p = none := by
 cases h with
 | nil => rfl
 | knot _ _ _ h _ _ => exact absurd rfl h
theorem KAt.isKnot {w : World} {t : Tri} {p : Option Nat} (h : KAt w t p) (hn : t ≠ .nil) : ∃ b, p = some b := by
 cases h with
 | nil => exact absurd rfl hn
 | knot _ b _ _ _ _ => exact ⟨b, rfl⟩
theorem kat_no (w : World) : ∀ i, i < 16 → KAt w (noT i) (noP i) := fun _ _ => .nil
theorem kat_upd {w : World} {f : Nat → Tri} {ps : Ps} (h : ∀ i, i < 16 → KAt w (f i) (ps i)) (k : Nat) {t : Tri} {p : Option Nat} (ht : KAt w t p) :
  ∀ i, i < 16 → KAt w (updT f k t i) (updP ps k p i) := by
 intro i hi
 unfold updT updP
 split
 ·exact ht
 ·exact h i hi
end Go.Proofs.YtjppbomngnomhaaGreatDoor
namespace Go.Proofs.YtjppbomngnomhaaGreatDoor
open Go.RowKit Pl
theorem row16p : RowT Tryz.prog 77 16 := RowT.mk' Tryz.underlying77 rfl (by kernel_rfl)
theorem wpList_bTo {P : Program} {Q : Exit → Act → World → Prop} {ops : Array Oper} {rest : List Oper} {o : Oper} {a : Act} {w : World} (hg : o.guard = none) (t : TypeId) (parts : Array (Nat × Operand)) (ho : o.op = .build t parts)
  (cells : Array Value) (hf : P.built t (parts.map fun (i, x) => (i, a.eval x)).toList = some cells)
  (h : wpList P ops Q rest (a.put o.dst (.agg cells)) w) : wpList P ops Q (o :: rest) a w := by
 refine wpList_build hg t parts ho (by rw [hf]; rfl) ?_
 rw [hf]
 exact h
theorem w64_add' (a b : Nat) : wrap64 (w64 a + w64 b) = w64 (a + b) := by rw [← w64_add]; simp only [wrap64, IntKind.wrap_i64]
theorem w64_one' (a : Nat) : wrap64 (w64 a + 1) = w64 (a + 1) := by rw [← w64_one]; simp only [wrap64, IntKind.wrap_i64]
def kidsUp (T : Nat → Tri) (k : Nat) : Nat → Bs := fun i => if i < k then sumT (T i) else []
theorem kidsUp_zero (T : Nat → Tri) : kidsUp T 0 = noK := by
 funext i
 simp [kidsUp, noK]
theorem kidsUp_succ (T : Nat → Tri) (k : Nat) : kidsUp T (k + 1) = upd (kidsUp T k) k (sumT (T k)) := by
 funext i
 simp only [kidsUp, upd]
 by_cases h : i = k
 ·subst h; simp
 ·rw [if_neg h]
  by_cases h2 : i < k
  ·rw [if_pos h2, if_pos (by omega)]
  ·rw [if_neg h2, if_neg (by omega)]
theorem kidsUp_skip (T : Nat → Tri) (k : Nat) (h : T k = .nil) : kidsUp T (k + 1) = kidsUp T k := by
 rw [kidsUp_succ, h]
 funext i
 simp only [upd, sumT]
 split
 ·rename_i e; subst e; simp [kidsUp]
 ·rfl
theorem kn_kid (kind : Int) (path val : Bs) (f : Nat → Bs) (ps : Ps) (t s : Bs) (m : Int) (x : Bs) : ∀ i, i < 16 → (kn kind path val f ps t s m).toArray.setIfInBounds (3 + i) (.string ⟨List.toArray x⟩) = (kn kind path val (upd f i x) ps t s m).toArray
 | 0, _ => rfl
 | 1, _ => rfl
 | 2, _ => rfl
 | 3, _ => rfl
 | 4, _ => rfl
 | 5, _ => rfl
 | 6, _ => rfl
 | 7, _ => rfl
 | 8, _ => rfl
 | 9, _ => rfl
 | 10, _ => rfl
 | 11, _ => rfl
 | 12, _ => rfl
 | 13, _ => rfl
 | 14, _ => rfl
 | 15, _ => rfl
 | i + 16, h => absurd h (by omega)
theorem kn_many (kind : Int) (path val : Bs) (f : Nat → Bs) (ps : Ps) (t s : Bs) (m n : Int) : (kn kind path val f ps t s m).toArray.setIfInBounds 37 (.int .i64 n) = (kn kind path val f ps t s n).toArray := rfl
theorem kn_text (kind : Int) (path val : Bs) (f : Nat → Bs) (ps : Ps) (t s : Bs) (m : Int) (x : Bs) : (kn kind path val f ps t s m).toArray.setIfInBounds 35 (.string ⟨List.toArray x⟩) = (kn kind path val f ps x s m).toArray := rfl
theorem kn_sum (kind : Int) (path val : Bs) (f : Nat → Bs) (ps : Ps) (t s : Bs) (m : Int) (x : Bs) : (kn kind path val f ps t s m).toArray.setIfInBounds 36 (.string ⟨List.toArray x⟩) = (kn kind path val f ps t x m).toArray := rfl
theorem kn_kid_at (kind : Int) (path val : Bs) (f : Nat → Bs) (ps : Ps) (t s : Bs) (m : Int) : ∀ i, i < 16 → (kn kind path val f ps t s m).toArray[3 + i]? = some (.string ⟨List.toArray (f i)⟩)
 | 0, _ => rfl
 | 1, _ => rfl
 | 2, _ => rfl
 | 3, _ => rfl
 | 4, _ => rfl
 | 5, _ => rfl
 | 6, _ => rfl
 | 7, _ => rfl
 | 8, _ => rfl
 | 9, _ => rfl
 | 10, _ => rfl
 | 11, _ => rfl
 | 12, _ => rfl
 | 13, _ => rfl
 | 14, _ => rfl
 | 15, _ => rfl
 | i + 16, h => absurd h (by omega)
structure KnC (w : World) (b : Nat) (kind : Int) (path val : Bs) (ps : Ps) (text sum : Bs) (many : Int) : Prop where
 kind : w.cell? ⟨b, 0, none⟩ = some (.int .i64 kind)
 path : w.cell? ⟨b, 1, none⟩ = some (.string ⟨List.toArray path⟩)
 val : w.cell? ⟨b, 2, none⟩ = some (.string ⟨List.toArray val⟩)
 text : w.cell? ⟨b, 35, none⟩ = some (.string ⟨List.toArray text⟩)
 sum : w.cell? ⟨b, 36, none⟩ = some (.string ⟨List.toArray sum⟩)
 many : w.cell? ⟨b, 37, none⟩ = some (.int .i64 many)
 first : w.cell? ⟨b, 19, none⟩ = some (ptV (ps 0))
theorem Blk.kn {w : World} {b : Nat} {kind : Int} {path val : Bs} {f : Nat → Bs} {ps : Ps} {t s : Bs} {m : Int} (h : Blk w b (kn kind path val f ps t s m).toArray) : KnC w b kind path val ps t s m :=
 ⟨h.cell 0, h.cell 1, h.cell 2, h.cell 35, h.cell 36, h.cell 37, h.cell 19⟩
theorem nd_pre (kind : Int) (path val : Bs) (f : Nat → Bs) (ps : Ps) (t s : Bs) (m : Int) (j : Nat) (v : Value) (h : (nd kind path val f)[j]? = some v) : (kn kind path val f ps t s m).toArray[j]? = some v := by
 unfold Go.Proofs.YtjppbomngnomhaaGreatDoor.kn
 rw [List.getElem?_toArray, List.getElem?_append_left]
 ·exact h
 ·rcases Nat.lt_or_ge j (nd kind path val f).length with h1 | h1
  ·exact h1
  ·rw [List.getElem?_eq_none h1] at h; cases h
theorem pk_pre (kind : Int) (path val : Bs) (f : Nat → Bs) (ps : Ps) (t s : Bs) (m : Int) (j : Nat) (v : Value) (h : (pk ps)[j]? = some v) : (kn kind path val f ps t s m).toArray[19 + j]? = some v := by
 unfold Go.Proofs.YtjppbomngnomhaaGreatDoor.kn
 rw [List.getElem?_toArray, List.getElem?_append_right (by rw [nd_len]; omega), nd_len, show 19 + j - 19 = j from by omega, List.getElem?_append_left]
 ·exact h
 ·rcases Nat.lt_or_ge j (pk ps).length with h1 | h1
  ·exact h1
  ·rw [List.getElem?_eq_none h1] at h; cases h
theorem kn_node {w : World} {b : Nat} {kind : Int} {path val : Bs} {f : Nat → Bs} {ps : Ps} {t s : Bs} {m : Int} (h : Blk w b (kn kind path val f ps t s m).toArray) : w.rangeAt b 0 (nd kind path val f) := by
 intro j v hv
 rw [Nat.zero_add, h.cell j]
 exact nd_pre _ _ _ _ _ _ _ _ j v hv
theorem kn_ptrs {w : World} {b : Nat} {kind : Int} {path val : Bs} {f : Nat → Bs} {ps : Ps} {t s : Bs} {m : Int} (h : Blk w b (kn kind path val f ps t s m).toArray) : w.rangeAt b 19 (pk ps) := by
 intro j v hv
 rw [h.cell (19 + j)]
 exact pk_pre _ _ _ _ _ _ _ _ j v hv
theorem pk_info : (Tryz.prog.info? 77).map (·.size) = some 16 := by kernel_rfl
section
variable {ops : Array Oper} {rest : List Oper} {op : Oper} {a : Act} {w : World} {Q : Exit → Act → World → Prop}
theorem wpList_knNode (hgd : op.guard = none) (x : Operand) (ho : op.op = .load 76 x) {b : Nat} (hx : a.eval x = .pointer (some ⟨b, 0, none⟩)) {kind : Int} {path val : Bs} {f : Nat → Bs} {ps : Ps} {t s : Bs} {m : Int} (hB : Blk w b (kn kind path val f ps t s m).toArray)
  (h : wpList Tryz.prog ops Q rest (a.put op.dst (.agg (nd kind path val f).toArray)) w) : wpList Tryz.prog ops Q (op :: rest) a w :=
 wpList_load_mid hgd 76 x ho b 0 hx (nd kind path val f) _ (kn_node hB) Tryz.underlying76 rfl (by rw [nd_len]; exact nd_info) h
theorem wpList_knPtrs (hgd : op.guard = none) (x : Operand) (ho : op.op = .load 77 x) {b : Nat} (hx : a.eval x = .pointer (some ⟨b, 19, none⟩)) {kind : Int} {path val : Bs} {f : Nat → Bs} {ps : Ps} {t s : Bs} {m : Int} (hB : Blk w b (kn kind path val f ps t s m).toArray)
  (h : wpList Tryz.prog ops Q rest (a.put op.dst (.agg (pk ps).toArray)) w) : wpList Tryz.prog ops Q (op :: rest) a w :=
 wpList_load_mid hgd 77 x ho b 19 hx (pk ps) _ (kn_ptrs hB) Tryz.underlying77 rfl (by rw [pk_len]; exact pk_info) h
end
@[go_sem, simp] theorem ptV_none : ptV none = .pointer none := rfl
@[go_sem, simp] theorem ptV_some (b : Nat) : ptV (some b) = .pointer (some ⟨b, 0, none⟩) := rfl
theorem infoPtr : (Tryz.prog.info? 66).map (fun i => (i.zero, i.size, i.bytes)) = some (some (.pointer none), 1, 8) := by kernel_rfl
theorem pk_index (ps : Ps) (k : Nat) (hk : k < 16) (w : World) : (Instr.index 77 (.agg (pk ps).toArray) (.int .i64 (k : Int))).run Tryz.prog w = .ok (ptV (ps k)) w := by
 obtain ⟨i0, hi, _, hs, _⟩ := info_parts infoPtr
 have hpart : (part 66 (pk ps).toArray k).run Tryz.prog w = .ok (ptV (ps k)) w := by
  unfold part
  simp [isAgg, run_underlying Tryz.underlying66, Sem.run_bind, pk_at ps k hk]
 have hsz : (Go.sizeOf 66).run Tryz.prog w = .ok 1 w := by simp [Go.sizeOf, typeInfo, hi, hs]
 have hk' : (0 : Int) ≤ (k : Int) ∧ (k : Int) < 16 := by omega
 simp [Instr.index, asIntOf, run_underlying Tryz.underlying77, hk', hsz, hpart, Sem.run_bind]
 intro h
 omega
theorem kat_kid {w : World} {t : Tri} {p : Option Nat} (h : KAt w t p) : (p = none ∧ t = .nil) ∨ ∃ c, p = some c ∧ t ≠ .nil ∧ c < w.heap.size ∧ w.cell? ⟨c, 36, none⟩ = some (.string ⟨List.toArray (sumT t)⟩) ∧ w.cell? ⟨c, 37, none⟩ = some (.int .i64 (w64 (rp t).length)) := by
 cases h with
 | nil => exact .inl ⟨rfl, rfl⟩
 | knot _ b ps h hk hB => exact .inr ⟨b, rfl, h, hB.lt, hB.kn.sum, hB.kn.many⟩
theorem tied_any (kind : Int) (path val : Bs) (hp : path.length ≤ 1000) (T : Nat → Tri) (ps : Ps) (w : World) (hk : KT w) (hT : ∀ i, i < 16 → KAt w (T i) (ps i)) :
  Calls Tryz.prog 70 #[.agg (nd kind path val noK).toArray, .agg (pk ps).toArray] w fun e w' => ∃ b, e = .returned (.pointer (some ⟨b, 0, none⟩)) ∧ Below w.heap.size w w' ∧
   Blk w' b (kn kind path val (kidF fun i => sumT (T i)) ps (encR kind path val (kidF fun i => sumT (T i))).1 (dgP kind path val (kidF fun i => sumT (T i))) (w64 (cntT T 16 + ownN val))).toArray := by
 have hB1 := Blk.new w (nd kind path val noK).toArray 76
 have hB2 := Blk.new (w.alloc (.cells (nd kind path val noK).toArray 76)) (pk ps).toArray 77
 have hsz : (w.alloc (.cells (nd kind path val noK).toArray 76)).heap.size = w.heap.size + 1 := by simp
 rw [hsz] at hB2
 have hB1' := hB1.alloc (.cells (pk ps).toArray 77)
 have hB3 := Blk.new ((w.alloc (.cells (nd kind path val noK).toArray 76)).alloc (.cells (pk ps).toArray 77)) (kn kind path val noK ps [] [] 0).toArray 79
 have hsz2 : ((w.alloc (.cells (nd kind path val noK).toArray 76)).alloc (.cells (pk ps).toArray 77)).heap.size = w.heap.size + 1 + 1 := by simp
 rw [hsz2] at hB3
 have hB2' := hB2.alloc (.cells (kn kind path val noK ps [] [] 0).toArray 79)
 have hB1'' := hB1'.alloc (.cells (kn kind path val noK ps [] [] 0).toArray 79)
 have hb0 : Below w.heap.size w ((((w.alloc (.cells (nd kind path val noK).toArray 76)).alloc (.cells (pk ps).toArray 77))).alloc (.cells (kn kind path val noK ps [] [] 0).toArray 79)) :=
  Below.allocS (Below.allocS (Below.allocS (Below.refl _ _) _) _) _
 rw [← kidsUp_zero T] at hB3
 rw [← w64_zero] at hB3
 clear hsz hsz2
 go_enter Tryz.func70, Tryz.ntmps70
 go_wp2_with (first
  | (refine wpList_node rfl (.tmp 2) rfl rfl hB1' ?_)
  | (refine wpList_rowLoad row16p rfl (.tmp 3) rfl rfl (pk_len ps) hB2 ?_)
  | (refine wpList_bTo rfl 79 _ rfl (kn kind path val noK ps [] [] 0).toArray (by kernel_rfl) ?_)
  | (refine wpList_rowLoad row16p rfl (.tmp 3) rfl rfl (pk_len ps) hB2' ?_)
  | fail)
 clear hB1 hB1' hB2 hB2'
 go_loopw [13] (fun s13 wr => ∃ k : Nat, k ≤ 16 ∧ s13 = .int .i64 k ∧ Blk wr (w.heap.size + 1 + 1) (kn kind path val (kidsUp T k) ps [] [] (w64 (cntT T k))).toArray ∧ Blk wr w.heap.size (nd kind path val noK).toArray ∧ Below w.heap.size w wr) (fun s13 _ => 16 - (intOf s13).toNat)
 case atStart => exact ⟨0, by omega, rfl, hB3, hB1'', hb0⟩
 case round =>
  obtain ⟨k, hk16, rfl, hB, hN, hb⟩ := hrel
  clear hB3 hb0 hB1''
  rename_i wr
  by_cases hlt : k < 16
  ·have hlt' : (k : Int) < 16 := by omega
   have hki := pk_index ps k hlt
   rcases kat_kid (hT k hlt) with ⟨e1, e2⟩ | ⟨c, e1, e2, hc, c1, c2⟩
   ·rw [e1, ptV_none] at hki
    go_wp2_with fail
    exact ⟨⟨k + 1, by omega, by go_num, by rw [kidsUp_skip T k e2, cntT, e2]; exact hB, hN, hb⟩, by simp [intOf]; omega⟩
   ·rw [e1, ptV_some] at hki
    have c1' := keepC hb c1
    have c2' := keepC hb c2
    have hne : ¬ (c = w.heap.size + 1 + 1) := by omega
    have k1 := (hB.cell (3 + k)).trans (kn_kid_at _ _ _ _ _ _ _ _ k hlt)
    have k2 := hB.kn.many
    have k3 := hB.froz
    have k4 := hB.lt
    have k5 : (0 : Int) ≤ (k : Int) ∧ (k : Int) < 16 := by omega
    have HB := Lib.hid hB
    have HN := Lib.hid hN
    clear c1 c2 hB hN
    go_wp2_with fail
    go_region
    go_wp2_with fail
    go_region
    go_wp2_with fail
    have hB2 := (HB.out.set (3 + k) (.string ⟨List.toArray (sumT (T k))⟩)).set 37 (.int .i64 (wrap64 (w64 (cntT T k) + w64 (rp (T k)).length)))
    rw [kn_kid _ _ _ _ _ _ _ _ _ k hlt, kn_many, ← kidsUp_succ, w64_add'] at hB2
    rw [w64_add']
    refine ⟨⟨k + 1, by omega, by go_num, hB2.drew.drew, ((HN.out.other (a := ⟨w.heap.size + 1 + 1, 3 + k, none⟩) (by show w.heap.size + 1 + 1 ≠ w.heap.size; omega) _).other (a := ⟨w.heap.size + 1 + 1, 37, none⟩) (by show w.heap.size + 1 + 1 ≠ w.heap.size; omega) _).drew.drew, ?_⟩, by simp [intOf]; omega⟩
    exact ((hb.setCell (p := ⟨w.heap.size + 1 + 1, 3 + k, none⟩) (by show w.heap.size ≤ w.heap.size + 1 + 1; omega) _).setCell (p := ⟨w.heap.size + 1 + 1, 37, none⟩) (by show w.heap.size ≤ w.heap.size + 1 + 1; omega) _).drew.drew
  ·have hke : k = 16 := by omega
   subst hke
   have n2 : wr.cell? ⟨w.heap.size, 2, none⟩ = some (.string ⟨List.toArray val⟩) := hN.cell 2
   by_cases hv : val = []
   ·subst hv
    have HO : Hid (cntT T 16 + ownN [] = cntT T 16) := Lib.hid (by simp [ownN])
    have hBz := hB
    have hbz := hb
    clear hN
    go_wp2_with (first
     | (refine wpList_knNode rfl (.tmp 55) rfl rfl hBz ?_)
     | fail)
    refine (encode_any kind path [] (kidsUp T 16) (by omega) _).mono ?_
    rintro e w1 ⟨rfl, hb1⟩
    have hB1 := hBz.keep hb1
    have hbw := hbz.trans (hb1.mono hbz.size)
    have t1 := hB1.kn.text
    have t3 := hB1.froz
    have t4 := hB1.lt
    have hB2 := hB1.set 35 (.string ⟨List.toArray ((encR kind path [] (kidsUp T 16)).1)⟩)
    rw [kn_text] at hB2
    have hbw2 := hbw.setCell (p := ⟨w.heap.size + 1 + 1, 35, none⟩) (by show w.heap.size ≤ w.heap.size + 1 + 1; omega) (.string ⟨List.toArray ((encR kind path [] (kidsUp T 16)).1)⟩)
    have HB1 := Lib.hid hB1
    clear hB1 hBz hb1
    go_wp2_with (first
     | (refine wpList_knNode rfl (.tmp 65) rfl rfl hB2 ?_)
     | fail)
    refine (ndigest_any kind path [] (kidsUp T 16) hp _ (hk.keep hbw2)).mono ?_
    rintro e w2 ⟨rfl, hb2⟩
    have hB3 := hB2.keep hb2
    have hbw3 := hbw2.trans (hb2.mono hbw2.size)
    have u1 := hB3.kn.sum
    have u3 := hB3.froz
    have u4 := hB3.lt
    have hB4 := hB3.set 36 (.string ⟨List.toArray (dgP kind path [] (kidsUp T 16))⟩)
    rw [kn_sum] at hB4
    have HB3 := Lib.hid hB3
    clear hB3 hB2 hb2
    go_wp2_with fail
    go_ret
    exact ⟨_, rfl, hbw3.setCell (p := ⟨w.heap.size + 1 + 1, 36, none⟩) (by show w.heap.size ≤ w.heap.size + 1 + 1; omega) _, by rw [HO.out]; exact hB4⟩
   ·have HO : Hid (cntT T 16 + ownN val = cntT T 16 + 1) := Lib.hid (by simp [ownN, hv])
    have hv1 : val.isEmpty = false := by simpa using hv
    have k2 := hB.kn.many
    have k3 := hB.froz
    have k4 := hB.lt
    have hw1 := w64_one' (cntT T 16)
    have hBz := hB.set 37 (.int .i64 (w64 (cntT T 16 + 1)))
    rw [kn_many] at hBz
    have hbz := hb.setCell (p := ⟨w.heap.size + 1 + 1, 37, none⟩) (by show w.heap.size ≤ w.heap.size + 1 + 1; omega) (.int .i64 (w64 (cntT T 16 + 1)))
    clear hN
    go_wp2_with (first
     | (refine wpList_knNode rfl (.tmp 55) rfl rfl hBz ?_)
     | fail)
    refine (encode_any kind path val (kidsUp T 16) (by omega) _).mono ?_
    rintro e w1 ⟨rfl, hb1⟩
    have hB1 := hBz.keep hb1
    have hbw := hbz.trans (hb1.mono hbz.size)
    have t1 := hB1.kn.text
    have t3 := hB1.froz
    have t4 := hB1.lt
    have hB2 := hB1.set 35 (.string ⟨List.toArray ((encR kind path val (kidsUp T 16)).1)⟩)
    rw [kn_text] at hB2
    have hbw2 := hbw.setCell (p := ⟨w.heap.size + 1 + 1, 35, none⟩) (by show w.heap.size ≤ w.heap.size + 1 + 1; omega) (.string ⟨List.toArray ((encR kind path val (kidsUp T 16)).1)⟩)
    have HB1 := Lib.hid hB1
    clear hB1 hBz hb1
    go_wp2_with (first
     | (refine wpList_knNode rfl (.tmp 65) rfl rfl hB2 ?_)
     | fail)
    refine (ndigest_any kind path val (kidsUp T 16) hp _ (hk.keep hbw2)).mono ?_
    rintro e w2 ⟨rfl, hb2⟩
    have hB3 := hB2.keep hb2
    have hbw3 := hbw2.trans (hb2.mono hbw2.size)
    have u1 := hB3.kn.sum
    have u3 := hB3.froz
    have u4 := hB3.lt
    have hB4 := hB3.set 36 (.string ⟨List.toArray (dgP kind path val (kidsUp T 16))⟩)
    rw [kn_sum] at hB4
    have HB3 := Lib.hid hB3
    clear hB3 hB2 hb2
    go_wp2_with fail
    go_ret
    exact ⟨_, rfl, hbw3.setCell (p := ⟨w.heap.size + 1 + 1, 36, none⟩) (by show w.heap.size ≤ w.heap.size + 1 + 1; omega) _, by rw [HO.out]; exact hB4⟩
end Go.Proofs.YtjppbomngnomhaaGreatDoor
namespace Go.Proofs.YtjppbomngnomhaaGreatDoor
open Go.RowKit Pl
theorem wp_load1 {P : Program} {o : Oper} {a : Act} {w : World} {K : Act → World → Prop} {Q : Exit → Act → World → Prop} (T : TypeId) (x : Operand) (ho : o.op = .load T x) (ad : Addr) (hx : a.eval x = .pointer (some ad)) (v : Value)
  (hr : (loadVar T ad).run P w = .ok v w) (h : K (a.put o.dst v) w) : o.wp P a w K Q := by
 unfold Oper.wp execOp
 simp only [ho, hx, Instr.loadAt, Instr.sureAddr, Sem.run_bind, Sem.run_pure, Result.andThen_ok, hr]
 exact h
def KOut (B : Nat) (w : World) (t : Tri) (e : Ending) (w' : World) : Prop := ∃ b, e = .returned (.pointer (some ⟨b, 0, none⟩)) ∧ Below B w w' ∧ KAt w' t (some b)
theorem tied_kat (t : Tri) (ht : t ≠ .nil) (hp : (pathT t).length ≤ 1000) (ps : Ps) (w : World) (hk : KT w) (hT : ∀ i, i < 16 → KAt w (kidsOf t i) (ps i)) :
  Calls Tryz.prog 70 #[.agg (nd (kindT t) (pathT t) (valT t) noK).toArray, .agg (pk ps).toArray] w (KOut w.heap.size w t) := by
 refine (tied_any (kindT t) (pathT t) (valT t) hp (kidsOf t) ps w hk hT).mono ?_
 rintro e w' ⟨b, rfl, hb, hB⟩
 refine ⟨b, rfl, hb, .knot t b ps ht (fun i hi => (hT i hi).keep hb) ?_⟩
 rw [sumT_knot t ht, rp_len t ht]
 exact hB
theorem pk_no : (pk noP).toArray = #[.pointer none, .pointer none, .pointer none, .pointer none, .pointer none, .pointer none, .pointer none, .pointer none, .pointer none, .pointer none, .pointer none, .pointer none, .pointer none, .pointer none, .pointer none, .pointer none] := rfl
theorem leaf_any (path val : Bs) (hp : path.length ≤ 1000) (w : World) (hk : KT w) :
  Calls Tryz.prog 64 #[.string ⟨List.toArray path⟩, .string ⟨List.toArray val⟩] w (KOut w.heap.size w (.leaf path val)) := by
 have ht : Calls Tryz.prog 70 #[.agg (nd 1 path val noK).toArray, .agg (pk noP).toArray] w (KOut w.heap.size w (.leaf path val)) := tied_kat (.leaf path val) (by simp) hp noP w hk (kat_no w)
 go_enter Tryz.func64, Tryz.ntmps64
 go_wp2_with (first
  | (refine wpList_bTo rfl 76 _ rfl (nd 1 path val noK).toArray (by kernel_rfl) ?_)
  | (refine wpList_bTo rfl 77 _ rfl (pk noP).toArray (by kernel_rfl) ?_)
  | fail)
 refine ht.mono ?_
 rintro e w1 ⟨b, rfl, hb, hK⟩
 clear ht
 go_wp2_with fail
 go_ret
 exact ⟨b, rfl, hb, hK⟩
theorem branch_any (val : Bs) (kids : Nat → Tri) (ps : Ps) (w : World) (hk : KT w) (hT : ∀ i, i < 16 → KAt w (kids i) (ps i)) :
  Calls Tryz.prog 65 #[.string ⟨List.toArray val⟩, .agg (pk ps).toArray] w (KOut w.heap.size w (.br val kids)) := by
 have hB := Blk.new w (pk ps).toArray 77
 have hb0 : Below w.heap.size w (w.alloc (.cells (pk ps).toArray 77)) := Below.allocS (Below.refl _ _) _
 have ht : Calls Tryz.prog 70 #[.agg (nd 3 ([]) val noK).toArray, .agg (pk ps).toArray] (w.alloc (.cells (pk ps).toArray 77)) (KOut (w.alloc (.cells (pk ps).toArray 77)).heap.size (w.alloc (.cells (pk ps).toArray 77)) (.br val kids)) :=
  tied_kat (.br val kids) (by simp) (by simp [pathT]) ps _ (hk.keep hb0) (fun i hi => (hT i hi).keep hb0)
 go_enter Tryz.func65, Tryz.ntmps65
 go_wp2_with (first
  | (refine wpList_bTo rfl 76 _ rfl (nd 3 [] val noK).toArray (by kernel_rfl) ?_)
  | (refine wpList_rowLoad row16p rfl (.tmp 3) rfl rfl (pk_len ps) hB ?_)
  | fail)
 refine ht.mono ?_
 rintro e w1 ⟨b, rfl, hb, hK⟩
 clear ht
 go_wp2_with fail
 go_ret
 exact ⟨b, rfl, hb0.trans (hb.mono hb0.size), hK⟩
theorem KAt.open {w : World} {t : Tri} {b : Nat} (h : KAt w t (some b)) : t ≠ .nil ∧ ∃ ps : Ps, (∀ i, i < 16 → KAt w (kidsOf t i) (ps i)) ∧ KnC w b (kindT t) (pathT t) (valT t) ps (textT t) (sumT t) (w64 (rp t).length) ∧
  Blk w b (kn (kindT t) (pathT t) (valT t) (kidF fun i => sumT (kidsOf t i)) ps (textT t) (sumT t) (w64 (rp t).length)).toArray := by
 obtain ⟨h1, ps, h2, h3⟩ := h.some'
 exact ⟨h1, ps, h2, h3.kn, h3⟩
theorem joined_any (path : Bs) (t : Tri) (b : Nat) (w : World) (hk : KT w) (hT : KAt w t (some b)) (hl : path.length + (pathT t).length ≤ 1000) :
  Calls Tryz.prog 63 #[.string ⟨List.toArray path⟩, .pointer (some ⟨b, 0, none⟩)] w (KOut w.heap.size w (joinT path t)) := by
 by_cases hp : path = []
 ·subst hp
  rw [joinT_nil]
  go_enter Tryz.func63, Tryz.ntmps63
  go_wp2_with fail
  go_ret
  exact ⟨b, rfl, Below.refl _ _, hT⟩
 ·have hp1 : (path == []) = false := by simpa using hp
  have hp2 : path.isEmpty = false := by simpa using hp
  obtain ⟨hn, ps, hps, hc, hB⟩ := hT.open
  cases t with
  | nil => exact absurd rfl hn
  | leaf q v =>
   have hq : joinT path (.leaf q v) = .leaf (path ++ q) v := by simp [joinT, hp]
   rw [hq]
   obtain ⟨c0, c1, c2, _, _, _, _⟩ := hc
   simp only [kindT, pathT, valT] at c0 c1 c2 hl
   clear hB hps hT hn hq hp
   have ht : ∀ W, Below w.heap.size w W → Calls Tryz.prog 64 #[.string ⟨List.toArray (path ++ q)⟩, .string ⟨List.toArray v⟩] W (KOut W.heap.size W (.leaf (path ++ q) v)) := fun W hb => leaf_any (path ++ q) v (by simp; omega) W (hk.keep hb)
   have HL := Lib.hid ht
   clear ht
   go_enter Tryz.func63, Tryz.ntmps63
   go_wp2_with fail
   refine wp_tail 12 (by kernel_rfl) (by kernel_rfl) ?_
   intro w2 hw2
   have hb2 : Below w.heap.size w w2 := by rw [hw2]; exact (Below.refl _ _).drew
   clear hw2
   replace c1 := keepC hb2 c1
   replace c2 := keepC hb2 c2
   simp only [List.take_succ_cons, List.take_zero, List.drop_succ_cons, List.drop_zero]
   have hnl : ¬ 9223372036854775807 < List.length path + List.length q := by omega
   repeat still_step
   refine wpStill_nil ?_
   go_wp2_with fail
   refine (HL.out w2 hb2).mono ?_
   rintro e w3 ⟨b3, rfl, hb3, hK3⟩
   go_wp2_with fail
   go_ret
   exact ⟨b3, rfl, hb2.trans (hb3.mono hb2.size), hK3⟩
  | ext q t =>
   have hq : joinT path (.ext q t) = .ext (path ++ q) t := by simp [joinT, hp]
   rw [hq]
   obtain ⟨c0, c1, c2, _, _, _, c6⟩ := hc
   simp only [kindT, pathT, valT] at c0 c1 c2 hl
   have hk0 := hps 0 (by omega)
   clear hB hps hT hn hq hp
   have e0 : kidsOf (.ext q t) 0 = t := by simp [kidsOf, updT]
   rw [e0] at hk0
   clear e0
   obtain ⟨p0, hp0⟩ : ∃ p, p = ps 0 := ⟨_, rfl⟩
   rw [← hp0] at hk0 c6
   have ht : ∀ W, Below w.heap.size w W → Calls Tryz.prog 70 #[.agg (nd 2 (path ++ q) ([]) noK).toArray, .agg (pk (updP noP 0 p0)).toArray] W (KOut W.heap.size W (.ext (path ++ q) t)) := fun W hb =>
    tied_kat (.ext (path ++ q) t) (by simp) (by simp [pathT]; omega) _ W (hk.keep hb) (kat_upd (kat_no W) 0 (hk0.keep hb))
   have HL := Lib.hid ht
   clear ht hk0 hp0
   rcases p0 with _ | p0
   ·go_enter Tryz.func63, Tryz.ntmps63
    go_wp2_with fail
    go_quiet (fail)
    go_wp2_with (first
     | (refine wpList_bTo rfl 76 _ rfl (nd 2 (path ++ q) [] noK).toArray (by kernel_rfl) ?_)
     | (refine wpList_bTo rfl 77 _ rfl (pk (updP noP 0 none)).toArray (by kernel_rfl) ?_)
     | fail)
    refine (HL.out _ (below_drewN (Below.refl _ _) _)).mono ?_
    rintro e w3 ⟨b3, rfl, hb3, hK3⟩
    go_wp2_with fail
    go_ret
    exact ⟨b3, rfl, (below_drewN (Below.refl _ _) _).trans hb3, hK3⟩
   ·go_enter Tryz.func63, Tryz.ntmps63
    go_wp2_with fail
    go_quiet (fail)
    go_wp2_with (first
     | (refine wpList_bTo rfl 76 _ rfl (nd 2 (path ++ q) [] noK).toArray (by kernel_rfl) ?_)
     | (refine wpList_bTo rfl 77 _ rfl (pk (updP noP 0 (some p0))).toArray (by kernel_rfl) ?_)
     | fail)
    refine (HL.out _ (below_drewN (Below.refl _ _) _)).mono ?_
    rintro e w3 ⟨b3, rfl, hb3, hK3⟩
    go_wp2_with fail
    go_ret
    exact ⟨b3, rfl, (below_drewN (Below.refl _ _) _).trans hb3, hK3⟩
  | br v kids =>
   have hq : joinT path (.br v kids) = .ext path (.br v kids) := by simp [joinT, hp]
   rw [hq]
   obtain ⟨c0, c1, c2, _, _, _, _⟩ := hc
   simp only [kindT, pathT, valT] at c0 c1 c2 hl
   have ht : ∀ W, Below w.heap.size w W → Calls Tryz.prog 70 #[.agg (nd 2 path ([]) noK).toArray, .agg (pk (updP noP 0 (some b))).toArray] W (KOut W.heap.size W (.ext path (.br v kids))) := fun W hb =>
    tied_kat (.ext path (.br v kids)) (by simp) (by simp [pathT]; omega) _ W (hk.keep hb) (kat_upd (kat_no W) 0 (hT.keep hb))
   have HL := Lib.hid ht
   clear ht hB hps hT hn hq hp
   go_enter Tryz.func63, Tryz.ntmps63
   go_wp2_with (first
    | (refine wpList_bTo rfl 76 _ rfl (nd 2 path [] noK).toArray (by kernel_rfl) ?_)
    | (refine wpList_bTo rfl 77 _ rfl (pk (updP noP 0 (some b))).toArray (by kernel_rfl) ?_)
    | fail)
   refine (HL.out _ (Below.refl _ _)).mono ?_
   rintro e w3 ⟨b3, rfl, hb3, hK3⟩
   go_wp2_with fail
   go_ret
   exact ⟨b3, rfl, hb3, hK3⟩
end Go.Proofs.YtjppbomngnomhaaGreatDoor
