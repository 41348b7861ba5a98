/- CheckC, Gather, Shelf, BothP, Sort. -/
import Derived.Shelf.Slices.In.SortNone
import Derived.Shelf.Slices.In.CompactS
import Derived.Lib.SlicesCompact
import Derived.Sort.OwnSorted
import Derived.Sort.EveryDepth
import Derived.Test.YthkpmlfaddlieaaGreatDoorMw19
set_option linter.unnecessarySimpa false
set_option linter.unusedSimpArgs false
set_option linter.unusedVariables false
set_option maxRecDepth 100000
set_option maxHeartbeats 32000000
namespace Go.Proofs.YthkpmlfaddlieaaGreatDoor
open Go.RowKit Pl
namespace Pl
def tagC (tag : Int) : Bool := decide (tag = 5) || decide (tag = 6)
def markP (tag : Int) (s : Bs) : Bs × Int := if tagC tag = false then ([], 1) else if s.length ≠ 32 then ([], 3) else (tagP tag.toNat s, 0)
def firstC (tag : Int) (l : List (Bs × Int)) (fine : Bool) : Int := if tagC tag = false then 1 else if chkM l = false then 50 else if fine then 0 else 3
def chkA (l : List (Bs × Int)) (ns : List Bs) : Bool := ns.all fun n => decide (ofM l [n] ≠ 0)
def chkB (L : List Sg) (m : Bs) (ns : List Bs) : Bool := ns.all fun n => isIn L n m
def goodIn (l : List (Bs × Int)) (m : Bs) (ns : List Bs) (L : List Sg) : Int :=
 if chkA l ns = false then 5 else if chkB L m ns = false then 70 else if ofM l ns < quoM l then 71 else 0
def goodC (tag : Int) (l : List (Bs × Int)) (d : Bs) (ns : List Bs) (L : List Sg) : Int :=
 if firstC tag l (mayC d ns) ≠ 0 then firstC tag l (mayC d ns) else goodIn l (tagP tag.toNat d) ns L
theorem goodC_in {tag : Int} {l : List (Bs × Int)} {d : Bs} {ns : List Bs} {L : List Sg} (h : firstC tag l (mayC d ns) = 0) : goodC tag l d ns L = goodIn l (tagP tag.toNat d) ns L := by
 unfold goodC
 rw [if_neg (by simpa using h)]
theorem goodC_out {tag : Int} {l : List (Bs × Int)} {d : Bs} {ns : List Bs} {L : List Sg} (h : firstC tag l (mayC d ns) ≠ 0) : goodC tag l d ns L = firstC tag l (mayC d ns) := by
 unfold goodC
 rw [if_pos h]
end Pl
theorem cmark_any (tag : Int) (s : Bs) (hs : s.length ≤ 1000000) (w : World) (hk : KT w) :
  Calls Tryz.prog 14 #[.int .i64 tag, .string ⟨List.toArray s⟩] w fun e w' => e = .returned (.tuple #[.string ⟨List.toArray ((markP tag s).1)⟩, .int .i64 ((markP tag s).2)]) ∧ Below w.heap.size w w' := by
 cases ht : tagC tag
 ·have h5 : (tag != 5) = true := by simp [tagC] at ht; simpa using ht.1
  have h6 : (tag != 6) = true := by simp [tagC] at ht; simpa using ht.2
  rw [show markP tag s = ([], 1) from by simp [markP, ht]]
  clear ht
  go_enter Tryz.func14, Tryz.ntmps14
  go_wp2_with fail
  all_goals (go_ret2; exact ⟨rfl, Below.refl _ _⟩)
 ·by_cases hl : s.length = 32
  ·rw [show markP tag s = (tagP tag.toNat s, 0) from by simp [markP, ht, hl]]
   have hl1 : ((s.length : Int) != 32) = false := by simp; omega
   obtain ⟨t, rfl, ht1⟩ : ∃ t : Nat, tag = t ∧ (t = 5 ∨ t = 6) := by
    simp [tagC] at ht
    rcases ht with rfl | rfl
    ·exact ⟨5, rfl, .inl rfl⟩
    ·exact ⟨6, rfl, .inr rfl⟩
   rw [Int.toNat_natCast]
   have HL := Lib.hid hl
   have hd := digsum_ok t (by omega) (by omega) s (by omega) w hk
   clear ht hl
   rcases ht1 with rfl | rfl
   all_goals
    go_enter Tryz.func14, Tryz.ntmps14
    go_wp2_with fail
    refine hd.mono ?_
    rintro e w1 ⟨rfl, hb⟩
    go_wp2_with fail
    all_goals (go_ret2; exact ⟨rfl, hb⟩)
  ·rw [show markP tag s = ([], 3) from by simp [markP, ht, hl]]
   have hl1 : ((s.length : Int) != 32) = true := by simp; omega
   simp [tagC] at ht
   rcases ht with rfl | rfl
   all_goals
    go_enter Tryz.func14, Tryz.ntmps14
    go_wp2_with fail
    all_goals (go_ret2; exact ⟨rfl, Below.refl _ _⟩)
theorem cfirst_any (tag : Int) (v : Value) (l : List (Bs × Int)) (fine : Bool) (w : World) (hv : MS w v l) :
  Calls Tryz.prog 75 #[.int .i64 tag, v, .bool fine] w fun e w' => e = .returned (.int .i64 (firstC tag l fine)) ∧ Below w.heap.size w w' := by
 generalize hr : firstC tag l fine = r
 have HR := Lib.hid hr
 clear hr
 obtain ⟨a, c, rfl⟩ := hv.form
 have hchk := mcheck_any _ l w hv
 clear hv
 cases ht : tagC tag
 ·have h5 : (tag != 5) = true := by simp [tagC] at ht; simpa using ht.1
  have h6 : (tag != 6) = true := by simp [tagC] at ht; simpa using ht.2
  have HZ : Hid (1 = r) := Lib.hid (by rw [← HR.out]; simp [firstC, ht])
  clear ht HR
  go_enter Tryz.func75, Tryz.ntmps75
  go_wp2_with fail
  all_goals (go_ret; exact ⟨by rw [← HZ.out]; rfl, Below.refl _ _⟩)
 ·cases hc : chkM l
  ·have HZ : Hid (50 = r) := Lib.hid (by rw [← HR.out]; simp [firstC, ht, hc])
   rw [hc] at hchk
   have HC := Lib.hid hchk
   clear hchk HR hc
   simp [tagC] at ht
   rcases ht with rfl | rfl
   all_goals
    go_enter Tryz.func75, Tryz.ntmps75
    go_wp2_with fail
    refine HC.out.mono ?_
    rintro e w1 ⟨rfl, hb⟩
    unfold setI
    go_wp2_with fail
    all_goals (go_ret; exact ⟨by rw [← HZ.out]; rfl, hb⟩)
  ·have HZ : Hid ((if fine then 0 else 3) = r) := Lib.hid (by rw [← HR.out]; simp [firstC, ht, hc])
   rw [hc] at hchk
   have HC := Lib.hid hchk
   clear hchk HR hc
   simp [tagC] at ht
   cases fine
   all_goals
    rcases ht with rfl | rfl
    all_goals
     go_enter Tryz.func75, Tryz.ntmps75
     go_wp2_with fail
     refine HC.out.mono ?_
     rintro e w1 ⟨rfl, hb⟩
     unfold setI
     go_wp2_with fail
     all_goals (go_ret; exact ⟨by rw [← HZ.out]; rfl, hb⟩)
theorem chkA_drop (l : List (Bs × Int)) (ns : List Bs) (i : Nat) (hi : i < ns.length) : chkA l (ns.drop i) = (decide (ofM l [ns.getD i []] ≠ 0) && chkA l (ns.drop (i + 1))) := by
 rw [dropS ns i hi]
 rfl
theorem chkB_drop (L : List Sg) (m : Bs) (ns : List Bs) (i : Nat) (hi : i < ns.length) : chkB L m (ns.drop i) = (isIn L (ns.getD i []) m && chkB L m (ns.drop (i + 1))) := by
 rw [dropS ns i hi]
 rfl
theorem ccheck_any (tag : Int) (v cv : Value) (l : List (Bs × Int)) (d : Bs) (ns : List Bs) (base p : Nat) (L : List Sg) (w : World) (hv : MS w v l) (hc : CV w cv d ns) (hT : Tab w base p L) (hk : KT w) :
  Calls Tryz.prog 40 #[.int .i64 tag, v, cv, .pointer (some ⟨p, 0, none⟩)] w fun e w' => e = .returned (.int .i64 (goodC tag l d ns L)) ∧ Below w.heap.size w w' := by
 generalize hr : goodC tag l d ns L = r
 have HR := Lib.hid hr
 clear hr
 obtain ⟨a, c, rfl⟩ := hv.form
 obtain ⟨u, rfl, hu⟩ := hc
 obtain ⟨a2, c2, rfl⟩ := hu.form
 have hb0 : Below w.heap.size w (w.alloc (.cells #[.string ⟨List.toArray d⟩, .slice a2 ns.length c2] 37)) := Below.allocS (Below.refl _ _) _
 have B0 : Blk (w.alloc (.cells #[.string ⟨List.toArray d⟩, .slice a2 ns.length c2] 37)) w.heap.size #[.string ⟨List.toArray d⟩, .slice a2 ns.length c2] := Blk.new _ _ _
 have HV := Lib.hid hv
 have HU := Lib.hid hu
 have HT := Lib.hid hT
 have U0 := hu.keep hb0
 have hmay := cmay_any _ d ns _ ⟨_, rfl, U0⟩
 have hlm := hv.small
 have hln := hu.small
 clear hv hu hT
 generalize hfin : mayC d ns = fine at *
 have HF := Lib.hid hfin
 clear hfin
 go_enter Tryz.func40, Tryz.ntmps40
 go_wp2_with fail
 refine hmay.mono ?_
 rintro e w1 ⟨rfl, hb⟩
 have hb1 := hb0.trans (hb.mono hb0.size)
 have B1 := B0.keep hb
 clear hmay hb hb0 B0 U0
 go_wp2_with fail
 refine (cfirst_any tag _ l fine _ (HV.out.keep hb1)).mono ?_
 rintro e w2 ⟨rfl, hb⟩
 have hb2 := hb1.trans (hb.mono hb1.size)
 have B2 := B1.keep hb
 clear hb hb1 B1
 by_cases he : firstC tag l fine = 0
 ·have HR2 : Hid (goodIn l (tagP tag.toNat d) ns L = r) := Lib.hid (by rw [← HR.out, goodC_in (by rw [HF.out]; exact he)])
  have hfine : fine = true ∧ tagC tag = true ∧ chkM l = true := by
   unfold firstC at he
   cases hq : tagC tag
   ·simp [hq] at he
   ·cases hq2 : chkM l
    ·simp [hq, hq2] at he
    ·cases fine
     ·simp [hq, hq2] at he
     ·exact ⟨rfl, rfl, rfl⟩
  obtain ⟨rfl, htg, hcm⟩ := hfine
  obtain ⟨p1, p2, _, p3⟩ := mayC_parts HF.out
  have HD := Lib.hid p1
  have HP := Lib.hid p3
  have hmk : markP tag d = (tagP tag.toNat d, 0) := by simp [markP, htg, p1]
  have HMK := Lib.hid hmk
  rw [he]
  clear he HR p1 p3 hmk htg
  obtain ⟨b1, b2, b3⟩ := id B2
  go_wp2_with fail
  go_loopw [28] (fun s28 wr => ∃ i : Nat, i ≤ ns.length ∧ s28 = .int .i64 i ∧ Hid (chkA l ns = chkA l (ns.drop i)) ∧ Blk wr w.heap.size #[.string ⟨List.toArray d⟩, .slice a2 ns.length c2] ∧ Below w.heap.size w wr) (fun s28 _ => ns.length - (intOf s28).toNat)
  case atStart => exact ⟨0, by omega, rfl, Lib.hid rfl, B2, hb2⟩
  case round =>
   clear hb2 B2 b1 b2 b3
   obtain ⟨i, hi, rfl, HA, B2, hb2⟩ := hrel
   obtain ⟨wq, h⟩ := Below.nm hb2
   subst h
   by_cases hlt : i < ns.length
   ·obtain ⟨g, off, rfl, c1⟩ := (HU.out.keep hb2).at i hlt
    have hx6 := HP.out i hlt
    have hA := HA.out
    rw [chkA_drop l ns i hlt] at hA
    generalize hx : ns.getD i [] = x at *
    have HX := Lib.hid hx
    have hS1 : SS (wq.alloc (.cells #[.string ⟨List.toArray x⟩] 9)) (.slice (some ⟨wq.heap.size, 0, none⟩) 1 1) [x] := SS.of (l := [x]) (by simp) (by unfold maxLen; omega) (by simp) (ssrc1 _ _ _)
    have hb3 := Below.allocS hb2 (.cells #[.string ⟨List.toArray x⟩] 9)
    have B3 := B2.alloc (.cells #[.string ⟨List.toArray x⟩] 9)
    clear hx HA
    have HAA := Lib.hid hA
    clear hA
    go_wp2_with fail
    refine (mof_any _ _ l [x] (by simp) (fun j hj => by
     have : j = 0 := (by simpa using hj)
     subst this
     unfold maxLen; simp; omega) _ (HV.out.keep hb3) hS1).mono ?_
    rintro e w4 ⟨rfl, hb⟩
    have hb4 := hb3.trans (hb.mono hb3.size)
    have B4 := B3.keep hb
    by_cases ho : ofM l [x] = 0
    ·have HZ : Hid (5 = r) := Lib.hid (by rw [← HR2.out, goodIn, HAA.out]; simp [ho])
     rw [ho]
     clear HAA HR2 ho
     go_wp2_with fail
     all_goals (go_ret; exact ⟨by rw [← HZ.out]; rfl, hb4⟩)
    ·have HB : Hid (chkA l ns = chkA l (ns.drop (i + 1))) := Lib.hid (by rw [HAA.out]; simp [ho])
     have ho2 : (ofM l [x] == 0) = false := by simpa using ho
     clear HAA
     generalize ofM l [x] = z at *
     go_wp2_with fail
     exact ⟨⟨i + 1, by omega, by go_num, HB, B4, hb4⟩, by simp [intOf]; omega⟩
   ·obtain rfl : i = ns.length := by omega
    have hA : chkA l ns = true := by rw [HA.out]; simp [chkA]
    have HR3 : Hid ((if chkB L (tagP tag.toNat d) ns = false then 70 else if ofM l ns < quoM l then 71 else 0) = r) := Lib.hid (by rw [← HR2.out, goodIn, hA]; simp)
    clear HR2 HA hA
    obtain ⟨b1, b2, b3⟩ := id B2
    go_wp2_with fail
    refine (cmark_any tag d (by have := HD.out; omega) _ (hk.keep hb2)).mono ?_
    rintro e w4 ⟨rfl, hb⟩
    rw [HMK.out]
    have hb4 := hb2.trans (hb.mono hb2.size)
    have B4 := B2.keep hb
    clear hb hb2 B2 b1 b2 b3
    have hml : (tagP tag.toNat d).length = 32 := tagP_len _ _
    generalize tagP tag.toNat d = m at *
    have HML := Lib.hid hml
    clear hml
    obtain ⟨b1, b2, b3⟩ := id B4
    go_wp2_with fail
    go_loopw [48] (fun s48 wr => ∃ i : Nat, i ≤ ns.length ∧ s48 = .int .i64 i ∧ Hid (chkB L m ns = chkB L m (ns.drop i)) ∧ Blk wr w.heap.size #[.string ⟨List.toArray d⟩, .slice a2 ns.length c2] ∧ Below w.heap.size w wr) (fun s48 _ => ns.length - (intOf s48).toNat)
    case atStart => exact ⟨0, by omega, rfl, Lib.hid rfl, B4, hb4⟩
    case round =>
     clear hb4 B4 b1 b2 b3
     obtain ⟨i, hi, rfl, HA, B2, hb2⟩ := hrel
     obtain ⟨wq, h⟩ := Below.nm hb2
     subst h
     by_cases hlt : i < ns.length
     ·obtain ⟨g, off, rfl, c1⟩ := (HU.out.keep hb2).at i hlt
      have hx6 := HP.out i hlt
      have hA := HA.out
      rw [chkB_drop L m ns i hlt] at hA
      generalize hx : ns.getD i [] = x at *
      have HX := Lib.hid hx
      clear hx HA
      have HAA := Lib.hid hA
      clear hA
      go_wp2_with fail
      refine (osigned_any base p L x m (by omega) (by have := HML.out; omega) _ (HT.out.keep hb2)).mono ?_
      rintro e w4 ⟨rfl, hb⟩
      have hb4 := hb2.trans (hb.mono hb2.size)
      have B4 := B2.keep hb
      cases hq : isIn L x m
      ·have HZ : Hid (70 = r) := Lib.hid (by rw [← HR3.out, HAA.out]; simp [hq])
       clear HAA HR3 hq
       go_wp2_with fail
       all_goals (go_ret; exact ⟨by rw [← HZ.out]; rfl, hb4⟩)
      ·have HB : Hid (chkB L m ns = chkB L m (ns.drop (i + 1))) := Lib.hid (by rw [HAA.out]; simp [hq])
       clear HAA hq
       go_wp2_with fail
       exact ⟨⟨i + 1, by omega, by go_num, HB, B4, hb4⟩, by simp [intOf]; omega⟩
     ·obtain rfl : i = ns.length := by omega
      have hA : chkB L m ns = true := by rw [HA.out]; simp [chkB]
      have HR4 : Hid ((if ofM l ns < quoM l then 71 else 0) = r) := Lib.hid (by rw [← HR3.out, hA]; simp)
      clear HR3 HA hA
      obtain ⟨b1, b2, b3⟩ := id B2
      go_wp2_with fail
      refine (mof_any _ _ l ns (by omega) (fun j hj => by have := HP.out j hj; unfold maxLen; omega) _ (HV.out.keep hb2) (HU.out.keep hb2)).mono ?_
      rintro e w4 ⟨rfl, hb⟩
      have hb4 := hb2.trans (hb.mono hb2.size)
      clear hb hb2 B2 b1 b2 b3
      go_wp2_with fail
      refine (mquorum_any _ l _ (HV.out.keep hb4)).mono ?_
      rintro e w5 ⟨rfl, hb⟩
      have hb5 := hb4.trans (hb.mono hb4.size)
      clear hb hb4
      generalize ofM l ns = x at *
      generalize quoM l = y at *
      by_cases hxy : x < y
      ·have HZ : Hid (71 = r) := Lib.hid (by rw [← HR4.out, if_pos hxy])
       have hd : decide (x < y) = true := by simpa using hxy
       go_wp2_with fail
       all_goals (go_ret; exact ⟨by rw [← HZ.out]; rfl, hb5⟩)
      ·have HZ : Hid (0 = r) := Lib.hid (by rw [← HR4.out, if_neg hxy])
       have hd : decide (x < y) = false := by simpa using hxy
       go_wp2_with fail
       all_goals (go_ret; exact ⟨by rw [← HZ.out]; rfl, hb5⟩)
 ·have HR2 : Hid (firstC tag l fine = r) := Lib.hid (by rw [← HR.out, goodC_out (by rw [HF.out]; exact he), HF.out])
  have he1 : (firstC tag l fine != 0) = true := by simpa using he
  generalize firstC tag l fine = e0 at *
  clear HR HF
  go_wp2_with fail
  all_goals (go_ret; exact ⟨by rw [← HR2.out]; rfl, hb2⟩)
end Go.Proofs.YthkpmlfaddlieaaGreatDoor
namespace Go.Proofs.YthkpmlfaddlieaaGreatDoor
open Go.RowKit Pl
namespace Pl
theorem first_zero {tag : Int} {l : List (Bs × Int)} {fine : Bool} (he : firstC tag l fine = 0) : fine = true ∧ tagC tag = true ∧ chkM l = true := by
 unfold firstC at he
 cases hq : tagC tag
 ·simp [hq] at he
 ·cases hq2 : chkM l
  ·simp [hq, hq2] at he
  ·cases fine
   ·simp [hq, hq2] at he
   ·exact ⟨rfl, rfl, rfl⟩
end Pl
end Go.Proofs.YthkpmlfaddlieaaGreatDoor
namespace Go.Proofs.YthkpmlfaddlieaaGreatDoor
open Go.Shelf
def laysSort_ren : Go.Shelf.Ren := ⟨fun | 190 => 78 | 125 => 113 | 258 => 112 | 128 => 147 | 129 => 148 | 302 => 138 | 303 => 139 | 304 => 140 | 305 => 141 | 306 => 142 | 307 => 143 | 308 => 144 | 309 => 145 | 310 => 146 | 333 => 163 | 329 => 164 | 330 => 165 | 334 => 166 | 335 => 167 | 336 => 168 | 344 => 175 | n => n, fun | 31 => 24 | 9 => 9 | 3 => 3 | 46 => 126 | 0 => 0 | 51 => 158 | 53 => 161 | 4 => 4 | 183 => 217 | 182 => 216 | 131 => 103 | 5 => 5 | 218 => 238 | 222 => 242 | 228 => 252 | 229 => 253 | n => n, fun | n => n⟩
theorem laysSort : Go.Proofs.Lays.n190 Tryz.prog laysSort_ren := {
 mixed := by kernel_rfl
 f125 := Tryz.func113.trans (congrArg some (by kernel_rfl))
 f128 := Tryz.func147.trans (congrArg some (by kernel_rfl))
 f129 := Tryz.func148.trans (congrArg some (by kernel_rfl))
 f190 := Tryz.func78.trans (congrArg some (by kernel_rfl))
 f258 := Tryz.func112.trans (congrArg some (by kernel_rfl))
 f302 := Tryz.func138.trans (congrArg some (by kernel_rfl))
 f303 := Tryz.func139.trans (congrArg some (by kernel_rfl))
 f304 := Tryz.func140.trans (congrArg some (by kernel_rfl))
 f305 := Tryz.func141.trans (congrArg some (by kernel_rfl))
 f306 := Tryz.func142.trans (congrArg some (by kernel_rfl))
 f307 := Tryz.func143.trans (congrArg some (by kernel_rfl))
 f308 := Tryz.func144.trans (congrArg some (by kernel_rfl))
 f309 := Tryz.func145.trans (congrArg some (by kernel_rfl))
 f310 := Tryz.func146.trans (congrArg some (by kernel_rfl))
 f329 := Tryz.func164.trans (congrArg some (by kernel_rfl))
 f330 := Tryz.func165.trans (congrArg some (by kernel_rfl))
 f333 := Tryz.func163.trans (congrArg some (by kernel_rfl))
 f334 := Tryz.func166.trans (congrArg some (by kernel_rfl))
 f335 := Tryz.func167.trans (congrArg some (by kernel_rfl))
 f336 := Tryz.func168.trans (congrArg some (by kernel_rfl))
 f344 := Tryz.func175.trans (congrArg some (by kernel_rfl))
 t0 := Tryz.underlying0
 a0 := Tryz.isAgg0
 z0 := Tryz.sizeOf0
 v0 := Tryz.zeroValue0
 t3 := Tryz.underlying3
 a3 := Tryz.isAgg3
 z3 := Tryz.sizeOf3
 v3 := Tryz.zeroValue3
 t4 := Tryz.underlying4
 a4 := Tryz.isAgg4
 z4 := Tryz.sizeOf4
 v4 := Tryz.zeroValue4
 t5 := Tryz.underlying5
 a5 := Tryz.isAgg5
 z5 := Tryz.sizeOf5
 v5 := Tryz.zeroValue5
 t9 := Tryz.underlying9
 a9 := Tryz.isAgg9
 z9 := Tryz.sizeOf9
 v9 := Tryz.zeroValue9
 t31 := Tryz.underlying24
 a31 := Tryz.isAgg24
 z31 := Tryz.sizeOf24
 v31 := Tryz.zeroValue24
 t46 := Tryz.underlying126
 a46 := Tryz.isAgg126
 z46 := Tryz.sizeOf126
 v46 := Tryz.zeroValue126
 t51 := Tryz.underlying158
 a51 := Tryz.isAgg158
 z51 := Tryz.sizeOf158
 v51 := Tryz.zeroValue158
 t53 := Tryz.underlying161
 a53 := Tryz.isAgg161
 z53 := Tryz.sizeOf161
 v53 := Tryz.zeroValue161
 t131 := Tryz.underlying103
 a131 := Tryz.isAgg103
 z131 := Tryz.sizeOf103
 v131 := Tryz.zeroValue103
 t182 := Tryz.underlying216
 a182 := Tryz.isAgg216
 z182 := Tryz.sizeOf216
 v182 := Tryz.zeroValue216
 t183 := Tryz.underlying217
 a183 := Tryz.isAgg217
 z183 := Tryz.sizeOf217
 v183 := Tryz.zeroValue217
 t218 := Tryz.underlying238
 a218 := Tryz.isAgg238
 z218 := Tryz.sizeOf238
 v218 := Tryz.zeroValue238
 t222 := Tryz.underlying242
 a222 := Tryz.isAgg242
 z222 := Tryz.sizeOf242
 v222 := Tryz.zeroValue242
 t228 := Tryz.underlying252
 a228 := Tryz.isAgg252
 z228 := Tryz.sizeOf252
 v228 := Tryz.zeroValue252
 t229 := Tryz.underlying253
 a229 := Tryz.isAgg253
 z229 := Tryz.sizeOf253
 v229 := Tryz.zeroValue253 }
def laysCompact_ren : Go.Shelf.Ren := ⟨fun | 194 => 79 | n => n, fun | 31 => 24 | 9 => 9 | 3 => 3 | 4 => 4 | 0 => 0 | n => n, fun | n => n⟩
theorem laysCompact : Go.Proofs.Lays.n194 Tryz.prog laysCompact_ren := {
 mixed := by kernel_rfl
 f194 := Tryz.func79.trans (congrArg some (by kernel_rfl))
 t0 := Tryz.underlying0
 a0 := Tryz.isAgg0
 z0 := Tryz.sizeOf0
 v0 := Tryz.zeroValue0
 t3 := Tryz.underlying3
 a3 := Tryz.isAgg3
 z3 := Tryz.sizeOf3
 v3 := Tryz.zeroValue3
 t4 := Tryz.underlying4
 a4 := Tryz.isAgg4
 z4 := Tryz.sizeOf4
 v4 := Tryz.zeroValue4
 t9 := Tryz.underlying9
 a9 := Tryz.isAgg9
 z9 := Tryz.sizeOf9
 v9 := Tryz.zeroValue9
 t31 := Tryz.underlying24
 a31 := Tryz.isAgg24
 z31 := Tryz.sizeOf24
 v31 := Tryz.zeroValue24 }
end Go.Proofs.YthkpmlfaddlieaaGreatDoor
namespace Go.Proofs.YthkpmlfaddlieaaGreatDoor
namespace Pl
def IsBoth (a b l : List Bs) : Prop := l.Pairwise (fun x y => x < y) ∧ ∀ x, x ∈ l ↔ x ∈ a ∧ x ∈ b
theorem upTo_mem (d : Array Bs) : ∀ m, m ≤ d.size → ∀ x, x ∈ Lib.compactUpTo d m ↔ ∃ j, j < m ∧ d[j]! = x
 | 0, _, x => by simp [Lib.compactUpTo]
 | m + 1, hm, x => by
  rw [Lib.compactUpTo_succ, List.mem_append, upTo_mem d m (by omega) x]
  constructor
  ·rintro (⟨j, hj, e⟩ | h)
   ·exact ⟨j, by omega, e⟩
   ·split at h
    ·simp at h; exact ⟨m, by omega, h.symm⟩
    ·simp at h
  ·rintro ⟨j, hj, e⟩
   rcases Nat.lt_or_eq_of_le (Nat.le_of_lt_succ hj) with h | h
   ·exact .inl ⟨j, h, e⟩
   ·subst h
    by_cases hk : Lib.keeps d j = true
    ·exact .inr (by rw [if_pos hk]; simp [e])
    ·unfold Lib.keeps at hk
     simp only [decide_eq_true_eq, not_or, ne_eq, Classical.not_not] at hk
     exact .inl ⟨j - 1, by omega, hk.2.symm.trans e⟩
theorem upTo_sorted (d : Array Bs) (hd : ∀ i j, i ≤ j → j < d.size → d[i]! ≤ d[j]!) : ∀ m, m ≤ d.size → (Lib.compactUpTo d m).Pairwise (fun x y => x < y)
 | 0, _ => by simp [Lib.compactUpTo]
 | m + 1, hm => by
  rw [Lib.compactUpTo_succ, List.pairwise_append]
  refine ⟨upTo_sorted d hd m (by omega), by split <;> simp, fun x hx y hy => ?_⟩
  split at hy
  ·rename_i hk
   simp at hy
   subst hy
   obtain ⟨j, hj, rfl⟩ := (upTo_mem d m (by omega) x).1 hx
   unfold Lib.keeps at hk
   simp only [decide_eq_true_eq] at hk
   have hne : d[m]! ≠ d[m - 1]! := by
    rcases hk with h | h
    ·omega
    ·exact h
   have h1 := hd j (m - 1) (by omega) (by omega)
   have h2 := hd (m - 1) m (by omega) (by omega)
   refine List.lt_of_le_of_lt h1 ?_
   rcases Classical.em (d[m - 1]! < d[m]!) with h | h
   ·exact h
   ·exact absurd (List.le_antisymm (List.not_lt.1 h) h2) hne
  ·simp at hy
theorem compact_sorted (zs : List Bs) (h : zs.Pairwise (fun x y => x ≤ y)) : (Lib.compact zs).Pairwise (fun x y => x < y) := by
 unfold Lib.compact
 refine upTo_sorted zs.toArray (fun i j hij hj => ?_) zs.length (by simp)
 simp at hj
 rw [getElem!_pos _ _ (by simp; omega), getElem!_pos _ _ (by simpa using hj)]
 simp only [List.getElem_toArray]
 rcases Nat.lt_or_eq_of_le hij with hlt | rfl
 ·exact List.pairwise_iff_getElem.1 h i j (by omega) hj hlt
 ·exact List.le_refl _
theorem compact_mem (zs : List Bs) (x : Bs) : x ∈ Lib.compact zs ↔ x ∈ zs := by
 unfold Lib.compact
 rw [upTo_mem zs.toArray zs.length (by simp)]
 constructor
 ·rintro ⟨j, hj, rfl⟩
  rw [getElem!_pos _ _ (by simpa using hj)]
  simp
 ·intro hx
  obtain ⟨j, hj, rfl⟩ := List.getElem_of_mem hx
  exact ⟨j, hj, by rw [getElem!_pos _ _ (by simpa using hj)]; simp⟩
def selP (a b : List Bs) : List Bs := b.filter fun x => a.contains x
def bothP (a b : List Bs) : List Bs := Lib.compact ((selP a b).mergeSort fun x y => decide (x ≤ y))
theorem bothP_is (a b : List Bs) : IsBoth a b (bothP a b) := by
 constructor
 ·refine compact_sorted _ ?_
  have h := List.pairwise_mergeSort (le := fun x y : Bs => decide (x ≤ y)) (fun x y z h k => by simp only [decide_eq_true_eq] at *; exact List.le_trans h k) (fun x y => by simp only [Bool.or_eq_true, decide_eq_true_eq]; exact List.le_total x y) (selP a b)
  exact h.imp (fun {x y} h => by simpa using h)
 ·intro x
  unfold bothP
  rw [compact_mem, (List.mergeSort_perm (selP a b) _).mem_iff]
  unfold selP
  rw [List.mem_filter]
  simp only [List.contains_iff_mem]
  exact And.comm
theorem nodup_len : ∀ (l a : List Bs), l.Nodup → (∀ x ∈ l, x ∈ a) → l.length ≤ a.length
 | [], _, _, _ => by simp
 | x :: l, a, hn, h => by
  rw [List.nodup_cons] at hn
  have hx : x ∈ a := h x (by simp)
  have ih := nodup_len l (a.erase x) hn.2 (fun y hy => (List.mem_erase_of_ne (fun e => hn.1 (by rw [← e]; exact hy))).2 (h y (by simp [hy])))
  rw [List.length_erase_of_mem hx] at ih
  have : 0 < a.length := List.length_pos_of_mem hx
  simp only [List.length_cons]
  omega
end Pl
end Go.Proofs.YthkpmlfaddlieaaGreatDoor
namespace Go.Proofs.YthkpmlfaddlieaaGreatDoor
open Go.RowKit Go.WideMaps Go.Maps Go.Sort Pl
theorem takeSo (l : List Bs) (i : Nat) (hi : i < l.length) : l.take (i + 1) = l.take i ++ [l.getD i []] := by
 rw [List.take_add_one, List.getElem?_eq_getElem hi, List.getD_eq_getElem?_getD, List.getElem?_eq_getElem hi]
 rfl
theorem sort_row (base : Nat) (v : Value) (l : List Bs) (hl : l.length < 4611686018427387904) (w : World) (hb : base ≤ w.heap.size) (h : SRow w base v l) :
  Calls Tryz.prog 78 #[v] w fun e w' => e = .returned (.tuple #[]) ∧ SRow w' base v (l.mergeSort fun x y => decide (x ≤ y)) ∧ Below base w w' := by
 by_cases hv : v = .slice none 0 0
 ·subst hv
  have h0 : l = [] := by
   rcases h.cells with ⟨_, h⟩ | ⟨g, cap, h, _⟩
   ·exact h
   ·cases h
  subst h0
  refine (calls_of_every_depth fun D => AnyS.slices_Sort_string_none_alone laysSort D none 0 w).mono ?_
  rintro e w' ⟨rfl, rfl⟩
  exact ⟨rfl, by simpa using SRow.nil _ _, Below.refl _ _⟩
 ·have h' : w.ownsRow base 9 1 v l.length (l.map encStr) := h
  obtain ⟨g, cap, rfl, h1, h2, h3, h4, h5, h6⟩ := Lib.holds_of_ownsRow h' hv
  refine (calls_of_every_depth fun D => AnyS.slices_Sort_string_alone laysSort D g 0 cap l w h6 h2 hl).mono ?_
  rintro e w' ⟨rfl, n, os, rfl⟩
  have hlen : (l.mergeSort fun x y => decide (x ≤ y)).length = l.length := List.length_mergeSort l
  rcases h'.2 with ⟨h0, _⟩ | ⟨g', cap', cur, hv', q1, q2, q3, q4, q5, q6⟩
  ·cases h0
  ·injection hv' with e1 _ e3
   injection e1 with e1
   injection e1 with e1 _ _
   subst e1 e3
   have hs := ownsRow_sorted (n := n) (os := os) (ts := l.mergeSort fun x y => decide (x ≤ y)) hlen q1 q2 q3 q4 q5
   refine ⟨rfl, ?_, grown_below (grownBy_sorted _) hb (fun k hk => by cases hk; exact q1)⟩
   unfold SRow
   rw [hlen]
   exact hs
theorem compact_row (base : Nat) (v : Value) (l : List Bs) (w : World) (hb : base ≤ w.heap.size) (h : SRow w base v l) :
  Calls Tryz.prog 79 #[v] w fun e w' => ∃ v', e = .returned v' ∧ SRow w' base v' (Lib.compact l) ∧ Below base w w' := by
 by_cases hv : v = .slice none 0 0
 ·subst hv
  have h0 : l = [] := by
   rcases h.cells with ⟨_, h⟩ | ⟨g, cap, h, _⟩
   ·exact h
   ·cases h
  subst h0
  refine (calls_of_every_depth fun D => AnyS.slices_Compact_string_empty_in laysCompact D none 0 w).mono ?_
  rintro e w' ⟨rfl, rfl⟩
  exact ⟨_, rfl, by simpa [Lib.compact, Lib.compactUpTo] using SRow.nil _ _, Below.refl _ _⟩
 ·have h' : w.ownsRow base 9 1 v l.length (l.map encStr) := h
  obtain ⟨g, cap, rfl, h1, h2, h3, h4, h5, h6⟩ := Lib.holds_of_ownsRow h' hv
  refine (calls_of_every_depth fun D => AnyS.slices_Compact_string_in laysCompact D g 0 cap l w h6 (by unfold maxLen at h4; omega) h3).mono ?_
  rintro e w' ⟨rfl, q, rfl⟩
  have hle := Lib.compact_length_le l
  have hc := Lib.ownsRow_putRow (q := q) (k := (Lib.compact l).length) (ys := Lib.compact l ++ List.replicate (l.length - (Lib.compact l).length) []) h' (by simp; omega) (by omega)
  rw [List.take_left] at hc
  exact ⟨_, rfl, hc, Lib.below_putRow (Below.refl _ _) h1⟩
theorem both_len {a b l : List Bs} (h : IsBoth a b l) : l.length ≤ b.length :=
 nodup_len l b (h.1.imp (fun {x y} h e => by subst e; exact absurd h (List.lt_irrefl _))) (fun x hx => ((h.2 x).1 hx).2)
theorem selP_take (a b : List Bs) (i : Nat) (hi : i < b.length) : selP a (b.take (i + 1)) = selP a (b.take i) ++ (if a.contains (b.getD i []) then [b.getD i []] else []) := by
 rw [takeSo b i hi]
 unfold selP
 rw [List.filter_append]
 congr 1
 cases h : a.contains (b.getD i [])
 ·rw [List.filter_cons_of_neg (by rw [h]; simp)]; simp
 ·rw [List.filter_cons_of_pos (by rw [h])]; simp
theorem selP_len (a b : List Bs) : (selP a b).length ≤ b.length := List.length_filter_le _ _
theorem mboth_any (u v : Value) (a b : List Bs) (ha : a.length ≤ 1000) (hb0 : b.length ≤ 1000) (hal : ∀ i, i < a.length → (a.getD i []).length ≤ maxLen) (hbl : ∀ i, i < b.length → (b.getD i []).length ≤ maxLen) (w : World) (hu : SS w u a) (hv : SS w v b) :
  Calls Tryz.prog 41 #[u, v] w fun e w' => ∃ x, e = .returned x ∧ SRow w' w.heap.size x (bothP a b) ∧ Below w.heap.size w w' := by
 have hmm := @run_makeMap Tryz.prog
 obtain ⟨pa, ca, rfl⟩ := hu.form
 obtain ⟨pb, cb, rfl⟩ := hv.form
 have HU := Lib.hid hu
 have HV := Lib.hid hv
 clear hu hv
 go_enter Tryz.func41, Tryz.ntmps41
 go_wp2_with fail
 go_loopw [14] (fun s14 wr => ∃ i : Nat, i ≤ a.length ∧ s14 = .int .i64 i ∧ wr.ownsMap Tryz.prog 9 (plainElem Tryz.prog 3) w.heap.size i (cntD (a.take i).reverse) ∧ Below w.heap.size w wr) (fun s14 _ => a.length - (intOf s14).toNat)
 case atStart => exact ⟨0, by omega, rfl, World.ownsMap_made _ _ _ _, (Below.refl _ _).alloc (Nat.le_refl _) _⟩
 case round =>
  obtain ⟨i, hi, rfl, hown, hbm⟩ := hrel
  by_cases hlt : i < a.length
  ·obtain ⟨g, off, rfl, c1⟩ := (HU.out.keep hbm).at i hlt
   have hnx : cntD (a.take (i + 1)).reverse = (cntD (a.take i).reverse).put (.string (a.getD i [])) (.lit (.int .i64 ((((a.take i).reverse.count (a.getD i []) + 1 : Nat)) : Int))) := by
    rw [List.take_succ_eq_append_getElem hlt, List.reverse_append]
    simp [cntD, List.getD, List.getElem?_eq_getElem hlt]
   have hkey : keyOf Tryz.prog 9 (.string ⟨List.toArray (a.getD i [])⟩) = some (.string (a.getD i [])) := keyOf_string_mk Tryz.underlying9 (by simpa [ByteArray.size] using hal i hlt)
   generalize a.getD i [] = n at *
   obtain ⟨k, hrun, hat, _⟩ := hown.lookup_int keyedS Tryz.underlying102 Tryz.underlying3 (zeroI _) hkey
   have hkc : k = ((a.take i).reverse.count n : Nat) := by
    rw [cntD_at] at hat
    injection hat with hat
    injection hat with _ hat
    exact hat.symm
   have hcl : (a.take i).reverse.count n ≤ i := Nat.le_trans (List.count_le_length) (by simp; omega)
   have q1 : IntKind.i64.wrap (k + 1) = k + 1 := IntWalk.i64_in _ (by omega)
   have hnx2 : cntD (a.take (i + 1)).reverse = (cntD (a.take i).reverse).put (.string n) (.lit (.int .i64 (k + 1))) := by rw [hnx, hkc]; rfl
   have hwf : (Lit.int .i64 (k + 1)).wf = true := by have h := wrap64_wf (k + 1); rw [← IntWalk.i64_left, q1] at h; exact h
   clear hnx hat hkc HU HV
   go_wp2_with (first
    | (at_mapUpdate; refine wpList_mapUpdate_own _ rfl _ _ _ 102 rfl 9 3 keyedS Tryz.underlying102 _ w.heap.size i _ rfl hown (by unfold maxLen; omega) _ _ _ rfl rfl hkey _ [] (plainElem_int Tryz.underlying3 hwf) ?_)
    | go_in)
   intro w2 hown2 hgrow
   have R1 := hnx2.symm ▸ hown2
   have R2 := hbm.grown hgrow hbm.size (fun j hj => by cases hj; exact Nat.le_refl _)
   clear hown2 hgrow hown hrun
   go_wp2_with fail
   exact ⟨⟨i + 1, by omega, by go_num, R1, R2⟩, by simp [intOf]; omega⟩
  ·obtain rfl : i = a.length := by omega
   obtain ⟨wq, h⟩ := Below.nm hbm
   subst h
   rw [List.take_length] at hown
   have hqs := hbm.size
   go_wp2_with fail
   go_loopw [8, 25] (fun s8 s25 wr => ∃ j : Nat, j ≤ b.length ∧ s25 = .int .i64 j ∧ SRow wr wq.heap.size s8 (selP a (b.take j)) ∧ Below wq.heap.size wq wr) (fun _ s25 _ => b.length - (intOf s25).toNat)
   case atStart => exact ⟨0, by omega, rfl, by simpa [selP] using SRow.nil _ _, Below.refl _ _⟩
   case round =>
    obtain ⟨j, hj, rfl, hS, hbj⟩ := hrel
    obtain ⟨wr, h⟩ := Below.nm hbj
    subst h
    have hbr := hbm.trans (hbj.mono hqs)
    by_cases hlt : j < b.length
    ·obtain ⟨g, off, rfl, c1⟩ := (HV.out.keep hbr).at j hlt
     have hnx := selP_take a b j hlt
     have hsl := selP_len a (b.take j)
     rw [List.length_take] at hsl
     have hn6 := hbl j hlt
     generalize hx : b.getD j [] = n at *
     have HX := Lib.hid hx
     have HNX := Lib.hid hnx
     clear hx hnx
     generalize selP a (b.take j) = ns at *
     have hown2 := ownsMap_keep hown hbj
     have hkey : keyOf Tryz.prog 9 (.string ⟨List.toArray n⟩) = some (.string n) := keyOf_string_mk Tryz.underlying9 (by simpa [ByteArray.size] using hn6)
     obtain ⟨k, hrun, hat, _⟩ := hown2.lookup_int keyedS Tryz.underlying102 Tryz.underlying3 (zeroI _) hkey
     have hkc : k = (a.count n : Nat) := by
      rw [cntD_at, List.count_reverse] at hat
      injection hat with hat
      injection hat with _ hat
      exact hat.symm
     have hrs := hbj.size
     clear hat hown2
     cases hin : a.contains n
     ·have HN2 : Hid (selP a (b.take (j + 1)) = ns) := Lib.hid (by rw [HNX.out, hin]; simp)
      have hk0 : decide ((0 : Int) < k) = false := by
       have : a.count n = 0 := List.count_eq_zero.2 (by simpa using hin)
       rw [hkc, this]; rfl
      clear hkc HNX hin
      go_wp2_with fail
      exact ⟨⟨j + 1, by omega, by go_num, by rw [HN2.out]; exact hS, hbj⟩, by simp [intOf]; omega⟩
     ·have HN2 : Hid (selP a (b.take (j + 1)) = ns ++ [n]) := Lib.hid (by rw [HNX.out, hin]; simp)
      have hk0 : decide ((0 : Int) < k) = true := by
       have : 0 < a.count n := List.count_pos_iff.2 (by simpa using hin)
       rw [hkc, decide_eq_true_iff]; omega
      clear hkc HNX hin
      go_wp2_with (first
       | (at_builtin; refine wpList_appS rfl (.tmp 33) (.tmp 35) rfl wq.heap.size _ ns rfl (hS.alloc _) wr.heap.size 0 1 1 [n] rfl rfl (ssrc1 _ _ _) (by simp; omega) (by simp; omega) ?_; rintro v8 w8 hS8 hb8)
       | fail)
      exact ⟨⟨j + 1, by omega, by go_num, by rw [HN2.out]; exact hS8, (Below.allocS hbj (.cells #[.string ⟨List.toArray n⟩] 9)).trans hb8⟩, by simp [intOf]; omega⟩
    ·obtain rfl : j = b.length := by omega
     rw [List.take_length] at hS
     have hsl := selP_len a b
     have hrs := hbj.size
     have HB : Hid (Lib.compact ((selP a b).mergeSort fun x y => decide (x ≤ y)) = bothP a b) := Lib.hid rfl
     generalize selP a b = ns at *
     go_wp2_with fail
     refine (sort_row wq.heap.size _ ns (by omega) _ hrs hS).mono ?_
     rintro e w9 ⟨rfl, hS9, hb9⟩
     have hb10 := hbj.trans hb9
     go_wp2_with fail
     refine (compact_row wq.heap.size _ _ _ hb10.size hS9).mono ?_
     rintro e w11 ⟨x, rfl, hS11, hb11⟩
     go_wp2_with fail
     all_goals (go_ret; refine ⟨x, rfl, ?_, (hbm.trans (hb10.mono hqs)).trans (hb11.mono hqs)⟩)
     rw [← HB.out]
     exact hS11.low hqs
end Go.Proofs.YthkpmlfaddlieaaGreatDoor
