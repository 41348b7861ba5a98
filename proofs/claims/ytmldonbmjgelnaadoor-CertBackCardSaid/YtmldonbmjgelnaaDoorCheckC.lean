/- Whether a certificate is good: the program's. -/
import Derived.Test.YtmldonbmjgelnaaDoorOrac
import Derived.Test.YtmldonbmjgelnaaDoorCertC
import Derived.Test.YtmldonbmjgelnaaDoorDig
set_option linter.unusedSimpArgs false
set_option linter.unusedVariables false
namespace Go.Proofs.YtmldonbmjgelnaaDoor
open Go.RowKit Pl

namespace Pl
def tagC (tag : Int) : Bool := decide (tag = 5) || decide (tag = 6)
def markP (tag : Int) (s : Bs) : Bs × Int := if tagC tag = false then ([], 1) else if s.length ≠ 32 then ([], 3) else (tagP tag.toNat s, 0)
def firstC (tag : Int) (l : List (Bs × Int)) (fine : Bool) : Int := if tagC tag = false then 1 else if chkM l = false then 50 else if fine then 0 else 3
def chkA (l : List (Bs × Int)) (ns : List Bs) : Bool := ns.all fun n => decide (ofM l [n] ≠ 0)
def chkB (L : List Sg) (m : Bs) (ns : List Bs) : Bool := ns.all fun n => isIn L n m
def goodIn (l : List (Bs × Int)) (m : Bs) (ns : List Bs) (L : List Sg) : Int :=
  if chkA l ns = false then 5 else if chkB L m ns = false then 70 else if ofM l ns < quoM l then 71 else 0
def goodC (tag : Int) (l : List (Bs × Int)) (d : Bs) (ns : List Bs) (L : List Sg) : Int :=
  if firstC tag l (mayC d ns) ≠ 0 then firstC tag l (mayC d ns) else goodIn l (tagP tag.toNat d) ns L
theorem goodC_in {tag : Int} {l : List (Bs × Int)} {d : Bs} {ns : List Bs} {L : List Sg} (h : firstC tag l (mayC d ns) = 0) : goodC tag l d ns L = goodIn l (tagP tag.toNat d) ns L := by
  unfold goodC
  rw [if_neg (by simpa using h)]
theorem goodC_out {tag : Int} {l : List (Bs × Int)} {d : Bs} {ns : List Bs} {L : List Sg} (h : firstC tag l (mayC d ns) ≠ 0) : goodC tag l d ns L = firstC tag l (mayC d ns) := by
  unfold goodC
  rw [if_pos h]
end Pl

set_option maxRecDepth 100000 in
set_option maxHeartbeats 400000 in
theorem cmark_any (tag : Int) (s : Bs) (hs : s.length ≤ 1000000) (w : World) (hk : KT w) :
    Calls Tryd.prog 79 #[.int .i64 (tag), .string ⟨List.toArray (s)⟩] w fun e w' => e = .returned (.tuple #[.string ⟨List.toArray ((markP tag s).1)⟩, .int .i64 ((markP tag s).2)]) ∧ Below w.heap.size w w' := by
  cases ht : tagC tag
  · have h5 : (tag != 5) = true := by simp [tagC] at ht; simpa using ht.1
    have h6 : (tag != 6) = true := by simp [tagC] at ht; simpa using ht.2
    rw [show markP tag s = ([], 1) from by simp [markP, ht]]
    clear ht
    go_enter Tryd.func79, Tryd.ntmps79
    go_wp2_with fail
    all_goals (go_ret2; exact ⟨rfl, Below.refl _ _⟩)
  · by_cases hl : s.length = 32
    · rw [show markP tag s = (tagP tag.toNat s, 0) from by simp [markP, ht, hl]]
      have hl1 : ((s.length : Int) != 32) = false := by simp; omega
      obtain ⟨t, rfl, ht1⟩ : ∃ t : Nat, tag = t ∧ (t = 5 ∨ t = 6) := by
        simp [tagC] at ht
        rcases ht with rfl | rfl
        · exact ⟨5, rfl, .inl rfl⟩
        · exact ⟨6, rfl, .inr rfl⟩
      rw [Int.toNat_natCast]
      have HL := Lib.hid hl
      have hd := digsum_ok t (by omega) (by omega) s (by omega) w hk
      clear ht hl
      rcases ht1 with rfl | rfl
      all_goals
        go_enter Tryd.func79, Tryd.ntmps79
        go_wp2_with fail
        refine hd.mono ?_
        rintro e w1 ⟨rfl, hb⟩
        go_wp2_with fail
        all_goals (go_ret2; exact ⟨rfl, hb⟩)
    · rw [show markP tag s = ([], 3) from by simp [markP, ht, hl]]
      have hl1 : ((s.length : Int) != 32) = true := by simp; omega
      simp [tagC] at ht
      rcases ht with rfl | rfl
      all_goals
        go_enter Tryd.func79, Tryd.ntmps79
        go_wp2_with fail
        all_goals (go_ret2; exact ⟨rfl, Below.refl _ _⟩)

set_option maxRecDepth 100000 in
set_option maxHeartbeats 400000 in
theorem cfirst_any (tag : Int) (v : Value) (l : List (Bs × Int)) (fine : Bool) (w : World) (hv : MS w v l) :
    Calls Tryd.prog 111 #[.int .i64 (tag), v, .bool fine] w fun e w' => e = .returned (.int .i64 (firstC tag l fine)) ∧ Below w.heap.size w w' := by
  generalize hr : firstC tag l fine = r
  have HR := Lib.hid hr
  clear hr
  obtain ⟨a, c, rfl⟩ := hv.form
  have hchk := mcheck_any _ l w hv
  clear hv
  cases ht : tagC tag
  · have h5 : (tag != 5) = true := by simp [tagC] at ht; simpa using ht.1
    have h6 : (tag != 6) = true := by simp [tagC] at ht; simpa using ht.2
    have HZ : Hid (1 = r) := Lib.hid (by rw [← HR.out]; simp [firstC, ht])
    clear ht HR
    go_enter Tryd.func111, Tryd.ntmps111
    go_wp2_with fail
    all_goals (go_ret; exact ⟨by rw [← HZ.out]; rfl, Below.refl _ _⟩)
  · cases hc : chkM l
    · have HZ : Hid (50 = r) := Lib.hid (by rw [← HR.out]; simp [firstC, ht, hc])
      rw [hc] at hchk
      have HC := Lib.hid hchk
      clear hchk HR hc
      simp [tagC] at ht
      rcases ht with rfl | rfl
      all_goals
        go_enter Tryd.func111, Tryd.ntmps111
        go_wp2_with fail
        refine HC.out.mono ?_
        rintro e w1 ⟨rfl, hb⟩
        unfold setI
        go_wp2_with fail
        all_goals (go_ret; exact ⟨by rw [← HZ.out]; rfl, hb⟩)
    · have HZ : Hid ((if fine then 0 else 3) = r) := Lib.hid (by rw [← HR.out]; simp [firstC, ht, hc])
      rw [hc] at hchk
      have HC := Lib.hid hchk
      clear hchk HR hc
      simp [tagC] at ht
      cases fine
      all_goals
        rcases ht with rfl | rfl
        all_goals
          go_enter Tryd.func111, Tryd.ntmps111
          go_wp2_with fail
          refine HC.out.mono ?_
          rintro e w1 ⟨rfl, hb⟩
          unfold setI
          go_wp2_with fail
          all_goals (go_ret; exact ⟨by rw [← HZ.out]; rfl, hb⟩)

theorem chkA_drop (l : List (Bs × Int)) (ns : List Bs) (i : Nat) (hi : i < ns.length) : chkA l (ns.drop i) = (decide (ofM l [ns.getD i []] ≠ 0) && chkA l (ns.drop (i + 1))) := by
  rw [dropS ns i hi]
  rfl
theorem chkB_drop (L : List Sg) (m : Bs) (ns : List Bs) (i : Nat) (hi : i < ns.length) : chkB L m (ns.drop i) = (isIn L (ns.getD i []) m && chkB L m (ns.drop (i + 1))) := by
  rw [dropS ns i hi]
  rfl

set_option maxRecDepth 100000 in
set_option maxHeartbeats 1000000 in
theorem ccheck_any (tag : Int) (v cv : Value) (l : List (Bs × Int)) (d : Bs) (ns : List Bs) (base p : Nat) (L : List Sg) (w : World) (hv : MS w v l) (hc : CV w cv d ns) (hT : Tab w base p L) (hk : KT w) :
    Calls Tryd.prog 81 #[.int .i64 (tag), v, cv, .pointer (some ⟨p, 0, none⟩)] w fun e w' => e = .returned (.int .i64 (goodC tag l d ns L)) ∧ Below w.heap.size w w' := by
  generalize hr : goodC tag l d ns L = r
  have HR := Lib.hid hr
  clear hr
  obtain ⟨a, c, rfl⟩ := hv.form
  obtain ⟨u, rfl, hu⟩ := hc
  obtain ⟨a2, c2, rfl⟩ := hu.form
  have hb0 : Below w.heap.size w (w.alloc (.cells #[.string ⟨List.toArray (d)⟩, .slice a2 ns.length c2] 51)) := Below.allocS (Below.refl _ _) _
  have B0 : Blk (w.alloc (.cells #[.string ⟨List.toArray (d)⟩, .slice a2 ns.length c2] 51)) w.heap.size #[.string ⟨List.toArray (d)⟩, .slice a2 ns.length c2] := Blk.new _ _ _
  have HV := Lib.hid hv
  have HU := Lib.hid hu
  have HT := Lib.hid hT
  have U0 := hu.keep hb0
  have hmay := cmay_any _ d ns _ ⟨_, rfl, U0⟩
  have hlm := hv.small
  have hln := hu.small
  clear hv hu hT
  generalize hfin : mayC d ns = fine at *
  have HF := Lib.hid hfin
  clear hfin
  go_enter Tryd.func81, Tryd.ntmps81
  go_wp2_with fail
  refine hmay.mono ?_
  rintro e w1 ⟨rfl, hb⟩
  have hb1 := hb0.trans (hb.mono hb0.size)
  have B1 := B0.keep hb
  clear hmay hb hb0 B0 U0
  go_wp2_with fail
  refine (cfirst_any tag _ l fine _ (HV.out.keep hb1)).mono ?_
  rintro e w2 ⟨rfl, hb⟩
  have hb2 := hb1.trans (hb.mono hb1.size)
  have B2 := B1.keep hb
  clear hb hb1 B1
  by_cases he : firstC tag l fine = 0
  · have HR2 : Hid (goodIn l (tagP tag.toNat d) ns L = r) := Lib.hid (by rw [← HR.out, goodC_in (by rw [HF.out]; exact he)])
    have hfine : fine = true ∧ tagC tag = true ∧ chkM l = true := by
      unfold firstC at he
      cases hq : tagC tag
      · simp [hq] at he
      · cases hq2 : chkM l
        · simp [hq, hq2] at he
        · cases fine
          · simp [hq, hq2] at he
          · exact ⟨rfl, rfl, rfl⟩
    obtain ⟨rfl, htg, hcm⟩ := hfine
    obtain ⟨p1, p2, _, p3⟩ := mayC_parts HF.out
    have HD := Lib.hid p1
    have HP := Lib.hid p3
    have hmk : markP tag d = (tagP tag.toNat d, 0) := by simp [markP, htg, p1]
    have HMK := Lib.hid hmk
    rw [he]
    clear he HR p1 p3 hmk htg
    obtain ⟨b1, b2, b3⟩ := id B2
    go_wp2_with fail
    go_loopw [28] (fun s28 wr => ∃ i : Nat, i ≤ ns.length ∧ s28 = .int .i64 i ∧ Hid (chkA l ns = chkA l (ns.drop i)) ∧ Blk wr w.heap.size #[.string ⟨List.toArray (d)⟩, .slice a2 ns.length c2] ∧ Below w.heap.size w wr) (fun s28 _ => ns.length - (intOf s28).toNat)
    case atStart => exact ⟨0, by omega, rfl, Lib.hid rfl, B2, hb2⟩
    case round =>
      clear hb2 B2 b1 b2 b3
      obtain ⟨i, hi, rfl, HA, B2, hb2⟩ := hrel
      obtain ⟨wq, h⟩ := Below.nm hb2
      subst h
      by_cases hlt : i < ns.length
      · obtain ⟨g, off, rfl, c1⟩ := (HU.out.keep hb2).at i hlt
        have hx6 := HP.out i hlt
        have hA := HA.out
        rw [chkA_drop l ns i hlt] at hA
        generalize hx : ns.getD i [] = x at *
        have HX := Lib.hid hx
        have hS1 : SS (wq.alloc (.cells #[.string ⟨List.toArray (x)⟩] 9)) (.slice (some ⟨wq.heap.size, 0, none⟩) 1 1) [x] := SS.of (l := [x]) (by simp) (by unfold maxLen; omega) (by simp) (ssrc1 _ _ _)
        have hb3 := Below.allocS hb2 (.cells #[.string ⟨List.toArray (x)⟩] 9)
        have B3 := B2.alloc (.cells #[.string ⟨List.toArray (x)⟩] 9)
        clear hx HA
        have HAA := Lib.hid hA
        clear hA
        go_wp2_with fail
        refine (mof_any _ _ l [x] (by simp) (fun j hj => by
          have : j = 0 := (by simpa using hj)
          subst this
          unfold maxLen; simp; omega) _ (HV.out.keep hb3) hS1).mono ?_
        rintro e w4 ⟨rfl, hb⟩
        have hb4 := hb3.trans (hb.mono hb3.size)
        have B4 := B3.keep hb
        by_cases ho : ofM l [x] = 0
        · have HZ : Hid (5 = r) := Lib.hid (by rw [← HR2.out, goodIn, HAA.out]; simp [ho])
          rw [ho]
          clear HAA HR2 ho
          go_wp2_with fail
          all_goals (go_ret; exact ⟨by rw [← HZ.out]; rfl, hb4⟩)
        · have HB : Hid (chkA l ns = chkA l (ns.drop (i + 1))) := Lib.hid (by rw [HAA.out]; simp [ho])
          have ho2 : (ofM l [x] == 0) = false := by simpa using ho
          clear HAA
          generalize ofM l [x] = z at *
          go_wp2_with fail
          exact ⟨⟨i + 1, by omega, by go_num, HB, B4, hb4⟩, by simp [intOf]; omega⟩
      · obtain rfl : i = ns.length := by omega
        have hA : chkA l ns = true := by rw [HA.out]; simp [chkA]
        have HR3 : Hid ((if chkB L (tagP tag.toNat d) ns = false then 70 else if ofM l ns < quoM l then 71 else 0) = r) := Lib.hid (by rw [← HR2.out, goodIn, hA]; simp)
        clear HR2 HA hA
        obtain ⟨b1, b2, b3⟩ := id B2
        go_wp2_with fail
        refine (cmark_any tag d (by have := HD.out; omega) _ (hk.keep hb2)).mono ?_
        rintro e w4 ⟨rfl, hb⟩
        rw [HMK.out]
        have hb4 := hb2.trans (hb.mono hb2.size)
        have B4 := B2.keep hb
        clear hb hb2 B2 b1 b2 b3
        have hml : (tagP tag.toNat d).length = 32 := tagP_len _ _
        generalize tagP tag.toNat d = m at *
        have HML := Lib.hid hml
        clear hml
        obtain ⟨b1, b2, b3⟩ := id B4
        go_wp2_with fail
        go_loopw [48] (fun s48 wr => ∃ i : Nat, i ≤ ns.length ∧ s48 = .int .i64 i ∧ Hid (chkB L m ns = chkB L m (ns.drop i)) ∧ Blk wr w.heap.size #[.string ⟨List.toArray (d)⟩, .slice a2 ns.length c2] ∧ Below w.heap.size w wr) (fun s48 _ => ns.length - (intOf s48).toNat)
        case atStart => exact ⟨0, by omega, rfl, Lib.hid rfl, B4, hb4⟩
        case round =>
          clear hb4 B4 b1 b2 b3
          obtain ⟨i, hi, rfl, HA, B2, hb2⟩ := hrel
          obtain ⟨wq, h⟩ := Below.nm hb2
          subst h
          by_cases hlt : i < ns.length
          · obtain ⟨g, off, rfl, c1⟩ := (HU.out.keep hb2).at i hlt
            have hx6 := HP.out i hlt
            have hA := HA.out
            rw [chkB_drop L m ns i hlt] at hA
            generalize hx : ns.getD i [] = x at *
            have HX := Lib.hid hx
            clear hx HA
            have HAA := Lib.hid hA
            clear hA
            go_wp2_with fail
            refine (osigned_any base p L x m (by omega) (by have := HML.out; omega) _ (HT.out.keep hb2)).mono ?_
            rintro e w4 ⟨rfl, hb⟩
            have hb4 := hb2.trans (hb.mono hb2.size)
            have B4 := B2.keep hb
            cases hq : isIn L x m
            · have HZ : Hid (70 = r) := Lib.hid (by rw [← HR3.out, HAA.out]; simp [hq])
              clear HAA HR3 hq
              go_wp2_with fail
              all_goals (go_ret; exact ⟨by rw [← HZ.out]; rfl, hb4⟩)
            · have HB : Hid (chkB L m ns = chkB L m (ns.drop (i + 1))) := Lib.hid (by rw [HAA.out]; simp [hq])
              clear HAA hq
              go_wp2_with fail
              exact ⟨⟨i + 1, by omega, by go_num, HB, B4, hb4⟩, by simp [intOf]; omega⟩
          · obtain rfl : i = ns.length := by omega
            have hA : chkB L m ns = true := by rw [HA.out]; simp [chkB]
            have HR4 : Hid ((if ofM l ns < quoM l then 71 else 0) = r) := Lib.hid (by rw [← HR3.out, hA]; simp)
            clear HR3 HA hA
            obtain ⟨b1, b2, b3⟩ := id B2
            go_wp2_with fail
            refine (mof_any _ _ l ns (by omega) (fun j hj => by have := HP.out j hj; unfold maxLen; omega) _ (HV.out.keep hb2) (HU.out.keep hb2)).mono ?_
            rintro e w4 ⟨rfl, hb⟩
            have hb4 := hb2.trans (hb.mono hb2.size)
            clear hb hb2 B2 b1 b2 b3
            go_wp2_with fail
            refine (mquorum_any _ l _ (HV.out.keep hb4)).mono ?_
            rintro e w5 ⟨rfl, hb⟩
            have hb5 := hb4.trans (hb.mono hb4.size)
            clear hb hb4
            generalize ofM l ns = x at *
            generalize quoM l = y at *
            by_cases hxy : x < y
            · have HZ : Hid (71 = r) := Lib.hid (by rw [← HR4.out, if_pos hxy])
              have hd : decide (x < y) = true := by simpa using hxy
              go_wp2_with fail
              all_goals (go_ret; exact ⟨by rw [← HZ.out]; rfl, hb5⟩)
            · have HZ : Hid (0 = r) := Lib.hid (by rw [← HR4.out, if_neg hxy])
              have hd : decide (x < y) = false := by simpa using hxy
              go_wp2_with fail
              all_goals (go_ret; exact ⟨by rw [← HZ.out]; rfl, hb5⟩)
  · have HR2 : Hid (firstC tag l fine = r) := Lib.hid (by rw [← HR.out, goodC_out (by rw [HF.out]; exact he), HF.out])
    have he1 : (firstC tag l fine != 0) = true := by simpa using he
    generalize firstC tag l fine = e0 at *
    clear HR HF
    go_wp2_with fail
    all_goals (go_ret; exact ⟨by rw [← HR2.out]; rfl, hb2⟩)
end Go.Proofs.YtmldonbmjgelnaaDoor
