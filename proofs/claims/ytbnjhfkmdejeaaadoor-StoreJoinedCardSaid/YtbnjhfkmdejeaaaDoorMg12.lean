/- CheckC, Gather, Shelf. -/
import Derived.Test.YtbnjhfkmdejeaaaDoorProg
import Derived.Shelf.Slices.In.SortNone
import Derived.Shelf.Slices.In.CompactS
import Derived.Test.YtbnjhfkmdejeaaaDoorMg6
import Derived.Test.YtbnjhfkmdejeaaaDoorMg8
import Derived.Test.YtbnjhfkmdejeaaaDoorMg11
set_option linter.unnecessarySimpa false

/- Whether a certificate is good: the program's. -/
set_option linter.unusedSimpArgs false
set_option linter.unusedVariables false
namespace Go.Proofs.YtbnjhfkmdejeaaaDoor
open Go.RowKit Pl

namespace Pl
def tagC (tag : Int) : Bool := decide (tag = 5) || decide (tag = 6)
def markP (tag : Int) (s : Bs) : Bs × Int := if tagC tag = false then ([], 1) else if s.length ≠ 32 then ([], 3) else (tagP tag.toNat s, 0)
def firstC (tag : Int) (l : List (Bs × Int)) (fine : Bool) : Int := if tagC tag = false then 1 else if chkM l = false then 50 else if fine then 0 else 3
def chkA (l : List (Bs × Int)) (ns : List Bs) : Bool := ns.all fun n => decide (ofM l [n] ≠ 0)
def chkB (L : List Sg) (m : Bs) (ns : List Bs) : Bool := ns.all fun n => isIn L n m
def goodIn (l : List (Bs × Int)) (m : Bs) (ns : List Bs) (L : List Sg) : Int :=
  if chkA l ns = false then 5 else if chkB L m ns = false then 70 else if ofM l ns < quoM l then 71 else 0
def goodC (tag : Int) (l : List (Bs × Int)) (d : Bs) (ns : List Bs) (L : List Sg) : Int :=
  if firstC tag l (mayC d ns) ≠ 0 then firstC tag l (mayC d ns) else goodIn l (tagP tag.toNat d) ns L
theorem goodC_in {tag : Int} {l : List (Bs × Int)} {d : Bs} {ns : List Bs} {L : List Sg} (h : firstC tag l (mayC d ns) = 0) : goodC tag l d ns L = goodIn l (tagP tag.toNat d) ns L := by
  unfold goodC
  rw [if_neg (by simpa using h)]
theorem goodC_out {tag : Int} {l : List (Bs × Int)} {d : Bs} {ns : List Bs} {L : List Sg} (h : firstC tag l (mayC d ns) ≠ 0) : goodC tag l d ns L = firstC tag l (mayC d ns) := by
  unfold goodC
  rw [if_pos h]
end Pl

set_option maxRecDepth 100000 in
set_option maxHeartbeats 400000 in
theorem cmark_any (tag : Int) (s : Bs) (hs : s.length ≤ 1000000) (w : World) (hk : KT w) :
    Calls Tryd.prog 14 #[.int .i64 (tag), .string ⟨List.toArray (s)⟩] w fun e w' => e = .returned (.tuple #[.string ⟨List.toArray ((markP tag s).1)⟩, .int .i64 ((markP tag s).2)]) ∧ Below w.heap.size w w' := by
  cases ht : tagC tag
  · have h5 : (tag != 5) = true := by simp [tagC] at ht; simpa using ht.1
    have h6 : (tag != 6) = true := by simp [tagC] at ht; simpa using ht.2
    rw [show markP tag s = ([], 1) from by simp [markP, ht]]
    clear ht
    go_enter Tryd.func14, Tryd.ntmps14
    go_wp2_with fail
    all_goals (go_ret2; exact ⟨rfl, Below.refl _ _⟩)
  · by_cases hl : s.length = 32
    · rw [show markP tag s = (tagP tag.toNat s, 0) from by simp [markP, ht, hl]]
      have hl1 : ((s.length : Int) != 32) = false := by simp; omega
      obtain ⟨t, rfl, ht1⟩ : ∃ t : Nat, tag = t ∧ (t = 5 ∨ t = 6) := by
        simp [tagC] at ht
        rcases ht with rfl | rfl
        · exact ⟨5, rfl, .inl rfl⟩
        · exact ⟨6, rfl, .inr rfl⟩
      rw [Int.toNat_natCast]
      have HL := Lib.hid hl
      have hd := digsum_ok t (by omega) (by omega) s (by omega) w hk
      clear ht hl
      rcases ht1 with rfl | rfl
      all_goals
        go_enter Tryd.func14, Tryd.ntmps14
        go_wp2_with fail
        refine hd.mono ?_
        rintro e w1 ⟨rfl, hb⟩
        go_wp2_with fail
        all_goals (go_ret2; exact ⟨rfl, hb⟩)
    · rw [show markP tag s = ([], 3) from by simp [markP, ht, hl]]
      have hl1 : ((s.length : Int) != 32) = true := by simp; omega
      simp [tagC] at ht
      rcases ht with rfl | rfl
      all_goals
        go_enter Tryd.func14, Tryd.ntmps14
        go_wp2_with fail
        all_goals (go_ret2; exact ⟨rfl, Below.refl _ _⟩)

set_option maxRecDepth 100000 in
set_option maxHeartbeats 400000 in
theorem cfirst_any (tag : Int) (v : Value) (l : List (Bs × Int)) (fine : Bool) (w : World) (hv : MS w v l) :
    Calls Tryd.prog 45 #[.int .i64 (tag), v, .bool fine] w fun e w' => e = .returned (.int .i64 (firstC tag l fine)) ∧ Below w.heap.size w w' := by
  generalize hr : firstC tag l fine = r
  have HR := Lib.hid hr
  clear hr
  obtain ⟨a, c, rfl⟩ := hv.form
  have hchk := mcheck_any _ l w hv
  clear hv
  cases ht : tagC tag
  · have h5 : (tag != 5) = true := by simp [tagC] at ht; simpa using ht.1
    have h6 : (tag != 6) = true := by simp [tagC] at ht; simpa using ht.2
    have HZ : Hid (1 = r) := Lib.hid (by rw [← HR.out]; simp [firstC, ht])
    clear ht HR
    go_enter Tryd.func45, Tryd.ntmps45
    go_wp2_with fail
    all_goals (go_ret; exact ⟨by rw [← HZ.out]; rfl, Below.refl _ _⟩)
  · cases hc : chkM l
    · have HZ : Hid (50 = r) := Lib.hid (by rw [← HR.out]; simp [firstC, ht, hc])
      rw [hc] at hchk
      have HC := Lib.hid hchk
      clear hchk HR hc
      simp [tagC] at ht
      rcases ht with rfl | rfl
      all_goals
        go_enter Tryd.func45, Tryd.ntmps45
        go_wp2_with fail
        refine HC.out.mono ?_
        rintro e w1 ⟨rfl, hb⟩
        unfold setI
        go_wp2_with fail
        all_goals (go_ret; exact ⟨by rw [← HZ.out]; rfl, hb⟩)
    · have HZ : Hid ((if fine then 0 else 3) = r) := Lib.hid (by rw [← HR.out]; simp [firstC, ht, hc])
      rw [hc] at hchk
      have HC := Lib.hid hchk
      clear hchk HR hc
      simp [tagC] at ht
      cases fine
      all_goals
        rcases ht with rfl | rfl
        all_goals
          go_enter Tryd.func45, Tryd.ntmps45
          go_wp2_with fail
          refine HC.out.mono ?_
          rintro e w1 ⟨rfl, hb⟩
          unfold setI
          go_wp2_with fail
          all_goals (go_ret; exact ⟨by rw [← HZ.out]; rfl, hb⟩)

theorem chkA_drop (l : List (Bs × Int)) (ns : List Bs) (i : Nat) (hi : i < ns.length) : chkA l (ns.drop i) = (decide (ofM l [ns.getD i []] ≠ 0) && chkA l (ns.drop (i + 1))) := by
  rw [dropS ns i hi]
  rfl
theorem chkB_drop (L : List Sg) (m : Bs) (ns : List Bs) (i : Nat) (hi : i < ns.length) : chkB L m (ns.drop i) = (isIn L (ns.getD i []) m && chkB L m (ns.drop (i + 1))) := by
  rw [dropS ns i hi]
  rfl

set_option maxRecDepth 100000 in
set_option maxHeartbeats 1000000 in
theorem ccheck_any (tag : Int) (v cv : Value) (l : List (Bs × Int)) (d : Bs) (ns : List Bs) (base p : Nat) (L : List Sg) (w : World) (hv : MS w v l) (hc : CV w cv d ns) (hT : Tab w base p L) (hk : KT w) :
    Calls Tryd.prog 16 #[.int .i64 (tag), v, cv, .pointer (some ⟨p, 0, none⟩)] w fun e w' => e = .returned (.int .i64 (goodC tag l d ns L)) ∧ Below w.heap.size w w' := by
  generalize hr : goodC tag l d ns L = r
  have HR := Lib.hid hr
  clear hr
  obtain ⟨a, c, rfl⟩ := hv.form
  obtain ⟨u, rfl, hu⟩ := hc
  obtain ⟨a2, c2, rfl⟩ := hu.form
  have hb0 : Below w.heap.size w (w.alloc (.cells #[.string ⟨List.toArray (d)⟩, .slice a2 ns.length c2] 28)) := Below.allocS (Below.refl _ _) _
  have B0 : Blk (w.alloc (.cells #[.string ⟨List.toArray (d)⟩, .slice a2 ns.length c2] 28)) w.heap.size #[.string ⟨List.toArray (d)⟩, .slice a2 ns.length c2] := Blk.new _ _ _
  have HV := Lib.hid hv
  have HU := Lib.hid hu
  have HT := Lib.hid hT
  have U0 := hu.keep hb0
  have hmay := cmay_any _ d ns _ ⟨_, rfl, U0⟩
  have hlm := hv.small
  have hln := hu.small
  clear hv hu hT
  generalize hfin : mayC d ns = fine at *
  have HF := Lib.hid hfin
  clear hfin
  go_enter Tryd.func16, Tryd.ntmps16
  go_wp2_with fail
  refine hmay.mono ?_
  rintro e w1 ⟨rfl, hb⟩
  have hb1 := hb0.trans (hb.mono hb0.size)
  have B1 := B0.keep hb
  clear hmay hb hb0 B0 U0
  go_wp2_with fail
  refine (cfirst_any tag _ l fine _ (HV.out.keep hb1)).mono ?_
  rintro e w2 ⟨rfl, hb⟩
  have hb2 := hb1.trans (hb.mono hb1.size)
  have B2 := B1.keep hb
  clear hb hb1 B1
  by_cases he : firstC tag l fine = 0
  · have HR2 : Hid (goodIn l (tagP tag.toNat d) ns L = r) := Lib.hid (by rw [← HR.out, goodC_in (by rw [HF.out]; exact he)])
    have hfine : fine = true ∧ tagC tag = true ∧ chkM l = true := by
      unfold firstC at he
      cases hq : tagC tag
      · simp [hq] at he
      · cases hq2 : chkM l
        · simp [hq, hq2] at he
        · cases fine
          · simp [hq, hq2] at he
          · exact ⟨rfl, rfl, rfl⟩
    obtain ⟨rfl, htg, hcm⟩ := hfine
    obtain ⟨p1, p2, _, p3⟩ := mayC_parts HF.out
    have HD := Lib.hid p1
    have HP := Lib.hid p3
    have hmk : markP tag d = (tagP tag.toNat d, 0) := by simp [markP, htg, p1]
    have HMK := Lib.hid hmk
    rw [he]
    clear he HR p1 p3 hmk htg
    obtain ⟨b1, b2, b3⟩ := id B2
    go_wp2_with fail
    go_loopw [28] (fun s28 wr => ∃ i : Nat, i ≤ ns.length ∧ s28 = .int .i64 i ∧ Hid (chkA l ns = chkA l (ns.drop i)) ∧ Blk wr w.heap.size #[.string ⟨List.toArray (d)⟩, .slice a2 ns.length c2] ∧ Below w.heap.size w wr) (fun s28 _ => ns.length - (intOf s28).toNat)
    case atStart => exact ⟨0, by omega, rfl, Lib.hid rfl, B2, hb2⟩
    case round =>
      clear hb2 B2 b1 b2 b3
      obtain ⟨i, hi, rfl, HA, B2, hb2⟩ := hrel
      obtain ⟨wq, h⟩ := Below.nm hb2
      subst h
      by_cases hlt : i < ns.length
      · obtain ⟨g, off, rfl, c1⟩ := (HU.out.keep hb2).at i hlt
        have hx6 := HP.out i hlt
        have hA := HA.out
        rw [chkA_drop l ns i hlt] at hA
        generalize hx : ns.getD i [] = x at *
        have HX := Lib.hid hx
        have hS1 : SS (wq.alloc (.cells #[.string ⟨List.toArray (x)⟩] 9)) (.slice (some ⟨wq.heap.size, 0, none⟩) 1 1) [x] := SS.of (l := [x]) (by simp) (by unfold maxLen; omega) (by simp) (ssrc1 _ _ _)
        have hb3 := Below.allocS hb2 (.cells #[.string ⟨List.toArray (x)⟩] 9)
        have B3 := B2.alloc (.cells #[.string ⟨List.toArray (x)⟩] 9)
        clear hx HA
        have HAA := Lib.hid hA
        clear hA
        go_wp2_with fail
        refine (mof_any _ _ l [x] (by simp) (fun j hj => by
          have : j = 0 := (by simpa using hj)
          subst this
          unfold maxLen; simp; omega) _ (HV.out.keep hb3) hS1).mono ?_
        rintro e w4 ⟨rfl, hb⟩
        have hb4 := hb3.trans (hb.mono hb3.size)
        have B4 := B3.keep hb
        by_cases ho : ofM l [x] = 0
        · have HZ : Hid (5 = r) := Lib.hid (by rw [← HR2.out, goodIn, HAA.out]; simp [ho])
          rw [ho]
          clear HAA HR2 ho
          go_wp2_with fail
          all_goals (go_ret; exact ⟨by rw [← HZ.out]; rfl, hb4⟩)
        · have HB : Hid (chkA l ns = chkA l (ns.drop (i + 1))) := Lib.hid (by rw [HAA.out]; simp [ho])
          have ho2 : (ofM l [x] == 0) = false := by simpa using ho
          clear HAA
          generalize ofM l [x] = z at *
          go_wp2_with fail
          exact ⟨⟨i + 1, by omega, by go_num, HB, B4, hb4⟩, by simp [intOf]; omega⟩
      · obtain rfl : i = ns.length := by omega
        have hA : chkA l ns = true := by rw [HA.out]; simp [chkA]
        have HR3 : Hid ((if chkB L (tagP tag.toNat d) ns = false then 70 else if ofM l ns < quoM l then 71 else 0) = r) := Lib.hid (by rw [← HR2.out, goodIn, hA]; simp)
        clear HR2 HA hA
        obtain ⟨b1, b2, b3⟩ := id B2
        go_wp2_with fail
        refine (cmark_any tag d (by have := HD.out; omega) _ (hk.keep hb2)).mono ?_
        rintro e w4 ⟨rfl, hb⟩
        rw [HMK.out]
        have hb4 := hb2.trans (hb.mono hb2.size)
        have B4 := B2.keep hb
        clear hb hb2 B2 b1 b2 b3
        have hml : (tagP tag.toNat d).length = 32 := tagP_len _ _
        generalize tagP tag.toNat d = m at *
        have HML := Lib.hid hml
        clear hml
        obtain ⟨b1, b2, b3⟩ := id B4
        go_wp2_with fail
        go_loopw [48] (fun s48 wr => ∃ i : Nat, i ≤ ns.length ∧ s48 = .int .i64 i ∧ Hid (chkB L m ns = chkB L m (ns.drop i)) ∧ Blk wr w.heap.size #[.string ⟨List.toArray (d)⟩, .slice a2 ns.length c2] ∧ Below w.heap.size w wr) (fun s48 _ => ns.length - (intOf s48).toNat)
        case atStart => exact ⟨0, by omega, rfl, Lib.hid rfl, B4, hb4⟩
        case round =>
          clear hb4 B4 b1 b2 b3
          obtain ⟨i, hi, rfl, HA, B2, hb2⟩ := hrel
          obtain ⟨wq, h⟩ := Below.nm hb2
          subst h
          by_cases hlt : i < ns.length
          · obtain ⟨g, off, rfl, c1⟩ := (HU.out.keep hb2).at i hlt
            have hx6 := HP.out i hlt
            have hA := HA.out
            rw [chkB_drop L m ns i hlt] at hA
            generalize hx : ns.getD i [] = x at *
            have HX := Lib.hid hx
            clear hx HA
            have HAA := Lib.hid hA
            clear hA
            go_wp2_with fail
            refine (osigned_any base p L x m (by omega) (by have := HML.out; omega) _ (HT.out.keep hb2)).mono ?_
            rintro e w4 ⟨rfl, hb⟩
            have hb4 := hb2.trans (hb.mono hb2.size)
            have B4 := B2.keep hb
            cases hq : isIn L x m
            · have HZ : Hid (70 = r) := Lib.hid (by rw [← HR3.out, HAA.out]; simp [hq])
              clear HAA HR3 hq
              go_wp2_with fail
              all_goals (go_ret; exact ⟨by rw [← HZ.out]; rfl, hb4⟩)
            · have HB : Hid (chkB L m ns = chkB L m (ns.drop (i + 1))) := Lib.hid (by rw [HAA.out]; simp [hq])
              clear HAA hq
              go_wp2_with fail
              exact ⟨⟨i + 1, by omega, by go_num, HB, B4, hb4⟩, by simp [intOf]; omega⟩
          · obtain rfl : i = ns.length := by omega
            have hA : chkB L m ns = true := by rw [HA.out]; simp [chkB]
            have HR4 : Hid ((if ofM l ns < quoM l then 71 else 0) = r) := Lib.hid (by rw [← HR3.out, hA]; simp)
            clear HR3 HA hA
            obtain ⟨b1, b2, b3⟩ := id B2
            go_wp2_with fail
            refine (mof_any _ _ l ns (by omega) (fun j hj => by have := HP.out j hj; unfold maxLen; omega) _ (HV.out.keep hb2) (HU.out.keep hb2)).mono ?_
            rintro e w4 ⟨rfl, hb⟩
            have hb4 := hb2.trans (hb.mono hb2.size)
            clear hb hb2 B2 b1 b2 b3
            go_wp2_with fail
            refine (mquorum_any _ l _ (HV.out.keep hb4)).mono ?_
            rintro e w5 ⟨rfl, hb⟩
            have hb5 := hb4.trans (hb.mono hb4.size)
            clear hb hb4
            generalize ofM l ns = x at *
            generalize quoM l = y at *
            by_cases hxy : x < y
            · have HZ : Hid (71 = r) := Lib.hid (by rw [← HR4.out, if_pos hxy])
              have hd : decide (x < y) = true := by simpa using hxy
              go_wp2_with fail
              all_goals (go_ret; exact ⟨by rw [← HZ.out]; rfl, hb5⟩)
            · have HZ : Hid (0 = r) := Lib.hid (by rw [← HR4.out, if_neg hxy])
              have hd : decide (x < y) = false := by simpa using hxy
              go_wp2_with fail
              all_goals (go_ret; exact ⟨by rw [← HZ.out]; rfl, hb5⟩)
  · have HR2 : Hid (firstC tag l fine = r) := Lib.hid (by rw [← HR.out, goodC_out (by rw [HF.out]; exact he), HF.out])
    have he1 : (firstC tag l fine != 0) = true := by simpa using he
    generalize firstC tag l fine = e0 at *
    clear HR HF
    go_wp2_with fail
    all_goals (go_ret; exact ⟨by rw [← HR2.out]; rfl, hb2⟩)
end Go.Proofs.YtbnjhfkmdejeaaaDoor

/- The certificate of all who signed: the program's. -/
set_option linter.unusedSimpArgs false
set_option linter.unusedVariables false
namespace Go.Proofs.YtbnjhfkmdejeaaaDoor
open Go.RowKit Pl

namespace Pl
def selN (L : List Sg) (m : Bs) (l : List (Bs × Int)) : List Bs := (l.filter fun x => isIn L x.1 m).map (·.1)
theorem selN_take (L : List Sg) (m : Bs) (l : List (Bs × Int)) (i : Nat) (hi : i < l.length) : selN L m (l.take (i + 1)) = selN L m (l.take i) ++ (if isIn L (l.getD i ([], 0)).1 m then [(l.getD i ([], 0)).1] else []) := by
  rw [take_getD l i hi]
  unfold selN
  rw [List.filter_append, List.map_append]
  congr 1
  cases h : isIn L (l.getD i ([], 0)).1 m
  · rw [List.filter_cons_of_neg (by rw [h]; simp)]; simp
  · rw [List.filter_cons_of_pos (by rw [h])]; simp
theorem selN_len (L : List Sg) (m : Bs) (l : List (Bs × Int)) : (selN L m l).length ≤ l.length := by
  unfold selN
  rw [List.length_map]
  exact List.length_filter_le _ _
theorem selN_mem (L : List Sg) (m : Bs) (l : List (Bs × Int)) : ∀ n ∈ selN L m l, ∃ x ∈ l, x.1 = n := by
  intro n hn
  unfold selN at hn
  obtain ⟨x, hx, rfl⟩ := List.mem_map.1 hn
  exact ⟨x, (List.mem_filter.1 hx).1, rfl⟩
theorem selN_short (L : List Sg) (m : Bs) (l : List (Bs × Int)) (h : ∀ i, i < l.length → (l.getD i ([], 0)).1.length ≤ 6) : ∀ j, j < (selN L m l).length → ((selN L m l).getD j []).length ≤ 6 := by
  intro j hj
  have hmem : (selN L m l).getD j [] ∈ selN L m l := by
    rw [List.getD_eq_getElem?_getD, List.getElem?_eq_getElem hj]
    exact List.getElem_mem hj
  obtain ⟨x, hx, he⟩ := selN_mem L m l _ hmem
  rw [← he]
  obtain ⟨i, hi, rfl⟩ := List.getElem_of_mem hx
  have := h i hi
  rw [List.getD_eq_getElem?_getD, List.getElem?_eq_getElem hi] at this
  exact this
def gathIn (l : List (Bs × Int)) (s m : Bs) (L : List Sg) : (Bs × List Bs) × Int :=
  if ofM l (selN L m l) < quoM l then (([], []), 71) else ((s, selN L m l), 0)
def gathC (tag : Int) (l : List (Bs × Int)) (s : Bs) (L : List Sg) : (Bs × List Bs) × Int :=
  if firstC tag l (decide (s.length = 32)) ≠ 0 then (([], []), firstC tag l (decide (s.length = 32))) else gathIn l s (tagP tag.toNat s) L
theorem gathC_in {tag : Int} {l : List (Bs × Int)} {s : Bs} {L : List Sg} (h : firstC tag l (decide (s.length = 32)) = 0) : gathC tag l s L = gathIn l s (tagP tag.toNat s) L := by
  unfold gathC
  rw [if_neg (by simpa using h)]
theorem gathC_out {tag : Int} {l : List (Bs × Int)} {s : Bs} {L : List Sg} (h : firstC tag l (decide (s.length = 32)) ≠ 0) : gathC tag l s L = (([], []), firstC tag l (decide (s.length = 32))) := by
  unfold gathC
  rw [if_pos h]
theorem first_zero {tag : Int} {l : List (Bs × Int)} {fine : Bool} (he : firstC tag l fine = 0) : fine = true ∧ tagC tag = true ∧ chkM l = true := by
  unfold firstC at he
  cases hq : tagC tag
  · simp [hq] at he
  · cases hq2 : chkM l
    · simp [hq, hq2] at he
    · cases fine
      · simp [hq, hq2] at he
      · exact ⟨rfl, rfl, rfl⟩
end Pl

set_option maxRecDepth 100000 in
set_option maxHeartbeats 1000000 in
theorem cgather_any (tag : Int) (v : Value) (l : List (Bs × Int)) (s : Bs) (base p : Nat) (L : List Sg) (hs : s.length ≤ 9223372036854775807) (w : World) (hv : MS w v l) (hT : Tab w base p L) (hk : KT w) :
    Calls Tryd.prog 18 #[.int .i64 (tag), v, .string ⟨List.toArray (s)⟩, .pointer (some ⟨p, 0, none⟩)] w fun e w' => ∃ u, e = .returned (.tuple #[.agg #[.string ⟨List.toArray ((gathC tag l s L).1.1)⟩, u], .int .i64 ((gathC tag l s L).2)]) ∧ SRow w' w.heap.size u (gathC tag l s L).1.2 ∧ Below w.heap.size w w' := by
  generalize hr : gathC tag l s L = r
  have HR := Lib.hid hr
  clear hr
  obtain ⟨a, c, rfl⟩ := hv.form
  have hb0 : Below w.heap.size w (w.alloc (.cells #[.string ⟨List.toArray ([])⟩, .slice none 0 0] 28)) := Below.allocS (Below.refl _ _) _
  have B0 : Blk (w.alloc (.cells #[.string ⟨List.toArray ([])⟩, .slice none 0 0] 28)) w.heap.size #[.string ⟨List.toArray ([])⟩, .slice none 0 0] := Blk.new _ _ _
  have HV := Lib.hid hv
  have HT := Lib.hid hT
  have hlm := hv.small
  clear hv hT
  have h32 : ((s.length : Int) == 32) = decide (s.length = 32) := by
    by_cases h : s.length = 32
    · simp [h]
    · have h2 : ¬ (s.length : Int) = 32 := by omega
      simp [h, h2]
  generalize hfin : decide (s.length = 32) = fine at *
  have HF := Lib.hid hfin
  clear hfin
  go_enter Tryd.func18, Tryd.ntmps18
  go_wp2_with fail
  refine (cfirst_any tag _ l fine _ (HV.out.keep hb0)).mono ?_
  rintro e w2 ⟨rfl, hb⟩
  have hb2 := hb0.trans (hb.mono hb0.size)
  have B2 := B0.keep hb
  clear hb hb0 B0
  by_cases he : firstC tag l fine = 0
  · have HR2 : Hid (gathIn l s (tagP tag.toNat s) L = r) := Lib.hid (by rw [← HR.out, gathC_in (by rw [HF.out]; exact he)])
    obtain ⟨rfl, htg, hcm⟩ := first_zero he
    have hsl : s.length = 32 := by have := HF.out; simpa using this
    have hmk : markP tag s = (tagP tag.toNat s, 0) := by simp [markP, htg, hsl]
    have HMK := Lib.hid hmk
    have HSL := Lib.hid hsl
    rw [he]
    clear he HR hmk hsl htg h32
    go_wp2_with fail
    refine (cmark_any tag s (by have := HSL.out; omega) _ (hk.keep hb2)).mono ?_
    rintro e w4 ⟨rfl, hb⟩
    rw [HMK.out]
    have hb4 := hb2.trans (hb.mono hb2.size)
    have B4 := B2.keep hb
    clear hb hb2 B2
    have hml : (tagP tag.toNat s).length = 32 := tagP_len _ _
    generalize tagP tag.toNat s = m at *
    have HML := Lib.hid hml
    clear hml
    simp only [chkM, Bool.and_eq_true, decide_eq_true_eq] at hcm
    have h7 := hcm.1.2
    have HO := Lib.hid (okM_at l [] hcm.2)
    clear hcm
    go_wp2_with fail
    have hq1 : w.heap.size < w4.heap.size := B4.lt
    go_loopw [36] (fun s36 wr => ∃ (i : Nat) (u : Value), i ≤ l.length ∧ s36 = .int .i64 i ∧ Blk wr w4.heap.size #[.string ⟨List.toArray (s)⟩, u] ∧ SRow wr (w4.heap.size + 1) u (selN L m (l.take i)) ∧ Below w4.heap.size w4 wr) (fun s36 _ => l.length - (intOf s36).toNat)
    case atStart => exact ⟨0, .slice none 0 0, by omega, rfl, Blk.new _ _ _, by simpa [selN] using SRow.nil _ _, Below.allocS (Below.refl _ _) _⟩
    case round =>
      obtain ⟨i, u, hi, rfl, C, hS, hbq⟩ := hrel
      obtain ⟨wq, h⟩ := Below.nm hbq
      subst h
      have hb5 := hb4.trans (hbq.mono hb4.size)
      have hqs := hbq.size
      have hql := C.lt
      by_cases hlt : i < l.length
      · obtain ⟨g, off, rfl, hg, c1, c2⟩ := (HV.out.keep hb5).at i hlt
        obtain ⟨o1, o2, o3⟩ := HO.out i hlt
        have hnx := selN_take L m l i hlt
        have hsl := selN_len L m (l.take i)
        rw [List.length_take] at hsl
        generalize hx : l.getD i ([], 0) = x at *
        obtain ⟨n, z⟩ := x
        simp only at c1 c2 hnx o1 o2 o3
        have HNX := Lib.hid hnx
        clear hx hnx
        generalize selN L m (l.take i) = ns at *
        have hb6 := Below.allocS hb5 (.cells #[.string ⟨List.toArray (n)⟩, .int .i64 (z)] 77)
        have C6 := C.alloc (.cells #[.string ⟨List.toArray (n)⟩, .int .i64 (z)] 77)
        have hS6 := hS.alloc (.cells #[.string ⟨List.toArray (n)⟩, .int .i64 (z)] 77)
        have D6 : Blk (wq.alloc (.cells #[.string ⟨List.toArray (n)⟩, .int .i64 (z)] 77)) wq.heap.size #[.string ⟨List.toArray (n)⟩, .int .i64 (z)] := Blk.new _ _ _
        have hbq6 := Below.allocS hbq (.cells #[.string ⟨List.toArray (n)⟩, .int .i64 (z)] 77)
        go_wp2_with fail
        refine (osigned_any base p L n m (by omega) (by have := HML.out; omega) _ (HT.out.keep hb6)).mono ?_
        rintro e w7 ⟨rfl, hb⟩
        have hb7 := hb6.trans (hb.mono hb6.size)
        have hbq7 := hbq6.trans (hb.mono hbq6.size)
        have C7 := C6.keep hb
        have D7 := D6.keep hb
        have hS7 := hS6.keep hb
        clear hb hb6 hbq6 C6 D6 hS6 hb5 hbq C hS
        cases hq : isIn L n m
        · have HN2 : Hid (selN L m (l.take (i + 1)) = ns) := Lib.hid (by rw [HNX.out, hq]; simp)
          clear HNX hq
          go_wp2_with fail
          exact ⟨⟨i + 1, u, by omega, by go_num, C7, by rw [HN2.out]; exact hS7, hbq7⟩, by simp [intOf]; omega⟩
        · have HN2 : Hid (selN L m (l.take (i + 1)) = ns ++ [n]) := Lib.hid (by rw [HNX.out, hq]; simp)
          clear HNX hq
          obtain ⟨b1, b2, b3⟩ := id C7
          obtain ⟨d1, d2, d3⟩ := id D7
          obtain ⟨ua, uc, rfl⟩ := hS7.form
          have hq7 := C7.lt
          go_wp2_with (first
            | (at_builtin; refine wpList_appS rfl (.tmp 46) (.tmp 49) rfl (w4.heap.size + 1) _ ns rfl (hS7.alloc _) w7.heap.size 0 1 1 [n] rfl rfl (ssrc1 _ _ _) (by simp; omega) (by simp; omega) ?_; rintro v8 w8 hS8 hb8; obtain ⟨va8, vc8, rfl⟩ := hS8.form; have C8 := (C7.alloc (.cells #[.string ⟨List.toArray (n)⟩] 9)).of_block (hb8.block w4.heap.size (Nat.lt_succ_self _)) hb8.size; clear b1 b2 b3; obtain ⟨b1, b2, b3⟩ := id C8)
            | fail)
          have hbq8 : Below w4.heap.size w4 w8 := (Below.allocS hbq7 (.cells #[.string ⟨List.toArray (n)⟩] 9)).trans (hb8.mono (Nat.le_succ _))
          refine ⟨⟨i + 1, _, by omega, by go_num, C8.set 1 _, ?_, hbq8.setCell (by simp) _⟩, by simp [intOf]; omega⟩
          rw [HN2.out]
          rw [show (ns ++ [n]).length = ns.length + 1 from by simp] at hS8
          exact hS8.mod (p := w4.heap.size) ((Mod.refl _ _).setCell (.inl (by simp)) _) (Nat.lt_succ_self _)
      · obtain rfl : i = l.length := by omega
        rw [List.take_length] at hS
        have hnl := selN_len L m l
        have hns6 : ∀ j, j < (selN L m l).length → ((selN L m l).getD j []).length ≤ maxLen := by
          intro j hj
          have := selN_short L m l (fun i hi => (HO.out i hi).1) j hj
          unfold maxLen; omega
        have HR3 : Hid ((if ofM l (selN L m l) < quoM l then (([], []), 71) else ((s, selN L m l), (0 : Int))) = r) := HR2
        clear HR2
        generalize selN L m l = ns at *
        obtain ⟨b1, b2, b3⟩ := id C
        obtain ⟨ua, uc, rfl⟩ := hS.form
        go_wp2_with fail
        refine (mof_any _ _ l ns (by omega) hns6 _ (HV.out.keep hb5) hS.ss).mono ?_
        rintro e w6 ⟨rfl, hb⟩
        have hb6 := hb5.trans (hb.mono hb5.size)
        have C6 := C.keep hb
        have hS6 := hS.keep hb
        have B6 := (B4.keep hbq).keep hb
        clear hb hb5 C hS hbq b1 b2 b3 B4
        go_wp2_with fail
        refine (mquorum_any _ l _ (HV.out.keep hb6)).mono ?_
        rintro e w7 ⟨rfl, hb⟩
        have hb7 := hb6.trans (hb.mono hb6.size)
        have C7 := C6.keep hb
        have hS7 := hS6.keep hb
        have B7 := B6.keep hb
        clear hb hb6 C6 hS6 B6
        obtain ⟨b1, b2, b3⟩ := id B7
        obtain ⟨d1, d2, d3⟩ := id C7
        generalize ofM l ns = x at *
        generalize quoM l = y at *
        by_cases hxy : x < y
        · have HZ : Hid ((([], []), (71 : Int)) = r) := Lib.hid (by rw [← HR3.out, if_pos hxy])
          have hd : decide (x < y) = true := by simpa using hxy
          clear HR3
          go_wp2_with fail
          refine bodyPost_ret (results_ct rfl _ _ _ _ rfl (rowC_load (x := .string ⟨List.toArray ([])⟩) (y := .slice none 0 0) ((B7.set 0 _).set 1 _))) rfl ?_
          refine ⟨.slice none 0 0, ?_, ?_, ?_⟩
          · rw [← HZ.out]; rfl
          · rw [← HZ.out]; exact SRow.nil _ _
          · (repeat (first | exact Below.refl _ _ | assumption | apply Below.drew | apply below_drewN | apply Below.allocS | (refine Below.setCell ?_ (by simp <;> omega) _) | (refine Below.alloc ?_ (by simp <;> omega) _) | (refine Below.trans ?_ (Below.mono (by assumption) (by simp <;> omega)))))
        · have HZ : Hid (((s, ns), (0 : Int)) = r) := Lib.hid (by rw [← HR3.out, if_neg hxy])
          have hd : decide (x < y) = false := by simpa using hxy
          clear HR3
          go_wp2_with fail
          refine bodyPost_ret (results_ct rfl _ _ _ _ rfl (rowC_load (x := .string ⟨List.toArray (s)⟩) (y := .slice ua ns.length uc) ((B7.set 0 _).set 1 _))) rfl ?_
          refine ⟨.slice ua ns.length uc, ?_, ?_, ?_⟩
          · rw [← HZ.out]; rfl
          · rw [← HZ.out]; exact (SRow.mod (p := w.heap.size) hS7 (((Mod.refl _ _).setCell (.inl (by simp)) _).setCell (.inl (by simp)) _) (by omega)).low (by omega)
          · (repeat (first | exact Below.refl _ _ | assumption | apply Below.drew | apply below_drewN | apply Below.allocS | (refine Below.setCell ?_ (by simp <;> omega) _) | (refine Below.alloc ?_ (by simp <;> omega) _) | (refine Below.trans ?_ (Below.mono (by assumption) (by simp <;> omega)))))
  · have HR2 : Hid ((([], []), firstC tag l fine) = r) := Lib.hid (by rw [← HR.out, gathC_out (by rw [HF.out]; exact he), HF.out])
    have he1 : (firstC tag l fine != 0) = true := by simpa using he
    generalize firstC tag l fine = e0 at *
    obtain ⟨b1, b2, b3⟩ := id B2
    clear HR HF
    go_wp2_with fail
    refine bodyPost_ret (results_ct rfl _ _ _ _ rfl (rowC_load (x := .string ⟨List.toArray ([])⟩) (y := .slice none 0 0) ((B2.set 0 _).set 1 _))) rfl ?_
    refine ⟨.slice none 0 0, ?_, ?_, ?_⟩
    · rw [← HR2.out]; rfl
    · rw [← HR2.out]; exact SRow.nil _ _
    · (repeat (first | exact Below.refl _ _ | assumption | apply Below.drew | apply below_drewN | apply Below.allocS | (refine Below.setCell ?_ (by simp <;> omega) _) | (refine Below.alloc ?_ (by simp <;> omega) _) | (refine Below.trans ?_ (Below.mono (by assumption) (by simp <;> omega)))))
end Go.Proofs.YtbnjhfkmdejeaaaDoor

/- The laws of the library that the sorts lean on, at this program. -/
set_option linter.unusedVariables false
namespace Go.Proofs.YtbnjhfkmdejeaaaDoor
open Go.Shelf

def laysSort_ren : Go.Shelf.Ren := ⟨fun | 190 => 56 | 125 => 79 | 258 => 78 | 128 => 104 | 129 => 105 | 302 => 95 | 303 => 96 | 304 => 97 | 305 => 98 | 306 => 99 | 307 => 100 | 308 => 101 | 309 => 102 | 310 => 103 | 333 => 124 | 329 => 125 | 330 => 126 | 334 => 127 | 335 => 128 | 336 => 88 | 344 => 141 | n => n, fun | 31 => 26 | 9 => 9 | 3 => 3 | 46 => 128 | 0 => 0 | 51 => 133 | 53 => 143 | 4 => 4 | 183 => 146 | 182 => 145 | 131 => 90 | 5 => 5 | 218 => 170 | 222 => 174 | 228 => 190 | 229 => 191 | n => n, fun | n => n⟩
theorem laysSort : Go.Proofs.Lays.n190 Tryd.prog laysSort_ren := {
  mixed := by kernel_rfl
  f125 := Tryd.func79.trans (congrArg some (by kernel_rfl))
  f128 := Tryd.func104.trans (congrArg some (by kernel_rfl))
  f129 := Tryd.func105.trans (congrArg some (by kernel_rfl))
  f190 := Tryd.func56.trans (congrArg some (by kernel_rfl))
  f258 := Tryd.func78.trans (congrArg some (by kernel_rfl))
  f302 := Tryd.func95.trans (congrArg some (by kernel_rfl))
  f303 := Tryd.func96.trans (congrArg some (by kernel_rfl))
  f304 := Tryd.func97.trans (congrArg some (by kernel_rfl))
  f305 := Tryd.func98.trans (congrArg some (by kernel_rfl))
  f306 := Tryd.func99.trans (congrArg some (by kernel_rfl))
  f307 := Tryd.func100.trans (congrArg some (by kernel_rfl))
  f308 := Tryd.func101.trans (congrArg some (by kernel_rfl))
  f309 := Tryd.func102.trans (congrArg some (by kernel_rfl))
  f310 := Tryd.func103.trans (congrArg some (by kernel_rfl))
  f329 := Tryd.func125.trans (congrArg some (by kernel_rfl))
  f330 := Tryd.func126.trans (congrArg some (by kernel_rfl))
  f333 := Tryd.func124.trans (congrArg some (by kernel_rfl))
  f334 := Tryd.func127.trans (congrArg some (by kernel_rfl))
  f335 := Tryd.func128.trans (congrArg some (by kernel_rfl))
  f336 := Tryd.func88.trans (congrArg some (by kernel_rfl))
  f344 := Tryd.func141.trans (congrArg some (by kernel_rfl))
  t0 := Tryd.underlying0
  a0 := Tryd.isAgg0
  z0 := Tryd.sizeOf0
  v0 := Tryd.zeroValue0
  t3 := Tryd.underlying3
  a3 := Tryd.isAgg3
  z3 := Tryd.sizeOf3
  v3 := Tryd.zeroValue3
  t4 := Tryd.underlying4
  a4 := Tryd.isAgg4
  z4 := Tryd.sizeOf4
  v4 := Tryd.zeroValue4
  t5 := Tryd.underlying5
  a5 := Tryd.isAgg5
  z5 := Tryd.sizeOf5
  v5 := Tryd.zeroValue5
  t9 := Tryd.underlying9
  a9 := Tryd.isAgg9
  z9 := Tryd.sizeOf9
  v9 := Tryd.zeroValue9
  t31 := Tryd.underlying26
  a31 := Tryd.isAgg26
  z31 := Tryd.sizeOf26
  v31 := Tryd.zeroValue26
  t46 := Tryd.underlying128
  a46 := Tryd.isAgg128
  z46 := Tryd.sizeOf128
  v46 := Tryd.zeroValue128
  t51 := Tryd.underlying133
  a51 := Tryd.isAgg133
  z51 := Tryd.sizeOf133
  v51 := Tryd.zeroValue133
  t53 := Tryd.underlying143
  a53 := Tryd.isAgg143
  z53 := Tryd.sizeOf143
  v53 := Tryd.zeroValue143
  t131 := Tryd.underlying90
  a131 := Tryd.isAgg90
  z131 := Tryd.sizeOf90
  v131 := Tryd.zeroValue90
  t182 := Tryd.underlying145
  a182 := Tryd.isAgg145
  z182 := Tryd.sizeOf145
  v182 := Tryd.zeroValue145
  t183 := Tryd.underlying146
  a183 := Tryd.isAgg146
  z183 := Tryd.sizeOf146
  v183 := Tryd.zeroValue146
  t218 := Tryd.underlying170
  a218 := Tryd.isAgg170
  z218 := Tryd.sizeOf170
  v218 := Tryd.zeroValue170
  t222 := Tryd.underlying174
  a222 := Tryd.isAgg174
  z222 := Tryd.sizeOf174
  v222 := Tryd.zeroValue174
  t228 := Tryd.underlying190
  a228 := Tryd.isAgg190
  z228 := Tryd.sizeOf190
  v228 := Tryd.zeroValue190
  t229 := Tryd.underlying191
  a229 := Tryd.isAgg191
  z229 := Tryd.sizeOf191
  v229 := Tryd.zeroValue191 }
def laysCompact_ren : Go.Shelf.Ren := ⟨fun | 194 => 57 | n => n, fun | 31 => 26 | 9 => 9 | 3 => 3 | 4 => 4 | 0 => 0 | n => n, fun | n => n⟩
theorem laysCompact : Go.Proofs.Lays.n194 Tryd.prog laysCompact_ren := {
  mixed := by kernel_rfl
  f194 := Tryd.func57.trans (congrArg some (by kernel_rfl))
  t0 := Tryd.underlying0
  a0 := Tryd.isAgg0
  z0 := Tryd.sizeOf0
  v0 := Tryd.zeroValue0
  t3 := Tryd.underlying3
  a3 := Tryd.isAgg3
  z3 := Tryd.sizeOf3
  v3 := Tryd.zeroValue3
  t4 := Tryd.underlying4
  a4 := Tryd.isAgg4
  z4 := Tryd.sizeOf4
  v4 := Tryd.zeroValue4
  t9 := Tryd.underlying9
  a9 := Tryd.isAgg9
  z9 := Tryd.sizeOf9
  v9 := Tryd.zeroValue9
  t31 := Tryd.underlying26
  a31 := Tryd.isAgg26
  z31 := Tryd.sizeOf26
  v31 := Tryd.zeroValue26 }

end Go.Proofs.YtbnjhfkmdejeaaaDoor
