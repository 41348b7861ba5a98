/- Walk of the statement CertBack. -/
import Derived.Test.YtmldonbmjgelnaaDoorCCodes
import Derived.Test.YtmldonbmjgelnaaDoorCBackP
set_option linter.unusedSimpArgs false
set_option linter.unusedVariables false
namespace Go.Proofs.YtmldonbmjgelnaaDoor
open Go.RowKit Pl

set_option maxRecDepth 100000 in
set_option maxHeartbeats 1000000 in
theorem cback_any (v : Value) (d : Bs) (l : List Bs) (s : Bs) (w : World) (hv : CV w v d l) (hk : KT w) :
    Calls Tryd.prog 9 #[v, .string ⟨List.toArray (s)⟩] w fun e w' => e = .returned (.bool true) ∧ Below w.heap.size w w' := by
  obtain ⟨u, rfl, hu⟩ := hv
  obtain ⟨a, c, rfl⟩ := hu.form
  have hb0 : Below w.heap.size w (w.alloc (.cells #[.string ⟨List.toArray (d)⟩, .slice a l.length c] 51)) := Below.allocS (Below.refl _ _) _
  have B0 : Blk (w.alloc (.cells #[.string ⟨List.toArray (d)⟩, .slice a l.length c] 51)) w.heap.size #[.string ⟨List.toArray (d)⟩, .slice a l.length c] := Blk.new _ _ _
  have HU := Lib.hid hu
  have hlu := hu.small
  clear hu
  go_enter Tryd.func9, Tryd.ntmps9
  go_wp2_with fail
  refine (works7_any _ (hk.keep hb0)).mono ?_
  rintro e w1 ⟨rfl, hb⟩
  have hb1 := hb0.trans (hb.mono hb0.size)
  have B1 := B0.keep hb
  clear hb hb0 B0
  obtain ⟨b1, b2, b3⟩ := id B1
  have hfew := few_any _ l 50 100 _ (HU.out.keep hb1)
  generalize hf : fewP l 50 100 = f at *
  have HF := Lib.hid hf
  clear hf
  go_wp2_with fail
  refine hfew.mono ?_
  rintro e w2 ⟨rfl, hb⟩
  have hb2 := hb1.trans (hb.mono hb1.size)
  have B2 := B1.keep hb
  clear hfew hb hb1 B1 b1 b2 b3
  obtain ⟨b1, b2, b3⟩ := id B2
  cases f
  · go_wp2_with fail
    all_goals (go_ret; exact ⟨rfl, hb2⟩)
  · by_cases hs : 500 < s.length
    · have hs1 : decide ((500 : Int) < (s.length : Int)) = true := by simp; omega
      go_wp2_with fail
      all_goals (go_ret; exact ⟨rfl, hb2⟩)
    · have hs1 : decide ((500 : Int) < (s.length : Int)) = false := by simp; omega
      by_cases hd : 100 < d.length
      · have hd1 : decide ((100 : Int) < (d.length : Int)) = true := by simp; omega
        go_wp2_with fail
        all_goals (go_ret; exact ⟨rfl, hb2⟩)
      · have hd1 : decide ((100 : Int) < (d.length : Int)) = false := by simp; omega
        go_wp2_with fail
        refine (cdecode_any s (by omega) _).mono ?_
        rintro e w3 ⟨x, rfl, hS3, hb⟩
        have hb3 := hb2.trans (hb.mono hb2.size)
        have B3 := B2.keep hb
        clear hb hb2 B2 b1 b2 b3
        rcases decC_two s with ⟨zd, zl, hz, hzm, hze⟩ | hz
        focus
          rw [hz] at hS3 ⊢
          simp only at hS3 ⊢
          obtain ⟨xa, xc, rfl⟩ := hS3.form
          have U3 := hS3.ss
          have hx : Below w3.heap.size w3 (w3.alloc (.cells #[.string ⟨List.toArray (zd)⟩, .slice xa zl.length xc] 51)) := Below.allocS (Below.refl _ _) _
          have hen := cencode_any (.agg #[.string ⟨List.toArray (zd)⟩, .slice xa zl.length xc]) zd zl _ ⟨_, rfl, U3.keep hx⟩
          rw [show encCR zd zl = (s, 0) from by simp [encCR, hzm, hze]] at hen
          have HE := Lib.hid hen
          have C4 : Blk (w3.alloc (.cells #[.string ⟨List.toArray (zd)⟩, .slice xa zl.length xc] 51)) w3.heap.size #[.string ⟨List.toArray (zd)⟩, .slice xa zl.length xc] := Blk.new _ _ _
          have B4 := B3.keep hx
          have hb4 := hb3.trans (hx.mono hb3.size)
          clear hen hz hzm hze hS3 U3 hx hb3 B3
          obtain ⟨d1, d2, d3⟩ := id C4
          go_wp2_with fail
          refine HE.out.mono ?_
          rintro e w5 ⟨rfl, hb⟩
          have hb5 := hb4.trans (hb.mono hb4.size)
          have B5 := B4.keep hb
          clear HE C4 d1 d2 d3 hb hb4 B4
          obtain ⟨b1, b2, b3⟩ := id B5
          go_wp2_with fail
        rotate_left
        focus
          rw [hz] at hS3 ⊢
          simp only at hS3 ⊢
          obtain ⟨xa, xc, rfl⟩ := hS3.form
          have hx : Below w3.heap.size w3 (w3.alloc (.cells #[.string ⟨List.toArray ([])⟩, .slice xa 0 xc] 51)) := Below.allocS (Below.refl _ _) _
          have C4 : Blk (w3.alloc (.cells #[.string ⟨List.toArray ([])⟩, .slice xa 0 xc] 51)) w3.heap.size #[.string ⟨List.toArray ([])⟩, .slice xa 0 xc] := Blk.new _ _ _
          have B5 := B3.keep hx
          have hb5 := hb3.trans (hx.mono hb3.size)
          clear hz hS3 hx hb3 B3
          obtain ⟨d1, d2, d3⟩ := id C4
          obtain ⟨b1, b2, b3⟩ := id B5
          go_wp2_with fail
        all_goals
          refine (cencode_any _ d l _ ⟨_, rfl, HU.out.keep hb5⟩).mono ?_
          rintro e w6 ⟨rfl, hb⟩
          have hb6 := hb5.trans (hb.mono hb5.size)
          have B6 := B5.keep hb
          clear hb hb5 B5 b1 b2 b3
          obtain ⟨b1, b2, b3⟩ := id B6
          cases hc : mayC d l
          · rw [show encCR d l = ([], 3) from by simp [encCR, hc]]
            clear hc
            go_wp2_with fail
            all_goals (go_ret; exact ⟨rfl, hb6⟩)
          · rw [show encCR d l = (encC d l, 0) from by simp [encCR, hc]]
            have hde := decC_enc d l hc
            obtain ⟨p1, p2, _, p3⟩ := mayC_parts hc
            have hlen : (encC d l).length ≤ 500 := by have := encS_len l p2 p3; simp only [encC, List.length_append]; omega
            generalize encC d l = t at *
            clear hc p1 p2 p3
            go_wp2_with fail
            refine (cdecode_any t (by omega) _).mono ?_
            rintro e w7 ⟨y, rfl, hS7, hb⟩
            rw [hde] at hS7 ⊢
            simp only at hS7 ⊢
            have hb7 := hb6.trans (hb.mono hb6.size)
            have B7 := B6.keep hb
            clear hb hb6 B6 b1 b2 b3 hde
            obtain ⟨ya, yc, rfl⟩ := hS7.form
            have hx : Below w7.heap.size w7 (w7.alloc (.cells #[.string ⟨List.toArray (d)⟩, .slice ya l.length yc] 51)) := Below.allocS (Below.refl _ _) _
            have Y8 := hS7.ss.keep hx
            have C8 : Blk (w7.alloc (.cells #[.string ⟨List.toArray (d)⟩, .slice ya l.length yc] 51)) w7.heap.size #[.string ⟨List.toArray (d)⟩, .slice ya l.length yc] := Blk.new _ _ _
            have B8 := B7.keep hx
            have hb8 := hb7.trans (hx.mono hb7.size)
            have hsame := samecert_any _ _ d d l l _ ⟨_, rfl, Y8⟩ ⟨_, rfl, HU.out.keep hb8⟩
            rw [show (d == d && sameL l l) = true from by simp [sameL]] at hsame
            obtain ⟨b1, b2, b3⟩ := id B8
            obtain ⟨d1, d2, d3⟩ := id C8
            clear hS7 hb7 B7 hx Y8
            go_wp2_with fail
            refine hsame.mono ?_
            rintro e w9 ⟨rfl, hb⟩
            go_wp2_with fail
            all_goals (go_ret; exact ⟨rfl, hb8.trans (hb.mono hb8.size)⟩)
end Go.Proofs.YtmldonbmjgelnaaDoor
