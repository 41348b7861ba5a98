/- Walk of the statement CertCodes. -/
import Derived.Test.YtmldonbmjgelnaaDoorWorks7
set_option linter.unusedSimpArgs false
set_option linter.unusedVariables false
namespace Go.Proofs.YtmldonbmjgelnaaDoor
open Go.RowKit Pl

namespace Pl
def fewA (each : Int) (l : List Bs) : Bool := l.all fun x => decide ((x.length : Int) ≤ each)
def fewP (l : List Bs) (n each : Int) : Bool := decide ((l.length : Int) ≤ n) && fewA each l
theorem fewA_drop (each : Int) (l : List Bs) (i : Nat) (hi : i < l.length) : fewA each (l.drop i) = (decide (((l.getD i []).length : Int) ≤ each) && fewA each (l.drop (i + 1))) := by
  rw [dropS l i hi]
  rfl
theorem fewP_parts {l : List Bs} {n each : Int} (h : fewP l n each = true) : (l.length : Int) ≤ n ∧ ∀ i, i < l.length → ((l.getD i []).length : Int) ≤ each := by
  simp only [fewP, Bool.and_eq_true, decide_eq_true_eq] at h
  refine ⟨h.1, fun i hi => ?_⟩
  have := List.all_eq_true.1 h.2 (l.getD i []) (by rw [List.getD_eq_getElem?_getD, List.getElem?_eq_getElem hi]; exact List.getElem_mem hi)
  simpa using this
end Pl

set_option maxRecDepth 100000 in
set_option maxHeartbeats 400000 in
theorem few_any (v : Value) (l : List Bs) (n each : Int) (w : World) (hv : SS w v l) :
    Calls Tryd.prog 38 #[v, .int .i64 (n), .int .i64 (each)] w fun e w' => e = .returned (.bool (fewP l n each)) ∧ Below w.heap.size w w' := by
  generalize hr : fewP l n each = r
  have HR := Lib.hid hr
  clear hr
  obtain ⟨a, c, rfl⟩ := hv.form
  have HV := Lib.hid hv
  have hm := hv.small
  clear hv
  by_cases hn : n < (l.length : Int)
  · have hd : decide (n < (l.length : Int)) = true := by simpa using hn
    have HZ : Hid (false = r) := Lib.hid (by rw [← HR.out]; have : ¬ (l.length : Int) ≤ n := (by omega); simp [fewP, this])
    go_enter Tryd.func38, Tryd.ntmps38
    go_wp2_with fail
    all_goals (go_ret; exact ⟨by rw [← HZ.out]; rfl, Below.refl _ _⟩)
  · have hd : decide (n < (l.length : Int)) = false := by simpa using hn
    have HZ : Hid (fewA each l = r) := Lib.hid (by rw [← HR.out]; have : (l.length : Int) ≤ n := (by omega); simp [fewP, this])
    clear HR
    go_enter Tryd.func38, Tryd.ntmps38
    go_wp2_with fail
    go_loopw [7] (fun s7 wr => ∃ i : Nat, i ≤ l.length ∧ s7 = .int .i64 i ∧ Hid (fewA each (l.drop i) = r) ∧ Below w.heap.size w wr) (fun s7 _ => l.length - (intOf s7).toNat)
    case atStart => exact ⟨0, by omega, rfl, Lib.hid HZ.out, Below.refl _ _⟩
    case round =>
      obtain ⟨i, hi, rfl, HI, hb⟩ := hrel
      obtain ⟨wq, h⟩ := Below.nm hb
      subst h
      by_cases hlt : i < l.length
      · have hlt' : (i : Int) < (l.length : Int) := by omega
        obtain ⟨g, off, rfl, c1⟩ := (HV.out.keep hb).at i hlt
        have hi2 := HI.out
        rw [fewA_drop each l i hlt] at hi2
        generalize hx : l.getD i [] = x at *
        have HX := Lib.hid hx
        clear hx
        by_cases hle : each < (x.length : Int)
        · have hd2 : decide (each < (x.length : Int)) = true := by simpa using hle
          have HQ : Hid (false = r) := Lib.hid (by rw [← hi2]; have : ¬ (x.length : Int) ≤ each := (by omega); simp [this])
          clear HI hi2 HZ
          go_wp2_with fail
          all_goals (go_ret; exact ⟨by rw [← HQ.out]; rfl, hb⟩)
        · have hd2 : decide (each < (x.length : Int)) = false := by simpa using hle
          have HQ : Hid (fewA each (l.drop (i + 1)) = r) := Lib.hid (by rw [← hi2]; have : (x.length : Int) ≤ each := (by omega); simp [this])
          clear HI hi2 HZ
          go_wp2_with fail
          exact ⟨⟨i + 1, by omega, by go_num, HQ, hb⟩, by simp [intOf]; omega⟩
      · obtain rfl : i = l.length := by omega
        have hlt' : ¬ (l.length : Int) < (l.length : Int) := by omega
        have HQ : Hid (true = r) := Lib.hid (by rw [← HI.out]; simp [fewA])
        clear HI HZ
        go_wp2_with fail
        all_goals (go_ret; exact ⟨by rw [← HQ.out]; rfl, hb⟩)

set_option maxRecDepth 100000 in
set_option maxHeartbeats 1000000 in
theorem ccodes_any (v : Value) (d : Bs) (l : List Bs) (s : Bs) (w : World) (hv : CV w v d l) (hk : KT w) :
    Calls Tryd.prog 8 #[v, .string ⟨List.toArray (s)⟩] w fun e w' => e = .returned (.bool true) ∧ Below w.heap.size w w' := by
  obtain ⟨u, rfl, hu⟩ := hv
  obtain ⟨a, c, rfl⟩ := hu.form
  have hb0 : Below w.heap.size w (w.alloc (.cells #[.string ⟨List.toArray (d)⟩, .slice a l.length c] 51)) := Below.allocS (Below.refl _ _) _
  have B0 : Blk (w.alloc (.cells #[.string ⟨List.toArray (d)⟩, .slice a l.length c] 51)) w.heap.size #[.string ⟨List.toArray (d)⟩, .slice a l.length c] := Blk.new _ _ _
  have HU := Lib.hid hu
  have hlu := hu.small
  clear hu
  have hfew := few_any _ l 50 100 _ (HU.out.keep hb0)
  generalize hf : fewP l 50 100 = f at *
  have HF := Lib.hid hf
  clear hf
  go_enter Tryd.func8, Tryd.ntmps8
  go_wp2_with fail
  refine hfew.mono ?_
  rintro e w1 ⟨rfl, hb⟩
  have hb1 := hb0.trans (hb.mono hb0.size)
  have B1 := B0.keep hb
  clear hfew hb hb0 B0
  obtain ⟨b1, b2, b3⟩ := id B1
  have hW := works7_any _ (hk.keep hb1)
  cases f
  · go_wp2_with fail
    refine hW.mono ?_
    rintro e w2 ⟨rfl, hb⟩
    go_wp2_with fail
    all_goals (go_ret; exact ⟨rfl, hb1.trans (hb.mono hb1.size)⟩)
  · by_cases hd : 100 < d.length
    · have hd1 : decide ((100 : Int) < (d.length : Int)) = true := by simp; omega
      go_wp2_with fail
      refine hW.mono ?_
      rintro e w2 ⟨rfl, hb⟩
      go_wp2_with fail
      all_goals (go_ret; exact ⟨rfl, hb1.trans (hb.mono hb1.size)⟩)
    · have hd1 : decide ((100 : Int) < (d.length : Int)) = false := by simp; omega
      by_cases hs : 500 < s.length
      · have hs1 : decide ((500 : Int) < (s.length : Int)) = true := by simp; omega
        go_wp2_with fail
        refine hW.mono ?_
        rintro e w2 ⟨rfl, hb⟩
        go_wp2_with fail
        all_goals (go_ret; exact ⟨rfl, hb1.trans (hb.mono hb1.size)⟩)
      · have hs1 : decide ((500 : Int) < (s.length : Int)) = false := by simp; omega
        clear hW
        go_wp2_with fail
        have V1 : CV w1 (.agg #[.string ⟨List.toArray (d)⟩, .slice a l.length c]) d l := ⟨_, rfl, HU.out.keep hb1⟩
        refine (cencode_any _ d l _ V1).mono ?_
        rintro e w2 ⟨rfl, hb⟩
        have V2 := V1.keep hb
        have B2 := B1.keep hb
        have hb2 := hb1.trans (hb.mono hb1.size)
        clear V1 B1 hb hb1 b1 b2 b3
        obtain ⟨b1, b2, b3⟩ := id B2
        go_wp2_with fail
        refine (rcencode_any _ d l _ V2).mono ?_
        rintro e w3 ⟨rfl, hb⟩
        have hb3 := hb2.trans (hb.mono hb2.size)
        clear V2 B2 hb hb2 b1 b2 b3
        go_wp2_with fail
        refine (cdecode_any s (by omega) _).mono ?_
        rintro e w4 ⟨x, rfl, hS4, hb⟩
        have hb4 := hb3.trans (hb.mono hb3.size)
        clear hb hb3
        obtain ⟨xa, xc, rfl⟩ := hS4.form
        have U4 := hS4.ss
        have hrd := rcdecode_any s (by omega)
        generalize decC s = z at *
        obtain ⟨⟨zd, zl⟩, zc⟩ := z
        simp only at U4 hrd ⊢
        clear hS4
        have hx : Below w4.heap.size w4 (w4.alloc (.cells #[.string ⟨List.toArray (zd)⟩, .slice xa zl.length xc] 51)) := Below.allocS (Below.refl _ _) _
        have U5 := U4.keep hx
        have C5 : Blk (w4.alloc (.cells #[.string ⟨List.toArray (zd)⟩, .slice xa zl.length xc] 51)) w4.heap.size #[.string ⟨List.toArray (zd)⟩, .slice xa zl.length xc] := Blk.new _ _ _
        have hb5 := hb4.trans (hx.mono hb4.size)
        clear hx U4 hb4
        go_wp2_with fail
        refine (hrd _).mono ?_
        rintro e w6 ⟨y, rfl, hS6, hb⟩
        have U6 := U5.keep hb
        have C6 := C5.keep hb
        have hb6 := hb5.trans (hb.mono hb5.size)
        clear hb hb5 U5 C5 hrd
        obtain ⟨ya, yc, rfl⟩ := hS6.form
        have Y6 := hS6.ss
        clear hS6
        have hx : Below w6.heap.size w6 (w6.alloc (.cells #[.string ⟨List.toArray (zd)⟩, .slice ya zl.length yc] 51)) := Below.allocS (Below.refl _ _) _
        have U7 := U6.keep hx
        have Y7 := Y6.keep hx
        have C7 := C6.keep hx
        have D7 : Blk (w6.alloc (.cells #[.string ⟨List.toArray (zd)⟩, .slice ya zl.length yc] 51)) w6.heap.size #[.string ⟨List.toArray (zd)⟩, .slice ya zl.length yc] := Blk.new _ _ _
        have hb7 := hb6.trans (hx.mono hb6.size)
        clear hx U6 Y6 C6 hb6
        obtain ⟨b1, b2, b3⟩ := id C7
        obtain ⟨d1, d2, d3⟩ := id D7
        generalize encCR d l = q at *
        obtain ⟨q1, q2⟩ := q
        simp only
        have hsame := samecert_any _ _ zd zd zl zl _ ⟨_, rfl, U7⟩ ⟨_, rfl, Y7⟩
        rw [show (zd == zd && sameL zl zl) = true from by simp [sameL]] at hsame
        go_wp2_with fail
        refine hsame.mono ?_
        rintro e w8 ⟨rfl, hb⟩
        have hb8 := hb7.trans (hb.mono hb7.size)
        clear hsame hb
        go_wp2_with fail
        refine (works7_any _ (hk.keep hb8)).mono ?_
        rintro e w9 ⟨rfl, hb⟩
        go_wp2_with fail
        all_goals (go_ret; exact ⟨rfl, hb8.trans (hb.mono hb8.size)⟩)
end Go.Proofs.YtmldonbmjgelnaaDoor
