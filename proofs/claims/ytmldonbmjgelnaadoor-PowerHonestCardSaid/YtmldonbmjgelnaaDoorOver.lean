/- Walk of the statement PowerOverlap, and the sums that it leans on. -/
import Derived.Test.YtmldonbmjgelnaaDoorSort
import Derived.Test.YtmldonbmjgelnaaDoorMWorks
set_option linter.unusedSimpArgs false
set_option linter.unusedVariables false
namespace Go.Proofs.YtmldonbmjgelnaaDoor
open Go.RowKit Pl

namespace Pl
theorem sum_mono (X Y : List Bs) (h : ∀ x, x ∈ X → x ∈ Y) : ∀ l : List (Bs × Int), (∀ m ∈ l, 0 ≤ m.2) → sumOf X l ≤ sumOf Y l
  | [], _ => by simp [sumOf]
  | m :: l, hp => by
    have ih := sum_mono X Y h l (fun x hx => hp x (by simp [hx]))
    have h0 := hp m (by simp)
    simp only [sumOf, List.contains_iff_mem]
    by_cases h1 : m.1 ∈ X
    · rw [if_pos h1, if_pos (h _ h1)]; omega
    · rw [if_neg h1]
      by_cases h2 : m.1 ∈ Y
      · rw [if_pos h2]; omega
      · rw [if_neg h2]; omega
theorem sum_incl (A B C : List Bs) (h : ∀ x, x ∈ A → x ∈ B → x ∈ C) : ∀ l : List (Bs × Int), (∀ m ∈ l, 0 ≤ m.2) → sumOf A l + sumOf B l ≤ sumM l + sumOf C l
  | [], _ => by simp [sumOf, sumM]
  | m :: l, hp => by
    have ih := sum_incl A B C h l (fun x hx => hp x (by simp [hx]))
    have h0 := hp m (by simp)
    simp only [sumOf, sumM, List.contains_iff_mem]
    by_cases h1 : m.1 ∈ A
    · by_cases h2 : m.1 ∈ B
      · rw [if_pos h1, if_pos h2, if_pos (h _ h1 h2)]; omega
      · rw [if_pos h1, if_neg h2]
        split <;> omega
    · rw [if_neg h1]
      split <;> split <;> omega
theorem pow_pos_of {l : List (Bs × Int)} (hc : chkM l = true) : ∀ m ∈ l, 0 ≤ m.2 := by
  simp only [chkM, Bool.and_eq_true, decide_eq_true_eq] at hc
  intro m hm
  obtain ⟨i, hi, rfl⟩ := List.getElem_of_mem hm
  have := (okM_at l [] hc.2 i hi).2.1
  rw [List.getD_eq_getElem?_getD, List.getElem?_eq_getElem hi] at this
  simp at this
  omega
theorem tot_pos {l : List (Bs × Int)} (hc : chkM l = true) : 1 ≤ totM l := by
  have hc2 := hc
  simp only [chkM, Bool.and_eq_true, decide_eq_true_eq] at hc2
  have h := sumM_take l (fun i hi => (okM_at l [] hc2.2 i hi).2) l.length (by omega)
  rw [List.take_length] at h
  rw [totM, if_pos hc]
  have := hc2.1.1
  omega
theorem quo_of {l : List (Bs × Int)} (hc : chkM l = true) : quoM l = 2 * totM l / 3 + 1 := by
  have := tot_pos hc
  unfold quoM
  rw [if_neg (by omega), Int.tdiv_eq_ediv_of_nonneg (by omega)]
theorem quo_bound (l : List (Bs × Int)) : quoM l ≤ 4700 ∧ 0 ≤ quoM l := by
  have := totM_bound l
  unfold quoM
  split
  · omega
  · rw [Int.tdiv_eq_ediv_of_nonneg (by omega)]; omega
theorem most_of {l : List (Bs × Int)} (hc : chkM l = true) : mostM l = (totM l - 1) / 3 := by
  have := tot_pos hc
  unfold mostM
  rw [if_neg (by omega), Int.tdiv_eq_ediv_of_nonneg (by omega)]
theorem of_bound {l : List (Bs × Int)} (X : List Bs) (hc : chkM l = true) : 0 ≤ ofM l X ∧ ofM l X ≤ 7000 := by
  have hc2 := hc
  simp only [chkM, Bool.and_eq_true, decide_eq_true_eq] at hc2
  have h := sumOf_take X l (fun i hi => (okM_at l [] hc2.2 i hi).2) l.length (by omega)
  rw [List.take_length] at h
  rw [ofM, if_pos hc]
  omega
/-- What the statement says, of numbers alone. -/
theorem over_law {l : List (Bs × Int)} {A B C : List Bs} (hc : chkM l = true) (h : IsBoth A B C) :
    ofM l C ≤ ofM l A ∧ ofM l C ≤ ofM l B ∧ (quoM l ≤ ofM l A → quoM l ≤ ofM l B → mostM l < ofM l C ∧ totM l < 3 * ofM l C) := by
  have hp := pow_pos_of hc
  have h1 := sum_mono C A (fun x hx => ((h.2 x).1 hx).1) l hp
  have h2 := sum_mono C B (fun x hx => ((h.2 x).1 hx).2) l hp
  have h3 := sum_incl A B C (fun x ha hb => (h.2 x).2 ⟨ha, hb⟩) l hp
  have ht := tot_pos hc
  rw [quo_of hc, most_of hc]
  simp only [ofM, totM, hc, if_true] at *
  refine ⟨h1, h2, fun h4 h5 => ⟨?_, ?_⟩⟩ <;> omega
end Pl

set_option maxRecDepth 100000 in
set_option maxHeartbeats 2000000 in
theorem over_any (v ua ub : Value) (l : List (Bs × Int)) (a b : List Bs) (hal : ∀ i, i < a.length → (a.getD i []).length ≤ maxLen) (hbl : ∀ i, i < b.length → (b.getD i []).length ≤ maxLen) (w : World) (hv : MS w v l) (ha : SS w ua a) (hb : SS w ub b) (hk : KT w) :
    Calls Tryd.prog 11 #[v, ua, ub] w fun e w' => e = .returned (.bool true) ∧ Below w.heap.size w w' := by
  obtain ⟨p, c, rfl⟩ := hv.form
  obtain ⟨pa, ca, rfl⟩ := ha.form
  obtain ⟨pb, cb, rfl⟩ := hb.form
  have HV := Lib.hid hv
  have HA := Lib.hid ha
  have HB := Lib.hid hb
  have hml := hv.small
  have hma := ha.small
  have hmb := hb.small
  clear hv ha hb
  go_enter Tryd.func11, Tryd.ntmps11
  go_wp2_with fail
  refine (works5_any _ hk).mono ?_
  rintro e w1 ⟨rfl, hb1⟩
  go_wp2_with fail
  refine (mcheck_any _ l _ (HV.out.keep hb1)).mono ?_
  rintro e w2 ⟨rfl, hb⟩
  have hb2 := hb1.trans (hb.mono hb1.size)
  clear hb hb1
  cases hc : chkM l
  · unfold setI
    clear hc
    go_wp2_with fail
    all_goals (go_ret; exact ⟨rfl, hb2⟩)
  · unfold setI
    have HC := Lib.hid hc
    clear hc
    by_cases h1 : 50 < a.length
    · have d1 : decide ((50 : Int) < (a.length : Int)) = true := by simp; omega
      go_wp2_with fail
      all_goals (go_ret; exact ⟨rfl, hb2⟩)
    · have d1 : decide ((50 : Int) < (a.length : Int)) = false := by simp; omega
      by_cases h2 : 50 < b.length
      · have d2 : decide ((50 : Int) < (b.length : Int)) = true := by simp; omega
        go_wp2_with fail
        all_goals (go_ret; exact ⟨rfl, hb2⟩)
      · have d2 : decide ((50 : Int) < (b.length : Int)) = false := by simp; omega
        go_wp2_with fail
        refine (mboth_any _ _ a b (by omega) (by omega) hal hbl _ (HA.out.keep hb2) (HB.out.keep hb2)).mono ?_
        rintro e w3 ⟨z, rfl, hZ, hb⟩
        have hb3 := hb2.trans (hb.mono hb2.size)
        have hlaw := over_law HC.out (bothP_is a b)
        have hlen := both_len (bothP_is a b)
        have hzl : ∀ i, i < (bothP a b).length → ((bothP a b).getD i []).length ≤ maxLen := by
          intro i hi
          obtain ⟨j, hj, e⟩ := mem_getD' b _ (((bothP_is a b).2 _).1 (getD_mem (bothP a b) i hi)).2
          rw [← e]
          exact hbl j hj
        have hob := of_bound (bothP a b) HC.out
        clear hb hb2
        have HZL := Lib.hid hzl
        have hof := mof_any _ _ l (bothP a b) (by omega) HZL.out _ (HV.out.keep hb3) hZ.ss
        generalize ofM l (bothP a b) = nc at *
        have HOF := Lib.hid hof
        clear hof hzl hlen hZ
        go_wp2_with fail
        refine HOF.out.mono ?_
        rintro e w4 ⟨rfl, hb⟩
        have hb4 := hb3.trans (hb.mono hb3.size)
        clear hb HOF hb3
        have hoa := fun w' (hb : Below w.heap.size w w') => mof_any _ _ l a (by omega) hal _ (HV.out.keep hb) (HA.out.keep hb)
        have hobb := fun w' (hb : Below w.heap.size w w') => mof_any _ _ l b (by omega) hbl _ (HV.out.keep hb) (HB.out.keep hb)
        have hqu := fun w' (hb : Below w.heap.size w w') => mquorum_any _ l _ (HV.out.keep hb)
        have hmo := fun w' (hb : Below w.heap.size w w') => mmost_any _ l _ (HV.out.keep hb)
        have hto := fun w' (hb : Below w.heap.size w w') => mtotal_any _ l _ (HV.out.keep hb)
        generalize ofM l a = na at *
        generalize ofM l b = nb at *
        generalize quoM l = nq at *
        generalize mostM l = nm at *
        generalize totM l = nt at *
        have HOA := Lib.hid hoa
        have HOB := Lib.hid hobb
        have HQU := Lib.hid hqu
        have HMO := Lib.hid hmo
        have HTO := Lib.hid hto
        obtain ⟨l1, l2, l3⟩ := hlaw
        have HL3 := Lib.hid l3
        have q1 : IntKind.i64.wrap (3 * nc) = 3 * nc := IntWalk.i64_in _ (by omega)
        have e1 : decide (nc ≤ na) = true := by simpa using l1
        have e2 : decide (nc ≤ nb) = true := by simpa using l2
        clear hoa hobb hqu hmo hto l3
        go_wp2_with fail
        refine (HOA.out _ hb4).mono ?_
        rintro e w5 ⟨rfl, hb⟩
        have hb5 := hb4.trans (hb.mono hb4.size)
        clear hb hb4
        go_wp2_with fail
        refine (HQU.out _ hb5).mono ?_
        rintro e w6 ⟨rfl, hb⟩
        have hb6 := hb5.trans (hb.mono hb5.size)
        clear hb hb5
        by_cases g1 : na < nq
        · have d3 : decide (na < nq) = true := by simpa using g1
          go_wp2_with fail
          refine (HOA.out _ hb6).mono ?_
          rintro e w7 ⟨rfl, hb⟩
          have hb7 := hb6.trans (hb.mono hb6.size)
          clear hb hb6
          go_wp2_with fail
          refine (HOB.out _ hb7).mono ?_
          rintro e w8 ⟨rfl, hb⟩
          go_wp2_with fail
          all_goals (go_ret; exact ⟨rfl, hb7.trans (hb.mono hb7.size)⟩)
        · have d3 : decide (na < nq) = false := by simpa using g1
          go_wp2_with fail
          refine (HOB.out _ hb6).mono ?_
          rintro e w7 ⟨rfl, hb⟩
          have hb7 := hb6.trans (hb.mono hb6.size)
          clear hb hb6
          go_wp2_with fail
          refine (HQU.out _ hb7).mono ?_
          rintro e w8 ⟨rfl, hb⟩
          have hb8 := hb7.trans (hb.mono hb7.size)
          clear hb hb7
          by_cases g2 : nb < nq
          · have d4 : decide (nb < nq) = true := by simpa using g2
            go_wp2_with fail
            refine (HOA.out _ hb8).mono ?_
            rintro e w9 ⟨rfl, hb⟩
            have hb9 := hb8.trans (hb.mono hb8.size)
            clear hb hb8
            go_wp2_with fail
            refine (HOB.out _ hb9).mono ?_
            rintro e w10 ⟨rfl, hb⟩
            go_wp2_with fail
            all_goals (go_ret; exact ⟨rfl, hb9.trans (hb.mono hb9.size)⟩)
          · have d4 : decide (nb < nq) = false := by simpa using g2
            obtain ⟨k1, k2⟩ := HL3.out (by omega) (by omega)
            have e3 : decide (nm < nc) = true := by simpa using k1
            have e4 : decide (nt < 3 * nc) = true := by simpa using k2
            go_wp2_with fail
            refine (HMO.out _ hb8).mono ?_
            rintro e w9 ⟨rfl, hb⟩
            have hb9 := hb8.trans (hb.mono hb8.size)
            clear hb hb8
            go_wp2_with fail
            refine (HTO.out _ hb9).mono ?_
            rintro e w10 ⟨rfl, hb⟩
            go_wp2_with fail
            all_goals (go_ret; exact ⟨rfl, hb9.trans (hb.mono hb9.size)⟩)
end Go.Proofs.YtmldonbmjgelnaaDoor
