/- The document's answer for layer 5: power, a quorum, what may be faulty, who is named. -/
import Derived.Test.YtmldonbmjgelnaaDoorMRef
import Derived.Test.YtmldonbmjgelnaaDoorMTot
import Derived.Test.YtmldonbmjgelnaaDoorOf
set_option linter.unusedSimpArgs false
set_option linter.unusedVariables false
namespace Go.Proofs.YtmldonbmjgelnaaDoor
open Go.RowKit Pl

set_option maxRecDepth 100000 in
set_option maxHeartbeats 1000000 in
theorem rtotal_any (v : Value) (l : List (Bs × Int)) (w : World) (hv : MS w v l) :
    Calls Tryd.prog 48 #[v] w fun e w' => e = .returned (.int .i64 (totM l)) ∧ Below w.heap.size w w' := by
  generalize hr : totM l = r
  have HR := Lib.hid hr
  clear hr
  obtain ⟨a, c, rfl⟩ := hv.form
  have hm := hv.small
  have hchk := rmcheck_any _ l w hv
  have HV := Lib.hid hv
  clear hv
  cases hc : chkM l
  · rw [hc] at hchk
    have HC := Lib.hid hchk
    have HR2 : Hid (0 = r) := Lib.hid (by rw [← HR.out]; simp [totM, hc])
    clear hchk hc HR HV
    go_enter Tryd.func48, Tryd.ntmps48
    go_wp2_with fail
    refine HC.out.mono ?_
    rintro e w1 ⟨rfl, q, rfl⟩
    unfold setI
    go_wp2_with fail
    all_goals (go_ret; refine ⟨?_, below_drewN (Below.refl _ _) q⟩; rw [← HR2.out]; rfl)
  · rw [hc] at hchk
    have HC := Lib.hid hchk
    have HR2 : Hid (sumM l = r) := Lib.hid (by rw [← HR.out]; simp [totM, hc])
    simp only [chkM, Bool.and_eq_true, decide_eq_true_eq] at hc
    have h7 := hc.1.2
    have HB := Lib.hid (sumM_take l (fun i hi => (okM_at l [] hc.2 i hi).2))
    have HO := Lib.hid (okM_at l [] hc.2)
    clear hchk hc HR
    go_enter Tryd.func48, Tryd.ntmps48
    go_wp2_with fail
    refine HC.out.mono ?_
    rintro e w1 ⟨rfl, q, rfl⟩
    have hb := below_drewN (Below.refl w.heap.size w) q
    unfold setI
    go_wp2_with fail
    go_loopw [3, 4] (fun s3 s4 wr => ∃ i : Nat, i ≤ l.length ∧ s4 = .int .i64 i ∧ s3 = .int .i64 (sumM (l.take i)) ∧ Below w.heap.size w wr) (fun _ s4 _ => l.length - (intOf s4).toNat)
    case atStart => exact ⟨0, by omega, rfl, by simp [sumM], hb⟩
    case round =>
      obtain ⟨i, hi, rfl, rfl, hb⟩ := hrel
      obtain ⟨wq, h⟩ := Below.nm hb
      subst h
      by_cases hlt : i < l.length
      · have hlt' : (i : Int) < (l.length : Int) := by omega
        obtain ⟨g, off, rfl, hg, c1, c2⟩ := (HV.out.keep hb).at i hlt
        obtain ⟨o1, o2, o3⟩ := HO.out i hlt
        have hB := HB.out i (by omega)
        have hnx : sumM (l.take (i + 1)) = sumM (l.take i) + (l.getD i ([], 0)).2 := by rw [take_getD l i hlt, sumM_app]
        generalize hx : l.getD i ([], 0) = x at *
        obtain ⟨n, p⟩ := x
        simp only at c1 c2 hnx o1 o2 o3
        generalize sumM (l.take i) = s at *
        have q1 : IntKind.i64.wrap (s + p) = s + p := IntWalk.i64_in _ (by omega)
        have HX := Lib.hid hx
        clear hx hB HB HO
        go_wp2_with fail
        exact ⟨⟨i + 1, by omega, by go_num, by rw [hnx], hb⟩, by simp [intOf]; omega⟩
      · obtain rfl : i = l.length := by omega
        have hlt' : ¬ (l.length : Int) < (l.length : Int) := by omega
        rw [List.take_length]
        go_wp2_with fail
        all_goals (go_ret; refine ⟨?_, hb⟩; rw [← HR2.out]; rfl)

theorem quoM_eq (l : List (Bs × Int)) (q : Int) (h0 : 0 ≤ q) (h1 : 0 < totM l → 2 * totM l < 3 * q ∧ 3 * (q - 1) ≤ 2 * totM l) (h2 : totM l = 0 → q = 0) : quoM l = q := by
  have := totM_bound l
  unfold quoM
  split
  · rename_i h; exact (h2 h).symm
  · rename_i h
    have := h1 (by omega)
    rw [Int.tdiv_eq_ediv_of_nonneg (by omega)]
    omega
theorem mostM_eq (l : List (Bs × Int)) (q : Int) (h0 : 0 ≤ q) (h1 : 0 < totM l → 3 * q < totM l ∧ totM l ≤ 3 * (q + 1)) (h2 : totM l = 0 → q = 0) : mostM l = q := by
  have := totM_bound l
  unfold mostM
  split
  · rename_i h; exact (h2 h).symm
  · rename_i h
    have := h1 (by omega)
    rw [Int.tdiv_eq_ediv_of_nonneg (by omega)]
    omega

set_option maxRecDepth 100000 in
set_option maxHeartbeats 1000000 in
theorem rquorum_any (v : Value) (l : List (Bs × Int)) (w : World) (hv : MS w v l) :
    Calls Tryd.prog 50 #[v] w fun e w' => e = .returned (.int .i64 (quoM l)) ∧ Below w.heap.size w w' := by
  generalize hr : quoM l = r
  have HR := Lib.hid hr
  clear hr
  obtain ⟨a, c, rfl⟩ := hv.form
  have hb := totM_bound l
  have hq := quoM_eq l
  rw [HR.out] at hq
  have ht := rtotal_any _ l w hv
  generalize totM l = t at *
  have HQ := Lib.hid hq
  clear hv HR hq
  go_enter Tryd.func50, Tryd.ntmps50
  go_wp2_with fail
  refine ht.mono ?_
  rintro e w1 ⟨rfl, hb1⟩
  clear ht
  go_wp2_with fail
  go_loopw [4] (fun s4 wr => ∃ q : Int, 0 ≤ q ∧ q ≤ 4700 ∧ s4 = .int .i64 q ∧ Hid ((0 < t → 3 * (q - 1) ≤ 2 * t) ∧ (t = 0 → q = 0)) ∧ wr = w1) (fun s4 _ => (4700 - (intOf s4)).toNat)
  case atStart => exact ⟨0, by omega, by omega, rfl, Lib.hid ⟨fun _ => by omega, fun _ => rfl⟩, rfl⟩
  case round =>
    obtain ⟨q, h0, h47, rfl, HI, rfl⟩ := hrel
    have hI := HI.out
    have q1 : IntKind.i64.wrap (3 * q) = 3 * q := IntWalk.i64_in _ (by omega)
    have q2 : IntKind.i64.wrap (2 * t) = 2 * t := IntWalk.i64_in _ (by omega)
    have q3 : IntKind.i64.wrap (3 * t) = 3 * t := IntWalk.i64_in _ (by omega)
    have q4 : IntKind.i64.wrap (q + 1) = q + 1 := IntWalk.i64_in _ (by omega)
    by_cases ht0 : 0 < t
    · have d1 : decide ((0 : Int) < t) = true := by simpa using ht0
      by_cases hle : 3 * q ≤ 2 * t
      · have d2 : decide (3 * q ≤ 2 * t) = true := by simpa using hle
        have d3 : decide (q ≤ 3 * t) = true := by rw [decide_eq_true_iff]; omega
        clear hI
        go_wp2_with fail
        have hI := HI.out
        exact ⟨⟨q + 1, by omega, by omega, by go_num, Lib.hid ⟨fun _ => by omega, fun h => by omega⟩, trivial⟩, by simp [intOf]; omega⟩
      · have d2 : decide (3 * q ≤ 2 * t) = false := by simpa using hle
        have HZ : Hid (r = q) := Lib.hid (HQ.out q h0 (fun _ => ⟨by omega, hI.1 ht0⟩) hI.2)
        clear hI
        go_wp2_with fail
        all_goals (go_ret; exact ⟨by rw [HZ.out]; rfl, hb1⟩)
    · have d1 : decide ((0 : Int) < t) = false := by simpa using ht0
      have HZ : Hid (r = q) := Lib.hid (HQ.out q h0 (fun h => absurd h ht0) hI.2)
      clear hI
      go_wp2_with fail
      all_goals (go_ret; exact ⟨by rw [HZ.out]; rfl, hb1⟩)

set_option maxRecDepth 100000 in
set_option maxHeartbeats 1000000 in
theorem rmost_any (v : Value) (l : List (Bs × Int)) (w : World) (hv : MS w v l) :
    Calls Tryd.prog 52 #[v] w fun e w' => e = .returned (.int .i64 (mostM l)) ∧ Below w.heap.size w w' := by
  generalize hr : mostM l = r
  have HR := Lib.hid hr
  clear hr
  obtain ⟨a, c, rfl⟩ := hv.form
  have hb := totM_bound l
  have hq := mostM_eq l
  rw [HR.out] at hq
  have ht := rtotal_any _ l w hv
  generalize totM l = t at *
  have HQ := Lib.hid hq
  clear hv HR hq
  go_enter Tryd.func52, Tryd.ntmps52
  go_wp2_with fail
  refine ht.mono ?_
  rintro e w1 ⟨rfl, hb1⟩
  clear ht
  go_wp2_with fail
  go_loopw [4] (fun s4 wr => ∃ q : Int, 0 ≤ q ∧ q ≤ 2400 ∧ s4 = .int .i64 q ∧ Hid ((0 < t → 3 * q < t) ∧ (t = 0 → q = 0)) ∧ wr = w1) (fun s4 _ => (2400 - (intOf s4)).toNat)
  case atStart => exact ⟨0, by omega, by omega, rfl, Lib.hid ⟨fun h => by omega, fun _ => rfl⟩, rfl⟩
  case round =>
    obtain ⟨q, h0, h47, rfl, HI, rfl⟩ := hrel
    have hI := HI.out
    have q1 : IntKind.i64.wrap (q + 1) = q + 1 := IntWalk.i64_in _ (by omega)
    have q2 : IntKind.i64.wrap (3 * (q + 1)) = 3 * (q + 1) := IntWalk.i64_in _ (by omega)
    by_cases hle : 3 * (q + 1) < t
    · have d2 : decide (3 * (q + 1) < t) = true := by simpa using hle
      have d3 : decide (q ≤ t) = true := by rw [decide_eq_true_iff]; omega
      clear hI
      go_wp2_with fail
      have hI := HI.out
      exact ⟨⟨q + 1, by omega, by omega, by go_num, Lib.hid ⟨fun _ => by omega, fun h => by omega⟩, trivial⟩, by simp [intOf]; omega⟩
    · have d2 : decide (3 * (q + 1) < t) = false := by simpa using hle
      have HZ : Hid (r = q) := Lib.hid (HQ.out q h0 (fun h => ⟨hI.1 h, by omega⟩) hI.2)
      clear hI
      go_wp2_with fail
      all_goals (go_ret; exact ⟨by rw [HZ.out]; rfl, hb1⟩)

set_option maxRecDepth 100000 in
set_option maxHeartbeats 400000 in
theorem rhas_any (v : Value) (l : List Bs) (s : Bs) (w : World) (hv : SS w v l) :
    Calls Tryd.prog 92 #[v, .string ⟨List.toArray (s)⟩] w fun e w' => e = .returned (.bool (l.contains s)) ∧ w = w' := by
  generalize hr : l.contains s = r
  have HR := Lib.hid hr
  clear hr
  obtain ⟨a, c, rfl⟩ := hv.form
  have hm := hv.small
  have HV := Lib.hid hv
  clear hv
  go_enter Tryd.func92, Tryd.ntmps92
  go_wp2_with fail
  go_loopw [5] (fun s5 wr => ∃ i : Nat, i ≤ l.length ∧ s5 = .int .i64 i ∧ Hid ((l.drop i).contains s = r) ∧ wr = w) (fun s5 _ => l.length - (intOf s5).toNat)
  case atStart => exact ⟨0, by omega, rfl, Lib.hid HR.out, rfl⟩
  case round =>
    obtain ⟨i, hi, rfl, HI, rfl⟩ := hrel
    by_cases hlt : i < l.length
    · have hlt' : (i : Int) < (l.length : Int) := by omega
      obtain ⟨g, off, rfl, c1⟩ := HV.out.at i hlt
      have hi2 := HI.out
      rw [List.drop_eq_getElem_cons hlt, List.contains_cons] at hi2
      have hg : l.getD i [] = l[i] := by rw [List.getD_eq_getElem?_getD, List.getElem?_eq_getElem hlt]; rfl
      rw [← hg] at hi2
      generalize hx : l.getD i [] = x at *
      have HX := Lib.hid hx
      clear hx hg
      by_cases he : x = s
      · have HZ : Hid (true = r) := Lib.hid (by rw [← hi2, he]; simp)
        have e1 : (x == s) = true := by simpa using he
        have e2 : decide (x = s) = true := by simpa using he
        clear hi2 HI HR
        go_wp2_with fail
        all_goals (go_ret; exact ⟨by rw [← HZ.out]; rfl, rfl⟩)
      · have HZ : Hid ((l.drop (i + 1)).contains s = r) := Lib.hid (by rw [← hi2]; have : (s == x) = false := (by simpa using fun h => he h.symm); rw [this]; simp)
        have e1 : (x == s) = false := by simpa using he
        have e2 : decide (x = s) = false := by simpa using he
        clear hi2 HI HR
        go_wp2_with fail
        exact ⟨⟨i + 1, by omega, by go_num, HZ, trivial⟩, by simp [intOf]; omega⟩
    · obtain rfl : i = l.length := by omega
      have hlt' : ¬ (l.length : Int) < (l.length : Int) := by omega
      have HZ : Hid (false = r) := Lib.hid (by rw [← HI.out]; simp)
      clear HI HR
      go_wp2_with fail
      all_goals (go_ret; exact ⟨by rw [← HZ.out]; rfl, rfl⟩)
end Go.Proofs.YtmldonbmjgelnaaDoor
