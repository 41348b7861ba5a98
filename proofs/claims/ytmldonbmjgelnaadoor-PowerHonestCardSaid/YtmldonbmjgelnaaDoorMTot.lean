/- The power of a set; a quorum, what may be faulty: the program's. -/
import Derived.Test.YtmldonbmjgelnaaDoorMEnc
set_option linter.unusedSimpArgs false
set_option linter.unusedVariables false
namespace Go.Proofs.YtmldonbmjgelnaaDoor
open Go.RowKit Pl

namespace Pl
def sumM : List (Bs × Int) → Int
  | [] => 0
  | x :: r => x.2 + sumM r
def totM (l : List (Bs × Int)) : Int := if chkM l then sumM l else 0
theorem sumM_app (a : List (Bs × Int)) (x : Bs × Int) : sumM (a ++ [x]) = sumM a + x.2 := by
  induction a with
  | nil => simp [sumM]
  | cons y r ih => simp only [List.cons_append, sumM, ih]; omega
theorem sumM_take (l : List (Bs × Int)) (h : ∀ i, i < l.length → 1 ≤ (l.getD i ([], 0)).2 ∧ (l.getD i ([], 0)).2 ≤ 1000) : ∀ k, k ≤ l.length → (k : Int) ≤ sumM (l.take k) ∧ sumM (l.take k) ≤ 1000 * (k : Int)
  | 0, _ => by simp [sumM]
  | k + 1, hk => by
    have h1 := sumM_take l h k (by omega)
    have h2 := h k (by omega)
    rw [take_getD l k (by omega), sumM_app]
    omega
theorem totM_bound (l : List (Bs × Int)) : 0 ≤ totM l ∧ totM l ≤ 7000 := by
  unfold totM
  split
  · rename_i hc
    simp only [chkM, Bool.and_eq_true, decide_eq_true_eq] at hc
    have h := sumM_take l (fun i hi => (okM_at l [] hc.2 i hi).2) l.length (by omega)
    rw [List.take_length] at h
    omega
  · omega
end Pl

set_option maxRecDepth 100000 in
set_option maxHeartbeats 1000000 in
theorem mtotal_any (v : Value) (l : List (Bs × Int)) (w : World) (hv : MS w v l) :
    Calls Tryd.prog 37 #[v] w fun e w' => e = .returned (.int .i64 (totM l)) ∧ Below w.heap.size w w' := by
  generalize hr : totM l = r
  have HR := Lib.hid hr
  clear hr
  obtain ⟨a, c, rfl⟩ := hv.form
  have hm := hv.small
  have hchk := mcheck_any _ l w hv
  have HV := Lib.hid hv
  clear hv
  cases hc : chkM l
  · rw [hc] at hchk
    have HC := Lib.hid hchk
    have HR2 : Hid (0 = r) := Lib.hid (by rw [← HR.out]; simp [totM, hc])
    clear hchk hc HR HV
    go_enter Tryd.func37, Tryd.ntmps37
    go_wp2_with fail
    refine HC.out.mono ?_
    rintro e w1 ⟨rfl, hb⟩
    unfold setI
    go_wp2_with fail
    all_goals (go_ret; refine ⟨?_, hb⟩; rw [← HR2.out]; rfl)
  · rw [hc] at hchk
    have HC := Lib.hid hchk
    have HR2 : Hid (sumM l = r) := Lib.hid (by rw [← HR.out]; simp [totM, hc])
    simp only [chkM, Bool.and_eq_true, decide_eq_true_eq] at hc
    have h7 := hc.1.2
    have HB := Lib.hid (sumM_take l (fun i hi => (okM_at l [] hc.2 i hi).2))
    have HO := Lib.hid (okM_at l [] hc.2)
    clear hchk hc HR
    go_enter Tryd.func37, Tryd.ntmps37
    go_wp2_with fail
    refine HC.out.mono ?_
    rintro e w1 ⟨rfl, hb⟩
    unfold setI
    go_wp2_with fail
    go_loopw [3, 11] (fun s3 s11 wr => ∃ i : Nat, i ≤ l.length ∧ s11 = .int .i64 i ∧ s3 = .int .i64 (sumM (l.take i)) ∧ Below w.heap.size w wr) (fun _ s11 _ => l.length - (intOf s11).toNat)
    case atStart => exact ⟨0, by omega, rfl, by simp [sumM], hb⟩
    case round =>
      obtain ⟨i, hi, rfl, rfl, hb⟩ := hrel
      obtain ⟨wq, h⟩ := Below.nm hb
      subst h
      by_cases hlt : i < l.length
      · obtain ⟨g, off, rfl, hg, c1, c2⟩ := (HV.out.keep hb).at i hlt
        obtain ⟨o1, o2, o3⟩ := HO.out i hlt
        have hB := HB.out i (by omega)
        have hnx : sumM (l.take (i + 1)) = sumM (l.take i) + (l.getD i ([], 0)).2 := by rw [take_getD l i hlt, sumM_app]
        generalize hx : l.getD i ([], 0) = x at *
        obtain ⟨n, p⟩ := x
        simp only at c1 c2 hnx o1 o2 o3
        generalize sumM (l.take i) = s at *
        have q1 : IntKind.i64.wrap (s + p) = s + p := IntWalk.i64_in _ (by omega)
        clear hx HB HO
        go_wp2_with fail
        exact ⟨⟨i + 1, by omega, by go_num, by rw [hnx], Below.allocS hb _⟩, by simp [intOf]; omega⟩
      · obtain rfl : i = l.length := by omega
        go_wp2_with fail
        all_goals (go_ret; refine ⟨?_, hb⟩; rw [← HR2.out]; simp)

namespace Pl
def quoM (l : List (Bs × Int)) : Int := if totM l = 0 then 0 else (2 * totM l).tdiv 3 + 1
def mostM (l : List (Bs × Int)) : Int := if totM l = 0 then 0 else (totM l - 1).tdiv 3
end Pl

set_option maxRecDepth 100000 in
set_option maxHeartbeats 1000000 in
theorem mquorum_any (v : Value) (l : List (Bs × Int)) (w : World) (hv : MS w v l) :
    Calls Tryd.prog 49 #[v] w fun e w' => e = .returned (.int .i64 (quoM l)) ∧ Below w.heap.size w w' := by
  have ht := mtotal_any v l w hv
  have hbd := totM_bound l
  unfold quoM
  have HT := Lib.hid ht
  obtain ⟨a, c, rfl⟩ := hv.form
  clear ht hv
  generalize totM l = t at *
  by_cases h0 : t = 0
  · subst h0
    go_enter Tryd.func49, Tryd.ntmps49
    go_wp2_with fail
    refine HT.out.mono ?_
    rintro e w1 ⟨rfl, hb⟩
    go_wp2_with fail
    all_goals (go_ret; exact ⟨rfl, hb⟩)
  · rw [if_neg h0]
    have h1 : (t == 0) = false := by simpa using h0
    have q1 : IntKind.i64.wrap (2 * t) = 2 * t := IntWalk.i64_in _ (by omega)
    have q0 : (2 * t).tdiv 3 = 2 * t / 3 := Int.tdiv_eq_ediv_of_nonneg (by omega)
    have q2 : IntKind.i64.wrap ((2 * t).tdiv 3) = (2 * t).tdiv 3 := IntWalk.i64_in _ (by omega)
    have q3 : IntKind.i64.wrap ((2 * t).tdiv 3 + 1) = (2 * t).tdiv 3 + 1 := IntWalk.i64_in _ (by omega)
    clear q0
    go_enter Tryd.func49, Tryd.ntmps49
    go_wp2_with fail
    refine HT.out.mono ?_
    rintro e w1 ⟨rfl, hb⟩
    go_wp2_with fail
    all_goals (go_ret; exact ⟨rfl, hb⟩)

set_option maxRecDepth 100000 in
set_option maxHeartbeats 1000000 in
theorem mmost_any (v : Value) (l : List (Bs × Int)) (w : World) (hv : MS w v l) :
    Calls Tryd.prog 51 #[v] w fun e w' => e = .returned (.int .i64 (mostM l)) ∧ Below w.heap.size w w' := by
  have ht := mtotal_any v l w hv
  have hbd := totM_bound l
  unfold mostM
  have HT := Lib.hid ht
  obtain ⟨a, c, rfl⟩ := hv.form
  clear ht hv
  generalize totM l = t at *
  by_cases h0 : t = 0
  · subst h0
    go_enter Tryd.func51, Tryd.ntmps51
    go_wp2_with fail
    refine HT.out.mono ?_
    rintro e w1 ⟨rfl, hb⟩
    go_wp2_with fail
    all_goals (go_ret; exact ⟨rfl, hb⟩)
  · rw [if_neg h0]
    have h1 : (t == 0) = false := by simpa using h0
    have q1 : IntKind.i64.wrap (t - 1) = t - 1 := IntWalk.i64_in _ (by omega)
    have q0 : (t - 1).tdiv 3 = (t - 1) / 3 := Int.tdiv_eq_ediv_of_nonneg (by omega)
    have q2 : IntKind.i64.wrap ((t - 1).tdiv 3) = (t - 1).tdiv 3 := IntWalk.i64_in _ (by omega)
    clear q0
    go_enter Tryd.func51, Tryd.ntmps51
    go_wp2_with fail
    refine HT.out.mono ?_
    rintro e w1 ⟨rfl, hb⟩
    go_wp2_with fail
    all_goals (go_ret; exact ⟨rfl, hb⟩)

end Go.Proofs.YtmldonbmjgelnaaDoor
