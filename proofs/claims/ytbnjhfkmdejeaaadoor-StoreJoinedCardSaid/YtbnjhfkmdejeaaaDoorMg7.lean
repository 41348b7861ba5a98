/- MTot, Of. -/
import Derived.Maps.OwnOps
import Derived.Maps.Own
import Derived.Test.YtbnjhfkmdejeaaaDoorMg3
import Derived.Test.YtbnjhfkmdejeaaaDoorMg6
set_option linter.unnecessarySimpa false

/- The power of a set; a quorum, what may be faulty: the program's. -/
set_option linter.unusedSimpArgs false
set_option linter.unusedVariables false
namespace Go.Proofs.YtbnjhfkmdejeaaaDoor
open Go.RowKit Pl

namespace Pl
def sumM : List (Bs × Int) → Int
  | [] => 0
  | x :: r => x.2 + sumM r
def totM (l : List (Bs × Int)) : Int := if chkM l then sumM l else 0
theorem sumM_app (a : List (Bs × Int)) (x : Bs × Int) : sumM (a ++ [x]) = sumM a + x.2 := by
  induction a with
  | nil => simp [sumM]
  | cons y r ih => simp only [List.cons_append, sumM, ih]; omega
theorem sumM_take (l : List (Bs × Int)) (h : ∀ i, i < l.length → 1 ≤ (l.getD i ([], 0)).2 ∧ (l.getD i ([], 0)).2 ≤ 1000) : ∀ k, k ≤ l.length → (k : Int) ≤ sumM (l.take k) ∧ sumM (l.take k) ≤ 1000 * (k : Int)
  | 0, _ => by simp [sumM]
  | k + 1, hk => by
    have h1 := sumM_take l h k (by omega)
    have h2 := h k (by omega)
    rw [take_getD l k (by omega), sumM_app]
    omega
theorem totM_bound (l : List (Bs × Int)) : 0 ≤ totM l ∧ totM l ≤ 7000 := by
  unfold totM
  split
  · rename_i hc
    simp only [chkM, Bool.and_eq_true, decide_eq_true_eq] at hc
    have h := sumM_take l (fun i hi => (okM_at l [] hc.2 i hi).2) l.length (by omega)
    rw [List.take_length] at h
    omega
  · omega
end Pl

set_option maxRecDepth 100000 in
set_option maxHeartbeats 1000000 in
theorem mtotal_any (v : Value) (l : List (Bs × Int)) (w : World) (hv : MS w v l) :
    Calls Tryd.prog 31 #[v] w fun e w' => e = .returned (.int .i64 (totM l)) ∧ Below w.heap.size w w' := by
  generalize hr : totM l = r
  have HR := Lib.hid hr
  clear hr
  obtain ⟨a, c, rfl⟩ := hv.form
  have hm := hv.small
  have hchk := mcheck_any _ l w hv
  have HV := Lib.hid hv
  clear hv
  cases hc : chkM l
  · rw [hc] at hchk
    have HC := Lib.hid hchk
    have HR2 : Hid (0 = r) := Lib.hid (by rw [← HR.out]; simp [totM, hc])
    clear hchk hc HR HV
    go_enter Tryd.func31, Tryd.ntmps31
    go_wp2_with fail
    refine HC.out.mono ?_
    rintro e w1 ⟨rfl, hb⟩
    unfold setI
    go_wp2_with fail
    all_goals (go_ret; refine ⟨?_, hb⟩; rw [← HR2.out]; rfl)
  · rw [hc] at hchk
    have HC := Lib.hid hchk
    have HR2 : Hid (sumM l = r) := Lib.hid (by rw [← HR.out]; simp [totM, hc])
    simp only [chkM, Bool.and_eq_true, decide_eq_true_eq] at hc
    have h7 := hc.1.2
    have HB := Lib.hid (sumM_take l (fun i hi => (okM_at l [] hc.2 i hi).2))
    have HO := Lib.hid (okM_at l [] hc.2)
    clear hchk hc HR
    go_enter Tryd.func31, Tryd.ntmps31
    go_wp2_with fail
    refine HC.out.mono ?_
    rintro e w1 ⟨rfl, hb⟩
    unfold setI
    go_wp2_with fail
    go_loopw [3, 11] (fun s3 s11 wr => ∃ i : Nat, i ≤ l.length ∧ s11 = .int .i64 i ∧ s3 = .int .i64 (sumM (l.take i)) ∧ Below w.heap.size w wr) (fun _ s11 _ => l.length - (intOf s11).toNat)
    case atStart => exact ⟨0, by omega, rfl, by simp [sumM], hb⟩
    case round =>
      obtain ⟨i, hi, rfl, rfl, hb⟩ := hrel
      obtain ⟨wq, h⟩ := Below.nm hb
      subst h
      by_cases hlt : i < l.length
      · obtain ⟨g, off, rfl, hg, c1, c2⟩ := (HV.out.keep hb).at i hlt
        obtain ⟨o1, o2, o3⟩ := HO.out i hlt
        have hB := HB.out i (by omega)
        have hnx : sumM (l.take (i + 1)) = sumM (l.take i) + (l.getD i ([], 0)).2 := by rw [take_getD l i hlt, sumM_app]
        generalize hx : l.getD i ([], 0) = x at *
        obtain ⟨n, p⟩ := x
        simp only at c1 c2 hnx o1 o2 o3
        generalize sumM (l.take i) = s at *
        have q1 : IntKind.i64.wrap (s + p) = s + p := IntWalk.i64_in _ (by omega)
        clear hx HB HO
        go_wp2_with fail
        exact ⟨⟨i + 1, by omega, by go_num, by rw [hnx], Below.allocS hb _⟩, by simp [intOf]; omega⟩
      · obtain rfl : i = l.length := by omega
        go_wp2_with fail
        all_goals (go_ret; refine ⟨?_, hb⟩; rw [← HR2.out]; simp)

namespace Pl
def quoM (l : List (Bs × Int)) : Int := if totM l = 0 then 0 else (2 * totM l).tdiv 3 + 1
def mostM (l : List (Bs × Int)) : Int := if totM l = 0 then 0 else (totM l - 1).tdiv 3
end Pl

set_option maxRecDepth 100000 in
set_option maxHeartbeats 1000000 in
theorem mquorum_any (v : Value) (l : List (Bs × Int)) (w : World) (hv : MS w v l) :
    Calls Tryd.prog 47 #[v] w fun e w' => e = .returned (.int .i64 (quoM l)) ∧ Below w.heap.size w w' := by
  have ht := mtotal_any v l w hv
  have hbd := totM_bound l
  unfold quoM
  have HT := Lib.hid ht
  obtain ⟨a, c, rfl⟩ := hv.form
  clear ht hv
  generalize totM l = t at *
  by_cases h0 : t = 0
  · subst h0
    go_enter Tryd.func47, Tryd.ntmps47
    go_wp2_with fail
    refine HT.out.mono ?_
    rintro e w1 ⟨rfl, hb⟩
    go_wp2_with fail
    all_goals (go_ret; exact ⟨rfl, hb⟩)
  · rw [if_neg h0]
    have h1 : (t == 0) = false := by simpa using h0
    have q1 : IntKind.i64.wrap (2 * t) = 2 * t := IntWalk.i64_in _ (by omega)
    have q0 : (2 * t).tdiv 3 = 2 * t / 3 := Int.tdiv_eq_ediv_of_nonneg (by omega)
    have q2 : IntKind.i64.wrap ((2 * t).tdiv 3) = (2 * t).tdiv 3 := IntWalk.i64_in _ (by omega)
    have q3 : IntKind.i64.wrap ((2 * t).tdiv 3 + 1) = (2 * t).tdiv 3 + 1 := IntWalk.i64_in _ (by omega)
    clear q0
    go_enter Tryd.func47, Tryd.ntmps47
    go_wp2_with fail
    refine HT.out.mono ?_
    rintro e w1 ⟨rfl, hb⟩
    go_wp2_with fail
    all_goals (go_ret; exact ⟨rfl, hb⟩)

set_option maxRecDepth 100000 in
set_option maxHeartbeats 1000000 in
theorem mmost_any (v : Value) (l : List (Bs × Int)) (w : World) (hv : MS w v l) :
    Calls Tryd.prog 30 #[v] w fun e w' => e = .returned (.int .i64 (mostM l)) ∧ Below w.heap.size w w' := by
  have ht := mtotal_any v l w hv
  have hbd := totM_bound l
  unfold mostM
  have HT := Lib.hid ht
  obtain ⟨a, c, rfl⟩ := hv.form
  clear ht hv
  generalize totM l = t at *
  by_cases h0 : t = 0
  · subst h0
    go_enter Tryd.func30, Tryd.ntmps30
    go_wp2_with fail
    refine HT.out.mono ?_
    rintro e w1 ⟨rfl, hb⟩
    go_wp2_with fail
    all_goals (go_ret; exact ⟨rfl, hb⟩)
  · rw [if_neg h0]
    have h1 : (t == 0) = false := by simpa using h0
    have q1 : IntKind.i64.wrap (t - 1) = t - 1 := IntWalk.i64_in _ (by omega)
    have q0 : (t - 1).tdiv 3 = (t - 1) / 3 := Int.tdiv_eq_ediv_of_nonneg (by omega)
    have q2 : IntKind.i64.wrap ((t - 1).tdiv 3) = (t - 1).tdiv 3 := IntWalk.i64_in _ (by omega)
    clear q0
    go_enter Tryd.func30, Tryd.ntmps30
    go_wp2_with fail
    refine HT.out.mono ?_
    rintro e w1 ⟨rfl, hb⟩
    go_wp2_with fail
    all_goals (go_ret; exact ⟨rfl, hb⟩)

end Go.Proofs.YtbnjhfkmdejeaaaDoor

/- The power of those who are named: the program's. -/
set_option linter.unusedSimpArgs false
set_option linter.unusedVariables false
namespace Go.Proofs.YtbnjhfkmdejeaaaDoor
open Go.RowKit Go.WideMaps Go.Maps Pl

theorem keyedS : Keyed Tryd.prog 9 := string_keyed Tryd.underlying9
theorem zeroI (w : World) : (zeroValue 3).run Tryd.prog w = .ok (.int .i64 0) w := by kernel_rfl

namespace Pl
/-- The power of those members that are named. -/
def sumOf (names : List Bs) : List (Bs × Int) → Int
  | [] => 0
  | x :: r => (if names.contains x.1 then x.2 else 0) + sumOf names r
theorem sumOf_app (names : List Bs) (a : List (Bs × Int)) (x : Bs × Int) : sumOf names (a ++ [x]) = sumOf names a + (if names.contains x.1 then x.2 else 0) := by
  induction a with
  | nil => simp [sumOf]
  | cons y r ih => simp only [List.cons_append, sumOf, ih]; omega
theorem sumOf_take (names : List Bs) (l : List (Bs × Int)) (h : ∀ i, i < l.length → 1 ≤ (l.getD i ([], 0)).2 ∧ (l.getD i ([], 0)).2 ≤ 1000) : ∀ k, k ≤ l.length → 0 ≤ sumOf names (l.take k) ∧ sumOf names (l.take k) ≤ 1000 * (k : Int)
  | 0, _ => by simp [sumOf]
  | k + 1, hk => by
    have h1 := sumOf_take names l h k (by omega)
    have h2 := h k (by omega)
    rw [take_getD l k (by omega), sumOf_app]
    split <;> omega
def ofM (l : List (Bs × Int)) (names : List Bs) : Int := if chkM l then sumOf names l else 0
end Pl

theorem ownsMap_keep {H : Type} {R : Value → Option (DataW H × List MemPlace)} {W w : World} {t : TypeId} {b n : Nat} {D : DataW H} (h : W.ownsMap Tryd.prog t R b n D) (hb : Below W.heap.size W w) : w.ownsMap Tryd.prog t R b n D := by
  obtain ⟨es, clock, h1, h2⟩ := h
  refine ⟨es, clock, (hb.block b ?_).trans h1, h2⟩
  rcases Nat.lt_or_ge b W.heap.size with hlt | hge
  · exact hlt
  · rw [Array.getElem?_eq_none hge] at h1; cases h1

set_option maxRecDepth 100000 in
set_option maxHeartbeats 400000 in
theorem mof_any (v u : Value) (l : List (Bs × Int)) (names : List Bs) (hn : names.length ≤ 1000) (hnl : ∀ i, i < names.length → (names.getD i []).length ≤ maxLen) (w : World) (hv : MS w v l) (hu : SS w u names) :
    Calls Tryd.prog 29 #[v, u] w fun e w' => e = .returned (.int .i64 (ofM l names)) ∧ Below w.heap.size w w' := by
  have hmm := @run_makeMap Tryd.prog
  generalize hr : ofM l names = r
  have HR := Lib.hid hr
  clear hr
  obtain ⟨a, c, rfl⟩ := hv.form
  obtain ⟨b, d, rfl⟩ := hu.form
  have hm := hv.small
  have hchk := mcheck_any _ l w hv
  have HV := Lib.hid hv
  have HU := Lib.hid hu
  clear hv hu
  cases hc : chkM l
  · rw [hc] at hchk
    have HC := Lib.hid hchk
    have HR2 : Hid (0 = r) := Lib.hid (by rw [← HR.out]; simp [ofM, hc])
    clear hchk hc HR HV HU
    go_enter Tryd.func29, Tryd.ntmps29
    go_wp2_with fail
    refine HC.out.mono ?_
    rintro e w1 ⟨rfl, hb⟩
    unfold setI
    go_wp2_with fail
    all_goals (go_ret; refine ⟨?_, hb⟩; rw [← HR2.out]; rfl)
  · rw [hc] at hchk
    have HC := Lib.hid hchk
    have HR2 : Hid (sumOf names l = r) := Lib.hid (by rw [← HR.out]; simp [ofM, hc])
    clear hchk HR
    go_enter Tryd.func29, Tryd.ntmps29
    go_wp2_with fail
    refine HC.out.mono ?_
    rintro e w1 ⟨rfl, hb⟩
    unfold setI
    go_wp2_with fail
    have hb1 := hb.alloc hb.size (Obj.map #[] 0)
    go_loopw [17] (fun s17 wr => ∃ i : Nat, i ≤ names.length ∧ s17 = .int .i64 i ∧ wr.ownsMap Tryd.prog 9 (plainElem Tryd.prog 3) w1.heap.size i (cntD (names.take i).reverse) ∧ Below w1.heap.size w1 wr) (fun s17 _ => names.length - (intOf s17).toNat)
    case atStart => exact ⟨0, by omega, rfl, World.ownsMap_made _ _ _ _, (Below.refl _ _).alloc (Nat.le_refl _) _⟩
    case round =>
      obtain ⟨i, hi, rfl, hown, hbm⟩ := hrel
      by_cases hlt : i < names.length
      · obtain ⟨g, off, rfl, c1⟩ := (HU.out.keep (hb.trans (hbm.mono hb.size))).at i hlt
        have hnx : cntD (names.take (i + 1)).reverse = (cntD (names.take i).reverse).put (.string (names.getD i [])) (.lit (.int .i64 ((((names.take i).reverse.count (names.getD i []) + 1 : Nat)) : Int))) := by
          rw [List.take_succ_eq_append_getElem hlt, List.reverse_append]
          simp [cntD, List.getD, List.getElem?_eq_getElem hlt]
        have hkey : keyOf Tryd.prog 9 (.string ⟨List.toArray (names.getD i [])⟩) = some (.string (names.getD i [])) := keyOf_string_mk Tryd.underlying9 (by simpa [ByteArray.size] using hnl i hlt)
        generalize names.getD i [] = n at *
        obtain ⟨k, hrun, hat, _⟩ := hown.lookup_int keyedS Tryd.underlying70 Tryd.underlying3 (zeroI _) hkey
        have hkc : k = ((names.take i).reverse.count n : Nat) := by
          rw [cntD_at] at hat
          injection hat with hat
          injection hat with _ hat
          exact hat.symm
        have hcl : (names.take i).reverse.count n ≤ i := Nat.le_trans (List.count_le_length) (by simp; omega)
        have q1 : IntKind.i64.wrap (k + 1) = k + 1 := IntWalk.i64_in _ (by omega)
        have hnx2 : cntD (names.take (i + 1)).reverse = (cntD (names.take i).reverse).put (.string n) (.lit (.int .i64 (k + 1))) := by rw [hnx, hkc]; rfl
        have hwf : (Lit.int .i64 (k + 1)).wf = true := by have h := wrap64_wf (k + 1); rw [← IntWalk.i64_left, q1] at h; exact h
        clear hnx hat hkc HU HV HC
        go_wp2_with (first
          | (at_mapUpdate; refine wpList_mapUpdate_own _ rfl _ _ _ 70 rfl 9 3 keyedS Tryd.underlying70 _ w1.heap.size i _ rfl hown (by unfold maxLen; omega) _ _ _ rfl rfl hkey _ [] (plainElem_int Tryd.underlying3 hwf) ?_)
          | go_in)
        intro w2 hown2 hgrow
        have R1 := hnx2.symm ▸ hown2
        have R2 := hbm.grown hgrow hbm.size (fun j hj => by cases hj; exact Nat.le_refl _)
        clear hown2 hgrow hown hrun
        go_wp2_with fail
        exact ⟨⟨i + 1, by omega, by go_num, R1, R2⟩, by simp [intOf]; omega⟩
      · obtain rfl : i = names.length := by omega
        obtain ⟨wq, h⟩ := Below.nm hbm
        subst h
        rw [List.take_length] at hown
        have hbq := hb.trans (hbm.mono hb.size)
        simp only [chkM, Bool.and_eq_true, decide_eq_true_eq] at hc
        have h7 := hc.1.2
        have HO := Lib.hid (okM_at l [] hc.2)
        have HB := Lib.hid (sumOf_take names l (fun i hi => (okM_at l [] hc.2 i hi).2))
        clear hc
        go_wp2_with fail
        go_loopw [8, 28] (fun s8 s28 wr => ∃ j : Nat, j ≤ l.length ∧ s28 = .int .i64 j ∧ s8 = .int .i64 (sumOf names (l.take j)) ∧ Below wq.heap.size wq wr) (fun _ s28 _ => l.length - (intOf s28).toNat)
        case atStart => exact ⟨0, by omega, rfl, by simp [sumOf], Below.refl _ _⟩
        case round =>
          obtain ⟨j, hj, rfl, rfl, hbj⟩ := hrel
          by_cases hlt : j < l.length
          · obtain ⟨wr, h⟩ := Below.nm hbj
            subst h
            obtain ⟨g, off, rfl, hg, c1, c2⟩ := (HV.out.keep (hbq.trans (hbj.mono hbq.size))).at j hlt
            obtain ⟨o1, o2, o3⟩ := HO.out j hlt
            have hB := HB.out j (by omega)
            have hnx : sumOf names (l.take (j + 1)) = sumOf names (l.take j) + (if names.contains (l.getD j ([], 0)).1 then (l.getD j ([], 0)).2 else 0) := by rw [take_getD l j hlt, sumOf_app]
            generalize hx : l.getD j ([], 0) = x at *
            obtain ⟨n, q⟩ := x
            simp only at c1 c2 hnx o1 o2 o3
            generalize sumOf names (l.take j) = s at *
            have hown2 := ownsMap_keep hown (Below.allocS hbj (.cells #[.string ⟨List.toArray (n)⟩, .int .i64 (q)] 77))
            have hkey : keyOf Tryd.prog 9 (.string ⟨List.toArray (n)⟩) = some (.string n) := keyOf_string_mk Tryd.underlying9 (by unfold maxLen; simp [ByteArray.size]; omega)
            obtain ⟨k, hrun, hat, _⟩ := hown2.lookup_int keyedS Tryd.underlying70 Tryd.underlying3 (zeroI _) hkey
            have hkc : k = (names.count n : Nat) := by
              rw [cntD_at, List.count_reverse] at hat
              injection hat with hat
              injection hat with _ hat
              exact hat.symm
            have q1 : IntKind.i64.wrap (s + q) = s + q := IntWalk.i64_in _ (by omega)
            clear hx hB HB HO hat hown2
            cases hin : names.contains n
            · rw [hin] at hnx
              have hk0 : decide ((0 : Int) < k) = false := by
                have : names.count n = 0 := List.count_eq_zero.2 (by simpa using hin)
                rw [hkc, this]; rfl
              clear hkc
              go_wp2_with fail
              exact ⟨⟨j + 1, by omega, by go_num, by rw [hnx]; simp, Below.allocS hbj _⟩, by simp [intOf]; omega⟩
            · rw [hin] at hnx
              have hk0 : decide ((0 : Int) < k) = true := by
                have : 0 < names.count n := List.count_pos_iff.2 (by simpa using hin)
                rw [hkc, decide_eq_true_iff]; omega
              clear hkc
              go_wp2_with fail
              exact ⟨⟨j + 1, by omega, by go_num, by rw [hnx]; simp, Below.allocS hbj _⟩, by simp [intOf]; omega⟩
          · obtain rfl : j = l.length := by omega
            go_wp2_with fail
            all_goals (go_ret; refine ⟨?_, hbq.trans (hbj.mono hbq.size)⟩; rw [← HR2.out]; simp)

end Go.Proofs.YtbnjhfkmdejeaaaDoor
