/- Of, Sort, Over, OkP. -/
import Derived.Maps.OwnOps
import Derived.Maps.Own
import Derived.Sort.OwnSorted
import Derived.Sort.EveryDepth
import Derived.Lib.OwnBridge
import Derived.Test.YtbnjhfkmdejeaaaMg1
import Derived.Test.YtbnjhfkmdejeaaaMg2
import Derived.Test.YtbnjhfkmdejeaaaMg3
set_option linter.unnecessarySimpa false

/- The power of those who are named: the program's. -/
set_option linter.unusedSimpArgs false
set_option linter.unusedVariables false
namespace Go.Proofs.Ytbnjhfkmdejeaaa
open Go.RowKit Go.WideMaps Go.Maps Pl

theorem keyedS : Keyed Try.prog 9 := string_keyed Try.underlying9
theorem zeroI (w : World) : (zeroValue 3).run Try.prog w = .ok (.int .i64 0) w := by kernel_rfl

namespace Pl
/-- The power of those members that are named. -/
def sumOf (names : List Bs) : List (Bs × Int) → Int
  | [] => 0
  | x :: r => (if names.contains x.1 then x.2 else 0) + sumOf names r
theorem sumOf_app (names : List Bs) (a : List (Bs × Int)) (x : Bs × Int) : sumOf names (a ++ [x]) = sumOf names a + (if names.contains x.1 then x.2 else 0) := by
  induction a with
  | nil => simp [sumOf]
  | cons y r ih => simp only [List.cons_append, sumOf, ih]; omega
theorem sumOf_take (names : List Bs) (l : List (Bs × Int)) (h : ∀ i, i < l.length → 1 ≤ (l.getD i ([], 0)).2 ∧ (l.getD i ([], 0)).2 ≤ 1000) : ∀ k, k ≤ l.length → 0 ≤ sumOf names (l.take k) ∧ sumOf names (l.take k) ≤ 1000 * (k : Int)
  | 0, _ => by simp [sumOf]
  | k + 1, hk => by
    have h1 := sumOf_take names l h k (by omega)
    have h2 := h k (by omega)
    rw [take_getD l k (by omega), sumOf_app]
    split <;> omega
def ofM (l : List (Bs × Int)) (names : List Bs) : Int := if chkM l then sumOf names l else 0
end Pl

theorem ownsMap_keep {H : Type} {R : Value → Option (DataW H × List MemPlace)} {W w : World} {t : TypeId} {b n : Nat} {D : DataW H} (h : W.ownsMap Try.prog t R b n D) (hb : Below W.heap.size W w) : w.ownsMap Try.prog t R b n D := by
  obtain ⟨es, clock, h1, h2⟩ := h
  refine ⟨es, clock, (hb.block b ?_).trans h1, h2⟩
  rcases Nat.lt_or_ge b W.heap.size with hlt | hge
  · exact hlt
  · rw [Array.getElem?_eq_none hge] at h1; cases h1

set_option maxRecDepth 100000 in
set_option maxHeartbeats 400000 in
theorem mof_any (v u : Value) (l : List (Bs × Int)) (names : List Bs) (hn : names.length ≤ 1000) (hnl : ∀ i, i < names.length → (names.getD i []).length ≤ maxLen) (w : World) (hv : MS w v l) (hu : SS w u names) :
    Calls Try.prog 6 #[v, u] w fun e w' => e = .returned (.int .i64 (ofM l names)) ∧ Below w.heap.size w w' := by
  have hmm := @run_makeMap Try.prog
  generalize hr : ofM l names = r
  have HR := Lib.hid hr
  clear hr
  obtain ⟨a, c, rfl⟩ := hv.form
  obtain ⟨b, d, rfl⟩ := hu.form
  have hm := hv.small
  have hchk := mcheck_any _ l w hv
  have HV := Lib.hid hv
  have HU := Lib.hid hu
  clear hv hu
  cases hc : chkM l
  · rw [hc] at hchk
    have HC := Lib.hid hchk
    have HR2 : Hid (0 = r) := Lib.hid (by rw [← HR.out]; simp [ofM, hc])
    clear hchk hc HR HV HU
    go_enter Try.func6, Try.ntmps6
    go_wp2_with fail
    refine HC.out.mono ?_
    rintro e w1 ⟨rfl, hb⟩
    unfold setI
    go_wp2_with fail
    all_goals (go_ret; refine ⟨?_, hb⟩; rw [← HR2.out]; rfl)
  · rw [hc] at hchk
    have HC := Lib.hid hchk
    have HR2 : Hid (sumOf names l = r) := Lib.hid (by rw [← HR.out]; simp [ofM, hc])
    clear hchk HR
    go_enter Try.func6, Try.ntmps6
    go_wp2_with fail
    refine HC.out.mono ?_
    rintro e w1 ⟨rfl, hb⟩
    unfold setI
    go_wp2_with fail
    have hb1 := hb.alloc hb.size (Obj.map #[] 0)
    go_loopw [17] (fun s17 wr => ∃ i : Nat, i ≤ names.length ∧ s17 = .int .i64 i ∧ wr.ownsMap Try.prog 9 (plainElem Try.prog 3) w1.heap.size i (cntD (names.take i).reverse) ∧ Below w1.heap.size w1 wr) (fun s17 _ => names.length - (intOf s17).toNat)
    case atStart => exact ⟨0, by omega, rfl, World.ownsMap_made _ _ _ _, (Below.refl _ _).alloc (Nat.le_refl _) _⟩
    case round =>
      obtain ⟨i, hi, rfl, hown, hbm⟩ := hrel
      by_cases hlt : i < names.length
      · obtain ⟨g, off, rfl, c1⟩ := (HU.out.keep (hb.trans (hbm.mono hb.size))).at i hlt
        have hnx : cntD (names.take (i + 1)).reverse = (cntD (names.take i).reverse).put (.string (names.getD i [])) (.lit (.int .i64 ((((names.take i).reverse.count (names.getD i []) + 1 : Nat)) : Int))) := by
          rw [List.take_succ_eq_append_getElem hlt, List.reverse_append]
          simp [cntD, List.getD, List.getElem?_eq_getElem hlt]
        have hkey : keyOf Try.prog 9 (.string ⟨List.toArray (names.getD i [])⟩) = some (.string (names.getD i [])) := keyOf_string_mk Try.underlying9 (by simpa [ByteArray.size] using hnl i hlt)
        generalize names.getD i [] = n at *
        obtain ⟨k, hrun, hat, _⟩ := hown.lookup_int keyedS Try.underlying53 Try.underlying3 (zeroI _) hkey
        have hkc : k = ((names.take i).reverse.count n : Nat) := by
          rw [cntD_at] at hat
          injection hat with hat
          injection hat with _ hat
          exact hat.symm
        have hcl : (names.take i).reverse.count n ≤ i := Nat.le_trans (List.count_le_length) (by simp; omega)
        have q1 : IntKind.i64.wrap (k + 1) = k + 1 := IntWalk.i64_in _ (by omega)
        have hnx2 : cntD (names.take (i + 1)).reverse = (cntD (names.take i).reverse).put (.string n) (.lit (.int .i64 (k + 1))) := by rw [hnx, hkc]; rfl
        have hwf : (Lit.int .i64 (k + 1)).wf = true := by have h := wrap64_wf (k + 1); rw [← IntWalk.i64_left, q1] at h; exact h
        clear hnx hat hkc HU HV HC
        go_wp2_with (first
          | (at_mapUpdate; refine wpList_mapUpdate_own _ rfl _ _ _ 53 rfl 9 3 keyedS Try.underlying53 _ w1.heap.size i _ rfl hown (by unfold maxLen; omega) _ _ _ rfl rfl hkey _ [] (plainElem_int Try.underlying3 hwf) ?_)
          | go_in)
        intro w2 hown2 hgrow
        have R1 := hnx2.symm ▸ hown2
        have R2 := hbm.grown hgrow hbm.size (fun j hj => by cases hj; exact Nat.le_refl _)
        clear hown2 hgrow hown hrun
        go_wp2_with fail
        exact ⟨⟨i + 1, by omega, by go_num, R1, R2⟩, by simp [intOf]; omega⟩
      · obtain rfl : i = names.length := by omega
        obtain ⟨wq, h⟩ := Below.nm hbm
        subst h
        rw [List.take_length] at hown
        have hbq := hb.trans (hbm.mono hb.size)
        simp only [chkM, Bool.and_eq_true, decide_eq_true_eq] at hc
        have h7 := hc.1.2
        have HO := Lib.hid (okM_at l [] hc.2)
        have HB := Lib.hid (sumOf_take names l (fun i hi => (okM_at l [] hc.2 i hi).2))
        clear hc
        go_wp2_with fail
        go_loopw [8, 28] (fun s8 s28 wr => ∃ j : Nat, j ≤ l.length ∧ s28 = .int .i64 j ∧ s8 = .int .i64 (sumOf names (l.take j)) ∧ Below wq.heap.size wq wr) (fun _ s28 _ => l.length - (intOf s28).toNat)
        case atStart => exact ⟨0, by omega, rfl, by simp [sumOf], Below.refl _ _⟩
        case round =>
          obtain ⟨j, hj, rfl, rfl, hbj⟩ := hrel
          by_cases hlt : j < l.length
          · obtain ⟨wr, h⟩ := Below.nm hbj
            subst h
            obtain ⟨g, off, rfl, hg, c1, c2⟩ := (HV.out.keep (hbq.trans (hbj.mono hbq.size))).at j hlt
            obtain ⟨o1, o2, o3⟩ := HO.out j hlt
            have hB := HB.out j (by omega)
            have hnx : sumOf names (l.take (j + 1)) = sumOf names (l.take j) + (if names.contains (l.getD j ([], 0)).1 then (l.getD j ([], 0)).2 else 0) := by rw [take_getD l j hlt, sumOf_app]
            generalize hx : l.getD j ([], 0) = x at *
            obtain ⟨n, q⟩ := x
            simp only at c1 c2 hnx o1 o2 o3
            generalize sumOf names (l.take j) = s at *
            have hown2 := ownsMap_keep hown (Below.allocS hbj (.cells #[.string ⟨List.toArray (n)⟩, .int .i64 (q)] 42))
            have hkey : keyOf Try.prog 9 (.string ⟨List.toArray (n)⟩) = some (.string n) := keyOf_string_mk Try.underlying9 (by unfold maxLen; simp [ByteArray.size]; omega)
            obtain ⟨k, hrun, hat, _⟩ := hown2.lookup_int keyedS Try.underlying53 Try.underlying3 (zeroI _) hkey
            have hkc : k = (names.count n : Nat) := by
              rw [cntD_at, List.count_reverse] at hat
              injection hat with hat
              injection hat with _ hat
              exact hat.symm
            have q1 : IntKind.i64.wrap (s + q) = s + q := IntWalk.i64_in _ (by omega)
            clear hx hB HB HO hat hown2
            cases hin : names.contains n
            · rw [hin] at hnx
              have hk0 : decide ((0 : Int) < k) = false := by
                have : names.count n = 0 := List.count_eq_zero.2 (by simpa using hin)
                rw [hkc, this]; rfl
              clear hkc
              go_wp2_with fail
              exact ⟨⟨j + 1, by omega, by go_num, by rw [hnx]; simp, Below.allocS hbj _⟩, by simp [intOf]; omega⟩
            · rw [hin] at hnx
              have hk0 : decide ((0 : Int) < k) = true := by
                have : 0 < names.count n := List.count_pos_iff.2 (by simpa using hin)
                rw [hkc, decide_eq_true_iff]; omega
              clear hkc
              go_wp2_with fail
              exact ⟨⟨j + 1, by omega, by go_num, by rw [hnx]; simp, Below.allocS hbj _⟩, by simp [intOf]; omega⟩
          · obtain rfl : j = l.length := by omega
            go_wp2_with fail
            all_goals (go_ret; refine ⟨?_, hbq.trans (hbj.mono hbq.size)⟩; rw [← HR2.out]; simp)

end Go.Proofs.Ytbnjhfkmdejeaaa

/- slices.Sort, slices.Compact at []string on slices that the call made; what two lists have in common: the program's. -/
set_option linter.unusedSimpArgs false
set_option linter.unusedVariables false
namespace Go.Proofs.Ytbnjhfkmdejeaaa
open Go.RowKit Go.WideMaps Go.Maps Go.Sort Pl

theorem Pl.takeS (l : List Bs) (i : Nat) (hi : i < l.length) : l.take (i + 1) = l.take i ++ [l.getD i []] := by
  rw [List.take_add_one, List.getElem?_eq_getElem hi, List.getD_eq_getElem?_getD, List.getElem?_eq_getElem hi]
  rfl
theorem sv_enc (l : List Bs) : sv l = l.map encStr := rfl

theorem sort_row (base : Nat) (v : Value) (l : List Bs) (hl : l.length < 4611686018427387904) (w : World) (hb : base ≤ w.heap.size) (h : SRow w base v l) :
    Calls Try.prog 17 #[v] w fun e w' => e = .returned (.tuple #[]) ∧ SRow w' base v (l.mergeSort fun x y => decide (x ≤ y)) ∧ Below base w w' := by
  by_cases hv : v = .slice none 0 0
  · subst hv
    have h0 : l = [] := by
      rcases h.cells with ⟨_, h⟩ | ⟨g, cap, h, _⟩
      · exact h
      · cases h
    subst h0
    refine (calls_of_every_depth fun D => AnyS.slices_Sort_string_none_alone laysSort D none 0 w).mono ?_
    rintro e w' ⟨rfl, rfl⟩
    exact ⟨rfl, by simpa using SRow.nil _ _, Below.refl _ _⟩
  · have h' : w.ownsRow base 9 1 v l.length (l.map encStr) := h
    obtain ⟨g, cap, rfl, h1, h2, h3, h4, h5, h6⟩ := Lib.holds_of_ownsRow h' hv
    refine (calls_of_every_depth fun D => AnyS.slices_Sort_string_alone laysSort D g 0 cap l w h6 h2 hl).mono ?_
    rintro e w' ⟨rfl, n, os, rfl⟩
    have hlen : (l.mergeSort fun x y => decide (x ≤ y)).length = l.length := List.length_mergeSort l
    rcases h'.2 with ⟨h0, _⟩ | ⟨g', cap', cur, hv', q1, q2, q3, q4, q5, q6⟩
    · cases h0
    · injection hv' with e1 _ e3
      injection e1 with e1
      injection e1 with e1 _ _
      subst e1 e3
      have hs := ownsRow_sorted (n := n) (os := os) (ts := l.mergeSort fun x y => decide (x ≤ y)) hlen q1 q2 q3 q4 q5
      refine ⟨rfl, ?_, grown_below (grownBy_sorted _) hb (fun k hk => by cases hk; exact q1)⟩
      unfold SRow
      rw [hlen]
      exact hs

theorem compact_row (base : Nat) (v : Value) (l : List Bs) (w : World) (hb : base ≤ w.heap.size) (h : SRow w base v l) :
    Calls Try.prog 18 #[v] w fun e w' => ∃ v', e = .returned v' ∧ SRow w' base v' (Lib.compact l) ∧ Below base w w' := by
  by_cases hv : v = .slice none 0 0
  · subst hv
    have h0 : l = [] := by
      rcases h.cells with ⟨_, h⟩ | ⟨g, cap, h, _⟩
      · exact h
      · cases h
    subst h0
    refine (calls_of_every_depth fun D => AnyS.slices_Compact_string_empty_in laysCompact D none 0 w).mono ?_
    rintro e w' ⟨rfl, rfl⟩
    exact ⟨_, rfl, by simpa [Lib.compact, Lib.compactUpTo] using SRow.nil _ _, Below.refl _ _⟩
  · have h' : w.ownsRow base 9 1 v l.length (l.map encStr) := h
    obtain ⟨g, cap, rfl, h1, h2, h3, h4, h5, h6⟩ := Lib.holds_of_ownsRow h' hv
    refine (calls_of_every_depth fun D => AnyS.slices_Compact_string_in laysCompact D g 0 cap l w h6 (by unfold maxLen at h4; omega) h3).mono ?_
    rintro e w' ⟨rfl, q, rfl⟩
    have hle := Lib.compact_length_le l
    have hc := Lib.ownsRow_putRow (q := q) (k := (Lib.compact l).length) (ys := Lib.compact l ++ List.replicate (l.length - (Lib.compact l).length) []) h' (by simp; omega) (by omega)
    rw [List.take_left] at hc
    exact ⟨_, rfl, hc, Lib.below_putRow (Below.refl _ _) h1⟩

theorem both_len {a b l : List Bs} (h : IsBoth a b l) : l.length ≤ b.length :=
  nodup_len l b (h.1.imp (fun {x y} h e => by subst e; exact absurd h (List.lt_irrefl _))) (fun x hx => ((h.2 x).1 hx).2)

theorem selP_take (a b : List Bs) (i : Nat) (hi : i < b.length) : selP a (b.take (i + 1)) = selP a (b.take i) ++ (if a.contains (b.getD i []) then [b.getD i []] else []) := by
  rw [takeS b i hi]
  unfold selP
  rw [List.filter_append]
  congr 1
  cases h : a.contains (b.getD i [])
  · rw [List.filter_cons_of_neg (by rw [h]; simp)]; simp
  · rw [List.filter_cons_of_pos (by rw [h])]; simp
theorem selP_len (a b : List Bs) : (selP a b).length ≤ b.length := List.length_filter_le _ _

set_option maxRecDepth 100000 in
set_option maxHeartbeats 1000000 in
theorem mboth_any (u v : Value) (a b : List Bs) (ha : a.length ≤ 1000) (hb0 : b.length ≤ 1000) (hal : ∀ i, i < a.length → (a.getD i []).length ≤ maxLen) (hbl : ∀ i, i < b.length → (b.getD i []).length ≤ maxLen) (w : World) (hu : SS w u a) (hv : SS w v b) :
    Calls Try.prog 9 #[u, v] w fun e w' => ∃ x, e = .returned x ∧ SRow w' w.heap.size x (bothP a b) ∧ Below w.heap.size w w' := by
  have hmm := @run_makeMap Try.prog
  obtain ⟨pa, ca, rfl⟩ := hu.form
  obtain ⟨pb, cb, rfl⟩ := hv.form
  have HU := Lib.hid hu
  have HV := Lib.hid hv
  clear hu hv
  go_enter Try.func9, Try.ntmps9
  go_wp2_with fail
  go_loopw [14] (fun s14 wr => ∃ i : Nat, i ≤ a.length ∧ s14 = .int .i64 i ∧ wr.ownsMap Try.prog 9 (plainElem Try.prog 3) w.heap.size i (cntD (a.take i).reverse) ∧ Below w.heap.size w wr) (fun s14 _ => a.length - (intOf s14).toNat)
  case atStart => exact ⟨0, by omega, rfl, World.ownsMap_made _ _ _ _, (Below.refl _ _).alloc (Nat.le_refl _) _⟩
  case round =>
    obtain ⟨i, hi, rfl, hown, hbm⟩ := hrel
    by_cases hlt : i < a.length
    · obtain ⟨g, off, rfl, c1⟩ := (HU.out.keep hbm).at i hlt
      have hnx : cntD (a.take (i + 1)).reverse = (cntD (a.take i).reverse).put (.string (a.getD i [])) (.lit (.int .i64 ((((a.take i).reverse.count (a.getD i []) + 1 : Nat)) : Int))) := by
        rw [List.take_succ_eq_append_getElem hlt, List.reverse_append]
        simp [cntD, List.getD, List.getElem?_eq_getElem hlt]
      have hkey : keyOf Try.prog 9 (.string ⟨List.toArray (a.getD i [])⟩) = some (.string (a.getD i [])) := keyOf_string_mk Try.underlying9 (by simpa [ByteArray.size] using hal i hlt)
      generalize a.getD i [] = n at *
      obtain ⟨k, hrun, hat, _⟩ := hown.lookup_int keyedS Try.underlying53 Try.underlying3 (zeroI _) hkey
      have hkc : k = ((a.take i).reverse.count n : Nat) := by
        rw [cntD_at] at hat
        injection hat with hat
        injection hat with _ hat
        exact hat.symm
      have hcl : (a.take i).reverse.count n ≤ i := Nat.le_trans (List.count_le_length) (by simp; omega)
      have q1 : IntKind.i64.wrap (k + 1) = k + 1 := IntWalk.i64_in _ (by omega)
      have hnx2 : cntD (a.take (i + 1)).reverse = (cntD (a.take i).reverse).put (.string n) (.lit (.int .i64 (k + 1))) := by rw [hnx, hkc]; rfl
      have hwf : (Lit.int .i64 (k + 1)).wf = true := by have h := wrap64_wf (k + 1); rw [← IntWalk.i64_left, q1] at h; exact h
      clear hnx hat hkc HU HV
      go_wp2_with (first
        | (at_mapUpdate; refine wpList_mapUpdate_own _ rfl _ _ _ 53 rfl 9 3 keyedS Try.underlying53 _ w.heap.size i _ rfl hown (by unfold maxLen; omega) _ _ _ rfl rfl hkey _ [] (plainElem_int Try.underlying3 hwf) ?_)
        | go_in)
      intro w2 hown2 hgrow
      have R1 := hnx2.symm ▸ hown2
      have R2 := hbm.grown hgrow hbm.size (fun j hj => by cases hj; exact Nat.le_refl _)
      clear hown2 hgrow hown hrun
      go_wp2_with fail
      exact ⟨⟨i + 1, by omega, by go_num, R1, R2⟩, by simp [intOf]; omega⟩
    · obtain rfl : i = a.length := by omega
      obtain ⟨wq, h⟩ := Below.nm hbm
      subst h
      rw [List.take_length] at hown
      have hqs := hbm.size
      go_wp2_with fail
      go_loopw [8, 25] (fun s8 s25 wr => ∃ j : Nat, j ≤ b.length ∧ s25 = .int .i64 j ∧ SRow wr wq.heap.size s8 (selP a (b.take j)) ∧ Below wq.heap.size wq wr) (fun _ s25 _ => b.length - (intOf s25).toNat)
      case atStart => exact ⟨0, by omega, rfl, by simpa [selP] using SRow.nil _ _, Below.refl _ _⟩
      case round =>
        obtain ⟨j, hj, rfl, hS, hbj⟩ := hrel
        obtain ⟨wr, h⟩ := Below.nm hbj
        subst h
        have hbr := hbm.trans (hbj.mono hqs)
        by_cases hlt : j < b.length
        · obtain ⟨g, off, rfl, c1⟩ := (HV.out.keep hbr).at j hlt
          have hnx := selP_take a b j hlt
          have hsl := selP_len a (b.take j)
          rw [List.length_take] at hsl
          have hn6 := hbl j hlt
          generalize hx : b.getD j [] = n at *
          have HX := Lib.hid hx
          have HNX := Lib.hid hnx
          clear hx hnx
          generalize selP a (b.take j) = ns at *
          have hown2 := ownsMap_keep hown hbj
          have hkey : keyOf Try.prog 9 (.string ⟨List.toArray (n)⟩) = some (.string n) := keyOf_string_mk Try.underlying9 (by simpa [ByteArray.size] using hn6)
          obtain ⟨k, hrun, hat, _⟩ := hown2.lookup_int keyedS Try.underlying53 Try.underlying3 (zeroI _) hkey
          have hkc : k = (a.count n : Nat) := by
            rw [cntD_at, List.count_reverse] at hat
            injection hat with hat
            injection hat with _ hat
            exact hat.symm
          have hrs := hbj.size
          clear hat hown2
          cases hin : a.contains n
          · have HN2 : Hid (selP a (b.take (j + 1)) = ns) := Lib.hid (by rw [HNX.out, hin]; simp)
            have hk0 : decide ((0 : Int) < k) = false := by
              have : a.count n = 0 := List.count_eq_zero.2 (by simpa using hin)
              rw [hkc, this]; rfl
            clear hkc HNX hin
            go_wp2_with fail
            exact ⟨⟨j + 1, by omega, by go_num, by rw [HN2.out]; exact hS, hbj⟩, by simp [intOf]; omega⟩
          · have HN2 : Hid (selP a (b.take (j + 1)) = ns ++ [n]) := Lib.hid (by rw [HNX.out, hin]; simp)
            have hk0 : decide ((0 : Int) < k) = true := by
              have : 0 < a.count n := List.count_pos_iff.2 (by simpa using hin)
              rw [hkc, decide_eq_true_iff]; omega
            clear hkc HNX hin
            go_wp2_with (first
              | (at_builtin; refine wpList_appS rfl (.tmp 33) (.tmp 35) rfl wq.heap.size _ ns rfl (hS.alloc _) wr.heap.size 0 1 1 [n] rfl rfl (ssrc1 _ _ _) (by simp; omega) (by simp; omega) ?_; rintro v8 w8 hS8 hb8)
              | fail)
            exact ⟨⟨j + 1, by omega, by go_num, by rw [HN2.out]; exact hS8, (Below.allocS hbj (.cells #[.string ⟨List.toArray (n)⟩] 9)).trans hb8⟩, by simp [intOf]; omega⟩
        · obtain rfl : j = b.length := by omega
          rw [List.take_length] at hS
          have hsl := selP_len a b
          have hrs := hbj.size
          have HB : Hid (Lib.compact ((selP a b).mergeSort fun x y => decide (x ≤ y)) = bothP a b) := Lib.hid rfl
          generalize selP a b = ns at *
          go_wp2_with fail
          refine (sort_row wq.heap.size _ ns (by omega) _ hrs hS).mono ?_
          rintro e w9 ⟨rfl, hS9, hb9⟩
          have hb10 := hbj.trans hb9
          go_wp2_with fail
          refine (compact_row wq.heap.size _ _ _ hb10.size hS9).mono ?_
          rintro e w11 ⟨x, rfl, hS11, hb11⟩
          go_wp2_with fail
          all_goals (go_ret; refine ⟨x, rfl, ?_, (hbm.trans (hb10.mono hqs)).trans (hb11.mono hqs)⟩)
          rw [← HB.out]
          exact hS11.low hqs
end Go.Proofs.Ytbnjhfkmdejeaaa

/- Walk of the statement PowerOverlap, and the sums that it leans on. -/
set_option linter.unusedSimpArgs false
set_option linter.unusedVariables false
namespace Go.Proofs.Ytbnjhfkmdejeaaa
open Go.RowKit Pl

namespace Pl
theorem sum_mono (X Y : List Bs) (h : ∀ x, x ∈ X → x ∈ Y) : ∀ l : List (Bs × Int), (∀ m ∈ l, 0 ≤ m.2) → sumOf X l ≤ sumOf Y l
  | [], _ => by simp [sumOf]
  | m :: l, hp => by
    have ih := sum_mono X Y h l (fun x hx => hp x (by simp [hx]))
    have h0 := hp m (by simp)
    simp only [sumOf, List.contains_iff_mem]
    by_cases h1 : m.1 ∈ X
    · rw [if_pos h1, if_pos (h _ h1)]; omega
    · rw [if_neg h1]
      by_cases h2 : m.1 ∈ Y
      · rw [if_pos h2]; omega
      · rw [if_neg h2]; omega
theorem sum_incl (A B C : List Bs) (h : ∀ x, x ∈ A → x ∈ B → x ∈ C) : ∀ l : List (Bs × Int), (∀ m ∈ l, 0 ≤ m.2) → sumOf A l + sumOf B l ≤ sumM l + sumOf C l
  | [], _ => by simp [sumOf, sumM]
  | m :: l, hp => by
    have ih := sum_incl A B C h l (fun x hx => hp x (by simp [hx]))
    have h0 := hp m (by simp)
    simp only [sumOf, sumM, List.contains_iff_mem]
    by_cases h1 : m.1 ∈ A
    · by_cases h2 : m.1 ∈ B
      · rw [if_pos h1, if_pos h2, if_pos (h _ h1 h2)]; omega
      · rw [if_pos h1, if_neg h2]
        split <;> omega
    · rw [if_neg h1]
      split <;> split <;> omega
theorem sum_mono2 (X Y : List Bs) : ∀ l : List (Bs × Int), (∀ m ∈ l, 0 ≤ m.2) → (∀ m ∈ l, m.1 ∈ X → m.1 ∈ Y) → sumOf X l ≤ sumOf Y l
  | [], _, _ => by simp [sumOf]
  | m :: l, hp, h => by
    have ih := sum_mono2 X Y l (fun x hx => hp x (by simp [hx])) (fun x hx => h x (by simp [hx]))
    have h0 := hp m (by simp)
    simp only [sumOf, List.contains_iff_mem]
    by_cases h1 : m.1 ∈ X
    · rw [if_pos h1, if_pos (h m (by simp) h1)]; omega
    · rw [if_neg h1]
      split <;> omega
theorem pow_pos_of {l : List (Bs × Int)} (hc : chkM l = true) : ∀ m ∈ l, 0 ≤ m.2 := by
  simp only [chkM, Bool.and_eq_true, decide_eq_true_eq] at hc
  intro m hm
  obtain ⟨i, hi, rfl⟩ := List.getElem_of_mem hm
  have := (okM_at l [] hc.2 i hi).2.1
  rw [List.getD_eq_getElem?_getD, List.getElem?_eq_getElem hi] at this
  simp at this
  omega
theorem tot_pos {l : List (Bs × Int)} (hc : chkM l = true) : 1 ≤ totM l := by
  have hc2 := hc
  simp only [chkM, Bool.and_eq_true, decide_eq_true_eq] at hc2
  have h := sumM_take l (fun i hi => (okM_at l [] hc2.2 i hi).2) l.length (by omega)
  rw [List.take_length] at h
  rw [totM, if_pos hc]
  have := hc2.1.1
  omega
theorem quo_of {l : List (Bs × Int)} (hc : chkM l = true) : quoM l = 2 * totM l / 3 + 1 := by
  have := tot_pos hc
  unfold quoM
  rw [if_neg (by omega), Int.tdiv_eq_ediv_of_nonneg (by omega)]
theorem quo_bound (l : List (Bs × Int)) : quoM l ≤ 4700 ∧ 0 ≤ quoM l := by
  have := totM_bound l
  unfold quoM
  split
  · omega
  · rw [Int.tdiv_eq_ediv_of_nonneg (by omega)]; omega
theorem most_of {l : List (Bs × Int)} (hc : chkM l = true) : mostM l = (totM l - 1) / 3 := by
  have := tot_pos hc
  unfold mostM
  rw [if_neg (by omega), Int.tdiv_eq_ediv_of_nonneg (by omega)]
theorem of_bound {l : List (Bs × Int)} (X : List Bs) (hc : chkM l = true) : 0 ≤ ofM l X ∧ ofM l X ≤ 7000 := by
  have hc2 := hc
  simp only [chkM, Bool.and_eq_true, decide_eq_true_eq] at hc2
  have h := sumOf_take X l (fun i hi => (okM_at l [] hc2.2 i hi).2) l.length (by omega)
  rw [List.take_length] at h
  rw [ofM, if_pos hc]
  omega
/-- What the statement says, of numbers alone. -/
theorem over_law {l : List (Bs × Int)} {A B C : List Bs} (hc : chkM l = true) (h : IsBoth A B C) :
    ofM l C ≤ ofM l A ∧ ofM l C ≤ ofM l B ∧ (quoM l ≤ ofM l A → quoM l ≤ ofM l B → mostM l < ofM l C ∧ totM l < 3 * ofM l C) := by
  have hp := pow_pos_of hc
  have h1 := sum_mono C A (fun x hx => ((h.2 x).1 hx).1) l hp
  have h2 := sum_mono C B (fun x hx => ((h.2 x).1 hx).2) l hp
  have h3 := sum_incl A B C (fun x ha hb => (h.2 x).2 ⟨ha, hb⟩) l hp
  have ht := tot_pos hc
  rw [quo_of hc, most_of hc]
  simp only [ofM, totM, hc, if_true] at *
  refine ⟨h1, h2, fun h4 h5 => ⟨?_, ?_⟩⟩ <;> omega
end Pl

end Go.Proofs.Ytbnjhfkmdejeaaa

/- Plain: names of members and of signers rise. -/
set_option linter.unusedSimpArgs false
set_option linter.unusedVariables false
namespace Go.Proofs.Ytbnjhfkmdejeaaa
namespace Pl

theorem less_lt0 : ∀ (x y : Bs), Op.bytesLess x y = decide (x < y)
  | [], [] => by simp [Op.bytesLess]
  | _ :: _, [] => by simp [Op.bytesLess]
  | [], _ :: _ => by simp [Op.bytesLess]
  | a :: x, b :: y => by
    rw [Op.bytesLess, less_lt0 x y]
    simp only [List.cons_lt_cons_iff]
    by_cases h1 : a < b <;> by_cases h2 : a = b <;> by_cases h3 : x < y <;> simp [h1, h2, h3]
theorem leS_false (x z : Bs) : leS x z = false ↔ z < x := by
  unfold leS
  rw [Bool.or_eq_false_iff, less_lt0, decide_eq_false_iff_not]
  constructor
  · rintro ⟨h1, h2⟩
    rcases Classical.em (z < x) with h | h
    · exact h
    · have := List.le_antisymm (List.not_lt.1 h) (List.not_lt.1 h1)
      simp [this] at h2
  · intro h
    refine ⟨fun h2 => absurd (List.lt_trans h h2) (List.lt_irrefl z), ?_⟩
    rw [beq_eq_false_iff_ne]
    intro e
    subst e
    exact absurd h (List.lt_irrefl _)
theorem okS_low : ∀ (l : List Bs) {n z : Bs}, okS n l = true → leS n z = false → okS z l = true
  | [], _, _, _, _ => rfl
  | x :: r, n, z, h, hz => by
    simp only [okS, Bool.and_eq_true, Bool.not_eq_true', Bool.or_eq_false_iff, decide_eq_false_iff_not] at h ⊢
    obtain ⟨⟨h1, h2⟩, h5⟩ := h
    exact ⟨⟨(leS_false x z).2 (List.lt_trans ((leS_false n z).1 hz) ((leS_false x n).1 h1)), h2⟩, h5⟩
theorem okS_sorted : ∀ (l : List Bs) (z : Bs), okS z l = true → (∀ x ∈ l, z < x) ∧ l.Pairwise (fun x y => x < y)
  | [], _, _ => ⟨by simp, List.Pairwise.nil⟩
  | n :: r, z, h => by
    simp only [okS, Bool.and_eq_true, Bool.not_eq_true', Bool.or_eq_false_iff, decide_eq_false_iff_not] at h
    obtain ⟨⟨h1, h2⟩, h5⟩ := h
    obtain ⟨h6, h7⟩ := okS_sorted r n h5
    have hzn : z < n := (leS_false n z).1 h1
    exact ⟨fun x hx => by
      rcases List.mem_cons.1 hx with rfl | hx
      · exact hzn
      · exact List.lt_trans hzn (h6 x hx), List.pairwise_cons.2 ⟨h6, h7⟩⟩
theorem okM_okS : ∀ (l : List (Bs × Int)) (z : Bs) (f : Bs × Int → Bool), okM z l = true → okS z ((l.filter f).map (·.1)) = true
  | [], _, _, _ => rfl
  | (n, p) :: r, z, f, h => by
    simp only [okM, Bool.and_eq_true, Bool.not_eq_true', Bool.or_eq_false_iff, decide_eq_false_iff_not] at h
    obtain ⟨⟨⟨⟨h1, h2⟩, h3⟩, h4⟩, h5⟩ := h
    by_cases hf : f (n, p) = true
    · rw [List.filter_cons_of_pos hf]
      simp only [List.map_cons, okS, Bool.and_eq_true, Bool.not_eq_true', Bool.or_eq_false_iff, decide_eq_false_iff_not]
      exact ⟨⟨h2, h1⟩, okM_okS r n f h5⟩
    · rw [List.filter_cons_of_neg hf]
      exact okS_low _ (okM_okS r n f h5) h2
end Pl
end Go.Proofs.Ytbnjhfkmdejeaaa
