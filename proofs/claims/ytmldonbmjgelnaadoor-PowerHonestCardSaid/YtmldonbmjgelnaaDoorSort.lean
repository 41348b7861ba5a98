/- slices.Sort, slices.Compact at []string on slices that the call made; what two lists have in common: the program's. -/
import Derived.Test.YtmldonbmjgelnaaDoorShelf
import Derived.Test.YtmldonbmjgelnaaDoorBothP
import Derived.Test.YtmldonbmjgelnaaDoorOf
import Derived.Test.YtmldonbmjgelnaaDoorRList
import Derived.Sort.OwnSorted
import Derived.Sort.EveryDepth
import Derived.Lib.OwnBridge
set_option linter.unusedSimpArgs false
set_option linter.unusedVariables false
namespace Go.Proofs.YtmldonbmjgelnaaDoor
open Go.RowKit Go.WideMaps Go.Maps Go.Sort Pl

theorem sv_enc (l : List Bs) : sv l = l.map encStr := rfl

theorem sort_row (base : Nat) (v : Value) (l : List Bs) (hl : l.length < 4611686018427387904) (w : World) (hb : base ≤ w.heap.size) (h : SRow w base v l) :
    Calls Tryd.prog 90 #[v] w fun e w' => e = .returned (.tuple #[]) ∧ SRow w' base v (l.mergeSort fun x y => decide (x ≤ y)) ∧ Below base w w' := by
  by_cases hv : v = .slice none 0 0
  · subst hv
    have h0 : l = [] := by
      rcases h.cells with ⟨_, h⟩ | ⟨g, cap, h, _⟩
      · exact h
      · cases h
    subst h0
    refine (calls_of_every_depth fun D => AnyS.slices_Sort_string_none_alone laysSort D none 0 w).mono ?_
    rintro e w' ⟨rfl, rfl⟩
    exact ⟨rfl, by simpa using SRow.nil _ _, Below.refl _ _⟩
  · have h' : w.ownsRow base 9 1 v l.length (l.map encStr) := h
    obtain ⟨g, cap, rfl, h1, h2, h3, h4, h5, h6⟩ := Lib.holds_of_ownsRow h' hv
    refine (calls_of_every_depth fun D => AnyS.slices_Sort_string_alone laysSort D g 0 cap l w h6 h2 hl).mono ?_
    rintro e w' ⟨rfl, n, os, rfl⟩
    have hlen : (l.mergeSort fun x y => decide (x ≤ y)).length = l.length := List.length_mergeSort l
    rcases h'.2 with ⟨h0, _⟩ | ⟨g', cap', cur, hv', q1, q2, q3, q4, q5, q6⟩
    · cases h0
    · injection hv' with e1 _ e3
      injection e1 with e1
      injection e1 with e1 _ _
      subst e1 e3
      have hs := ownsRow_sorted (n := n) (os := os) (ts := l.mergeSort fun x y => decide (x ≤ y)) hlen q1 q2 q3 q4 q5
      refine ⟨rfl, ?_, grown_below (grownBy_sorted _) hb (fun k hk => by cases hk; exact q1)⟩
      unfold SRow
      rw [hlen]
      exact hs

theorem compact_row (base : Nat) (v : Value) (l : List Bs) (w : World) (hb : base ≤ w.heap.size) (h : SRow w base v l) :
    Calls Tryd.prog 91 #[v] w fun e w' => ∃ v', e = .returned v' ∧ SRow w' base v' (Lib.compact l) ∧ Below base w w' := by
  by_cases hv : v = .slice none 0 0
  · subst hv
    have h0 : l = [] := by
      rcases h.cells with ⟨_, h⟩ | ⟨g, cap, h, _⟩
      · exact h
      · cases h
    subst h0
    refine (calls_of_every_depth fun D => AnyS.slices_Compact_string_empty_in laysCompact D none 0 w).mono ?_
    rintro e w' ⟨rfl, rfl⟩
    exact ⟨_, rfl, by simpa [Lib.compact, Lib.compactUpTo] using SRow.nil _ _, Below.refl _ _⟩
  · have h' : w.ownsRow base 9 1 v l.length (l.map encStr) := h
    obtain ⟨g, cap, rfl, h1, h2, h3, h4, h5, h6⟩ := Lib.holds_of_ownsRow h' hv
    refine (calls_of_every_depth fun D => AnyS.slices_Compact_string_in laysCompact D g 0 cap l w h6 (by unfold maxLen at h4; omega) h3).mono ?_
    rintro e w' ⟨rfl, q, rfl⟩
    have hle := Lib.compact_length_le l
    have hc := Lib.ownsRow_putRow (q := q) (k := (Lib.compact l).length) (ys := Lib.compact l ++ List.replicate (l.length - (Lib.compact l).length) []) h' (by simp; omega) (by omega)
    rw [List.take_left] at hc
    exact ⟨_, rfl, hc, Lib.below_putRow (Below.refl _ _) h1⟩

theorem both_len {a b l : List Bs} (h : IsBoth a b l) : l.length ≤ b.length :=
  nodup_len l b (h.1.imp (fun {x y} h e => by subst e; exact absurd h (List.lt_irrefl _))) (fun x hx => ((h.2 x).1 hx).2)

theorem selP_take (a b : List Bs) (i : Nat) (hi : i < b.length) : selP a (b.take (i + 1)) = selP a (b.take i) ++ (if a.contains (b.getD i []) then [b.getD i []] else []) := by
  rw [takeS b i hi]
  unfold selP
  rw [List.filter_append]
  congr 1
  cases h : a.contains (b.getD i [])
  · rw [List.filter_cons_of_neg (by rw [h]; simp)]; simp
  · rw [List.filter_cons_of_pos (by rw [h])]; simp
theorem selP_len (a b : List Bs) : (selP a b).length ≤ b.length := List.length_filter_le _ _

set_option maxRecDepth 100000 in
set_option maxHeartbeats 1000000 in
theorem mboth_any (u v : Value) (a b : List Bs) (ha : a.length ≤ 1000) (hb0 : b.length ≤ 1000) (hal : ∀ i, i < a.length → (a.getD i []).length ≤ maxLen) (hbl : ∀ i, i < b.length → (b.getD i []).length ≤ maxLen) (w : World) (hu : SS w u a) (hv : SS w v b) :
    Calls Tryd.prog 46 #[u, v] w fun e w' => ∃ x, e = .returned x ∧ SRow w' w.heap.size x (bothP a b) ∧ Below w.heap.size w w' := by
  have hmm := @run_makeMap Tryd.prog
  obtain ⟨pa, ca, rfl⟩ := hu.form
  obtain ⟨pb, cb, rfl⟩ := hv.form
  have HU := Lib.hid hu
  have HV := Lib.hid hv
  clear hu hv
  go_enter Tryd.func46, Tryd.ntmps46
  go_wp2_with fail
  go_loopw [14] (fun s14 wr => ∃ i : Nat, i ≤ a.length ∧ s14 = .int .i64 i ∧ wr.ownsMap Tryd.prog 9 (plainElem Tryd.prog 3) w.heap.size i (cntD (a.take i).reverse) ∧ Below w.heap.size w wr) (fun s14 _ => a.length - (intOf s14).toNat)
  case atStart => exact ⟨0, by omega, rfl, World.ownsMap_made _ _ _ _, (Below.refl _ _).alloc (Nat.le_refl _) _⟩
  case round =>
    obtain ⟨i, hi, rfl, hown, hbm⟩ := hrel
    by_cases hlt : i < a.length
    · obtain ⟨g, off, rfl, c1⟩ := (HU.out.keep hbm).at i hlt
      have hnx : cntD (a.take (i + 1)).reverse = (cntD (a.take i).reverse).put (.string (a.getD i [])) (.lit (.int .i64 ((((a.take i).reverse.count (a.getD i []) + 1 : Nat)) : Int))) := by
        rw [List.take_succ_eq_append_getElem hlt, List.reverse_append]
        simp [cntD, List.getD, List.getElem?_eq_getElem hlt]
      have hkey : keyOf Tryd.prog 9 (.string ⟨List.toArray (a.getD i [])⟩) = some (.string (a.getD i [])) := keyOf_string_mk Tryd.underlying9 (by simpa [ByteArray.size] using hal i hlt)
      generalize a.getD i [] = n at *
      obtain ⟨k, hrun, hat, _⟩ := hown.lookup_int keyedS Tryd.underlying91 Tryd.underlying3 (zeroI _) hkey
      have hkc : k = ((a.take i).reverse.count n : Nat) := by
        rw [cntD_at] at hat
        injection hat with hat
        injection hat with _ hat
        exact hat.symm
      have hcl : (a.take i).reverse.count n ≤ i := Nat.le_trans (List.count_le_length) (by simp; omega)
      have q1 : IntKind.i64.wrap (k + 1) = k + 1 := IntWalk.i64_in _ (by omega)
      have hnx2 : cntD (a.take (i + 1)).reverse = (cntD (a.take i).reverse).put (.string n) (.lit (.int .i64 (k + 1))) := by rw [hnx, hkc]; rfl
      have hwf : (Lit.int .i64 (k + 1)).wf = true := by have h := wrap64_wf (k + 1); rw [← IntWalk.i64_left, q1] at h; exact h
      clear hnx hat hkc HU HV
      go_wp2_with (first
        | (at_mapUpdate; refine wpList_mapUpdate_own _ rfl _ _ _ 91 rfl 9 3 keyedS Tryd.underlying91 _ w.heap.size i _ rfl hown (by unfold maxLen; omega) _ _ _ rfl rfl hkey _ [] (plainElem_int Tryd.underlying3 hwf) ?_)
        | go_in)
      intro w2 hown2 hgrow
      have R1 := hnx2.symm ▸ hown2
      have R2 := hbm.grown hgrow hbm.size (fun j hj => by cases hj; exact Nat.le_refl _)
      clear hown2 hgrow hown hrun
      go_wp2_with fail
      exact ⟨⟨i + 1, by omega, by go_num, R1, R2⟩, by simp [intOf]; omega⟩
    · obtain rfl : i = a.length := by omega
      obtain ⟨wq, h⟩ := Below.nm hbm
      subst h
      rw [List.take_length] at hown
      have hqs := hbm.size
      go_wp2_with fail
      go_loopw [8, 25] (fun s8 s25 wr => ∃ j : Nat, j ≤ b.length ∧ s25 = .int .i64 j ∧ SRow wr wq.heap.size s8 (selP a (b.take j)) ∧ Below wq.heap.size wq wr) (fun _ s25 _ => b.length - (intOf s25).toNat)
      case atStart => exact ⟨0, by omega, rfl, by simpa [selP] using SRow.nil _ _, Below.refl _ _⟩
      case round =>
        obtain ⟨j, hj, rfl, hS, hbj⟩ := hrel
        obtain ⟨wr, h⟩ := Below.nm hbj
        subst h
        have hbr := hbm.trans (hbj.mono hqs)
        by_cases hlt : j < b.length
        · obtain ⟨g, off, rfl, c1⟩ := (HV.out.keep hbr).at j hlt
          have hnx := selP_take a b j hlt
          have hsl := selP_len a (b.take j)
          rw [List.length_take] at hsl
          have hn6 := hbl j hlt
          generalize hx : b.getD j [] = n at *
          have HX := Lib.hid hx
          have HNX := Lib.hid hnx
          clear hx hnx
          generalize selP a (b.take j) = ns at *
          have hown2 := ownsMap_keep hown hbj
          have hkey : keyOf Tryd.prog 9 (.string ⟨List.toArray (n)⟩) = some (.string n) := keyOf_string_mk Tryd.underlying9 (by simpa [ByteArray.size] using hn6)
          obtain ⟨k, hrun, hat, _⟩ := hown2.lookup_int keyedS Tryd.underlying91 Tryd.underlying3 (zeroI _) hkey
          have hkc : k = (a.count n : Nat) := by
            rw [cntD_at, List.count_reverse] at hat
            injection hat with hat
            injection hat with _ hat
            exact hat.symm
          have hrs := hbj.size
          clear hat hown2
          cases hin : a.contains n
          · have HN2 : Hid (selP a (b.take (j + 1)) = ns) := Lib.hid (by rw [HNX.out, hin]; simp)
            have hk0 : decide ((0 : Int) < k) = false := by
              have : a.count n = 0 := List.count_eq_zero.2 (by simpa using hin)
              rw [hkc, this]; rfl
            clear hkc HNX hin
            go_wp2_with fail
            exact ⟨⟨j + 1, by omega, by go_num, by rw [HN2.out]; exact hS, hbj⟩, by simp [intOf]; omega⟩
          · have HN2 : Hid (selP a (b.take (j + 1)) = ns ++ [n]) := Lib.hid (by rw [HNX.out, hin]; simp)
            have hk0 : decide ((0 : Int) < k) = true := by
              have : 0 < a.count n := List.count_pos_iff.2 (by simpa using hin)
              rw [hkc, decide_eq_true_iff]; omega
            clear hkc HNX hin
            go_wp2_with (first
              | (at_builtin; refine wpList_appS rfl (.tmp 33) (.tmp 35) rfl wq.heap.size _ ns rfl (hS.alloc _) wr.heap.size 0 1 1 [n] rfl rfl (ssrc1 _ _ _) (by simp; omega) (by simp; omega) ?_; rintro v8 w8 hS8 hb8)
              | fail)
            exact ⟨⟨j + 1, by omega, by go_num, by rw [HN2.out]; exact hS8, (Below.allocS hbj (.cells #[.string ⟨List.toArray (n)⟩] 9)).trans hb8⟩, by simp [intOf]; omega⟩
        · obtain rfl : j = b.length := by omega
          rw [List.take_length] at hS
          have hsl := selP_len a b
          have hrs := hbj.size
          have HB : Hid (Lib.compact ((selP a b).mergeSort fun x y => decide (x ≤ y)) = bothP a b) := Lib.hid rfl
          generalize selP a b = ns at *
          go_wp2_with fail
          refine (sort_row wq.heap.size _ ns (by omega) _ hrs hS).mono ?_
          rintro e w9 ⟨rfl, hS9, hb9⟩
          have hb10 := hbj.trans hb9
          go_wp2_with fail
          refine (compact_row wq.heap.size _ _ _ hb10.size hS9).mono ?_
          rintro e w11 ⟨x, rfl, hS11, hb11⟩
          go_wp2_with fail
          all_goals (go_ret; refine ⟨x, rfl, ?_, (hbm.trans (hb10.mono hqs)).trans (hb11.mono hqs)⟩)
          rw [← HB.out]
          exact hS11.low hqs
end Go.Proofs.YtmldonbmjgelnaaDoor
