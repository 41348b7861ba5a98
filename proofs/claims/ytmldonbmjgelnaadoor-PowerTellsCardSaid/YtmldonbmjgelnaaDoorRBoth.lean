/- The document's answer for layer 5: the power of those who are named; what two lists have in common. -/
import Derived.Test.YtmldonbmjgelnaaDoorRef5
import Derived.Test.YtmldonbmjgelnaaDoorBothP
import Derived.Test.YtmldonbmjgelnaaDoorRList
set_option linter.unusedSimpArgs false
set_option linter.unusedVariables false
namespace Go.Proofs.YtmldonbmjgelnaaDoor
open Go.RowKit Pl

set_option maxRecDepth 100000 in
set_option maxHeartbeats 1000000 in
theorem rof_any (v u : Value) (l : List (Bs × Int)) (names : List Bs) (w : World) (hv : MS w v l) (hu : SS w u names) :
    Calls Tryd.prog 54 #[v, u] w fun e w' => e = .returned (.int .i64 (ofM l names)) ∧ Below w.heap.size w w' := by
  generalize hr : ofM l names = r
  have HR := Lib.hid hr
  clear hr
  obtain ⟨a, c, rfl⟩ := hv.form
  obtain ⟨b, d, rfl⟩ := hu.form
  have hm := hv.small
  have hchk := rmcheck_any _ l w hv
  have HV := Lib.hid hv
  have HU := Lib.hid hu
  clear hv hu
  cases hc : chkM l
  · rw [hc] at hchk
    have HC := Lib.hid hchk
    have HR2 : Hid (0 = r) := Lib.hid (by rw [← HR.out]; simp [ofM, hc])
    clear hchk hc HR HV HU
    go_enter Tryd.func54, Tryd.ntmps54
    go_wp2_with fail
    refine HC.out.mono ?_
    rintro e w1 ⟨rfl, q, rfl⟩
    unfold setI
    go_wp2_with fail
    all_goals (go_ret; refine ⟨?_, below_drewN (Below.refl _ _) q⟩; rw [← HR2.out]; rfl)
  · rw [hc] at hchk
    have HC := Lib.hid hchk
    have HR2 : Hid (sumOf names l = r) := Lib.hid (by rw [← HR.out]; simp [ofM, hc])
    simp only [chkM, Bool.and_eq_true, decide_eq_true_eq] at hc
    have h7 := hc.1.2
    have HO := Lib.hid (okM_at l [] hc.2)
    have HB := Lib.hid (sumOf_take names l (fun i hi => (okM_at l [] hc.2 i hi).2))
    clear hchk hc HR
    go_enter Tryd.func54, Tryd.ntmps54
    go_wp2_with fail
    refine HC.out.mono ?_
    rintro e w1 ⟨rfl, q, rfl⟩
    have hb := below_drewN (Below.refl w.heap.size w) q
    unfold setI
    go_wp2_with fail
    go_loopw [5, 6] (fun s5 s6 wr => ∃ i : Nat, i ≤ l.length ∧ s6 = .int .i64 i ∧ s5 = .int .i64 (sumOf names (l.take i)) ∧ Below w.heap.size w wr) (fun _ s6 _ => l.length - (intOf s6).toNat)
    case atStart => exact ⟨0, by omega, rfl, by simp [sumOf], hb⟩
    case round =>
      obtain ⟨i, hi, rfl, rfl, hb⟩ := hrel
      obtain ⟨wq, h⟩ := Below.nm hb
      subst h
      by_cases hlt : i < l.length
      · have hlt' : (i : Int) < (l.length : Int) := by omega
        obtain ⟨g, off, rfl, hg, c1, c2⟩ := (HV.out.keep hb).at i hlt
        obtain ⟨o1, o2, o3⟩ := HO.out i hlt
        have hB := HB.out i (by omega)
        have hnx : sumOf names (l.take (i + 1)) = sumOf names (l.take i) + (if names.contains (l.getD i ([], 0)).1 then (l.getD i ([], 0)).2 else 0) := by rw [take_getD l i hlt, sumOf_app]
        generalize hx : l.getD i ([], 0) = x at *
        obtain ⟨n, p⟩ := x
        simp only at c1 c2 hnx o1 o2 o3
        generalize sumOf names (l.take i) = s at *
        have q1 : IntKind.i64.wrap (s + p) = s + p := IntWalk.i64_in _ (by omega)
        have HX := Lib.hid hx
        have HNX := Lib.hid hnx
        clear hx hB HB HO hnx
        go_wp2_with fail
        refine (rhas_any _ names n _ (HU.out.keep hb)).mono ?_
        rintro e w2 ⟨rfl, rfl⟩
        cases hin : names.contains n
        · have HN2 : Hid (sumOf names (l.take (i + 1)) = s) := Lib.hid (by rw [HNX.out, hin]; simp)
          clear HNX hin
          go_wp2_with fail
          exact ⟨⟨i + 1, by omega, by go_num, by rw [HN2.out], hb⟩, by simp [intOf]; omega⟩
        · have HN2 : Hid (sumOf names (l.take (i + 1)) = s + p) := Lib.hid (by rw [HNX.out, hin]; simp)
          clear HNX hin
          go_wp2_with fail
          exact ⟨⟨i + 1, by omega, by go_num, by rw [HN2.out], hb⟩, by simp [intOf]; omega⟩
      · obtain rfl : i = l.length := by omega
        have hlt' : ¬ (l.length : Int) < (l.length : Int) := by omega
        rw [List.take_length]
        go_wp2_with fail
        all_goals (go_ret; refine ⟨?_, hb⟩; rw [← HR2.out]; rfl)

theorem less_lt : ∀ (x y : Bs), Op.bytesLess x y = decide (x < y)
  | [], [] => by simp [Op.bytesLess]
  | _ :: _, [] => by simp [Op.bytesLess]
  | [], _ :: _ => by simp [Op.bytesLess]
  | a :: x, b :: y => by
    rw [Op.bytesLess, less_lt x y]
    simp only [List.cons_lt_cons_iff]
    by_cases h1 : a < b <;> by_cases h2 : a = b <;> by_cases h3 : x < y <;> simp [h1, h2, h3]
@[go_sem high] theorem lss_S (t : TypeId) (a b : Bs) : binOp .lss t (.string ⟨List.toArray (a)⟩) (.string ⟨List.toArray (b)⟩) = pure (.bool (Op.bytesLess a b)) := by
  rw [binOp_string_lss]
  rw [Lib.toList_data, Lib.toList_data]

set_option maxRecDepth 100000 in
set_option maxHeartbeats 2000000 in
theorem rboth_any (u v : Value) (a b : List Bs) (ha : a.length ≤ 1000) (w : World) (hu : SS w u a) (hv : SS w v b) :
    Calls Tryd.prog 55 #[u, v] w fun e w' => ∃ x l, e = .returned x ∧ SRow w' w.heap.size x l ∧ IsBoth a b l ∧ Below w.heap.size w w' := by
  obtain ⟨pa, ca, rfl⟩ := hu.form
  obtain ⟨pb, cb, rfl⟩ := hv.form
  have hal := hu.small
  have HU := Lib.hid hu
  have HV := Lib.hid hv
  clear hu hv
  go_enter Tryd.func55, Tryd.ntmps55
  go_wp2_with fail
  go_loopw [5, 10] (fun s5 s10 wr => ∃ (k : Nat) (out : List Bs), k ≤ a.length ∧ out.length ≤ k ∧ s10 = .int .i64 k ∧ SRow wr w.heap.size s5 out ∧ Hid (Sel a b out k) ∧ Below w.heap.size w wr) (fun _ s10 _ => a.length - (intOf s10).toNat)
  case atStart => exact ⟨0, [], by omega, by simp, rfl, SRow.nil _ _, Lib.hid (Sel.zero a b), Below.refl _ _⟩
  case round =>
    obtain ⟨k, out, hk, hko, rfl, hS, HS, hb⟩ := hrel
    obtain ⟨wq, h⟩ := Below.nm hb
    subst h
    by_cases hlt : k < a.length
    · have hSO := hS.ss
      obtain ⟨oa, oc, rfl⟩ := hS.form
      have HSO := Lib.hid hSO
      clear hSO
      go_wp2_with fail
      go_loopw [6, 7] (fun s6 s7 wr => ∃ (i : Nat) (at_ : Int), i ≤ a.length ∧ -1 ≤ at_ ∧ at_ < a.length ∧ s7 = .int .i64 i ∧ s6 = .int .i64 at_ ∧ Hid (LeastAt a b out i at_) ∧ ∃ q, wr = wq.drewN q) (fun _ s7 _ => a.length - (intOf s7).toNat)
      case atStart => exact ⟨0, -1, by omega, by omega, by omega, rfl, rfl, Lib.hid (.inl ⟨rfl, fun j hj => by omega⟩), 0, rfl⟩
      case round =>
        obtain ⟨i, at_, hi, hat1, hat2, rfl, rfl, HL, q, rfl⟩ := hrel
        have hbq := below_drewN hb q
        by_cases hlt2 : i < a.length
        · have hlt2' : (i : Int) < (a.length : Int) := by omega
          have U := HU.out.keep hbq
          obtain ⟨g, off, rfl, c1⟩ := U.at i hlt2
          generalize hx : a.getD i [] = x at *
          have HX := Lib.hid hx
          clear hx
          go_wp2_with fail
          refine (rhas_any _ b x _ (HV.out.keep hbq)).mono ?_
          rintro e w2 ⟨rfl, rfl⟩
          have hcd : cand b out x = (b.contains x && !out.contains x) := rfl
          have HCD := Lib.hid hcd
          clear hcd
          have HSkip : Hid (cand b out x = false → LeastAt a b out (i + 1) at_) := Lib.hid (fun hc => by
            rcases HL.out with ⟨h1, h2⟩ | ⟨j, h1, h2, h3, h4⟩
            · exact .inl ⟨h1, fun j hj => by
                rcases Nat.lt_or_eq_of_le (Nat.le_of_lt_succ hj) with h | rfl
                · exact h2 j h
                · rw [HX.out]; exact hc⟩
            · exact .inr ⟨j, by omega, h2, h3, fun k hk hck => by
                rcases Nat.lt_or_eq_of_le (Nat.le_of_lt_succ hk) with h | rfl
                · exact h4 k h hck
                · rw [HX.out, hc] at hck; exact absurd hck (by simp)⟩)
          cases hin : b.contains x
          · have HN : Hid (LeastAt a b out (i + 1) at_) := Lib.hid (HSkip.out (by rw [HCD.out, hin]; rfl))
            clear HSkip HCD hin HL U
            go_wp2_with fail
            exact ⟨⟨i + 1, at_, by omega, hat1, hat2, by go_num, rfl, HN, q, rfl⟩, by simp [intOf]; omega⟩
          · go_wp2_with fail
            refine (rhas_any _ out x _ (HSO.out.keep (below_drewN (Below.refl _ _) q))).mono ?_
            rintro e w3 ⟨rfl, rfl⟩
            cases hout : out.contains x
            · have HC : Hid (cand b out x = true) := Lib.hid (by rw [HCD.out, hin, hout]; rfl)
              clear HSkip HCD hin hout
              by_cases hneg : at_ < 0
              · have d1 : decide (at_ < 0) = true := by simpa using hneg
                have HN : Hid (LeastAt a b out (i + 1) (i : Int)) := Lib.hid (by
                  rcases HL.out with ⟨h1, h2⟩ | ⟨j, h1, h2, h3, h4⟩
                  · refine .inr ⟨i, by omega, rfl, by rw [HX.out]; exact HC.out, fun k hk hck => ?_⟩
                    rcases Nat.lt_or_eq_of_le (Nat.le_of_lt_succ hk) with h | rfl
                    · rw [h2 k h] at hck; exact absurd hck (by simp)
                    · exact List.le_refl _
                  · omega)
                clear HC HL U
                go_wp2_with fail
                go_quiet (fail)
                go_wp2_with fail
                exact ⟨⟨i + 1, i, by omega, by omega, by omega, by go_num, rfl, HN, _, rfl⟩, by simp [intOf]; omega⟩
              · have d1 : decide (at_ < 0) = false := by simpa using hneg
                obtain ⟨j, rfl⟩ : ∃ j : Nat, at_ = j := ⟨at_.toNat, by omega⟩
                have hja : j < a.length := by omega
                have hja' : (j : Int) < (a.length : Int) := by omega
                obtain ⟨g', off', hgo, c3⟩ := U.at j hja
                injection hgo with hgo
                injection hgo with hgo1 hgo2
                subst hgo1 hgo2
                generalize hy : a.getD j [] = y at *
                replace c1 : wq.cell? ⟨g, off + i, none⟩ = some (.string ⟨List.toArray (x)⟩) := c1
                replace c3 : wq.cell? ⟨g, off + j, none⟩ = some (.string ⟨List.toArray (y)⟩) := c3
                have HY := Lib.hid hy
                clear hy U
                have HLA : Hid (cand b out y = true ∧ ∀ k, k < i → cand b out (a.getD k []) = true → y ≤ a.getD k []) := Lib.hid (by
                  rcases HL.out with ⟨h1, h2⟩ | ⟨j', h1, h2, h3, h4⟩
                  · omega
                  · have : j' = j := by omega
                    subst this
                    rw [HY.out] at h3 h4
                    exact ⟨h3, h4⟩)
                cases hle : Op.bytesLess x y
                · have HN : Hid (LeastAt a b out (i + 1) (j : Int)) := Lib.hid (by
                    rcases HL.out with ⟨h1, h2⟩ | ⟨j', h1, h2, h3, h4⟩
                    · omega
                    · have : j' = j := by omega
                      subst this
                      refine .inr ⟨j', by omega, rfl, h3, fun k hk hck => ?_⟩
                      rcases Nat.lt_or_eq_of_le (Nat.le_of_lt_succ hk) with h | rfl
                      · exact h4 k h hck
                      · rw [HX.out, HY.out]
                        rw [less_lt, decide_eq_false_iff_not] at hle
                        exact List.not_lt.1 hle)
                  clear HC HL HLA
                  go_wp2_with fail
                  go_quiet (fail)
                  go_wp2_with fail
                  exact ⟨⟨i + 1, j, by omega, by omega, by omega, by go_num, rfl, HN, _, rfl⟩, by simp [intOf]; omega⟩
                · have HN : Hid (LeastAt a b out (i + 1) (i : Int)) := Lib.hid (by
                    rw [less_lt, decide_eq_true_iff] at hle
                    refine .inr ⟨i, by omega, rfl, by rw [HX.out]; exact HC.out, fun k hk hck => ?_⟩
                    rw [HX.out]
                    rcases Nat.lt_or_eq_of_le (Nat.le_of_lt_succ hk) with h | rfl
                    · exact List.le_of_lt (by
                        have h2 := HLA.out.2 k h hck
                        rcases Classical.em (x < a.getD k []) with h3 | h3
                        · exact h3
                        · exact absurd (List.lt_of_le_of_lt (List.le_trans h2 (List.not_lt.1 h3)) hle) (List.lt_irrefl y))
                    · rw [HX.out]; exact List.le_refl _)
                  clear HC HL HLA
                  go_wp2_with fail
                  go_quiet (fail)
                  go_wp2_with fail
                  exact ⟨⟨i + 1, i, by omega, by omega, by omega, by go_num, rfl, HN, _, rfl⟩, by simp [intOf]; omega⟩
            · have HN : Hid (LeastAt a b out (i + 1) at_) := Lib.hid (HSkip.out (by rw [HCD.out, hin, hout]; rfl))
              clear HSkip HCD hin hout HL U
              go_wp2_with fail
              exact ⟨⟨i + 1, at_, by omega, hat1, hat2, by go_num, rfl, HN, q, rfl⟩, by simp [intOf]; omega⟩
        · obtain rfl : i = a.length := by omega
          have hlt2' : ¬ (a.length : Int) < (a.length : Int) := by omega
          by_cases hneg : at_ < 0
          · have d1 : decide ((0 : Int) ≤ at_) = false := by rw [decide_eq_false_iff_not]; omega
            have hm1 : at_ = -1 := by omega
            subst hm1
            have HN : Hid (Sel a b out (k + 1)) := Lib.hid (HS.out.none HL.out)
            clear HS HL
            go_wp2_with fail
            exact ⟨⟨k + 1, out, by omega, by omega, by go_num, hS.drewN q, HN, hbq⟩, by simp [intOf]; omega⟩
          · have d1 : decide ((0 : Int) ≤ at_) = true := by rw [decide_eq_true_iff]; omega
            obtain ⟨j, rfl⟩ : ∃ j : Nat, at_ = j := ⟨at_.toNat, by omega⟩
            have hja : j < a.length := by omega
            have hja' : (j : Int) < (a.length : Int) := by omega
            obtain ⟨g, off, rfl, c1⟩ := (HU.out.keep hbq).at j hja
            have HN : Hid (Sel a b (out ++ [a.getD j []]) (k + 1)) := Lib.hid (by
              rcases HL.out with ⟨h1, h2⟩ | ⟨j', h1, h2, h3, h4⟩
              · omega
              · have : j' = j := by omega
                subst this
                exact HS.out.some hja h3 h4)
            clear HS HL
            generalize a.getD j [] = x at *
            have hqs := hb.size
            go_wp2_with (first
              | (at_builtin; refine wpList_appS rfl (.tmp 49) (.tmp 54) rfl w.heap.size _ out rfl ((hS.drewN q).alloc _) _ 0 1 1 [x] rfl rfl (ssrc1 _ _ _) (by simp; omega) (by simp; omega) ?_; rintro v8 w8 hS8 hb8)
              | fail)
            exact ⟨⟨k + 1, out ++ [x], by omega, by simp; omega, by go_num, hS8, HN, (Below.allocS hbq (.cells #[.string ⟨List.toArray (x)⟩] 9)).trans hb8⟩, by simp [intOf]; omega⟩
    · obtain rfl : k = a.length := by omega
      go_wp2_with fail
      all_goals (go_ret; exact ⟨_, out, rfl, hS, HS.out.is, hb⟩)
end Go.Proofs.YtmldonbmjgelnaaDoor
