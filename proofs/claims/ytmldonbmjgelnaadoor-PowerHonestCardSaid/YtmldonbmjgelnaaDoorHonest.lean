/- Walk of the statement PowerHonest. -/
import Derived.Test.YtmldonbmjgelnaaDoorOver
import Derived.Test.YtmldonbmjgelnaaDoorLend
set_option linter.unusedSimpArgs false
set_option linter.unusedVariables false
namespace Go.Proofs.YtmldonbmjgelnaaDoor
open Go.RowKit Pl

namespace Pl
/-- The names that are not bad. -/
def goodN (bad : List Bs) (l : List (Bs × Int)) : List Bs := (l.filter fun x => !bad.contains x.1).map (·.1)
theorem goodN_take (bad : List Bs) (l : List (Bs × Int)) (i : Nat) (hi : i < l.length) : goodN bad (l.take (i + 1)) = goodN bad (l.take i) ++ (if bad.contains (l.getD i ([], 0)).1 then [] else [(l.getD i ([], 0)).1]) := by
  rw [take_getD l i hi]
  unfold goodN
  rw [List.filter_append, List.map_append]
  congr 1
  cases h : bad.contains (l.getD i ([], 0)).1
  · rw [List.filter_cons_of_pos (by rw [h]; rfl)]; simp
  · rw [List.filter_cons_of_neg (by rw [h]; simp)]; simp
theorem goodN_len (bad : List Bs) (l : List (Bs × Int)) : (goodN bad l).length ≤ l.length := by
  unfold goodN
  rw [List.length_map]
  exact List.length_filter_le _ _
theorem goodN_mem (bad : List Bs) (l : List (Bs × Int)) (n : Bs) : n ∈ goodN bad l ↔ n ∉ bad ∧ ∃ m ∈ l, m.1 = n := by
  unfold goodN
  simp only [List.mem_map, List.mem_filter, Bool.not_eq_true', List.contains_eq_mem, decide_eq_false_iff_not]
  constructor
  · rintro ⟨m, ⟨h1, h2⟩, rfl⟩; exact ⟨h2, m, h1, rfl⟩
  · rintro ⟨h1, m, h2, rfl⟩; exact ⟨m, ⟨h2, h1⟩, rfl⟩
theorem sum_cover (A B : List Bs) : ∀ l : List (Bs × Int), (∀ m ∈ l, 0 ≤ m.2) → (∀ m ∈ l, m.1 ∈ A ∨ m.1 ∈ B) → sumM l ≤ sumOf A l + sumOf B l
  | [], _, _ => by simp [sumOf, sumM]
  | m :: l, hp, h => by
    have ih := sum_cover A B l (fun x hx => hp x (by simp [hx])) (fun x hx => h x (by simp [hx]))
    have h0 := hp m (by simp)
    simp only [sumOf, sumM, List.contains_iff_mem]
    rcases h m (by simp) with h1 | h1
    · rw [if_pos h1]; split <;> omega
    · rw [if_pos h1]; split <;> omega
theorem sum_mono2 (X Y : List Bs) : ∀ l : List (Bs × Int), (∀ m ∈ l, 0 ≤ m.2) → (∀ m ∈ l, m.1 ∈ X → m.1 ∈ Y) → sumOf X l ≤ sumOf Y l
  | [], _, _ => by simp [sumOf]
  | m :: l, hp, h => by
    have ih := sum_mono2 X Y l (fun x hx => hp x (by simp [hx])) (fun x hx => h x (by simp [hx]))
    have h0 := hp m (by simp)
    simp only [sumOf, List.contains_iff_mem]
    by_cases h1 : m.1 ∈ X
    · rw [if_pos h1, if_pos (h m (by simp) h1)]; omega
    · rw [if_neg h1]
      split <;> omega
theorem honest_law {l : List (Bs × Int)} {bad some M : List Bs} (hc : chkM l = true) (hb : ofM l bad ≤ mostM l) (hM : M = [] → ∀ m ∈ l, m.1 ∉ bad → m.1 ∉ some) :
    quoM l ≤ ofM l (goodN bad l) ∧ (M = [] → ofM l some ≤ mostM l) ∧ 3 * mostM l < totM l ∧ 2 * totM l < 3 * quoM l := by
  have hp := pow_pos_of hc
  have ht := tot_pos hc
  have h1 := sum_cover (goodN bad l) bad l hp (fun m hm => by
    rcases Classical.em (m.1 ∈ bad) with h | h
    · exact .inr h
    · exact .inl ((goodN_mem bad l m.1).2 ⟨h, m, hm, rfl⟩))
  rw [quo_of hc]
  rw [most_of hc] at hb ⊢
  simp only [ofM, totM, hc, if_true] at *
  refine ⟨by omega, fun h => ?_, by omega, by omega⟩
  have h2 := sum_mono2 some bad l hp (fun m hm hs => by
    rcases Classical.em (m.1 ∈ bad) with h3 | h3
    · exact h3
    · exact absurd hs (hM h m hm h3))
  omega
theorem one_both {n : Bs} {b c : List Bs} (h : IsBoth [n] b c) : c.length ≤ 1 ∧ (c = [] ↔ n ∉ b) := by
  have hl := nodup_len c [n] (h.1.imp (fun {x y} h e => by subst e; exact absurd h (List.lt_irrefl _))) (fun x hx => ((h.2 x).1 hx).1)
  refine ⟨by simpa using hl, fun hc hn => ?_, fun hn => ?_⟩
  · have := (h.2 n).2 ⟨by simp, hn⟩
    rw [hc] at this
    simp at this
  · cases c with
    | nil => rfl
    | cons x r =>
      have := (h.2 x).1 (by simp)
      simp at this
      exact absurd (this.1 ▸ this.2) hn
end Pl

set_option maxRecDepth 100000 in
set_option maxHeartbeats 2000000 in
theorem honest_any (v ua ub : Value) (l : List (Bs × Int)) (a b : List Bs) (hal : ∀ i, i < a.length → (a.getD i []).length ≤ maxLen) (hbl : ∀ i, i < b.length → (b.getD i []).length ≤ maxLen) (w : World) (hv : MS w v l) (ha : SS w ua a) (hb : SS w ub b) (hk : KT w) :
    Calls Tryd.prog 12 #[v, ua, ub] w fun e w' => e = .returned (.bool true) ∧ Below w.heap.size w w' := by
  obtain ⟨p, c, rfl⟩ := hv.form
  obtain ⟨pa, ca, rfl⟩ := ha.form
  obtain ⟨pb, cb, rfl⟩ := hb.form
  have HV := Lib.hid hv
  have HA := Lib.hid ha
  have HB := Lib.hid hb
  have hml := hv.small
  have hma := ha.small
  have hmb := hb.small
  clear hv ha hb
  go_enter Tryd.func12, Tryd.ntmps12
  go_wp2_with fail
  refine (works5_any _ hk).mono ?_
  rintro e w1 ⟨rfl, hb1⟩
  go_wp2_with fail
  refine (mcheck_any _ l _ (HV.out.keep hb1)).mono ?_
  rintro e w2 ⟨rfl, hb⟩
  have hb2 := hb1.trans (hb.mono hb1.size)
  clear hb hb1
  cases hc : chkM l
  · unfold setI
    clear hc
    go_wp2_with fail
    all_goals (go_ret; exact ⟨rfl, hb2⟩)
  · unfold setI
    have HC := Lib.hid hc
    clear hc
    by_cases h1 : 50 < a.length
    · have d1 : decide ((50 : Int) < (a.length : Int)) = true := by simp; omega
      go_wp2_with fail
      all_goals (go_ret; exact ⟨rfl, hb2⟩)
    · have d1 : decide ((50 : Int) < (a.length : Int)) = false := by simp; omega
      by_cases h2 : 50 < b.length
      · have d2 : decide ((50 : Int) < (b.length : Int)) = true := by simp; omega
        go_wp2_with fail
        all_goals (go_ret; exact ⟨rfl, hb2⟩)
      · have d2 : decide ((50 : Int) < (b.length : Int)) = false := by simp; omega
        have hof := mof_any _ _ l a (by omega) hal _ (HV.out.keep hb2) (HA.out.keep hb2)
        generalize hna : ofM l a = na at *
        have HNA := Lib.hid hna
        have HOF := Lib.hid hof
        clear hna hof
        go_wp2_with fail
        refine HOF.out.mono ?_
        rintro e w3 ⟨rfl, hb⟩
        have hb3 := hb2.trans (hb.mono hb2.size)
        clear hb hb2 HOF
        have hmo := fun w' (hb : Below w.heap.size w w') => mmost_any _ l _ (HV.out.keep hb)
        generalize hnm : mostM l = nm at *
        have HNM := Lib.hid hnm
        have HMO := Lib.hid hmo
        clear hnm hmo
        go_wp2_with fail
        refine (HMO.out _ hb3).mono ?_
        rintro e w4 ⟨rfl, hb⟩
        have hb4 := hb3.trans (hb.mono hb3.size)
        clear hb hb3
        by_cases hbad : nm < na
        · have d3 : decide (nm < na) = true := by simpa using hbad
          go_wp2_with fail
          all_goals (go_ret; exact ⟨rfl, hb4⟩)
        · have d3 : decide (nm < na) = false := by simpa using hbad
          have hc2 := HC.out
          simp only [chkM, Bool.and_eq_true, decide_eq_true_eq] at hc2
          have h7 := hc2.1.2
          have HO := Lib.hid (okM_at l [] hc2.2)
          clear hc2
          have hs4 := hb4.size
          go_wp2_with fail
          go_loopw [7, 8, 36] (fun s7 s8 s36 wr => ∃ (i : Nat) (M : List Bs), i ≤ l.length ∧ M.length ≤ i ∧ s36 = .int .i64 i ∧ SRow wr w4.heap.size s7 (goodN a (l.take i)) ∧ SRow wr w4.heap.size s8 M ∧ (∀ k, s7.ownBlock = some k → s8.ownBlock ≠ some k) ∧ Hid (M = [] → ∀ m ∈ l.take i, m.1 ∉ a → m.1 ∉ b) ∧ Below w4.heap.size w4 wr) (fun _ _ s36 _ => l.length - (intOf s36).toNat)
          case atStart => exact ⟨0, [], by omega, by simp, rfl, by simpa [goodN] using SRow.nil _ _, SRow.nil _ _, (fun k hk => by cases hk), Lib.hid (fun _ m hm => by simp at hm), Below.refl _ _⟩
          case round =>
            obtain ⟨i, M, hi, hMl, rfl, hG, hM, hap, HM, hbq⟩ := hrel
            obtain ⟨wq, h⟩ := Below.nm hbq
            subst h
            have hb5 := hb4.trans (hbq.mono hs4)
            have hqs := hbq.size
            by_cases hlt : i < l.length
            · obtain ⟨g, off, rfl, hg, c1, c2⟩ := (HV.out.keep hb5).at i hlt
              obtain ⟨o1, o2, o3⟩ := HO.out i hlt
              have hnx := goodN_take a l i hlt
              have hgl := goodN_len a (l.take i)
              rw [List.length_take] at hgl
              have htk := take_getD l i hlt
              generalize hx : l.getD i ([], 0) = x at *
              obtain ⟨n, z⟩ := x
              simp only at c1 c2 hnx o1 o2 o3
              have HNX := Lib.hid hnx
              have HTK := Lib.hid htk
              clear hx hnx htk
              generalize goodN a (l.take i) = ns at *
              have hbq6 := Below.allocS (Below.allocS hbq (.cells #[.string ⟨List.toArray (n)⟩, .int .i64 (z)] 63)) (.cells #[.string ⟨List.toArray (n)⟩] 9)
              have hb6 := hb4.trans (hbq6.mono hs4)
              have hG6 := (hG.alloc (.cells #[.string ⟨List.toArray (n)⟩, .int .i64 (z)] 63)).alloc (.cells #[.string ⟨List.toArray (n)⟩] 9)
              have hM6 := (hM.alloc (.cells #[.string ⟨List.toArray (n)⟩, .int .i64 (z)] 63)).alloc (.cells #[.string ⟨List.toArray (n)⟩] 9)
              have D6 := (Blk.new wq #[.string ⟨List.toArray (n)⟩, .int .i64 (z)] 63).alloc (.cells #[.string ⟨List.toArray (n)⟩] 9)
              have hS1 : SS ((wq.alloc (.cells #[.string ⟨List.toArray (n)⟩, .int .i64 (z)] 63)).alloc (.cells #[.string ⟨List.toArray (n)⟩] 9)) (.slice (some ⟨wq.heap.size + 1, 0, none⟩) 1 1) [n] := SS.of (l := [n]) (by simp) (by unfold maxLen; omega) (by simp) (by have h := ssrc1 (wq.alloc (.cells #[.string ⟨List.toArray (n)⟩, .int .i64 (z)] 63)) n 9; simpa using h)
              have hone : ∀ i, i < [n].length → ([n].getD i []).length ≤ maxLen := fun j hj => by
                have : j = 0 := (by simpa using hj)
                subst this
                unfold maxLen; simp; omega
              go_wp2_with fail
              refine (mboth_any _ _ [n] a (by simp) (by omega) hone hal _ hS1 (HA.out.keep hb6)).mono ?_
              rintro e w7 ⟨x, rfl, hX7, hb⟩
              have hbq7 := hbq6.trans (hb.mono hbq6.size)
              have hb7 := hb6.trans (hb.mono hb6.size)
              have hG7 := hG6.keep hb
              have hM7 := hM6.keep hb
              have D7 := D6.keep hb
              clear hb hbq6 hb6 hG6 hM6 D6 hS1 hM hb5 hbq hqs
              have hqs := hbq7.size
              obtain ⟨d1', d2', d3'⟩ := id D7
              have hob := one_both (bothP_is [n] a)
              obtain ⟨xa, xc, rfl⟩ := hX7.form
              generalize bothP [n] a = cc at *
              clear hX7
              by_cases hin : n ∈ a
              · have hne : cc ≠ [] := fun h => (hob.2.1 h) hin
                have hcl : 0 < cc.length := List.length_pos_iff.2 hne
                have e0 : ((cc.length : Int) == 0) = false := by rw [beq_eq_false_iff_ne]; omega
                have HN2 : Hid (goodN a (l.take (i + 1)) = ns) := Lib.hid (by rw [HNX.out, if_pos (by simpa using hin), List.append_nil])
                have HM2 : Hid (M = [] → ∀ m ∈ l.take (i + 1), m.1 ∉ a → m.1 ∉ b) := Lib.hid (fun h m hm hma => by
                  rw [HTK.out] at hm
                  rcases List.mem_append.1 hm with hm | hm
                  · exact HM.out h m hm hma
                  · simp at hm; subst hm; exact absurd hin hma)
                clear HM HNX HTK hob hin hne
                go_wp2_with fail
                exact ⟨⟨i + 1, M, by omega, by omega, by go_num, by rw [HN2.out]; exact hG7, hM7, hap, HM2, hbq7⟩, by simp [intOf]; omega⟩
              · have hce : cc = [] := hob.2.2 hin
                subst hce
                have HN2 : Hid (goodN a (l.take (i + 1)) = ns ++ [n]) := Lib.hid (by rw [HNX.out, if_neg (by simpa using hin)])
                clear HNX hob
                have hGl := hG.lt
                have hMt := hM7.lt
                have hGt := hG7.lt
                have hq7 : wq.heap.size < w7.heap.size := D7.lt
                have e7 : w7.heap.size ≠ wq.heap.size := by omega
                go_wp2_with (first
                  | (at_builtin; refine wpList_appAt rfl (.tmp 47) (.tmp 50) rfl w4.heap.size _ ns rfl (hG7.alloc _) _ [n] rfl (SS.of (l := [n]) (by simp) (by unfold maxLen; omega) (by simp) (ssrc1 _ _ _)) (by simp; omega) (by simp; omega) ?_; rintro v8 w8 hG8 hg8 hv8
                     have D8 := (D7.alloc (.cells #[.string ⟨List.toArray (n)⟩] 9)).of_block (hg8.block _ (by simp; omega) (fun e => by have := hGl _ e.symm; omega)) hg8.size
                     clear d1' d2' d3'
                     obtain ⟨d1', d2', d3'⟩ := id D8)
                  | fail)
                have hxa : Below w7.heap.size w7 (w7.alloc (.cells #[.string ⟨List.toArray (n)⟩] 9)) := Below.allocS (Below.refl _ _) _
                have hM8 := (hM7.alloc (.cells #[.string ⟨List.toArray (n)⟩] 9)).grown hg8 (fun k hk e => hap k e hk)
                have hap8 : ∀ k, v8.ownBlock = some k → ∀ e : _ = some k, False := fun k hk e => by
                  rcases hv8 with h | h
                  · exact hap k (h.symm.trans hk) e
                  · rw [hk] at h
                    injection h with h
                    have := hMt k e
                    simp at h
                    omega
                have hbq8 := (Below.allocS hbq7 (.cells #[.string ⟨List.toArray (n)⟩] 9)).grown hg8 (by simp; omega) (fun k hk => hG7.own k hk)
                have hs8 := hg8.size
                have hx8 : Below w8.heap.size w8 (w8.alloc (.cells #[.string ⟨List.toArray (n)⟩] 9)) := Below.allocS (Below.refl _ _) _
                have hbq9 := Below.allocS hbq8 (.cells #[.string ⟨List.toArray (n)⟩] 9)
                have hb9 := hb4.trans (hbq9.mono hs4)
                have hG9 := hG8.keep hx8
                have hM9 := hM8.keep hx8
                have hS2 : SS (w8.alloc (.cells #[.string ⟨List.toArray (n)⟩] 9)) (.slice (some ⟨w8.heap.size, 0, none⟩) 1 1) [n] := SS.of (l := [n]) (by simp) (by unfold maxLen; omega) (by simp) (ssrc1 _ _ _)
                clear hv8 hg8 hG8 hM8 hM7 hG7 hbq7 hb7 hx8 hxa D7
                refine (mboth_any _ _ [n] b (by simp) (by omega) hone hbl _ hS2 (HB.out.keep hb9)).mono ?_
                rintro e w10 ⟨y, rfl, hY, hb⟩
                have hG10 := hG9.keep hb
                have hM10 := hM9.keep hb
                have hbq10 := hbq9.trans (hb.mono hbq9.size)
                have hoc := one_both (bothP_is [n] b)
                have hYS := hY.ss
                have hGt10 := hG10.lt
                clear hb hG9 hM9 hbq9 hb9 hS2 hY D8 d1' d2' d3'
                generalize bothP [n] b = cy at *
                obtain ⟨oc1, oc2⟩ := hoc
                have HOC := Lib.hid oc2
                clear oc2
                have hs10 := hbq10.size
                go_wp2_with (first
                  | (at_builtin; refine wpList_appAt rfl (.tmp 52) (.tmp 57) rfl w4.heap.size _ M rfl hM10 _ cy rfl hYS (by omega) hs10 ?_; rintro v11 w11 hM11 hg11 hv11)
                  | fail)
                have hG11 := hG10.grown hg11 (fun k hk e => hap8 k hk e)
                have hbq11 := hbq10.grown hg11 hs10 (fun k hk => hM10.own k hk)
                refine ⟨⟨i + 1, M ++ cy, by omega, by rw [List.length_append]; omega, by go_num, by rw [HN2.out]; exact hG11, hM11, ?_, Lib.hid (fun h m hm hma => ?_), hbq11⟩, by simp [intOf]; omega⟩
                · intro k hk e
                  rcases hv11 with h | h
                  · exact hap8 k hk (h.symm.trans e)
                  · rw [e] at h
                    injection h with h
                    have := hGt10 k hk
                    omega
                · rw [List.append_eq_nil_iff] at h
                  rw [HTK.out] at hm
                  rcases List.mem_append.1 hm with hm | hm
                  · exact HM.out h.1 m hm hma
                  · simp at hm; subst hm; exact HOC.out.1 h.2
            · obtain rfl : i = l.length := by omega
              rw [List.take_length] at hG HM
              have hlaw := honest_law HC.out (bad := a) (some := b) (M := M) (by rw [HNA.out, HNM.out]; omega) HM.out
              have hgl := goodN_len a l
              have hgm : ∀ i, i < (goodN a l).length → ((goodN a l).getD i []).length ≤ maxLen := by
                intro i hi
                obtain ⟨_, m, hm, e⟩ := (goodN_mem a l _).1 (getD_mem (goodN a l) i hi)
                rw [← e]
                obtain ⟨j, hj, rfl⟩ := List.getElem_of_mem hm
                have := (HO.out j hj).1
                rw [List.getD_eq_getElem?_getD, List.getElem?_eq_getElem hj] at this
                simp at this
                unfold maxLen; omega
              have hog := fun w' (hb : Below wq.heap.size wq w') => mof_any _ _ l (goodN a l) (by omega) hgm _ (HV.out.keep (hb5.trans (hb.mono hb5.size))) (hG.keep hb).ss
              have hos := fun w' (hb : Below w.heap.size w w') => mof_any _ _ l b (by omega) hbl _ (HV.out.keep hb) (HB.out.keep hb)
              have hqu := fun w' (hb : Below w.heap.size w w') => mquorum_any _ l _ (HV.out.keep hb)
              have hto := fun w' (hb : Below w.heap.size w w') => mtotal_any _ l _ (HV.out.keep hb)
              have hm0 := totM_bound l
              have hq7 := quo_bound l
              rw [HNM.out] at hlaw
              generalize goodN a l = ns at *
              generalize ofM l ns = ng at *
              generalize ofM l b = nb at *
              generalize quoM l = nq at *
              generalize totM l = nt at *
              obtain ⟨l1, l2, l3, l4⟩ := hlaw
              have HL2 := Lib.hid l2
              have HOG := Lib.hid hog
              have HOS := Lib.hid hos
              have HQU := Lib.hid hqu
              have HTO := Lib.hid hto
              have e1 : decide (nq ≤ ng) = true := by simpa using l1
              have hnm : 0 ≤ nm := by
                have := HNM.out
                unfold mostM at this
                rw [← this]
                split
                · omega
                · exact Int.tdiv_nonneg (by have := totM_bound l; omega) (by omega)
              have q1 : IntKind.i64.wrap (3 * nm) = 3 * nm := IntWalk.i64_in _ (by omega)
              have q2 : IntKind.i64.wrap (3 * nq) = 3 * nq := IntWalk.i64_in _ (by omega)
              have q3 : IntKind.i64.wrap (2 * nt) = 2 * nt := IntWalk.i64_in _ (by omega)
              have e3 : decide (3 * nm < nt) = true := by simpa using l3
              have e4 : decide (2 * nt < 3 * nq) = true := by simpa using l4
              obtain ⟨ga, gc, rfl⟩ := hG.form
              obtain ⟨mA, mC, rfl⟩ := hM.form
              clear hog hos hqu hto l2 hG hM hgm hap HM
              go_wp2_with fail
              refine (HOG.out _ (Below.refl _ _)).mono ?_
              rintro e w6 ⟨rfl, hb⟩
              have hb6 := hb5.trans (hb.mono hb5.size)
              clear hb hb5 HOG
              go_wp2_with fail
              refine (HQU.out _ hb6).mono ?_
              rintro e w7 ⟨rfl, hb⟩
              have hb7 := hb6.trans (hb.mono hb6.size)
              clear hb hb6
              go_wp2_with fail
              refine (HOS.out _ hb7).mono ?_
              rintro e w8 ⟨rfl, hb⟩
              have hb8 := hb7.trans (hb.mono hb7.size)
              clear hb hb7
              go_wp2_with fail
              refine (HMO.out _ hb8).mono ?_
              rintro e w9 ⟨rfl, hb⟩
              have hb9 := hb8.trans (hb.mono hb8.size)
              clear hb hb8
              by_cases hnb : nb ≤ nm
              focus
                have e2 : decide (nb ≤ nm) = true := by simpa using hnb
                go_wp2_with fail
              rotate_left
              focus
                have e2 : decide (nb ≤ nm) = false := by simpa using hnb
                have hMl : 0 < M.length := by
                  rcases Nat.eq_zero_or_pos M.length with h | h
                  · exact absurd (HL2.out (List.length_eq_zero_iff.1 h)) hnb
                  · exact h
                have e5 : decide ((0 : Int) < (M.length : Int)) = true := by simp; omega
                go_wp2_with fail
              all_goals
                refine (HMO.out _ hb9).mono ?_
                rintro e w10 ⟨rfl, hb⟩
                have hb10 := hb9.trans (hb.mono hb9.size)
                clear hb hb9
                go_wp2_with fail
                refine (HTO.out _ hb10).mono ?_
                rintro e w11 ⟨rfl, hb⟩
                have hb11 := hb10.trans (hb.mono hb10.size)
                clear hb hb10
                go_wp2_with fail
                refine (HQU.out _ hb11).mono ?_
                rintro e w12 ⟨rfl, hb⟩
                have hb12 := hb11.trans (hb.mono hb11.size)
                clear hb hb11
                go_wp2_with fail
                refine (HTO.out _ hb12).mono ?_
                rintro e w13 ⟨rfl, hb⟩
                go_wp2_with fail
                all_goals (go_ret; exact ⟨rfl, hb12.trans (hb.mono hb12.size)⟩)
end Go.Proofs.YtmldonbmjgelnaaDoor
