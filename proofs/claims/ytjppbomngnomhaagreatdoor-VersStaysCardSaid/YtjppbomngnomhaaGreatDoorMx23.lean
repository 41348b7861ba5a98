/- Unl4, ItemS, VStI, VStJ, VStK, VApp. -/
import Derived.Test.YtjppbomngnomhaaGreatDoorMx22
set_option linter.unnecessarySimpa false
set_option linter.unusedSimpArgs false
set_option linter.unusedVariables false
set_option maxRecDepth 100000
set_option maxHeartbeats 32000000
namespace Go.Proofs.YtjppbomngnomhaaGreatDoor
open Go.RowKit Pl
theorem map_takeS (f : Bs → Bs) (l : List Bs) (i : Nat) (hi : i < l.length) : (l.take (i + 1)).map f = (l.take i).map f ++ [f (l.getD i [])] := by
 rw [List.take_add_one, List.getElem?_eq_getElem hi, List.map_append, List.getD_eq_getElem?_getD, List.getElem?_eq_getElem hi]
 rfl
theorem map_getS (f : Bs → Bs) (l : List Bs) (i : Nat) (hi : i < l.length) : (l.map f).getD i [] = f (l.getD i []) := by
 rw [List.getD_eq_getElem?_getD, List.getElem?_map, List.getD_eq_getElem?_getD, List.getElem?_eq_getElem hi]
 rfl
def clashB (tag : Nat) (l : List Bs) (i k : Nat) : Bool := decide (tagP tag (l.getD i []) = tagP tag (l.getD k [])) && decide (l.getD i [] ≠ l.getD k [])
theorem unlike_no {tag : Nat} {l : List Bs} (h : ∀ i, i < l.length → ∀ k, k < i → clashB tag l i k = false) : unlikeB tag l = false := by
 cases hc : unlikeB tag l
 ·rfl
 ·exfalso
  unfold unlikeB at hc
  rw [List.any_eq_true] at hc
  obtain ⟨i, hi, hc⟩ := hc
  rw [List.any_eq_true] at hc
  obtain ⟨k, hk, hc⟩ := hc
  have := h i (List.mem_range.1 hi) k (List.mem_range.1 hk)
  unfold clashB at this
  rw [this] at hc; cases hc
theorem unlike4_any (tag : Nat) (ht : tag < 200) (v : Value) (l : List Bs) (hl : l.length ≤ 100000) (hs : ∀ i, i < l.length → (l.getD i []).length ≤ 1000000) (w : World) (hv : SS w v l) :
  Calls Tryz.prog 19 #[.int .i64 tag, v] w fun e w' => e = .returned (.bool (unlikeB tag l)) ∧ Below w.heap.size w w' := by
 obtain ⟨va, vc, rfl⟩ := hv.form
 have HV := Lib.hid hv
 have HSZ := Lib.hid hs
 have qt := fun s (h : s.length ≤ 1000000) W => tagged_any tag (by omega) s (by omega) W
 generalize hr : unlikeB tag l = r
 have HR := Lib.hid hr
 clear hv hs hr
 go_enter Tryz.func19, Tryz.ntmps19
 go_wp2_with fail
 go_loopw [5, 6] (fun s5 s6 wr => ∃ i : Nat, s6 = .int .i64 i ∧ i ≤ l.length ∧ Hid (SRow wr w.heap.size s5 ((l.take i).map (tagP tag))) ∧ Below w.heap.size w wr) (fun _ s6 _ => l.length - (intOf s6).toNat)
 case atStart => exact ⟨0, rfl, by omega, Lib.hid (SRow.nil _ _), Below.refl _ _⟩
 case round =>
  obtain ⟨i, rfl, hi, HS, hb⟩ := hrel
  obtain ⟨wr, hwr⟩ := Below.name hb
  subst hwr
  by_cases hlt : i < l.length
  ·have i1 : decide ((i : Int) < (l.length : Int)) = true := by simp; omega
   have i2 : (i : Int) < (l.length : Int) := by omega
   obtain ⟨g, off, e1, hg, c1⟩ := (HV.out.keep hb).at' i hlt
   subst e1
   have hsz := HSZ.out i hlt
   have HT := Lib.hid (map_takeS (tagP tag) l i hlt)
   have HLM : Hid (((l.take i).map (tagP tag)).length = i) := Lib.hid (by simp; omega)
   have q1 := qt (l.getD i []) hsz
   generalize l.getD i [] = x at *
   generalize tagP tag x = tx at *
   have HL := Lib.hid hlt
   clear hlt
   go_wp2_with fail
   refine (q1 _).mono ?_
   rintro e w2 ⟨rfl, hb2⟩
   have hb3 := hb.trans (hb2.mono hb.size)
   have HS2 := Lib.hid (HS.out.keep hb2)
   go_wp2_with (first
    | (at_builtin; refine wpList_appS rfl (.tmp 15) (.tmp 22) rfl w.heap.size _ ((l.take i).map (tagP tag)) rfl (HS2.out.keep (Below.allocS (Below.refl _ _) _)) _ 0 1 1 [tx] rfl rfl (ssrc1 _ tx 9) (by rw [HLM.out]; omega) (by have := hb3.size; simp; omega) ?_; intro v5 w5 hr5 hb5)
    | fail)
   exact ⟨⟨i + 1, by go_num, by have := HL.out; omega, Lib.hid (by rw [HT.out]; exact hr5), (Below.allocS hb3 _).trans hb5⟩, by have := HL.out; simp [intOf]; omega⟩
  ·have i1 : decide ((i : Int) < (l.length : Int)) = false := by simp; omega
   have i3 : decide (i < l.length) = false := by rw [decide_eq_false_iff_not]; omega
   have HM := HS.out
   rw [List.take_of_length_le (by omega)] at HM
   have HM1 := HM.ss
   obtain ⟨ma, mc, hmf⟩ := HM1.form
   rw [List.length_map] at hmf
   subst hmf
   have HMM : Hid (SS wr (.slice ma (l.map (tagP tag)).length mc) (l.map (tagP tag))) := Lib.hid (by rw [List.length_map]; exact HM1)
   have HV2 := Lib.hid (HV.out.keep hb)
   clear hi HS HM HM1
   go_wp2_with fail
   go_loopw [7] (fun s7 wq => ∃ j : Nat, s7 = .int .i64 j ∧ j ≤ l.length ∧ Hid (∀ i, i < j → ∀ k, k < i → clashB tag l i k = false) ∧ ∃ n, wq = wr.drewN n) (fun s7 _ => l.length - (intOf s7).toNat)
   case atStart => exact ⟨0, rfl, by omega, Lib.hid (fun i h => absurd h (by omega)), 0, rfl⟩
   case round =>
    obtain ⟨j, rfl, hj, HF, n1, rfl⟩ := hrel
    by_cases hlj : j < l.length
    ·have j1 : decide ((j : Int) < (l.length : Int)) = true := by simp; omega
     have j2 : (j : Int) < (l.length : Int) := by omega
     go_wp2_with fail
     go_loopw [8] (fun s8 wq => ∃ k : Nat, s8 = .int .i64 k ∧ k ≤ j ∧ Hid (∀ k', k' < k → clashB tag l j k' = false) ∧ ∃ n, wq = wr.drewN n) (fun s8 _ => j - (intOf s8).toNat)
     case atStart => exact ⟨0, rfl, by omega, Lib.hid (fun i h => absurd h (by omega)), n1, rfl⟩
     case round =>
      obtain ⟨k, rfl, hk, HF2, n2, rfl⟩ := hrel
      by_cases hlk : k < j
      ·have k1 : decide ((k : Int) < (j : Int)) = true := by simp; omega
       have k2 : (k : Int) < (l.length : Int) := by omega
       obtain ⟨g, off, e1, _, x1⟩ := HV2.out.at' j hlj
       subst e1
       obtain ⟨g', off', e1, _, x2⟩ := HV2.out.at' k (by omega)
       injection e1 with e1
       injection e1 with e1 e2 _
       subst e1 e2
       obtain ⟨g2, off2, e1, _, y1⟩ := HMM.out.at' j (by rw [List.length_map]; exact hlj)
       subst e1
       obtain ⟨g', off', e1, _, y2⟩ := HMM.out.at' k (by rw [List.length_map]; omega)
       injection e1 with e1
       injection e1 with e1 e2 _
       subst e1 e2
       rw [map_getS _ _ _ hlj] at y1
       rw [map_getS _ _ _ (show k < l.length from by omega)] at y2
       have HYES : Hid (tagP tag (l.getD j []) = tagP tag (l.getD k []) → l.getD j [] ≠ l.getD k [] → r = true) := Lib.hid (fun h1 h2 => by rw [← HR.out]; exact unlikeB_at hlj (by omega) h1 h2)
       have HNO : Hid (¬ (tagP tag (l.getD j []) = tagP tag (l.getD k []) ∧ l.getD j [] ≠ l.getD k []) → ∀ k', k' < k + 1 → clashB tag l j k' = false) := Lib.hid (fun h k' hk' => by
        rcases Nat.lt_or_ge k' k with h1 | h1
        ·exact HF2.out k' h1
        ·have : k' = k := by omega
         subst this
         unfold clashB
         rw [Bool.and_eq_false_iff]
         by_cases h3 : tagP tag (l.getD j []) = tagP tag (l.getD k' [])
         ·right
          rw [decide_eq_false_iff_not]
          exact fun h4 => h ⟨h3, h4⟩
         ·left; simpa using h3)
       generalize tagP tag (l.getD j []) = tj at *
       generalize tagP tag (l.getD k []) = tk at *
       generalize l.getD j [] = xj at *
       generalize l.getD k [] = xk at *
       have HLK := Lib.hid hlk
       have HJ := Lib.hid hlj
       clear hlk hlj hk hj
       by_cases ht1 : tj = tk
       ·have z1 : (tj == tk) = true := by simpa using ht1
        by_cases ht2 : xj = xk
        ·have z2 : (xj == xk) = true := by simpa using ht2
         have z3 : (xj != xk) = false := by simp [ht2]
         have HN := Lib.hid (HNO.out (fun h => h.2 ht2))
         clear ht1 ht2 HNO HYES
         go_wp2_with fail
         go_quiet (fail)
         go_wp2_with fail
         exact ⟨⟨k + 1, by go_num, by have := HLK.out; omega, HN, _, rfl⟩, by have := HLK.out; simp [intOf]; omega⟩
        ·have z2 : (xj == xk) = false := by simpa using ht2
         have z3 : (xj != xk) = true := by simpa using ht2
         have HE := Lib.hid (HYES.out ht1 ht2)
         clear ht1 ht2 HNO HYES
         go_wp2_with fail
         go_quiet (fail)
         go_wp2_with fail
         go_ret
         exact ⟨by rw [HE.out]; rfl, below_drewN (below_drewN hb _) _⟩
       ·have z1 : (tj == tk) = false := by simpa using ht1
        have HN := Lib.hid (HNO.out (fun h => ht1 h.1))
        clear ht1 HNO HYES
        go_wp2_with fail
        go_quiet (fail)
        go_wp2_with fail
        exact ⟨⟨k + 1, by go_num, by have := HLK.out; omega, HN, _, rfl⟩, by have := HLK.out; simp [intOf]; omega⟩
      ·have k1 : decide ((k : Int) < (j : Int)) = false := by simp; omega
       have k3 : decide (k < j) = false := by rw [decide_eq_false_iff_not]; omega
       have HN : Hid (∀ i, i < j + 1 → ∀ k, k < i → clashB tag l i k = false) := Lib.hid (fun i hi k' hk' => by
        rcases Nat.lt_or_ge i j with h1 | h1
        ·exact HF.out i h1 k' hk'
        ·have : i = j := by omega
         subst this
         exact HF2.out k' (by omega))
       have HJ := Lib.hid hlj
       clear hlk hk hlj
       go_wp2_with fail
       exact ⟨⟨j + 1, by go_num, by have := HJ.out; omega, HN, _, rfl⟩, by have := HJ.out; simp [intOf]; omega⟩
    ·have j1 : decide ((j : Int) < (l.length : Int)) = false := by simp; omega
     have j3 : decide (j < l.length) = false := by rw [decide_eq_false_iff_not]; omega
     have HE : Hid (r = false) := Lib.hid (by rw [← HR.out]; exact unlike_no (fun i hi k hk => HF.out i (by omega) k hk))
     clear hlj
     go_wp2_with fail
     go_ret
     exact ⟨by rw [HE.out]; rfl, below_drewN hb _⟩
end Go.Proofs.YtjppbomngnomhaaGreatDoor
namespace Go.Proofs.YtjppbomngnomhaaGreatDoor
open Go.RowKit Pl
theorem item_fields : ((Tryz.prog).fieldsOf 43).toList.map (fun f => (f.type, f.offset, f.name == "_")) = [(9, 0, false), (9, 1, false)] := by kernel_rfl
@[go_sem high] theorem eq_item (n k n2 k2 : Bs) (d : Nat) (w : World) :
  (Op.equalIn (d + 2) 43 (.agg #[.string ⟨List.toArray n⟩, .string ⟨List.toArray k⟩]) (.agg #[.string ⟨List.toArray n2⟩, .string ⟨List.toArray k2⟩])).run Tryz.prog w = .ok (decide (n = n2) && decide (k = k2)) w := by
 rw [run_equalIn_struct w (d + 1) 43 _ _ (by kernel_rfl) (by kernel_rfl)]
 have hf := item_fields
 generalize ((Tryz.prog).fieldsOf 43).toList = l at *
 rcases l with _ | ⟨f0, _ | ⟨f1, _ | ⟨f2, l⟩⟩⟩ <;> simp at hf
 obtain ⟨⟨a1, a2, a3⟩, ⟨b1, b2, b3⟩⟩ := hf
 have q0 : ∀ (n k : Bs), (part 9 #[.string ⟨List.toArray n⟩, .string ⟨List.toArray k⟩] 0).run Tryz.prog w = .ok (.string ⟨List.toArray n⟩) w := fun n k => run_part_plain w (by simp [Program.plainKey, Tryz.underlying9]) rfl
 have q1 : ∀ (n k : Bs), (part 9 #[.string ⟨List.toArray n⟩, .string ⟨List.toArray k⟩] 1).run Tryz.prog w = .ok (.string ⟨List.toArray k⟩) w := fun n k => run_part_plain w (by simp [Program.plainKey, Tryz.underlying9]) rfl
 have e0 := run_equalIn_string (P := Tryz.prog) w d 9 ⟨List.toArray n⟩ ⟨List.toArray n2⟩ Tryz.underlying9
 have e1 := run_equalIn_string (P := Tryz.prog) w d 9 ⟨List.toArray k⟩ ⟨List.toArray k2⟩ Tryz.underlying9
 rw [← beq_toListBytes, str_beq] at e0 e1
 simp only [Op.eqFields, a1, a2, b1, b2, a3, b3, ne_eq, not_false_eq_true, if_true, Sem.run_bind, q0, q1, e0, e1, Result.andThen_ok]
 by_cases h0 : n = n2
 ·subst h0
  by_cases h1 : k = k2
  ·subst h1; simp [Sem.run_bind, Sem.run_ite, q0, q1, e0, e1]
  ·simp [Sem.run_bind, Sem.run_ite, q0, q1, e0, e1, h1]
 ·simp [Sem.run_bind, Sem.run_ite, q0, q1, e0, e1, h0]
theorem IL.drewN {w : World} {v : Value} {l : List It} (h : IL w v l) (n : Nat) : IL (w.drewN n) v l := h.keep (below_drewN (Below.refl _ _) n)
theorem sameitems_any (u v : Value) (l m : List It) (w : World) (hu : IL w u l) (hv : IL w v m) :
  Calls Tryz.prog 17 #[u, v] w fun e w' => e = .returned (.bool (decide (l = m))) ∧ ∃ n, w' = w.drewN n := by
 obtain ⟨a, c, rfl⟩ := hu.form
 obtain ⟨b, d, rfl⟩ := hv.form
 have hls := hu.small
 generalize hr : decide (l = m) = r
 have HR := Lib.hid hr
 clear hr
 by_cases hl : l.length = m.length
 ·have hl1 : ((l.length : Int) == (m.length : Int)) = true := by simp; omega
  have HL := Lib.hid hl
  clear hl
  go_enter Tryz.func17, Tryz.ntmps17
  go_wp2_with fail
  go_loopw [5, 6] (fun s5 s6 wr => ∃ (i : Nat) (q : Bool), i ≤ l.length ∧ s6 = .int .i64 i ∧ s5 = .bool q ∧ Hid ((q = true → l.take i = m.take i) ∧ (q = false → l ≠ m)) ∧ ∃ n, wr = w.drewN n) (fun _ s6 _ => l.length - (intOf s6).toNat)
  case atStart => exact ⟨0, true, by omega, rfl, rfl, Lib.hid ⟨fun _ => rfl, fun h => by cases h⟩, 0, rfl⟩
  case round =>
   obtain ⟨i, q, hi, rfl, rfl, HQ, nq, rfl⟩ := hrel
   cases q
   ·have HZ : Hid (r = false) := Lib.hid (by rw [← HR.out]; simp [HQ.out.2 rfl])
    clear HQ
    go_wp2_with fail
    go_ret
    exact ⟨by rw [HZ.out]; rfl, nq, rfl⟩
   ·by_cases hlt : i < l.length
    ·have hlt' : (i : Int) < (l.length : Int) := by omega
     have hlm : i < m.length := by rw [← HL.out]; exact hlt
     have hlm' : (i : Int) < (m.length : Int) := by omega
     obtain ⟨g, off, rfl, _, c1, c1'⟩ := hu.at i hlt
     obtain ⟨g2, off2, rfl, _, c2, c2'⟩ := hv.at i hlm
     have HS : Hid (l.take (i + 1) = m.take (i + 1) ↔ l.getD i ([], []) = m.getD i ([], [])) := Lib.hid (by
      rw [List.take_succ_eq_append_getElem hlt, List.take_succ_eq_append_getElem hlm, HQ.out.1 rfl, List.append_cancel_left_eq]
      simp [List.getD, List.getElem?_eq_getElem hlt, List.getElem?_eq_getElem hlm])
     have HD : Hid (l.getD i ([], []) ≠ m.getD i ([], []) → l ≠ m) := Lib.hid (fun h e => h (by rw [e]))
     generalize l.getD i ([], []) = x at *
     generalize m.getD i ([], []) = y at *
     obtain ⟨n1, p1⟩ := x
     obtain ⟨n2, p2⟩ := y
     simp only at c1 c1' c2 c2'
     have HU := Lib.hid hu
     have HV := Lib.hid hv
     clear hu hv
     go_wp2_with fail
     go_quiet (fail)
     go_wp2_with fail
     exact ⟨⟨i + 1, decide (n1 = n2) && decide (p1 = p2), by omega, by go_num, rfl, Lib.hid ⟨fun h => HS.out.2 (by simpa using h), fun h => HD.out (by simpa using h)⟩, _, rfl⟩, by simp [intOf]; omega⟩
    ·have hie : i = l.length := by omega
     have hd : decide ((i : Int) < (l.length : Int)) = false := by simp; omega
     have HZ : Hid (r = true) := Lib.hid (by
      rw [← HR.out]
      have h := HQ.out.1 rfl
      rw [hie, List.take_length, HL.out, List.take_length] at h
      simp [h])
     clear HQ
     go_wp2_with fail
     go_ret
     exact ⟨by rw [HZ.out]; rfl, nq, rfl⟩
 ·have hl1 : ((l.length : Int) == (m.length : Int)) = false := by rw [beq_eq_false_iff_ne]; omega
  have HZ : Hid (r = false) := Lib.hid (by rw [← HR.out]; simp; intro e; exact hl (by rw [e]))
  clear hl
  go_enter Tryz.func17, Tryz.ntmps17
  go_wp2_with fail
  go_loopw [5, 6] (fun s5 s6 wr => s5 = .bool false ∧ s6 = .int .i64 0 ∧ wr = w) (fun _ s6 _ => 0)
  case atStart => exact ⟨rfl, rfl, rfl⟩
  case round =>
   obtain ⟨rfl, rfl, rfl⟩ := hrel
   go_wp2_with fail
   go_ret
   exact ⟨by rw [HZ.out]; rfl, 0, rfl⟩
end Go.Proofs.YtjppbomngnomhaaGreatDoor
namespace Go.Proofs.YtjppbomngnomhaaGreatDoor
open Go.RowKit Pl
theorem chgs_app : ∀ (a b : List It) (t : Tri) (L : List It), chgsR t L (a ++ b) = if (chgsR t L a).2 = 0 then chgsR (chgsR t L a).1.1 (chgsR t L a).1.2 b else chgsR t L a
 | [], b, t, L => by rw [List.nil_append, show chgsR t L [] = ((t, L), 0) from rfl]; simp
 | x :: r, b, t, L => by
  rw [List.cons_append, chgsR_cons, chgsR_cons]
  split
  ·exact chgs_app r b _ _
  ·rename_i h
   simp [h]
theorem chgs_at {t : Tri} {L l : List It} (h : (chgsR t L l).2 = 0) (j : Nat) : (chgsR t L (l.take j)).2 = 0 := by
 apply Classical.byContradiction
 intro hn
 have e := chgs_app (l.take j) (l.drop j) t L
 rw [List.take_append_drop, if_neg hn] at e
 rw [e] at h
 exact hn h
theorem chgs_step {t : Tri} {L l : List It} (h : (chgsR t L l).2 = 0) (j : Nat) (hj : j < l.length) :
  chgC (chgsR t L (l.take j)).1.1 (chgsR t L (l.take j)).1.2 (l.getD j ([], [])) = 0 ∧
  (chgsR t L (l.take (j + 1))).1 = (chgT (chgsR t L (l.take j)).1.1 (l.getD j ([], [])), chgL (chgsR t L (l.take j)).1.1 (chgsR t L (l.take j)).1.2 (l.getD j ([], []))) := by
 have h1 := chgs_at h j
 have e1 : l.take (j + 1) = l.take j ++ [l.getD j ([], [])] := by
  rw [List.take_add_one, List.getD_eq_getElem?_getD, List.getElem?_eq_getElem hj]; rfl
 have h2 := chgs_at h (j + 1)
 have e2 := chgs_app (l.take j) [l.getD j ([], [])] t L
 rw [← e1, if_pos h1, chgsR_cons] at e2
 by_cases h3 : chgC (chgsR t L (l.take j)).1.1 (chgsR t L (l.take j)).1.2 (l.getD j ([], [])) = 0
 ·rw [if_pos h3] at e2
  exact ⟨h3, by rw [e2]; rfl⟩
 ·rw [if_neg h3] at e2
  rw [e2] at h2
  exact absurd h2 h3
theorem chgs_gtr {t : Tri} {L l : List It} (hG : GTr t L) (h : (chgsR t L l).2 = 0) (j : Nat) : GTr (chgsR t L (l.take j)).1.1 (chgsR t L (l.take j)).1.2 ∧ (chgsR t L (l.take j)).1.2.length ≤ L.length + j := by
 obtain ⟨g1, g2⟩ := chgs_good (l.take j) t L hG (chgs_at h j)
 exact ⟨g1, by rw [List.length_take] at g2; omega⟩
theorem commit_ok {x : Vs} {h : Int} {l : List It} (hc : (commitV x h l).2.2 = 0) :
  x.last < h ∧ 0 ≤ h ∧ h ≤ 1048576 ∧ (chgsR x.new x.L l).2 = 0 ∧ (commitV x h l).1 = ⟨saveT x.T (nodesT (chgsR x.new x.L l).1.1), x.R ++ [(h, sumT (chgsR x.new x.L l).1.1)], (chgsR x.new x.L l).1.1, h, x.below, (chgsR x.new x.L l).1.2⟩ := by
 unfold commitV at hc ⊢
 split at hc
 ·cases hc
 ·rename_i h1
  split at hc
  ·cases hc
  ·rename_i h2
   split at hc
   ·rename_i h3
    exact absurd hc h3
   ·rename_i h3
    rw [if_neg h1, if_neg h2, if_neg h3]
    exact ⟨by omega, by omega, by omega, by simpa using h3, rfl⟩
theorem commit_no {x : Vs} {h : Int} {l : List It} (hc : (commitV x h l).2.2 ≠ 0) : (commitV x h l).1 = x := by
 unfold commitV at hc ⊢
 split at hc
 ·rename_i h1; rw [if_pos h1]
 ·rename_i h1
  rw [if_neg h1]
  split at hc
  ·rename_i h2; rw [if_pos h2]
  ·rename_i h2
   rw [if_neg h2]
   split at hc
   ·rename_i h3; rw [if_pos h3]
   ·exact absurd rfl hc
structure VsK (x : Vs) (i : Nat) : Prop where
 ok : VsOk x
 up : VsUp x
 L : x.L.length ≤ 10 * i
 T : x.T.length ≤ 1700 * i
 R : x.R.length ≤ i
theorem VsK.start : VsK vs0 0 := ⟨VsOk.start, VsUp.start, by simp [vs0], by simp [vs0], by simp [vs0]⟩
theorem VsK.commit {x : Vs} {i : Nat} (h : VsK x i) (hi : i < 10) (n : Int) (l : List It) (hl : l.length ≤ 10) : VsK (commitV x n l).1 (i + 1) := by
 obtain ⟨c1, c2, c3, _⟩ := commit_len x h.ok n l
 have h1 := h.L
 have h2 := h.T
 have h3 := h.R
 exact ⟨h.ok.commit n l (by omega), h.up.commit n l, by omega, by omega, by omega⟩
theorem VsK.prune {x : Vs} {i : Nat} (h : VsK x i) (b : Int) (hb : b ≤ 9223372036854775807) (I : List Bs) : VsK ⟨keepT x.T I, stayR x b, x.new, x.last, max x.below b, x.L⟩ (i + 1) := by
 have h1 : (keepT x.T I).length ≤ x.T.length := List.length_filter_le _ _
 have h2 : (stayR x b).length ≤ x.R.length := List.length_filter_le _ _
 have h3 := h.L
 have h4 := h.T
 have h5 := h.R
 exact ⟨h.ok.prune b hb I, h.up.prune b I, by show x.L.length ≤ _; omega, by show (keepT x.T I).length ≤ _; omega, by show (stayR x b).length ≤ _; omega⟩
theorem VsK.up1 {x : Vs} {i : Nat} (h : VsK x i) : VsK x (i + 1) := ⟨h.ok, h.up, by have := h.L; omega, by have := h.T; omega, by have := h.R; omega⟩
theorem SRow.modA {w w' : World} {base b2 : Nat} {a : VA} {x : Vs} {v : Value} {l : List Bs} (h : SRow w b2 v l) (hV : VAt w base a x) (hm : Mod [a.v, a.rb, a.sb] w w') : SRow w' b2 v l := by
 rcases h.2 with ⟨rfl, e⟩ | ⟨g, cap, cur, rfl, h1, h2, h3⟩
 ·exact ⟨h.1, .inl ⟨rfl, e⟩⟩
 ·refine h.kept (fun k hk => ?_)
  cases hk
  refine hm.block g (heap_lt h2) ?_
  simp only [List.mem_cons, List.not_mem_nil, or_false, not_or]
  refine ⟨?_, ?_, ?_⟩
  ·rintro rfl
   exact absurd (typ_ne hV.typ h2) (by decide)
  ·rintro rfl
   obtain ⟨es, c, e⟩ := hV.roots.map
   rw [h2] at e; cases e
  ·rintro rfl
   obtain ⟨es, c, e⟩ := hV.sto.isMap
   rw [h2] at e; cases e
theorem VAt.grow {w w' : World} {base m : Nat} {a : VA} {x : Vs} (h : VAt w base a x) (hm : IsMap w m) (hg : w.grownBy w' (some m)) (h1 : m ≠ a.rb) (h2 : m ≠ a.sb) : VAt w' base a x := by
 have hmm := MM.of_grown hm hg
 obtain ⟨pt, hB, hT⟩ := h.blk
 exact ⟨h.hv, h.hr, ⟨pt, hB.mm hmm (by simp), hT.mm hmm⟩, h.typ.grownM hm hg, h.sto.mm hmm (hg.block a.sb h.sto.blt (by intro e; injection e with e; exact h2 e.symm)), h.roots.mm hmm (hg.block a.rb h.roots.lt (by intro e; injection e with e; exact h1 e.symm)), h.ne⟩
end Go.Proofs.YtjppbomngnomhaaGreatDoor
namespace Go.Proofs.YtjppbomngnomhaaGreatDoor
open Go.RowKit Pl
structure StI (w : World) (B : Nat) (wr : World) (a : VA) (m i : Nat) (x : Vs) (W : List (Int × Tri)) (X : List Bs) (s5 : Value) : Prop where
 va : VAt wr B a x
 g : VsK x i
 st : StG x (lookW W) X
 wt : WtM wr m W
 wl : ∀ k ∈ hts W, k ≤ x.last
 wn : W.length ≤ i
 mr : m ≠ a.rb
 ms : m ≠ a.sb
 mb : w.heap.size ≤ m
 row : SRow wr w.heap.size s5 X
 xl : X.length ≤ 1700 * i
 xs : ∀ t ∈ X, t.length ≤ 1000
 bel : Below w.heap.size w wr
 bs : B ≤ wr.heap.size
 ws : w.heap.size ≤ B
 emp : X = [] → s5.ownBlock = none
section
variable {w wr w' : World} {B : Nat} {a : VA} {m i : Nat} {x : Vs} {W : List (Int × Tri)} {X : List Bs} {s5 : Value}
theorem StI.size (h : StI w B wr a m i x W X s5) : w.heap.size ≤ wr.heap.size := Nat.le_trans h.ws h.bs
theorem StI.keep (h : StI w B wr a m i x W X s5) (hb : Below wr.heap.size wr w') : StI w B w' a m i x W X s5 :=
 ⟨h.va.keep hb, h.g, h.st, h.wt.keep hb, h.wl, h.wn, h.mr, h.ms, h.mb, h.row.keep hb, h.xl, h.xs, h.bel.trans (hb.mono h.size), Nat.le_trans h.bs hb.size, h.ws, h.emp⟩
theorem StI.up1 (h : StI w B wr a m i x W X s5) : StI w B wr a m (i + 1) x W X s5 :=
 ⟨h.va, h.g.up1, h.st, h.wt, h.wl, by have := h.wn; omega, h.mr, h.ms, h.mb, h.row, by have := h.xl; omega, h.xs, h.bel, h.bs, h.ws, h.emp⟩
theorem StI.bels (h : StI w B wr a m i x W X s5) (hm : Mod [a.v, a.rb, a.sb] wr w') : Below w.heap.size w w' := h.bel.trans (h.va.low hm h.ws h.size)
theorem StI.prune (h : StI w B wr a m i x W X s5) (b : Int) (hb : b ≤ 9223372036854775807) {S I : List Bs} (hS : ∀ r, r ∈ S ↔ ∃ e ∈ stayR x b, e.2 = r) (hI : ∀ s, s ∈ I ↔ Rch x.T S s)
  (hV : VAt w' B a ⟨keepT x.T I, stayR x b, x.new, x.last, max x.below b, x.L⟩) (hm : Mod [a.v, a.rb, a.sb] wr w') : StI w B w' a m (i + 1) ⟨keepT x.T I, stayR x b, x.new, x.last, max x.below b, x.L⟩ W X s5 :=
 ⟨hV, h.g.prune b hb I, h.st.prune b hS hI, h.wt.modA h.va hm h.mr h.ms, h.wl, by have := h.wn; omega, h.mr, h.ms, h.mb, h.row.modA h.va hm, by have := h.xl; omega, h.xs, h.bels hm, Nat.le_trans h.bs hm.size, h.ws, h.emp⟩
theorem StI.still (h : StI w B wr a m i x W X s5) (hV : VAt w' B a x) (hm : Mod [a.v, a.rb, a.sb] wr w') : StI w B w' a m i x W X s5 :=
 ⟨hV, h.g, h.st, h.wt.modA h.va hm h.mr h.ms, h.wl, h.wn, h.mr, h.ms, h.mb, h.row.modA h.va hm, h.xl, h.xs, h.bels hm, Nat.le_trans h.bs hm.size, h.ws, h.emp⟩
structure StM (w : World) (B : Nat) (wr : World) (a : VA) (m i : Nat) (x y : Vs) (W : List (Int × Tri)) (X : List Bs) (s5 : Value) : Prop where
 va : VAt wr B a y
 gx : VsK x i
 g : VsK y (i + 1)
 st : StG x (lookW W) X
 wt : WtM wr m W
 wl : ∀ k ∈ hts W, k ≤ x.last
 wn : W.length ≤ i
 mr : m ≠ a.rb
 ms : m ≠ a.sb
 mb : w.heap.size ≤ m
 row : SRow wr w.heap.size s5 X
 xl : X.length ≤ 1700 * i
 xs : ∀ t ∈ X, t.length ≤ 1000
 bel : Below w.heap.size w wr
 bs : B ≤ wr.heap.size
 ws : w.heap.size ≤ B
 emp : X = [] → s5.ownBlock = none
theorem StI.commit (h : StI w B wr a m i x W X s5) {y : Vs} (hg : VsK y (i + 1)) (hV : VAt w' B a y) (hm : Mod [a.v, a.rb, a.sb] wr w') : StM w B w' a m i x y W X s5 :=
 ⟨hV, h.g, hg, h.st, h.wt.modA h.va hm h.mr h.ms, h.wl, h.wn, h.mr, h.ms, h.mb, h.row.modA h.va hm, h.xl, h.xs, h.bels hm, Nat.le_trans h.bs hm.size, h.ws, h.emp⟩
theorem StM.size {y : Vs} (h : StM w B wr a m i x y W X s5) : w.heap.size ≤ wr.heap.size := Nat.le_trans h.ws h.bs
theorem StM.keep {y : Vs} (h : StM w B wr a m i x y W X s5) (hb : Below wr.heap.size wr w') : StM w B w' a m i x y W X s5 :=
 ⟨h.va.keep hb, h.gx, h.g, h.st, h.wt.keep hb, h.wl, h.wn, h.mr, h.ms, h.mb, h.row.keep hb, h.xl, h.xs, h.bel.trans (hb.mono h.size), Nat.le_trans h.bs hb.size, h.ws, h.emp⟩
theorem StM.done {k : Int} {l : List It} {v : Value} (hi : i < 10) (h : StM w B wr a m i x (commitV x k l).1 W X s5) (hc : (commitV x k l).2.2 = 0)
  (hW : WtM w' m (W ++ [(k, (chgsR x.new x.L l).1.1)])) (hV : VAt w' B a (commitV x k l).1) (hr : SRow w' w.heap.size v (X ++ nodesT (chgsR x.new x.L l).1.1)) (hb : Below w.heap.size w w') (hs : wr.heap.size ≤ w'.heap.size) (he : X ++ nodesT (chgsR x.new x.L l).1.1 = [] → v.ownBlock = none) :
  StI w B w' a m (i + 1) (commitV x k l).1 (W ++ [(k, (chgsR x.new x.L l).1.1)]) (X ++ nodesT (chgsR x.new x.L l).1.1) v := by
 obtain ⟨c1, c2, c3, c4, c5⟩ := commit_ok hc
 have hnk : k ∉ hts W := fun hk => by have := h.wl k hk; omega
 have hg := h.g
 rw [c5] at hg hV ⊢
 have hG : GTr (chgsR x.new x.L l).1.1 (chgsR x.new x.L l).1.2 := hg.ok.gt
 have hL : (chgsR x.new x.L l).1.2.length ≤ 10 * (i + 1) := hg.L
 have hn := hG.nodes
 refine ⟨hV, hg, ?_, hW, fun j hj => ?_, ?_, h.mr, h.ms, h.mb, hr, ?_, fun t ht => ?_, hb, Nat.le_trans h.bs hs, h.ws, he⟩
 ·rw [lookW_new hnk]
  exact h.st.commit k (fun hk => by have := (h.gx.up.top k hk).2; omega) _ _ _ hG (by omega) _
 ·show j ≤ k
  unfold hts at hj
  rw [List.map_append, List.mem_append] at hj
  rcases hj with hj | hj
  ·have := h.wl j hj; omega
  ·simp at hj; omega
 ·have := h.wn
  rw [List.length_append]; simp; omega
 ·have := h.xl
  rw [List.length_append]; omega
 ·rcases List.mem_append.1 ht with ht | ht
  ·exact h.xs t ht
  ·exact (nodes_small _ 16 (by omega) hG.rep.ok hG.can t ht).1
end
end Go.Proofs.YtjppbomngnomhaaGreatDoor
namespace Go.Proofs.YtjppbomngnomhaaGreatDoor
open Go.RowKit Pl
theorem load_rep (T : List Ent) (root : Bs) (h : (loadR T root).2 = 0) : ∃ L, RepT (loadR T root).1 L ∧ L.length ≤ 1024 := by
 unfold loadR at h ⊢
 by_cases h0 : root = []
 ·rw [if_pos h0]
  exact ⟨[], RepT.start, by simp⟩
 ·rw [if_neg h0] at h ⊢
  have hl := load_ok T 17 root 0 false (0, 0) (by omega) (by omega) rfl
  have h1 := hl.ok h
  have h2 := hl.even h
  have h3 := hl.many h
  refine ⟨_, rep_of h1 (fun x hx => by have := h2 x hx; omega), ?_⟩
  rw [List.length_map]
  have h4 := h3.2 (by omega)
  show (rp (loadK T 17 root 0 false (0, 0)).1).length ≤ 1024
  omega
theorem StG.loads {x : Vs} {W : Int → Option Tri} {X : List Bs} (h : StG x W X) {k : Int} (hk : k ∈ hrs x.R) :
  ∃ t L, W k = some t ∧ GTr t L ∧ L.length ≤ 1000 ∧ rootV x k = (sumT t, 0) ∧ ((atV x k).2 ≠ 0 → ¬ OneS X) ∧ ((atV x k).2 = 0 → ∃ L', RepT (atV x k).1 L' ∧ L'.length ≤ 1024 ∧ (OneS X → L' = L)) := by
 obtain ⟨t, L, a1, a2, a3, a4, a5⟩ := h.at hk
 refine ⟨t, L, a1, a2, a3, a4, fun hc ho => ?_, fun hc => ?_⟩
 ·rw [a5 ho] at hc
  exact hc rfl
 ·by_cases ho : OneS X
  ·rw [a5 ho]
   exact ⟨L, a2.rep, by omega, fun _ => rfl⟩
  ·have e : atV x k = loadR x.T (sumT t) := by
    unfold atV
    rw [a4]
    rfl
   rw [e] at hc ⊢
   obtain ⟨L', b1, b2⟩ := load_rep _ _ hc
   exact ⟨L', b1, b2, fun h => absurd h ho⟩
end Go.Proofs.YtjppbomngnomhaaGreatDoor
namespace Go.Proofs.YtjppbomngnomhaaGreatDoor
open Go.RowKit Pl
structure StrB (w : World) (g : Nat) : Prop where
 obj : ∃ cur fz, w.heap[g]? = some (Obj.cells cur 9 fz)
 one : ∃ s : Bs, w.cell? ⟨g, 0, none⟩ = some (.string ⟨List.toArray s⟩)
theorem SRow.strB {w : World} {b k : Nat} {v : Value} {l : List Bs} (h : SRow w b v l) (hl : l ≠ []) (hk : v.ownBlock = some k) : StrB w k := by
 have h2 : ∃ cur fz, w.heap[k]? = some (Obj.cells cur 9 fz) := by
  rcases h.2 with ⟨rfl, e⟩ | ⟨g, cap, cur, rfl, h1, h2, h3⟩
  ·cases hk
  ·cases hk
   exact ⟨_, _, h2⟩
 refine ⟨h2, ?_⟩
 rcases h.cells with ⟨e, _⟩ | ⟨g, cap, e, q1, q2, q3, q4, hc, q5⟩
 ·rw [e] at hk; cases hk
 ·rw [e] at hk
  cases hk
  exact ⟨_, hc 0 (List.length_pos_iff.2 hl)⟩
section
variable {w w' : World} {g : Nat}
theorem StrB.ne {b : Nat} {cs : Array Value} (h : StrB w g) (hB : Blk w b cs) (h0 : ∀ s : Bs, cs[0]? ≠ some (.string ⟨List.toArray s⟩)) : b ≠ g := by
 rintro rfl
 obtain ⟨s, hs⟩ := h.one
 rw [hB.cell 0] at hs
 exact h0 s hs
theorem StrB.blk {b : Nat} {cs : Array Value} (h : StrB w g) (hg : w.grownBy w' (some g)) (hB : Blk w b cs) (h0 : ∀ s : Bs, cs[0]? ≠ some (.string ⟨List.toArray s⟩)) : Blk w' b cs :=
 hB.of_block (hg.block b hB.lt (by intro e; injection e with e; exact h.ne hB h0 e)) hg.size
theorem StrB.typ {b : Nat} {t u : TypeId} (h : StrB w g) (hn : t ≠ 9) {c : Array Value} {fz : Nat × Nat} (hg : w.heap[b]? = some (Obj.cells c t fz)) : b ≠ g := by
 rintro rfl
 obtain ⟨cur, fz, h1⟩ := h.obj
 rw [hg] at h1
 injection h1 with h1
 injection h1 with _ h1
 exact hn h1
theorem KAt.str (h : StrB w g) (hg : w.grownBy w' (some g)) {t : Tri} {p : Option Nat} (hT : KAt w t p) : KAt w' t p := by
 induction hT with
 | nil => exact .nil
 | knot t b ps hn hk hK ih => exact .knot t b ps hn ih (h.blk hg hK (fun s => by simp [kn, nd]))
theorem TAt.str (h : StrB w g) (hg : w.grownBy w' (some g)) {t : Tri} {p : Nat} (hT : TAt w p t) : TAt w' p t := by
 obtain ⟨kp, h1, h2⟩ := hT
 exact ⟨kp, h.blk hg h1 (fun s => by cases kp <;> simp), h2.str h hg⟩
theorem StrB.map {m : Nat} (h : StrB w g) (hm : IsMap w m) : m ≠ g := by
 rintro rfl
 obtain ⟨cur, fz, h1⟩ := h.obj
 obtain ⟨es, c, hm⟩ := hm
 rw [hm] at h1
 cases h1
theorem VAt.str (h : StrB w g) (hg : w.grownBy w' (some g)) {base : Nat} {a : VA} {x : Vs} (hV : VAt w base a x) : VAt w' base a x := by
 obtain ⟨pt, hB, hT⟩ := hV.blk
 have hb : ∀ k, k < w.heap.size → k ≠ g → w'.heap[k]? = w.heap[k]? := fun k hk hn => hg.block k hk (by intro e; injection e with e; exact hn e)
 refine ⟨hV.hv, hV.hr, ⟨pt, h.blk hg hB (fun s => by simp), hT.str h hg⟩, hV.typ.at (hb a.v hB.lt (h.ne hB (fun s => by simp))), ?_, ?_, hV.ne⟩
 ·refine hV.sto.kept hg.size (fun k hk => hb k (stok_lt hk) ?_)
  rcases hk with ⟨_, _, e⟩ | ⟨_, _, e⟩ | ⟨_, _, e⟩
  ·exact h.map ⟨_, _, e⟩
  ·exact h.typ (u := 9) (by decide) e
  ·exact h.typ (u := 9) (by decide) e
 ·exact hV.roots.kept hg.size (hb a.rb hV.roots.lt (h.map hV.roots.map)) (fun k c fz e => hb k (heap_lt e) (h.typ (u := 9) (by decide) e))
theorem WtM.str (h : StrB w g) (hg : w.grownBy w' (some g)) {m : Nat} {W : List (Int × Tri)} (hW : WtM w m W) : WtM w' m W :=
 hW.at' (hg.block m hW.lt (by intro e; injection e with e; exact h.map hW.map e)) (fun _ _ hT => hT.str h hg)
end
theorem app_frame {w w' : World} {v : Value} {X : List Bs} {b : Nat} (hr : SRow w b v X) (he : X = [] → v.ownBlock = none) (hg : w.grownBy w' v.ownBlock) :
  (∀ t p, TAt w p t → TAt w' p t) ∧ (∀ base a x, VAt w base a x → VAt w' base a x) ∧ (∀ m W, WtM w m W → WtM w' m W) ∧ (∀ b cs, Blk w b cs → (∀ s : Bs, cs[0]? ≠ some (.string ⟨List.toArray s⟩)) → Blk w' b cs) := by
 cases hk : v.ownBlock with
 | none =>
  rw [hk] at hg
  have hb : Below w.heap.size w w' := ⟨hg.os, hg.tape, hg.output, hg.size, fun k hk => hg.block k hk (by simp)⟩
  exact ⟨fun _ _ h => h.keep hb, fun _ _ _ h => h.keep hb, fun _ _ h => h.keep hb, fun _ _ h _ => h.keep hb⟩
 | some g =>
  rw [hk] at hg
  have hX : X ≠ [] := fun e => by rw [he e] at hk; cases hk
  have hS := hr.strB hX hk
  exact ⟨fun _ _ h => h.str hS hg, fun _ _ _ h => h.str hS hg, fun _ _ h => h.str hS hg, fun _ _ h h0 => hS.blk hg h h0⟩
section
variable {ops : Array Oper} {o : Oper} {rest : List Oper} {a : Act} {w : World} {Q : Exit → Act → World → Prop}
theorem wpList_appSG (hgd : o.guard = none) (s x : Operand)
  (ho : o.op = .call { callee := .builtin .append, args := #[s, x], argTypes := #[39, 39] })
  (base : Nat) (v : Value) (l : List Bs) (hs : a.eval s = v) (hown : SRow w base v l)
  (u : Value) (news : List Bs) (hx : a.eval x = u) (hsrc : SS w u news)
  (hlen : l.length + news.length ≤ 1000000) (hbase : base ≤ w.heap.size)
  (h : ∀ v' w', SRow w' base v' (l ++ news) → w.grownBy w' v.ownBlock → (news = [] → v' = v) → wpList Tryz.prog ops Q rest (a.put o.dst v') w') : wpList Tryz.prog ops Q (o :: rest) a w := by
 obtain ⟨au, cu, hu, h1, h2, h3⟩ := hsrc
 by_cases hn : news = []
 ·subst hn
  obtain ⟨i0, hi, hz0, hz1, hz2⟩ := info_parts infoStr
  obtain ⟨va, vc, hv⟩ := hown.form
  have hle : l.length ≤ vc := by
   rcases hown.cells with ⟨e, e2⟩ | ⟨g, cap, e, _, _, h4, _⟩
   ·subst e2; simp
   ·rw [hv] at e; injection e with _ _ e; subst e; exact h4
  have hS : Src Tryz.prog i0.size 39 u 0 [] w := by
   subst hu
   cases au with
   | none => exact Src.ofNil w Tryz.underlying39 cu
   | some ad => exact Src.ofSlice w Tryz.underlying39 ad 0 cu [] (by simp) (fun j u h => by simp at h) (fun _ h => by cases h)
  have hr := run_append_nothing (P := Tryz.prog) w 39 39 o.type 9 i0 Tryz.underlying39 hi va l.length vc hle u hS
  refine wpList_plain hgd fun K hK => ?_
  unfold Oper.wp execOp
  simp only [ho, resolve, invoke, builtin, Sem.run_bind, Sem.run_pure, Result.andThen_ok, List.map_toArray, List.map_cons, List.map_nil, hs, hx, hv, hr]
  exact hK _ _ (h _ w (by rw [List.append_nil, ← hv]; exact hown) ⟨rfl, rfl, rfl, Nat.le_refl _, fun _ _ _ => rfl⟩ (fun _ => hv.symm))
 ·obtain ⟨g, off, rfl, hg, hc⟩ := h3 hn
  obtain ⟨i0, hi, hz0, hz1, hz2⟩ := info_parts infoStr
  obtain ⟨v', w', hr, k2, k3, _, k5⟩ := run_append_own_at (P := Tryz.prog) w base 39 o.type 9 i0 (.string ⟨#[]⟩) 1 16 Tryz.underlying39 hi hz0 hz1 hz2 rfl (by decide) v l.length (sv l) hown ⟨g, off, none⟩ news.length cu (sv news) (by simp [sv])
   (fun j y hj => by
    unfold sv at hj
    rw [List.getElem?_map] at hj
    obtain ⟨z, hz, rfl⟩ := Option.map_eq_some_iff.1 hj
    have hjl : j < news.length := (List.getElem?_eq_some_iff.1 hz).1
    have := hc j hjl
    rw [List.getD_eq_getElem?_getD, hz] at this
    rw [Addr.add_lit]; exact this) (fun y hy => by
    unfold sv at hy
    obtain ⟨z, _, rfl⟩ := List.mem_map.1 hy
    simp [Value.oneCell']) (by unfold maxLen; omega)
   (by omega) hbase
  refine wpList_plain hgd fun K hK => ?_
  unfold Oper.wp execOp
  simp only [ho, resolve, invoke, builtin, Sem.run_bind, Sem.run_pure, Result.andThen_ok, List.map_toArray, List.map_cons, List.map_nil, hs, hx.trans hu, hr]
  refine hK _ _ (h v' w' ?_ k3 (fun e => absurd e hn))
  unfold SRow
  rw [List.length_append, show sv (l ++ news) = sv l ++ sv news from by simp [sv]]
  exact k2
end
end Go.Proofs.YtjppbomngnomhaaGreatDoor
