/- Ref8, Writ8, Fine, WritA. -/
import Derived.Test.YtdddcncjmnekcaaGreatDoorMg2
import Derived.Test.YtdddcncjmnekcaaGreatDoorMg10
import Derived.Test.YtdddcncjmnekcaaGreatDoorMg14
import Derived.Test.YtdddcncjmnekcaaGreatDoorMg20
set_option linter.unnecessarySimpa false

/- Walks of the document's answer for layer 8. -/
set_option linter.unusedSimpArgs false
set_option linter.unusedVariables false
namespace Go.Proofs.YtdddcncjmnekcaaGreatDoor
open Go.RowKit Pl

set_option maxRecDepth 100000 in
set_option maxHeartbeats 1000000 in
theorem rkids_any (kind : Int) (path val : Bs) (kid : Nat → Bs) (w : World) :
    Calls Tryz.prog 33 #[.agg (nd kind path val kid).toArray] w fun e w' => ∃ (x : Option Addr) (cap : Nat), e = .returned (.slice x (kidsF kid).length cap) ∧ SRow w' (w.heap.size + 1) (.slice x (kidsF kid).length cap) (kidsF kid) ∧ Below w.heap.size w w' := by
  have hB0 := Blk.new w (nd kind path val kid).toArray 69
  have hb0 : Below w.heap.size w (w.alloc (.cells (nd kind path val kid).toArray 69)) := Below.allocS (Below.refl _ _) _
  have hs0 : (w.alloc (.cells (nd kind path val kid).toArray 69)).heap.size = w.heap.size + 1 := by simp
  go_enter Tryz.func33, Tryz.ntmps33
  go_wp2_with fail
  generalize w.alloc (.cells (nd kind path val kid).toArray 69) = W0 at *
  go_loopw [3, 4] (fun s3 s4 wr => ∃ k : Nat, k ≤ 16 ∧ s4 = .int .i64 k ∧ SRow wr (w.heap.size + 1) s3 (kidsTo kid k) ∧ Below W0.heap.size W0 wr) (fun _ s4 _ => 16 - (intOf s4).toNat)
  case atStart => exact ⟨0, by omega, rfl, SRow.nil _ _, Below.refl _ _⟩
  case round =>
    obtain ⟨k, hk, rfl, hS, hb⟩ := hrel
    rename_i wr
    have hB := hB0.keep hb
    have hbz := hB.lt
    by_cases hlt : k < 16
    · have hki := blk_kid hB k hlt
      have hfr := hB.froz
      have hlt' : (k : Int) < 16 := by omega
      have hkl := kidsTo_len kid k
      have HKS := Lib.hid (kidsTo_succ kid k)
      by_cases he : kid k = []
      · have HK : Hid (kidsTo kid (k + 1) = kidsTo kid k) := Lib.hid (by rw [HKS.out, if_pos he]; simp)
        rw [he] at hki
        clear he
        go_wp2_with fail
        exact ⟨⟨k + 1, by omega, by go_num, by rw [HK.out]; exact hS, hb⟩, by simp [intOf]; omega⟩
      · have HK : Hid (kidsTo kid (k + 1) = kidsTo kid k ++ [kid k]) := Lib.hid (by rw [HKS.out, if_neg he])
        have he1 : (kid k).isEmpty = false := by simpa using he
        generalize hx : kid k = x at *
        clear he
        go_wp2_with (at_builtin; refine wpList_appS rfl (.tmp 14) (.tmp 19) rfl (w.heap.size + 1) _ (kidsTo kid k) rfl (hS.alloc _) wr.heap.size 0 1 1 [x] rfl rfl (ssrc1 _ _ _) (by omega) (by have := hb.size; simp; omega) ?_; rintro v' w2 hS2 hb2)
        exact ⟨⟨k + 1, by omega, by go_num, by rw [HK.out]; exact hS2, (Below.allocS hb _).trans (by rw [hs0]; exact hb2)⟩, by simp [intOf]; omega⟩
    · have hke : k = 16 := by omega
      subst hke
      go_wp2_with fail
      go_ret
      obtain ⟨x, cap, hv⟩ := hS.form
      rw [hv] at hS
      exact ⟨x, cap, congrArg Ending.returned hv, hS, hb0.trans (hb.mono (by omega))⟩

set_option maxRecDepth 100000 in
set_option maxHeartbeats 1000000 in
theorem rfine_any (kind : Int) (path val : Bs) (kid : Nat → Bs) (hp : path.length ≤ 9223372036854775807) (w : World) :
    Calls Tryz.prog 46 #[.agg (nd kind path val kid).toArray] w fun e w' => e = .returned (.bool (fineR kind path val kid)) ∧ Below w.heap.size w w' := by
  generalize hr : fineR kind path val kid = r
  unfold fineR at hr
  have HR := Lib.hid hr
  clear hr
  have hB0 := Blk.new w (nd kind path val kid).toArray 69
  go_enter Tryz.func46, Tryz.ntmps46
  go_wp2_with (refine wpList_node rfl (.tmp 1) rfl rfl hB0 ?_)
  refine (rkids_any kind path val kid _).mono ?_
  rintro e w1 ⟨va, vc, rfl, hS, hb⟩
  have hB : Blk w1 w.heap.size (nd kind path val kid).toArray := hB0.keep hb
  have hb0 : Below w.heap.size w w1 := (Below.allocS (Below.refl _ _) _).trans (hb.mono (by simp))
  clear hb hB0
  have hkl := kidsTo_len kid 16
  have hkl' : (kidsF kid).length ≤ 16 := hkl
  clear hkl
  obtain ⟨b1, b2, b3⟩ := id hB
  generalize hks : kidsF kid = ks at *
  go_wp2_with fail
  go_loop [4] (fun s4 => ∃ i : Nat, i ≤ ks.length ∧ s4 = .int .i64 i ∧ Hid (∀ j, j < i → (ks.getD j []).length = 32)) (fun s4 => ks.length - (intOf s4).toNat)
  case atStart => exact ⟨0, by omega, rfl, Lib.hid (fun j hj => by omega)⟩
  case round =>
    obtain ⟨i, hi, rfl, HA⟩ := hrel
    by_cases hlt : i < ks.length
    · rcases hS.cells with ⟨hx, hx2⟩ | ⟨g, cap, hx, hgb, hgl, hn, hm, hcl, hf⟩
      · rw [hx2] at hlt; cases hlt
      obtain ⟨rfl, rfl⟩ : va = some ⟨g, 0, none⟩ ∧ vc = cap := by
        injection hx with h1 h2 h3
        exact ⟨h1, h3⟩
      have hci := hcl i hlt
      clear hcl hx
      by_cases h32 : (ks.getD i []).length = 32
      · have HN : Hid (∀ j, j < i + 1 → (ks.getD j []).length = 32) := Lib.hid (fun j hj => by
          rcases Nat.lt_or_ge j i with h | h
          · exact HA.out j h
          · have : j = i := by omega
            subst this; exact h32)
        generalize ks.getD i [] = x at hci h32
        have hbb : ((x.length : Int) != 32) = false := by simp; omega
        clear h32
        go_wp2_with fail
        exact ⟨⟨i + 1, by omega, by go_num, HN⟩, by simp [intOf]; omega⟩
      · have HN : Hid (r = false) := Lib.hid (by rw [← HR.out, if_pos (all32_not ks i hlt h32)])
        generalize ks.getD i [] = x at hci h32
        have hbb : ((x.length : Int) != 32) = true := by simp; omega
        clear h32
        go_wp2_with fail
        go_ret
        exact ⟨by rw [HN.out]; rfl, hb0⟩
    · have hall : all32 ks = true := by
        unfold all32
        rw [List.all_eq_true]
        intro s hs
        obtain ⟨j, hj, rfl⟩ := List.getElem_of_mem hs
        have := HA.out j (by omega)
        simpa [List.getD, List.getElem?_eq_getElem hj] using this
      have hr1 := HR.out
      rw [if_neg (by simp [hall])] at hr1
      have HR1 := Lib.hid hr1
      clear hr1 HR HA hall hS
      have hie : i = ks.length := by omega
      subst hie
      go_wp2_with fail
      refine (rfit_any path hp _).mono ?_
      rintro e w2 ⟨rfl, rfl⟩
      cases hf : fit path
      · have HN : Hid (r = false) := Lib.hid (by rw [← HR1.out, if_pos (.inl hf)])
        go_wp2_with fail
        all_goals (go_ret; exact ⟨by rw [HN.out]; rfl, hb0⟩)
      · by_cases h16 : 16 < path.length
        · have HN : Hid (r = false) := Lib.hid (by rw [← HR1.out, if_pos (.inr (.inl h16))])
          have hd : decide ((16 : Int) < (path.length : Int)) = true := by simp; omega
          go_wp2_with fail
          all_goals (go_ret; exact ⟨by rw [HN.out]; rfl, hb0⟩)
        · have hd : decide ((16 : Int) < (path.length : Int)) = false := by simp; omega
          by_cases h32 : 32 < val.length
          · have HN : Hid (r = false) := Lib.hid (by rw [← HR1.out, if_pos (.inr (.inr h32))])
            have hd2 : decide ((32 : Int) < (val.length : Int)) = true := by simp; omega
            go_wp2_with fail
            all_goals (go_ret; exact ⟨by rw [HN.out]; rfl, hb0⟩)
          · have hd2 : decide ((32 : Int) < (val.length : Int)) = false := by simp; omega
            have hr2 := HR1.out
            rw [if_neg (by simp [hf, h16, h32])] at hr2
            have HR2 := Lib.hid hr2
            clear hr2 HR1 hf
            by_cases k1 : kind = 1
            · have HN : Hid (r = (decide (ks.length = 0) && !val.isEmpty)) := Lib.hid (by rw [← HR2.out, if_pos k1])
              subst k1
              by_cases hl : ks.length = 0
              · have hl1 : ((ks.length : Int) == 0) = true := by rw [hl]; rfl
                go_wp2_with fail
                all_goals (go_ret; exact ⟨by rw [HN.out]; simp [hl], hb0⟩)
              · have hl1 : ((ks.length : Int) == 0) = false := by rw [beq_eq_false_iff_ne]; omega
                go_wp2_with fail
                all_goals (go_ret; exact ⟨by rw [HN.out]; simp [hl], hb0⟩)
            · by_cases k2 : kind = 2
              · have HN : Hid (r = (decide (ks.length = 1) && !(kid 0).isEmpty && decide (1 ≤ path.length) && val.isEmpty)) := Lib.hid (by rw [← HR2.out, if_neg k1, if_pos k2])
                subst k2
                clear HR2 k1 h16 h32
                by_cases hl : ks.length = 1
                · have hl1 : ((ks.length : Int) == 1) = true := by rw [hl]; rfl
                  cases h0 : (kid 0).isEmpty
                  · have h0' : ¬ kid 0 = [] := by simpa using h0
                    by_cases hp1 : 1 ≤ path.length
                    · have hp1' : decide ((1 : Int) ≤ (path.length : Int)) = true := by simp; omega
                      cases hv : val.isEmpty
                      · have hv' : ¬ val = [] := by simpa using hv
                        go_wp2_with fail
                        all_goals (go_ret; exact ⟨ret_bool (by rw [HN.out]; simp [*]), hb0⟩)
                      · have hv' : val = [] := by simpa using hv
                        subst hv'
                        go_wp2_with fail
                        all_goals (go_ret; exact ⟨ret_bool (by rw [HN.out]; simp [*]), hb0⟩)
                    · have hp1' : decide ((1 : Int) ≤ (path.length : Int)) = false := by simp; omega
                      go_wp2_with fail
                      all_goals (go_ret; exact ⟨ret_bool (by rw [HN.out]; simp [*]), hb0⟩)
                  · have h0' : kid 0 = [] := by simpa using h0
                    go_wp2_with fail
                    all_goals (go_ret; exact ⟨ret_bool (by rw [HN.out]; simp [*]), hb0⟩)
                · have hl1 : ((ks.length : Int) == 1) = false := by rw [beq_eq_false_iff_ne]; omega
                  go_wp2_with fail
                  all_goals (go_ret; exact ⟨ret_bool (by rw [HN.out]; simp [*]), hb0⟩)
              · by_cases k3 : kind = 3
                · have HN : Hid (r = (decide (path.length = 0) && (decide (2 ≤ ks.length) || decide (ks.length = 1) && !val.isEmpty))) := Lib.hid (by rw [← HR2.out, if_neg k1, if_neg k2, if_pos k3])
                  subst k3
                  clear HR2 k1 k2 h16 h32
                  by_cases hp0 : path.length = 0
                  · have hp0' : ((path.length : Int) == 0) = true := by rw [hp0]; rfl
                    by_cases hl : 2 ≤ ks.length
                    · have hl1 : decide ((2 : Int) ≤ (ks.length : Int)) = true := by simp; omega
                      go_wp2_with fail
                      all_goals (go_ret; exact ⟨ret_bool (by rw [HN.out]; simp [*]), hb0⟩)
                    · have hl1 : decide ((2 : Int) ≤ (ks.length : Int)) = false := by simp; omega
                      by_cases hl2 : ks.length = 1
                      · have hl3 : ((ks.length : Int) == 1) = true := by rw [hl2]; rfl
                        cases hv : val.isEmpty
                        · have hv' : ¬ val = [] := by simpa using hv
                          go_wp2_with fail
                          all_goals (go_ret; exact ⟨ret_bool (by rw [HN.out]; simp [*]), hb0⟩)
                        · have hv' : val = [] := by simpa using hv
                          subst hv'
                          go_wp2_with fail
                          all_goals (go_ret; exact ⟨ret_bool (by rw [HN.out]; simp [*]), hb0⟩)
                      · have hl3 : ((ks.length : Int) == 1) = false := by rw [beq_eq_false_iff_ne]; omega
                        go_wp2_with fail
                        all_goals (go_ret; exact ⟨ret_bool (by rw [HN.out]; simp [*]), hb0⟩)
                  · have hp0' : ((path.length : Int) == 0) = false := by rw [beq_eq_false_iff_ne]; omega
                    go_wp2_with fail
                    all_goals (go_ret; exact ⟨ret_bool (by rw [HN.out]; simp [*]), hb0⟩)
                · have HN : Hid (r = false) := Lib.hid (by rw [← HR2.out, if_neg k1, if_neg k2, if_neg k3])
                  have k1b : (kind == 1) = false := by simpa using k1
                  have k2b : (kind == 2) = false := by simpa using k2
                  have k3b : (kind == 3) = false := by simpa using k3
                  clear HR2 k1 k2 k3
                  go_wp2_with fail
                  all_goals (go_ret; exact ⟨ret_bool (by rw [HN.out]), hb0⟩)

end Go.Proofs.YtdddcncjmnekcaaGreatDoor

/- Walks of the document's answer for layer 8: a node's bytes. -/
set_option linter.unusedSimpArgs false
set_option linter.unusedVariables false
namespace Go.Proofs.YtdddcncjmnekcaaGreatDoor
open Go.RowKit Pl

set_option maxRecDepth 100000 in
set_option maxHeartbeats 1000000 in
theorem writ_leaf (path val : Bs) (kid : Nat → Bs) (hpl : path.length ≤ 16) (hvl : val.length ≤ 32) (w : World) :
    Calls Tryz.prog 47 #[.agg (nd 1 path val kid).toArray] w fun e w' => e = .returned (.string ⟨List.toArray (1 :: (text (pack path true).1 ++ text val))⟩) ∧ Below w.heap.size w w' := by
  have h1 := text_len val
  have h2 := text_len (pack path true).1
  have h3 := pack_len path true
  have hB0 := Blk.new w (nd 1 path val kid).toArray 69
  have hb0 : Below w.heap.size w (w.alloc (.cells (nd 1 path val kid).toArray 69)) := Below.allocS (Below.refl _ _) _
  obtain ⟨b1, b2, b3⟩ := id hB0
  go_enter Tryz.func47, Tryz.ntmps47
  go_wp2_with fail
  refine (rpack_any path true (by omega) _).mono ?_
  rintro e w2 ⟨rfl, hb2⟩
  have hb3 : Below w.heap.size w w2 := (Below.allocS hb0 _).trans (hb2.mono (by have := hb0.size; simp; omega))
  have hB2 : Blk w2 w.heap.size (nd 1 path val kid).toArray := (hB0.alloc _).keep hb2
  clear hb2 hB0 hb0 b1 b2 b3
  obtain ⟨b1, b2, b3⟩ := id hB2
  go_wp2_with fail
  refine (rText_any (pack path true).1 (by omega) _).mono ?_
  rintro e w3 ⟨rfl, hb4⟩
  have hb5 : Below w.heap.size w w3 := hb3.trans (hb4.mono hb3.size)
  have hB3 : Blk w3 w.heap.size (nd 1 path val kid).toArray := hB2.keep hb4
  clear hb4 hB2 b1 b2 b3
  obtain ⟨b1, b2, b3⟩ := id hB3
  have hcat : ¬ 9223372036854775807 < 1 + (text (pack path true).1).length := by omega
  go_wp2_with fail
  refine (rText_any val (by omega) _).mono ?_
  rintro e w4 ⟨rfl, hb6⟩
  have hcat2 : ¬ 9223372036854775807 < (text (pack path true).1).length + 1 + (text val).length := by omega
  go_wp2_with fail
  all_goals (go_ret; exact ⟨by simp, hb5.trans (hb6.mono hb5.size)⟩)

set_option maxRecDepth 100000 in
set_option maxHeartbeats 1000000 in
theorem writ_ext (path val : Bs) (kid : Nat → Bs) (hpl : path.length ≤ 16) (hkl : (kid 0).length ≤ 32) (w : World) :
    Calls Tryz.prog 47 #[.agg (nd 2 path val kid).toArray] w fun e w' => e = .returned (.string ⟨List.toArray (2 :: (text (pack path false).1 ++ kid 0))⟩) ∧ Below w.heap.size w w' := by
  have h2 := text_len (pack path false).1
  have h3 := pack_len path false
  have hB0 := Blk.new w (nd 2 path val kid).toArray 69
  have hb0 : Below w.heap.size w (w.alloc (.cells (nd 2 path val kid).toArray 69)) := Below.allocS (Below.refl _ _) _
  obtain ⟨b1, b2, b3⟩ := id hB0
  go_enter Tryz.func47, Tryz.ntmps47
  go_wp2_with fail
  refine (rpack_any path false (by omega) _).mono ?_
  rintro e w2 ⟨rfl, hb2⟩
  have hb3 : Below w.heap.size w w2 := (Below.allocS hb0 _).trans (hb2.mono (by have := hb0.size; simp; omega))
  have hB2 : Blk w2 w.heap.size (nd 2 path val kid).toArray := (hB0.alloc _).keep hb2
  clear hb2 hB0 hb0 b1 b2 b3
  obtain ⟨b1, b2, b3⟩ := id hB2
  go_wp2_with fail
  refine (rText_any (pack path false).1 (by omega) _).mono ?_
  rintro e w3 ⟨rfl, hb4⟩
  have hb5 : Below w.heap.size w w3 := hb3.trans (hb4.mono hb3.size)
  have hB3 : Blk w3 w.heap.size (nd 2 path val kid).toArray := hB2.keep hb4
  clear hb4 hB2 b1 b2 b3
  obtain ⟨b1, b2, b3⟩ := id hB3
  have hcat : ¬ 9223372036854775807 < 1 + (text (pack path false).1).length := by omega
  have hcat2 : ¬ 9223372036854775807 < (text (pack path false).1).length + 1 + (kid 0).length := by omega
  go_wp2_with fail
  all_goals (go_ret; exact ⟨by simp, hb5⟩)

theorem flat_take (kid : Nat → Bs) (ha : all32 (kidsF kid) = true) (k : Nat) (hk : k ≤ 16) : (kidsTo kid k).flatten.length ≤ 512 := by
  have h : ∃ m, kidsTo kid k ++ m = kidsF kid := by
    have : ∀ j, ∃ m, kidsTo kid k ++ m = kidsTo kid (k + j) := by
      intro j
      induction j with
      | zero => exact ⟨[], by simp⟩
      | succ j ih =>
        obtain ⟨m, hm⟩ := ih
        exact ⟨m ++ (if kid (k + j) = [] then [] else [kid (k + j)]), by rw [← List.append_assoc, hm, ← Nat.add_assoc, kidsTo_succ]⟩
    obtain ⟨m, hm⟩ := this (16 - k)
    exact ⟨m, by rw [hm, show k + (16 - k) = 16 from by omega]; rfl⟩
  obtain ⟨m, hm⟩ := h
  have h2 := flat_len _ ha
  have h3 : (kidsF kid).length ≤ 16 := kidsTo_len kid 16
  have h4 : (kidsF kid).flatten.length = (kidsTo kid k).flatten.length + m.flatten.length := by
    rw [← hm, List.flatten_append, List.length_append]
  omega

set_option maxRecDepth 100000 in
set_option maxHeartbeats 1000000 in
theorem writ_branch (path val : Bs) (kid : Nat → Bs) (ha : all32 (kidsF kid) = true) (hvl : val.length ≤ 32) (w : World) :
    Calls Tryz.prog 47 #[.agg (nd 3 path val kid).toArray] w fun e w' => e = .returned (.string ⟨List.toArray ([3, UInt8.ofNat (hiK kid), UInt8.ofNat (loK kid)] ++ (kidsF kid).flatten ++ text val)⟩) ∧ Below w.heap.size w w' := by
  have h1 := text_len val
  have HF : Hid (∀ k, k ≤ 16 → (kidsTo kid k).flatten.length ≤ 512) := Lib.hid (flat_take kid ha)
  clear ha
  have hB0 := Blk.new w (nd 3 path val kid).toArray 69
  have hb0 : Below w.heap.size w (w.alloc (.cells (nd 3 path val kid).toArray 69)) := Below.allocS (Below.refl _ _) _
  obtain ⟨b1, b2, b3⟩ := id hB0
  go_enter Tryz.func47, Tryz.ntmps47
  go_wp2_with fail
  have hB1 := hB0.alloc (.cells #[.int .u8 3] 5)
  have hb1 := Below.allocS hb0 (.cells #[.int .u8 3] 5)
  clear b1 b2 b3 hB0 hb0
  go_loop [4, 5, 6, 7] (fun s4 s5 s6 s7 => ∃ k : Nat, k ≤ 16 ∧ s7 = .int .i64 k ∧ s4 = .int .i64 (hiT kid k) ∧ s5 = .int .i64 (loT kid k) ∧ s6 = .string ⟨List.toArray ((kidsTo kid k).flatten)⟩) (fun _ _ _ s7 => 16 - (intOf s7).toNat)
  case atStart => exact ⟨0, by omega, rfl, rfl, rfl, by simp [kidsTo]⟩
  case round =>
    obtain ⟨k, hk, rfl, rfl, rfl, rfl⟩ := hrel
    by_cases hlt : k < 16
    · have hki := blk_kid hB1 k hlt
      have hfr := hB1.froz
      have hh := hiT_lt kid k
      have hl := loT_lt kid k hk
      have hfk := HF.out k hk
      have hfk2 := HF.out (k + 1) (by omega)
      rw [flat_succ, List.length_append] at hfk2
      have HFS := Lib.hid (flat_succ kid k)
      have hlt' : (k : Int) < 16 := by omega
      by_cases h8 : k < 8
      · obtain ⟨e1, e2⟩ := hiT_lo kid k h8
        have h8' : decide ((k : Int) < 8) = true := by simp; omega
        by_cases he : kid k = []
        · rw [bitv, if_pos he] at e1
          have E1 := Lib.hid e1
          have E2 := Lib.hid e2
          clear e1 e2
          rw [he] at hki hfk2 HFS
          clear he
          generalize hiT kid k = hi at *
          generalize loT kid k = lo at *
          generalize (kidsTo kid k).flatten = fl at *
          go_wp2_with fail
          exact ⟨⟨k + 1, by omega, by go_num, by simp [E1.out], by simp [E2.out], by simp [HFS.out]⟩, by simp [intOf]; omega⟩
        · rw [bitv, if_neg he] at e1
          have E1 := Lib.hid e1
          have E2 := Lib.hid e2
          clear e1 e2
          have he1 : (kid k).isEmpty = false := by simpa using he
          clear he
          generalize kid k = x at *
          generalize hiT kid k = hi at *
          generalize loT kid k = lo at *
          generalize (kidsTo kid k).flatten = fl at *
          have hcat : ¬ 9223372036854775807 < fl.length + x.length := by omega
          go_wp2_with fail
          exact ⟨⟨k + 1, by omega, by go_num, by simp [E1.out], by simp [E2.out], by simp [HFS.out]⟩, by simp [intOf]; omega⟩
      · obtain ⟨e1, e2⟩ := loT_hi kid k (by omega)
        have h8' : decide ((k : Int) < 8) = false := by simp; omega
        by_cases he : kid k = []
        · rw [bitv, if_pos he] at e1
          have E1 := Lib.hid e1
          have E2 := Lib.hid e2
          clear e1 e2
          rw [he] at hki hfk2 HFS
          clear he
          generalize hiT kid k = hi at *
          generalize loT kid k = lo at *
          generalize (kidsTo kid k).flatten = fl at *
          go_wp2_with fail
          exact ⟨⟨k + 1, by omega, by go_num, by simp [E2.out], by simp [E1.out], by simp [HFS.out]⟩, by simp [intOf]; omega⟩
        · rw [bitv, if_neg he] at e1
          have E1 := Lib.hid e1
          have E2 := Lib.hid e2
          clear e1 e2
          have he1 : (kid k).isEmpty = false := by simpa using he
          clear he
          generalize kid k = x at *
          generalize hiT kid k = hi at *
          generalize loT kid k = lo at *
          generalize (kidsTo kid k).flatten = fl at *
          have hcat : ¬ 9223372036854775807 < fl.length + x.length := by omega
          go_wp2_with fail
          exact ⟨⟨k + 1, by omega, by go_num, by simp [E2.out], by simp [E1.out], by simp [HFS.out]⟩, by simp [intOf]; omega⟩
    · have hke : k = 16 := by omega
      subst hke
      have hfk := HF.out 16 (by omega)
      have hh := hiK_lt kid
      have hl := loK_lt kid
      have HH : Hid ((kidsTo kid 16).flatten = (kidsF kid).flatten) := Lib.hid rfl
      rw [show hiT kid 16 = hiK kid from rfl, show loT kid 16 = loK kid from by rw [loK_eq]; rfl]
      generalize (kidsTo kid 16).flatten = fl at *
      have hcat : ¬ 9223372036854775807 < 1 + 2 := by omega
      have hcat1 : ¬ 9223372036854775807 < fl.length + 1 + 1 + 1 := by omega
      have hcat2 : ¬ 9223372036854775807 < fl.length + 1 + 1 + 1 + (text val).length := by omega
      have q1 : IntKind.u8.wrap ((hiK kid : Nat) : Int) = ((hiK kid : Nat) : Int) := by rw [IntKind.wrap_u8']; omega
      have q2 : IntKind.u8.wrap ((loK kid : Nat) : Int) = ((loK kid : Nat) : Int) := by rw [IntKind.wrap_u8']; omega
      have hcat3 : ¬ 9223372036854775807 < 3 + fl.length := by omega
      have hcat4 : ¬ 9223372036854775807 < 3 + fl.length + (text val).length := by omega
      obtain ⟨b1, b2, b3⟩ := id hB1
      go_wp2_with fail
      go_region_with (go_at_call 67; refine (rText_any val (by omega) _).mono ?_; rintro e w' ⟨rfl, hbx⟩; obtain ⟨hcx, hfx⟩ := bcell hbx)
      all_goals go_wp2_with fail
      all_goals go_ret
      all_goals exact ⟨by rw [← HH.out]; rfl, by (repeat (first | exact Below.refl _ _ | assumption | apply Below.drew | apply below_drewN | apply Below.allocS | (refine Below.setCell ?_ (by simp <;> omega) _) | (refine Below.alloc ?_ (by simp <;> omega) _) | (refine Below.trans ?_ (Below.mono (by assumption) (by simp <;> omega)))))⟩

end Go.Proofs.YtdddcncjmnekcaaGreatDoor

/- Layer 8, plain: the program's and the document's answer to 'may a node be' are one. -/
set_option linter.unusedSimpArgs false
set_option linter.unusedVariables false
namespace Go.Proofs.YtdddcncjmnekcaaGreatDoor
namespace Pl

theorem kidsTo_nil {kid : Nat → Bs} : ∀ n, (∀ i, i < n → kid i = []) → kidsTo kid n = []
  | 0, _ => rfl
  | n + 1, h => by rw [kidsTo_succ, kidsTo_nil n (fun i hi => h i (by omega)), h n (by omega)]; rfl
theorem kidsTo_mono (kid : Nat → Bs) (n : Nat) : (kidsTo kid n).length ≤ (kidsTo kid (n + 1)).length := by
  rw [kidsTo_succ]; simp
theorem kidsTo_le (kid : Nat → Bs) {n m : Nat} (h : n ≤ m) : (kidsTo kid n).length ≤ (kidsTo kid m).length := by
  induction h with
  | refl => exact Nat.le_refl _
  | step _ ih => exact Nat.le_trans ih (kidsTo_mono kid _)
theorem none_iff (kid : Nat → Bs) : noKids kid = true ↔ (kidsF kid).length = 0 := by
  constructor
  · intro h
    have h1 : kidL kid = kidL noK := by
      simp only [noKids, sameL, decide_eq_true_eq] at h
      rw [h]; rfl
    unfold kidsF
    rw [kidsTo_nil 16 (fun i hi => kidL_eq h1 i hi)]
    rfl
  · intro h
    have h1 : ∀ i, i < 16 → kid i = [] := fun i hi => by
      by_cases he : kid i = []
      · exact he
      · exfalso
        have := kidsTo_le kid (show i + 1 ≤ 16 by omega)
        rw [kidsTo_succ, if_neg he] at this
        simp [kidsF] at h this
        rw [h] at this
        simp at this
    have h2 : kidL kid = kidL noK := kidL_of (fun i hi => h1 i hi)
    simp only [noKids, sameL, decide_eq_true_eq]
    rw [h2]; rfl

theorem kidsTo_one {kid : Nat → Bs} (h0 : kid 0 ≠ []) : ∀ n, n ≤ 15 → (∀ i, 1 ≤ i → i < n + 1 → kid i = []) → kidsTo kid (n + 1) = [kid 0]
  | 0, _, _ => by rw [kidsTo_succ, if_neg h0]; rfl
  | n + 1, hn, h => by rw [kidsTo_succ, kidsTo_one h0 n (by omega) (fun i h1 h2 => h i h1 (by omega)), h (n + 1) (by omega) (by omega)]; rfl
theorem one_rest {kid : Nat → Bs} (h0 : kid 0 ≠ []) (h : (kidsF kid).length = 1) (i : Nat) (h1 : 1 ≤ i) (hi : i < 16) : kid i = [] := by
  by_cases he : kid i = []
  · exact he
  · exfalso
    have a := kidsTo_le kid (show i + 1 ≤ 16 by omega)
    have b := kidsTo_le kid (show 0 + 1 ≤ i by omega)
    rw [kidsTo_succ, if_neg h0] at b
    rw [kidsTo_succ, if_neg he] at a
    have h' : (kidsTo kid 16).length = 1 := h
    simp at a b
    omega
theorem one_iff (kid : Nat → Bs) : (oneKidX kid (kid 0) && all32 [kid 0]) = true ↔ all32 (kidsF kid) = true ∧ (kidsF kid).length = 1 ∧ kid 0 ≠ [] := by
  rw [Bool.and_eq_true]
  constructor
  · rintro ⟨h, h32⟩
    have h1 : kidL kid = kidL (upd noK 0 (kid 0)) := by
      simp only [oneKidX, sameL, decide_eq_true_eq] at h
      rw [h]; rfl
    have h0 : kid 0 ≠ [] := fun e => by rw [e] at h32; exact absurd h32 (by decide)
    have hf : kidsF kid = [kid 0] := kidsTo_one h0 15 (by omega) (fun i h2 h3 => by
      have := kidL_eq h1 i (by omega)
      rw [this]; unfold upd; rw [if_neg (by omega)]; rfl)
    rw [hf]
    exact ⟨h32, rfl, h0⟩
  · rintro ⟨h32, hl, h0⟩
    have hr := one_rest h0 hl
    have hf : kidsF kid = [kid 0] := kidsTo_one h0 15 (by omega) (fun i h2 h3 => hr i h2 (by omega))
    rw [hf] at h32
    refine ⟨?_, h32⟩
    have h2 : kidL kid = kidL (upd noK 0 (kid 0)) := kidL_of (fun i hi => by
      unfold upd
      by_cases h3 : i = 0
      · subst h3; rw [if_pos rfl]
      · rw [if_neg h3]; exact hr i (by omega) hi)
    simp only [oneKidX, sameL, decide_eq_true_eq]
    rw [h2]; rfl
theorem all32_nil {l : List Bs} (h : l.length = 0) : all32 l = true := by
  rw [List.length_eq_zero_iff.1 h]; rfl
theorem fine_chk (kind : Int) (path val : Bs) (kid : Nat → Bs) : fineR kind path val kid = chk kind path val kid := by
  rw [Bool.eq_iff_iff]
  unfold fineR chk
  by_cases k1 : kind = 1
  · simp only [if_pos k1]
    have hn := none_iff kid
    constructor
    · intro h
      split at h
      · cases h
      · split at h
        · cases h
        · rename_i ha hb
          simp at h hb
          simp [pathOk, hn.2 (by simp [h.1])]
          refine ⟨⟨⟨?_, ?_⟩, h.2⟩, ?_⟩
          · cases hf : fit path <;> simp [hf] at hb ⊢
          · omega
          · omega
    · intro h
      simp [pathOk] at h
      have hl := hn.1 h.1.1.1
      rw [if_neg (by simp [all32_nil hl]), if_neg (by simp [h.1.1.2.1]; omega)]
      simp [hl, h.1.2]
  · by_cases k2 : kind = 2
    · simp only [if_neg k1, if_pos k2]
      have ho := one_iff kid
      constructor
      · intro h
        split at h
        · cases h
        · split at h
          · cases h
          · rename_i ha hb
            simp at h hb ha
            have ho2 := ho.2 ⟨ha, h.1.1.1, h.1.1.2⟩
            rw [Bool.and_eq_true] at ho2
            simp [pathOk, ho2.1, ho2.2, h.2]
            refine ⟨⟨?_, by have := h.1.2; omega⟩, ?_⟩
            · cases hf : fit path <;> simp [hf] at hb ⊢
            · omega
      · intro h
        simp only [pathOk, Bool.and_eq_true] at h
        obtain ⟨⟨⟨h1, h2⟩, ⟨⟨h3, h4⟩, h5⟩⟩, h6⟩ := h
        obtain ⟨q1, q2, q3⟩ := ho.1 (by rw [h1, h2]; rfl)
        have hv : val = [] := by simpa using h6
        subst hv
        have h4' : 1 ≤ path.length := by
          have h4i : (1 : Int) ≤ (path.length : Int) := by simpa using h4
          omega
        have h5' : path.length ≤ 16 := by simpa using h5
        rw [if_neg (by simp [q1]), if_neg (by simp [h3]; omega)]
        simp [q2, q3, h4']
    · by_cases k3 : kind = 3
      · simp only [if_neg k1, if_neg k2, if_pos k3]
        constructor
        · intro h
          split at h
          · cases h
          · split at h
            · cases h
            · rename_i ha hb
              have ha' : all32 (kidsF kid) = true := by simpa using ha
              simp only [not_or] at hb
              obtain ⟨_, _, hv⟩ := hb
              simp at h
              obtain ⟨hp, h⟩ := h
              subst hp
              simp only [ha', Bool.and_eq_true, decide_eq_true_eq, List.isEmpty_nil]
              refine ⟨⟨⟨by simp, by simp⟩, ?_⟩, by omega⟩
              rcases h with h | ⟨h, h2⟩
              · omega
              · simp [h, h2]
        · intro h
          simp only [Bool.and_eq_true, decide_eq_true_eq] at h
          obtain ⟨⟨⟨h1, h2⟩, h3⟩, h4⟩ := h
          have hp : path = [] := by simpa using h1
          subst hp
          rw [if_neg (by simp [h2]), if_neg (by simp [fit]; omega)]
          by_cases hv : val.isEmpty = true
          · rw [if_pos hv] at h3
            simp; omega
          · rw [if_neg hv] at h3
            simp at hv
            simp [hv]; omega
      · simp only [if_neg k1, if_neg k2, if_neg k3]
        constructor
        · intro h
          split at h
          · cases h
          · split at h <;> cases h
        · intro h; cases h

end Pl
end Go.Proofs.YtdddcncjmnekcaaGreatDoor

/- Walks of the document's answer for layer 8: the bytes of a node that may be, of any kind. -/
set_option linter.unusedSimpArgs false
set_option linter.unusedVariables false
namespace Go.Proofs.YtdddcncjmnekcaaGreatDoor
open Go.RowKit Pl

theorem writ_any (kind : Int) (path val : Bs) (kid : Nat → Bs) (hf : fineR kind path val kid = true) (w : World) :
    Calls Tryz.prog 47 #[.agg (nd kind path val kid).toArray] w fun e w' => e = .returned (.string ⟨List.toArray (enc kind path val kid)⟩) ∧ Below w.heap.size w w' := by
  have hc : chk kind path val kid = true := by rw [← fine_chk]; exact hf
  unfold fineR at hf
  split at hf
  · cases hf
  · rename_i ha
    have ha' : all32 (kidsF kid) = true := by simpa using ha
    split at hf
    · cases hf
    · rename_i hb
      simp only [not_or] at hb
      obtain ⟨_, hp, hv⟩ := hb
      by_cases k1 : kind = 1
      · subst k1
        rw [show enc 1 path val kid = 1 :: (text (pack path true).1 ++ text val) from by simp [enc]]
        exact writ_leaf path val kid (by omega) (by omega) w
      · by_cases k2 : kind = 2
        · subst k2
          have h0 : (kid 0).length ≤ 32 := by
            simp [chk, all32] at hc
            omega
          rw [show enc 2 path val kid = 2 :: (text (pack path false).1 ++ kid 0) from by simp [enc]]
          exact writ_ext path val kid (by omega) h0 w
        · by_cases k3 : kind = 3
          · subst k3
            rw [show enc 3 path val kid = [3, UInt8.ofNat (hiK kid), UInt8.ofNat (loK kid)] ++ (kidsF kid).flatten ++ text val from by simp [enc]]
            exact writ_branch path val kid ha' (by omega) w
          · rw [if_neg k1, if_neg k2, if_neg k3] at hf
            cases hf

end Go.Proofs.YtdddcncjmnekcaaGreatDoor
