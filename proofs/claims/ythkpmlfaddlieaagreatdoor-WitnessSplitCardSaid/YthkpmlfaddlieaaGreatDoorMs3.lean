/- Ref8, Writ8, Back, Fine, WritA, ShaP, Kit2. -/
import Derived.Test.YthkpmlfaddlieaaGreatDoorMs2
set_option linter.unnecessarySimpa false
set_option linter.unusedSimpArgs false
set_option linter.unusedVariables false
set_option maxRecDepth 100000
set_option maxHeartbeats 32000000
namespace Go.Proofs.YthkpmlfaddlieaaGreatDoor
open Go.RowKit Pl
theorem rkids_any (kind : Int) (path val : Bs) (kid : Nat → Bs) (w : World) :
  Calls Tryz.prog 183 #[.agg (nd kind path val kid).toArray] w fun e w' => ∃ (x : Option Addr) (cap : Nat), e = .returned (.slice x (kidsF kid).length cap) ∧ SRow w' (w.heap.size + 1) (.slice x (kidsF kid).length cap) (kidsF kid) ∧ Below w.heap.size w w' := by
 have hB0 := Blk.new w (nd kind path val kid).toArray 173
 have hb0 : Below w.heap.size w (w.alloc (.cells (nd kind path val kid).toArray 173)) := Below.allocS (Below.refl _ _) _
 have hs0 : (w.alloc (.cells (nd kind path val kid).toArray 173)).heap.size = w.heap.size + 1 := by simp
 go_enter Tryz.func183, Tryz.ntmps183
 go_wp2_with fail
 generalize w.alloc (.cells (nd kind path val kid).toArray 173) = W0 at *
 go_loopw [3, 4] (fun s3 s4 wr => ∃ k : Nat, k ≤ 16 ∧ s4 = .int .i64 k ∧ SRow wr (w.heap.size + 1) s3 (kidsTo kid k) ∧ Below W0.heap.size W0 wr) (fun _ s4 _ => 16 - (intOf s4).toNat)
 case atStart => exact ⟨0, by omega, rfl, SRow.nil _ _, Below.refl _ _⟩
 case round =>
  obtain ⟨k, hk, rfl, hS, hb⟩ := hrel
  rename_i wr
  have hB := hB0.keep hb
  have hbz := hB.lt
  by_cases hlt : k < 16
  ·have hki := blk_kid hB k hlt
   have hfr := hB.froz
   have hlt' : (k : Int) < 16 := by omega
   have hkl := kidsTo_len kid k
   have HKS := Lib.hid (kidsTo_succ kid k)
   by_cases he : kid k = []
   ·have HK : Hid (kidsTo kid (k + 1) = kidsTo kid k) := Lib.hid (by rw [HKS.out, if_pos he]; simp)
    rw [he] at hki
    clear he
    go_wp2_with fail
    exact ⟨⟨k + 1, by omega, by go_num, by rw [HK.out]; exact hS, hb⟩, by simp [intOf]; omega⟩
   ·have HK : Hid (kidsTo kid (k + 1) = kidsTo kid k ++ [kid k]) := Lib.hid (by rw [HKS.out, if_neg he])
    have he1 : (kid k).isEmpty = false := by simpa using he
    generalize hx : kid k = x at *
    clear he
    go_wp2_with (at_builtin; refine wpList_appS rfl (.tmp 14) (.tmp 19) rfl (w.heap.size + 1) _ (kidsTo kid k) rfl (hS.alloc _) wr.heap.size 0 1 1 [x] rfl rfl (ssrc1 _ _ _) (by omega) (by have := hb.size; simp; omega) ?_; rintro v' w2 hS2 hb2)
    exact ⟨⟨k + 1, by omega, by go_num, by rw [HK.out]; exact hS2, (Below.allocS hb _).trans (by rw [hs0]; exact hb2)⟩, by simp [intOf]; omega⟩
  ·have hke : k = 16 := by omega
   subst hke
   go_wp2_with fail
   go_ret
   obtain ⟨x, cap, hv⟩ := hS.form
   rw [hv] at hS
   exact ⟨x, cap, congrArg Ending.returned hv, hS, hb0.trans (hb.mono (by omega))⟩
theorem rfine_any (kind : Int) (path val : Bs) (kid : Nat → Bs) (hp : path.length ≤ 9223372036854775807) (w : World) :
  Calls Tryz.prog 179 #[.agg (nd kind path val kid).toArray] w fun e w' => e = .returned (.bool (fineR kind path val kid)) ∧ Below w.heap.size w w' := by
 generalize hr : fineR kind path val kid = r
 unfold fineR at hr
 have HR := Lib.hid hr
 clear hr
 have hB0 := Blk.new w (nd kind path val kid).toArray 173
 go_enter Tryz.func179, Tryz.ntmps179
 go_wp2_with (refine wpList_node rfl (.tmp 1) rfl rfl hB0 ?_)
 refine (rkids_any kind path val kid _).mono ?_
 rintro e w1 ⟨va, vc, rfl, hS, hb⟩
 have hB : Blk w1 w.heap.size (nd kind path val kid).toArray := hB0.keep hb
 have hb0 : Below w.heap.size w w1 := (Below.allocS (Below.refl _ _) _).trans (hb.mono (by simp))
 clear hb hB0
 have hkl := kidsTo_len kid 16
 have hkl' : (kidsF kid).length ≤ 16 := hkl
 clear hkl
 obtain ⟨b1, b2, b3⟩ := id hB
 generalize hks : kidsF kid = ks at *
 go_wp2_with fail
 go_loop [4] (fun s4 => ∃ i : Nat, i ≤ ks.length ∧ s4 = .int .i64 i ∧ Hid (∀ j, j < i → (ks.getD j []).length = 32)) (fun s4 => ks.length - (intOf s4).toNat)
 case atStart => exact ⟨0, by omega, rfl, Lib.hid (fun j hj => by omega)⟩
 case round =>
  obtain ⟨i, hi, rfl, HA⟩ := hrel
  by_cases hlt : i < ks.length
  ·rcases hS.cells with ⟨hx, hx2⟩ | ⟨g, cap, hx, hgb, hgl, hn, hm, hcl, hf⟩
   ·rw [hx2] at hlt; cases hlt
   obtain ⟨rfl, rfl⟩ : va = some ⟨g, 0, none⟩ ∧ vc = cap := by
    injection hx with h1 h2 h3
    exact ⟨h1, h3⟩
   have hci := hcl i hlt
   clear hcl hx
   by_cases h32 : (ks.getD i []).length = 32
   ·have HN : Hid (∀ j, j < i + 1 → (ks.getD j []).length = 32) := Lib.hid (fun j hj => by
     rcases Nat.lt_or_ge j i with h | h
     ·exact HA.out j h
     ·have : j = i := by omega
      subst this; exact h32)
    generalize ks.getD i [] = x at hci h32
    have hbb : ((x.length : Int) != 32) = false := by simp; omega
    clear h32
    go_wp2_with fail
    exact ⟨⟨i + 1, by omega, by go_num, HN⟩, by simp [intOf]; omega⟩
   ·have HN : Hid (r = false) := Lib.hid (by rw [← HR.out, if_pos (all32_not ks i hlt h32)])
    generalize ks.getD i [] = x at hci h32
    have hbb : ((x.length : Int) != 32) = true := by simp; omega
    clear h32
    go_wp2_with fail
    go_ret
    exact ⟨by rw [HN.out]; rfl, hb0⟩
  ·have hall : all32 ks = true := by
    unfold all32
    rw [List.all_eq_true]
    intro s hs
    obtain ⟨j, hj, rfl⟩ := List.getElem_of_mem hs
    have := HA.out j (by omega)
    simpa [List.getD, List.getElem?_eq_getElem hj] using this
   have hr1 := HR.out
   rw [if_neg (by simp [hall])] at hr1
   have HR1 := Lib.hid hr1
   clear hr1 HR HA hall hS
   have hie : i = ks.length := by omega
   subst hie
   go_wp2_with fail
   refine (rfit_any path hp _).mono ?_
   rintro e w2 ⟨rfl, rfl⟩
   cases hf : fit path
   ·have HN : Hid (r = false) := Lib.hid (by rw [← HR1.out, if_pos (.inl hf)])
    go_wp2_with fail
    all_goals (go_ret; exact ⟨by rw [HN.out]; rfl, hb0⟩)
   ·by_cases h16 : 16 < path.length
    ·have HN : Hid (r = false) := Lib.hid (by rw [← HR1.out, if_pos (.inr (.inl h16))])
     have hd : decide ((16 : Int) < (path.length : Int)) = true := by simp; omega
     go_wp2_with fail
     all_goals (go_ret; exact ⟨by rw [HN.out]; rfl, hb0⟩)
    ·have hd : decide ((16 : Int) < (path.length : Int)) = false := by simp; omega
     by_cases h32 : 32 < val.length
     ·have HN : Hid (r = false) := Lib.hid (by rw [← HR1.out, if_pos (.inr (.inr h32))])
      have hd2 : decide ((32 : Int) < (val.length : Int)) = true := by simp; omega
      go_wp2_with fail
      all_goals (go_ret; exact ⟨by rw [HN.out]; rfl, hb0⟩)
     ·have hd2 : decide ((32 : Int) < (val.length : Int)) = false := by simp; omega
      have hr2 := HR1.out
      rw [if_neg (by simp [hf, h16, h32])] at hr2
      have HR2 := Lib.hid hr2
      clear hr2 HR1 hf
      by_cases k1 : kind = 1
      ·have HN : Hid (r = (decide (ks.length = 0) && !val.isEmpty)) := Lib.hid (by rw [← HR2.out, if_pos k1])
       subst k1
       by_cases hl : ks.length = 0
       ·have hl1 : ((ks.length : Int) == 0) = true := by rw [hl]; rfl
        go_wp2_with fail
        all_goals (go_ret; exact ⟨by rw [HN.out]; simp [hl], hb0⟩)
       ·have hl1 : ((ks.length : Int) == 0) = false := by rw [beq_eq_false_iff_ne]; omega
        go_wp2_with fail
        all_goals (go_ret; exact ⟨by rw [HN.out]; simp [hl], hb0⟩)
      ·by_cases k2 : kind = 2
       ·have HN : Hid (r = (decide (ks.length = 1) && !(kid 0).isEmpty && decide (1 ≤ path.length) && val.isEmpty)) := Lib.hid (by rw [← HR2.out, if_neg k1, if_pos k2])
        subst k2
        clear HR2 k1 h16 h32
        by_cases hl : ks.length = 1
        ·have hl1 : ((ks.length : Int) == 1) = true := by rw [hl]; rfl
         cases h0 : (kid 0).isEmpty
         ·have h0' : ¬ kid 0 = [] := by simpa using h0
          by_cases hp1 : 1 ≤ path.length
          ·have hp1' : decide ((1 : Int) ≤ (path.length : Int)) = true := by simp; omega
           cases hv : val.isEmpty
           ·have hv' : ¬ val = [] := by simpa using hv
            go_wp2_with fail
            all_goals (go_ret; exact ⟨ret_bool (by rw [HN.out]; simp [*]), hb0⟩)
           ·have hv' : val = [] := by simpa using hv
            subst hv'
            go_wp2_with fail
            all_goals (go_ret; exact ⟨ret_bool (by rw [HN.out]; simp [*]), hb0⟩)
          ·have hp1' : decide ((1 : Int) ≤ (path.length : Int)) = false := by simp; omega
           go_wp2_with fail
           all_goals (go_ret; exact ⟨ret_bool (by rw [HN.out]; simp [*]), hb0⟩)
         ·have h0' : kid 0 = [] := by simpa using h0
          go_wp2_with fail
          all_goals (go_ret; exact ⟨ret_bool (by rw [HN.out]; simp [*]), hb0⟩)
        ·have hl1 : ((ks.length : Int) == 1) = false := by rw [beq_eq_false_iff_ne]; omega
         go_wp2_with fail
         all_goals (go_ret; exact ⟨ret_bool (by rw [HN.out]; simp [*]), hb0⟩)
       ·by_cases k3 : kind = 3
        ·have HN : Hid (r = (decide (path.length = 0) && (decide (2 ≤ ks.length) || decide (ks.length = 1) && !val.isEmpty))) := Lib.hid (by rw [← HR2.out, if_neg k1, if_neg k2, if_pos k3])
         subst k3
         clear HR2 k1 k2 h16 h32
         by_cases hp0 : path.length = 0
         ·have hp0' : ((path.length : Int) == 0) = true := by rw [hp0]; rfl
          by_cases hl : 2 ≤ ks.length
          ·have hl1 : decide ((2 : Int) ≤ (ks.length : Int)) = true := by simp; omega
           go_wp2_with fail
           all_goals (go_ret; exact ⟨ret_bool (by rw [HN.out]; simp [*]), hb0⟩)
          ·have hl1 : decide ((2 : Int) ≤ (ks.length : Int)) = false := by simp; omega
           by_cases hl2 : ks.length = 1
           ·have hl3 : ((ks.length : Int) == 1) = true := by rw [hl2]; rfl
            cases hv : val.isEmpty
            ·have hv' : ¬ val = [] := by simpa using hv
             go_wp2_with fail
             all_goals (go_ret; exact ⟨ret_bool (by rw [HN.out]; simp [*]), hb0⟩)
            ·have hv' : val = [] := by simpa using hv
             subst hv'
             go_wp2_with fail
             all_goals (go_ret; exact ⟨ret_bool (by rw [HN.out]; simp [*]), hb0⟩)
           ·have hl3 : ((ks.length : Int) == 1) = false := by rw [beq_eq_false_iff_ne]; omega
            go_wp2_with fail
            all_goals (go_ret; exact ⟨ret_bool (by rw [HN.out]; simp [*]), hb0⟩)
         ·have hp0' : ((path.length : Int) == 0) = false := by rw [beq_eq_false_iff_ne]; omega
          go_wp2_with fail
          all_goals (go_ret; exact ⟨ret_bool (by rw [HN.out]; simp [*]), hb0⟩)
        ·have HN : Hid (r = false) := Lib.hid (by rw [← HR2.out, if_neg k1, if_neg k2, if_neg k3])
         have k1b : (kind == 1) = false := by simpa using k1
         have k2b : (kind == 2) = false := by simpa using k2
         have k3b : (kind == 3) = false := by simpa using k3
         clear HR2 k1 k2 k3
         go_wp2_with fail
         all_goals (go_ret; exact ⟨ret_bool (by rw [HN.out]), hb0⟩)
end Go.Proofs.YthkpmlfaddlieaaGreatDoor
namespace Go.Proofs.YthkpmlfaddlieaaGreatDoor
open Go.RowKit Pl
theorem writ_leaf (path val : Bs) (kid : Nat → Bs) (hpl : path.length ≤ 16) (hvl : val.length ≤ 32) (w : World) :
  Calls Tryz.prog 170 #[.agg (nd 1 path val kid).toArray] w fun e w' => e = .returned (.string ⟨List.toArray (1 :: (text (pack path true).1 ++ text val))⟩) ∧ Below w.heap.size w w' := by
 have h1 := text_len val
 have h2 := text_len (pack path true).1
 have h3 := pack_len path true
 have hB0 := Blk.new w (nd 1 path val kid).toArray 173
 have hb0 : Below w.heap.size w (w.alloc (.cells (nd 1 path val kid).toArray 173)) := Below.allocS (Below.refl _ _) _
 obtain ⟨b1, b2, b3⟩ := id hB0
 go_enter Tryz.func170, Tryz.ntmps170
 go_wp2_with fail
 refine (rpack_any path true (by omega) _).mono ?_
 rintro e w2 ⟨rfl, hb2⟩
 have hb3 : Below w.heap.size w w2 := (Below.allocS hb0 _).trans (hb2.mono (by have := hb0.size; simp; omega))
 have hB2 : Blk w2 w.heap.size (nd 1 path val kid).toArray := (hB0.alloc _).keep hb2
 clear hb2 hB0 hb0 b1 b2 b3
 obtain ⟨b1, b2, b3⟩ := id hB2
 go_wp2_with fail
 refine (rText_any (pack path true).1 (by omega) _).mono ?_
 rintro e w3 ⟨rfl, hb4⟩
 have hb5 : Below w.heap.size w w3 := hb3.trans (hb4.mono hb3.size)
 have hB3 : Blk w3 w.heap.size (nd 1 path val kid).toArray := hB2.keep hb4
 clear hb4 hB2 b1 b2 b3
 obtain ⟨b1, b2, b3⟩ := id hB3
 have hcat : ¬ 9223372036854775807 < 1 + (text (pack path true).1).length := by omega
 go_wp2_with fail
 refine (rText_any val (by omega) _).mono ?_
 rintro e w4 ⟨rfl, hb6⟩
 have hcat2 : ¬ 9223372036854775807 < (text (pack path true).1).length + 1 + (text val).length := by omega
 go_wp2_with fail
 all_goals (go_ret; exact ⟨by simp, hb5.trans (hb6.mono hb5.size)⟩)
theorem writ_ext (path val : Bs) (kid : Nat → Bs) (hpl : path.length ≤ 16) (hkl : (kid 0).length ≤ 32) (w : World) :
  Calls Tryz.prog 170 #[.agg (nd 2 path val kid).toArray] w fun e w' => e = .returned (.string ⟨List.toArray (2 :: (text (pack path false).1 ++ kid 0))⟩) ∧ Below w.heap.size w w' := by
 have h2 := text_len (pack path false).1
 have h3 := pack_len path false
 have hB0 := Blk.new w (nd 2 path val kid).toArray 173
 have hb0 : Below w.heap.size w (w.alloc (.cells (nd 2 path val kid).toArray 173)) := Below.allocS (Below.refl _ _) _
 obtain ⟨b1, b2, b3⟩ := id hB0
 go_enter Tryz.func170, Tryz.ntmps170
 go_wp2_with fail
 refine (rpack_any path false (by omega) _).mono ?_
 rintro e w2 ⟨rfl, hb2⟩
 have hb3 : Below w.heap.size w w2 := (Below.allocS hb0 _).trans (hb2.mono (by have := hb0.size; simp; omega))
 have hB2 : Blk w2 w.heap.size (nd 2 path val kid).toArray := (hB0.alloc _).keep hb2
 clear hb2 hB0 hb0 b1 b2 b3
 obtain ⟨b1, b2, b3⟩ := id hB2
 go_wp2_with fail
 refine (rText_any (pack path false).1 (by omega) _).mono ?_
 rintro e w3 ⟨rfl, hb4⟩
 have hb5 : Below w.heap.size w w3 := hb3.trans (hb4.mono hb3.size)
 have hB3 : Blk w3 w.heap.size (nd 2 path val kid).toArray := hB2.keep hb4
 clear hb4 hB2 b1 b2 b3
 obtain ⟨b1, b2, b3⟩ := id hB3
 have hcat : ¬ 9223372036854775807 < 1 + (text (pack path false).1).length := by omega
 have hcat2 : ¬ 9223372036854775807 < (text (pack path false).1).length + 1 + (kid 0).length := by omega
 go_wp2_with fail
 all_goals (go_ret; exact ⟨by simp, hb5⟩)
theorem flat_take (kid : Nat → Bs) (ha : all32 (kidsF kid) = true) (k : Nat) (hk : k ≤ 16) : (kidsTo kid k).flatten.length ≤ 512 := by
 have h : ∃ m, kidsTo kid k ++ m = kidsF kid := by
  have : ∀ j, ∃ m, kidsTo kid k ++ m = kidsTo kid (k + j) := by
   intro j
   induction j with
   | zero => exact ⟨[], by simp⟩
   | succ j ih =>
    obtain ⟨m, hm⟩ := ih
    exact ⟨m ++ (if kid (k + j) = [] then [] else [kid (k + j)]), by rw [← List.append_assoc, hm, ← Nat.add_assoc, kidsTo_succ]⟩
  obtain ⟨m, hm⟩ := this (16 - k)
  exact ⟨m, by rw [hm, show k + (16 - k) = 16 from by omega]; rfl⟩
 obtain ⟨m, hm⟩ := h
 have h2 := flat_len _ ha
 have h3 : (kidsF kid).length ≤ 16 := kidsTo_len kid 16
 have h4 : (kidsF kid).flatten.length = (kidsTo kid k).flatten.length + m.flatten.length := by
  rw [← hm, List.flatten_append, List.length_append]
 omega
theorem writ_branch (path val : Bs) (kid : Nat → Bs) (ha : all32 (kidsF kid) = true) (hvl : val.length ≤ 32) (w : World) :
  Calls Tryz.prog 170 #[.agg (nd 3 path val kid).toArray] w fun e w' => e = .returned (.string ⟨List.toArray ([3, UInt8.ofNat (hiK kid), UInt8.ofNat (loK kid)] ++ (kidsF kid).flatten ++ text val)⟩) ∧ Below w.heap.size w w' := by
 have h1 := text_len val
 have HF : Hid (∀ k, k ≤ 16 → (kidsTo kid k).flatten.length ≤ 512) := Lib.hid (flat_take kid ha)
 clear ha
 have hB0 := Blk.new w (nd 3 path val kid).toArray 173
 have hb0 : Below w.heap.size w (w.alloc (.cells (nd 3 path val kid).toArray 173)) := Below.allocS (Below.refl _ _) _
 obtain ⟨b1, b2, b3⟩ := id hB0
 go_enter Tryz.func170, Tryz.ntmps170
 go_wp2_with fail
 have hB1 := hB0.alloc (.cells #[.int .u8 3] 5)
 have hb1 := Below.allocS hb0 (.cells #[.int .u8 3] 5)
 clear b1 b2 b3 hB0 hb0
 go_loop [4, 5, 6, 7] (fun s4 s5 s6 s7 => ∃ k : Nat, k ≤ 16 ∧ s7 = .int .i64 k ∧ s4 = .int .i64 (hiT kid k) ∧ s5 = .int .i64 (loT kid k) ∧ s6 = .string ⟨List.toArray ((kidsTo kid k).flatten)⟩) (fun _ _ _ s7 => 16 - (intOf s7).toNat)
 case atStart => exact ⟨0, by omega, rfl, rfl, rfl, by simp [kidsTo]⟩
 case round =>
  obtain ⟨k, hk, rfl, rfl, rfl, rfl⟩ := hrel
  by_cases hlt : k < 16
  ·have hki := blk_kid hB1 k hlt
   have hfr := hB1.froz
   have hh := hiT_lt kid k
   have hl := loT_lt kid k hk
   have hfk := HF.out k hk
   have hfk2 := HF.out (k + 1) (by omega)
   rw [flat_succ, List.length_append] at hfk2
   have HFS := Lib.hid (flat_succ kid k)
   have hlt' : (k : Int) < 16 := by omega
   by_cases h8 : k < 8
   ·obtain ⟨e1, e2⟩ := hiT_lo kid k h8
    have h8' : decide ((k : Int) < 8) = true := by simp; omega
    by_cases he : kid k = []
    ·rw [bitv, if_pos he] at e1
     have E1 := Lib.hid e1
     have E2 := Lib.hid e2
     clear e1 e2
     rw [he] at hki hfk2 HFS
     clear he
     generalize hiT kid k = hi at *
     generalize loT kid k = lo at *
     generalize (kidsTo kid k).flatten = fl at *
     go_wp2_with fail
     exact ⟨⟨k + 1, by omega, by go_num, by simp [E1.out], by simp [E2.out], by simp [HFS.out]⟩, by simp [intOf]; omega⟩
    ·rw [bitv, if_neg he] at e1
     have E1 := Lib.hid e1
     have E2 := Lib.hid e2
     clear e1 e2
     have he1 : (kid k).isEmpty = false := by simpa using he
     clear he
     generalize kid k = x at *
     generalize hiT kid k = hi at *
     generalize loT kid k = lo at *
     generalize (kidsTo kid k).flatten = fl at *
     have hcat : ¬ 9223372036854775807 < fl.length + x.length := by omega
     go_wp2_with fail
     exact ⟨⟨k + 1, by omega, by go_num, by simp [E1.out], by simp [E2.out], by simp [HFS.out]⟩, by simp [intOf]; omega⟩
   ·obtain ⟨e1, e2⟩ := loT_hi kid k (by omega)
    have h8' : decide ((k : Int) < 8) = false := by simp; omega
    by_cases he : kid k = []
    ·rw [bitv, if_pos he] at e1
     have E1 := Lib.hid e1
     have E2 := Lib.hid e2
     clear e1 e2
     rw [he] at hki hfk2 HFS
     clear he
     generalize hiT kid k = hi at *
     generalize loT kid k = lo at *
     generalize (kidsTo kid k).flatten = fl at *
     go_wp2_with fail
     exact ⟨⟨k + 1, by omega, by go_num, by simp [E2.out], by simp [E1.out], by simp [HFS.out]⟩, by simp [intOf]; omega⟩
    ·rw [bitv, if_neg he] at e1
     have E1 := Lib.hid e1
     have E2 := Lib.hid e2
     clear e1 e2
     have he1 : (kid k).isEmpty = false := by simpa using he
     clear he
     generalize kid k = x at *
     generalize hiT kid k = hi at *
     generalize loT kid k = lo at *
     generalize (kidsTo kid k).flatten = fl at *
     have hcat : ¬ 9223372036854775807 < fl.length + x.length := by omega
     go_wp2_with fail
     exact ⟨⟨k + 1, by omega, by go_num, by simp [E2.out], by simp [E1.out], by simp [HFS.out]⟩, by simp [intOf]; omega⟩
  ·have hke : k = 16 := by omega
   subst hke
   have hfk := HF.out 16 (by omega)
   have hh := hiK_lt kid
   have hl := loK_lt kid
   have HH : Hid ((kidsTo kid 16).flatten = (kidsF kid).flatten) := Lib.hid rfl
   rw [show hiT kid 16 = hiK kid from rfl, show loT kid 16 = loK kid from by rw [loK_eq]; rfl]
   generalize (kidsTo kid 16).flatten = fl at *
   have hcat : ¬ 9223372036854775807 < 1 + 2 := by omega
   have hcat1 : ¬ 9223372036854775807 < fl.length + 1 + 1 + 1 := by omega
   have hcat2 : ¬ 9223372036854775807 < fl.length + 1 + 1 + 1 + (text val).length := by omega
   have q1 : IntKind.u8.wrap ((hiK kid : Nat) : Int) = ((hiK kid : Nat) : Int) := by rw [IntKind.wrap_u8']; omega
   have q2 : IntKind.u8.wrap ((loK kid : Nat) : Int) = ((loK kid : Nat) : Int) := by rw [IntKind.wrap_u8']; omega
   have hcat3 : ¬ 9223372036854775807 < 3 + fl.length := by omega
   have hcat4 : ¬ 9223372036854775807 < 3 + fl.length + (text val).length := by omega
   obtain ⟨b1, b2, b3⟩ := id hB1
   go_wp2_with fail
   go_region_with (go_at_call 106; refine (rText_any val (by omega) _).mono ?_; rintro e w' ⟨rfl, hbx⟩; obtain ⟨hcx, hfx⟩ := bcell hbx)
   all_goals go_wp2_with fail
   all_goals go_ret
   all_goals exact ⟨by rw [← HH.out]; rfl, by (repeat (first | exact Below.refl _ _ | assumption | apply Below.drew | apply below_drewN | apply Below.allocS | (refine Below.setCell ?_ (by simp <;> omega) _) | (refine Below.alloc ?_ (by simp <;> omega) _) | (refine Below.trans ?_ (Below.mono (by assumption) (by simp <;> omega)))))⟩
end Go.Proofs.YthkpmlfaddlieaaGreatDoor
namespace Go.Proofs.YthkpmlfaddlieaaGreatDoor
namespace Pl
theorem digs_len : ∀ f n, (digs f n).length ≤ f
 | 0, n => by simp [digs]
 | f + 1, n => by
  unfold digs
  split
  ·simp
  ·have := digs_len f (n / 256); simp; omega
def cut (kid : Nat → Bs) (k : Nat) : Nat → Bs := fun i => if i < k then kid i else []
theorem kidL_eq {a b : Nat → Bs} (h : kidL a = kidL b) (i : Nat) (hi : i < 16) : a i = b i := by
 have := congrArg (fun l => l[i]?) h
 simpa [kidL, hi] using this
theorem kidL_of {kid kid2 : Nat → Bs} (h : ∀ i, i < 16 → kid i = kid2 i) : kidL kid = kidL kid2 := by
 unfold kidL
 apply List.map_congr_left
 intro i hi
 exact h i (by simpa using hi)
end Pl
end Go.Proofs.YthkpmlfaddlieaaGreatDoor
namespace Go.Proofs.YthkpmlfaddlieaaGreatDoor
namespace Pl
theorem kidsTo_nil {kid : Nat → Bs} : ∀ n, (∀ i, i < n → kid i = []) → kidsTo kid n = []
 | 0, _ => rfl
 | n + 1, h => by rw [kidsTo_succ, kidsTo_nil n (fun i hi => h i (by omega)), h n (by omega)]; rfl
theorem kidsTo_mono (kid : Nat → Bs) (n : Nat) : (kidsTo kid n).length ≤ (kidsTo kid (n + 1)).length := by
 rw [kidsTo_succ]; simp
theorem kidsTo_le (kid : Nat → Bs) {n m : Nat} (h : n ≤ m) : (kidsTo kid n).length ≤ (kidsTo kid m).length := by
 induction h with
 | refl => exact Nat.le_refl _
 | step _ ih => exact Nat.le_trans ih (kidsTo_mono kid _)
theorem none_iff (kid : Nat → Bs) : noKids kid = true ↔ (kidsF kid).length = 0 := by
 constructor
 ·intro h
  have h1 : kidL kid = kidL noK := by
   simp only [noKids, sameL, decide_eq_true_eq] at h
   rw [h]; rfl
  unfold kidsF
  rw [kidsTo_nil 16 (fun i hi => kidL_eq h1 i hi)]
  rfl
 ·intro h
  have h1 : ∀ i, i < 16 → kid i = [] := fun i hi => by
   by_cases he : kid i = []
   ·exact he
   ·exfalso
    have := kidsTo_le kid (show i + 1 ≤ 16 by omega)
    rw [kidsTo_succ, if_neg he] at this
    simp [kidsF] at h this
    rw [h] at this
    simp at this
  have h2 : kidL kid = kidL noK := kidL_of (fun i hi => h1 i hi)
  simp only [noKids, sameL, decide_eq_true_eq]
  rw [h2]; rfl
theorem kidsTo_one {kid : Nat → Bs} (h0 : kid 0 ≠ []) : ∀ n, n ≤ 15 → (∀ i, 1 ≤ i → i < n + 1 → kid i = []) → kidsTo kid (n + 1) = [kid 0]
 | 0, _, _ => by rw [kidsTo_succ, if_neg h0]; rfl
 | n + 1, hn, h => by rw [kidsTo_succ, kidsTo_one h0 n (by omega) (fun i h1 h2 => h i h1 (by omega)), h (n + 1) (by omega) (by omega)]; rfl
theorem one_rest {kid : Nat → Bs} (h0 : kid 0 ≠ []) (h : (kidsF kid).length = 1) (i : Nat) (h1 : 1 ≤ i) (hi : i < 16) : kid i = [] := by
 by_cases he : kid i = []
 ·exact he
 ·exfalso
  have a := kidsTo_le kid (show i + 1 ≤ 16 by omega)
  have b := kidsTo_le kid (show 0 + 1 ≤ i by omega)
  rw [kidsTo_succ, if_neg h0] at b
  rw [kidsTo_succ, if_neg he] at a
  have h' : (kidsTo kid 16).length = 1 := h
  simp at a b
  omega
theorem one_iff (kid : Nat → Bs) : (oneKidX kid (kid 0) && all32 [kid 0]) = true ↔ all32 (kidsF kid) = true ∧ (kidsF kid).length = 1 ∧ kid 0 ≠ [] := by
 rw [Bool.and_eq_true]
 constructor
 ·rintro ⟨h, h32⟩
  have h1 : kidL kid = kidL (upd noK 0 (kid 0)) := by
   simp only [oneKidX, sameL, decide_eq_true_eq] at h
   rw [h]; rfl
  have h0 : kid 0 ≠ [] := fun e => by rw [e] at h32; exact absurd h32 (by decide)
  have hf : kidsF kid = [kid 0] := kidsTo_one h0 15 (by omega) (fun i h2 h3 => by
   have := kidL_eq h1 i (by omega)
   rw [this]; unfold upd; rw [if_neg (by omega)]; rfl)
  rw [hf]
  exact ⟨h32, rfl, h0⟩
 ·rintro ⟨h32, hl, h0⟩
  have hr := one_rest h0 hl
  have hf : kidsF kid = [kid 0] := kidsTo_one h0 15 (by omega) (fun i h2 h3 => hr i h2 (by omega))
  rw [hf] at h32
  refine ⟨?_, h32⟩
  have h2 : kidL kid = kidL (upd noK 0 (kid 0)) := kidL_of (fun i hi => by
   unfold upd
   by_cases h3 : i = 0
   ·subst h3; rw [if_pos rfl]
   ·rw [if_neg h3]; exact hr i (by omega) hi)
  simp only [oneKidX, sameL, decide_eq_true_eq]
  rw [h2]; rfl
theorem all32_nil {l : List Bs} (h : l.length = 0) : all32 l = true := by
 rw [List.length_eq_zero_iff.1 h]; rfl
theorem fine_chk (kind : Int) (path val : Bs) (kid : Nat → Bs) : fineR kind path val kid = chk kind path val kid := by
 rw [Bool.eq_iff_iff]
 unfold fineR chk
 by_cases k1 : kind = 1
 ·simp only [if_pos k1]
  have hn := none_iff kid
  constructor
  ·intro h
   split at h
   ·cases h
   ·split at h
    ·cases h
    ·rename_i ha hb
     simp at h hb
     simp [pathOk, hn.2 (by simp [h.1])]
     refine ⟨⟨⟨?_, ?_⟩, h.2⟩, ?_⟩
     ·cases hf : fit path <;> simp [hf] at hb ⊢
     ·omega
     ·omega
  ·intro h
   simp [pathOk] at h
   have hl := hn.1 h.1.1.1
   rw [if_neg (by simp [all32_nil hl]), if_neg (by simp [h.1.1.2.1]; omega)]
   simp [hl, h.1.2]
 ·by_cases k2 : kind = 2
  ·simp only [if_neg k1, if_pos k2]
   have ho := one_iff kid
   constructor
   ·intro h
    split at h
    ·cases h
    ·split at h
     ·cases h
     ·rename_i ha hb
      simp at h hb ha
      have ho2 := ho.2 ⟨ha, h.1.1.1, h.1.1.2⟩
      rw [Bool.and_eq_true] at ho2
      simp [pathOk, ho2.1, ho2.2, h.2]
      refine ⟨⟨?_, by have := h.1.2; omega⟩, ?_⟩
      ·cases hf : fit path <;> simp [hf] at hb ⊢
      ·omega
   ·intro h
    simp only [pathOk, Bool.and_eq_true] at h
    obtain ⟨⟨⟨h1, h2⟩, ⟨⟨h3, h4⟩, h5⟩⟩, h6⟩ := h
    obtain ⟨q1, q2, q3⟩ := ho.1 (by rw [h1, h2]; rfl)
    have hv : val = [] := by simpa using h6
    subst hv
    have h4' : 1 ≤ path.length := by
     have h4i : (1 : Int) ≤ (path.length : Int) := by simpa using h4
     omega
    have h5' : path.length ≤ 16 := by simpa using h5
    rw [if_neg (by simp [q1]), if_neg (by simp [h3]; omega)]
    simp [q2, q3, h4']
  ·by_cases k3 : kind = 3
   ·simp only [if_neg k1, if_neg k2, if_pos k3]
    constructor
    ·intro h
     split at h
     ·cases h
     ·split at h
      ·cases h
      ·rename_i ha hb
       have ha' : all32 (kidsF kid) = true := by simpa using ha
       simp only [not_or] at hb
       obtain ⟨_, _, hv⟩ := hb
       simp at h
       obtain ⟨hp, h⟩ := h
       subst hp
       simp only [ha', Bool.and_eq_true, decide_eq_true_eq, List.isEmpty_nil]
       refine ⟨⟨⟨by simp, by simp⟩, ?_⟩, by omega⟩
       rcases h with h | ⟨h, h2⟩
       ·omega
       ·simp [h, h2]
    ·intro h
     simp only [Bool.and_eq_true, decide_eq_true_eq] at h
     obtain ⟨⟨⟨h1, h2⟩, h3⟩, h4⟩ := h
     have hp : path = [] := by simpa using h1
     subst hp
     rw [if_neg (by simp [h2]), if_neg (by simp [fit]; omega)]
     by_cases hv : val.isEmpty = true
     ·rw [if_pos hv] at h3
      simp; omega
     ·rw [if_neg hv] at h3
      simp at hv
      simp [hv]; omega
   ·simp only [if_neg k1, if_neg k2, if_neg k3]
    constructor
    ·intro h
     split at h
     ·cases h
     ·split at h <;> cases h
    ·intro h; cases h
end Pl
end Go.Proofs.YthkpmlfaddlieaaGreatDoor
namespace Go.Proofs.YthkpmlfaddlieaaGreatDoor
open Go.RowKit Pl
theorem writ_any (kind : Int) (path val : Bs) (kid : Nat → Bs) (hf : fineR kind path val kid = true) (w : World) :
  Calls Tryz.prog 170 #[.agg (nd kind path val kid).toArray] w fun e w' => e = .returned (.string ⟨List.toArray (enc kind path val kid)⟩) ∧ Below w.heap.size w w' := by
 have hc : chk kind path val kid = true := by rw [← fine_chk]; exact hf
 unfold fineR at hf
 split at hf
 ·cases hf
 ·rename_i ha
  have ha' : all32 (kidsF kid) = true := by simpa using ha
  split at hf
  ·cases hf
  ·rename_i hb
   simp only [not_or] at hb
   obtain ⟨_, hp, hv⟩ := hb
   by_cases k1 : kind = 1
   ·subst k1
    rw [show enc 1 path val kid = 1 :: (text (pack path true).1 ++ text val) from by simp [enc]]
    exact writ_leaf path val kid (by omega) (by omega) w
   ·by_cases k2 : kind = 2
    ·subst k2
     have h0 : (kid 0).length ≤ 32 := by
      simp [chk, all32] at hc
      omega
     rw [show enc 2 path val kid = 2 :: (text (pack path false).1 ++ kid 0) from by simp [enc]]
     exact writ_ext path val kid (by omega) h0 w
    ·by_cases k3 : kind = 3
     ·subst k3
      rw [show enc 3 path val kid = [3, UInt8.ofNat (hiK kid), UInt8.ofNat (loK kid)] ++ (kidsF kid).flatten ++ text val from by simp [enc]]
      exact writ_branch path val kid ha' (by omega) w
     ·rw [if_neg k1, if_neg k2, if_neg k3] at hf
      cases hf
end Go.Proofs.YthkpmlfaddlieaaGreatDoor
namespace Go.Proofs.YthkpmlfaddlieaaGreatDoor
open Go.RowKit
abbrev W32 (x : Int) : Prop := 0 ≤ x ∧ x < 4294967296
def rotI (x n : Int) : Int := bits .or .u32 (x / 2 ^ n.toNat) (x * 2 ^ (32 - n).toNat % 4294967296)
def arr (n : Nat) (f : Nat → Int) : List Value := (List.range n).map fun i => .int .u32 (f i)
def arb (n : Nat) (f : Nat → Int) : List Value := (List.range n).map fun i => .int .u8 (f i)
def updI (f : Nat → Int) (k : Nat) (x : Int) : Nat → Int := fun i => if i = k then x else f i
@[go_sem, simp] theorem arr_len (n : Nat) (f : Nat → Int) : (arr n f).length = n := by simp [arr]
@[go_sem, simp] theorem arb_len (n : Nat) (f : Nat → Int) : (arb n f).length = n := by simp [arb]
theorem arr_at (n : Nat) (f : Nat → Int) (i : Nat) (h : i < n) : (arr n f).toArray[i]? = some (.int .u32 (f i)) := by simp [arr, h]
theorem arb_at (n : Nat) (f : Nat → Int) (i : Nat) (h : i < n) : (arb n f).toArray[i]? = some (.int .u8 (f i)) := by simp [arb, h]
theorem arr_set (n : Nat) (f : Nat → Int) (k : Nat) (x : Int) : (arr n f).toArray.setIfInBounds k (.int .u32 x) = (arr n (updI f k x)).toArray := by
 apply Array.ext'
 rw [Array.toList_setIfInBounds]
 simp only [arr]
 apply List.ext_getElem (by simp)
 intro i h1 h2
 simp [List.getElem_set, updI]
 by_cases h : k = i
 ·subst h; simp
 ·rw [if_neg h, if_neg (fun e => h e.symm)]
theorem arb_set (n : Nat) (f : Nat → Int) (k : Nat) (x : Int) : (arb n f).toArray.setIfInBounds k (.int .u8 x) = (arb n (updI f k x)).toArray := by
 apply Array.ext'
 rw [Array.toList_setIfInBounds]
 simp only [arb]
 apply List.ext_getElem (by simp)
 intro i h1 h2
 simp [List.getElem_set, updI]
 by_cases h : k = i
 ·subst h; simp
 ·rw [if_neg h, if_neg (fun e => h e.symm)]
theorem arr_ext {n : Nat} {f g : Nat → Int} (h : ∀ i, i < n → f i = g i) : arr n f = arr n g := by
 unfold arr
 apply List.map_congr_left
 intro i hi
 rw [h i (by simpa using hi)]
theorem arr_one (n : Nat) (f : Nat → Int) : ∀ v ∈ arr n f, v.oneCell' = true := by
 intro v hv
 simp [arr] at hv
 obtain ⟨i, _, rfl⟩ := hv
 rfl
theorem ofInt32_nat (a : Nat) (ha : a < 4294967296) : (BitVec.ofInt 32 (a : Int)).toNat = a := by
 rw [BitVec.toNat_ofInt]; omega
theorem u32_or_nat' (a b : Nat) (ha : a < 4294967296) (hb : b < 4294967296) : bits .or .u32 (a : Int) (b : Int) = ((a ||| b : Nat) : Int) := by
 have hx : a ||| b < 2 ^ 32 := Nat.or_lt_two_pow (by omega) (by omega)
 show IntKind.u32.wrap ((BitVec.ofInt 32 (a : Int) ||| BitVec.ofInt 32 (b : Int)).toNat : Int) = _
 rw [BitVec.toNat_or, ofInt32_nat a ha, ofInt32_nat b hb, IntKind.wrap_u32']
 omega
theorem u32_or_sum (a b i P : Nat) (hP : 2 ^ i = P) (hb : b < P) (h : a * P + b < 4294967296) : bits .or .u32 ((a * P : Nat) : Int) (b : Int) = ((a * P + b : Nat) : Int) := by
 subst hP
 rw [u32_or_nat' _ _ (by omega) (by omega), Nat.mul_comm a, Nat.two_pow_add_eq_or_of_lt hb a]
theorem or4 (a b c d : Int) (ha : 0 ≤ a ∧ a < 256) (hb : 0 ≤ b ∧ b < 256) (hc : 0 ≤ c ∧ c < 256) (hd : 0 ≤ d ∧ d < 256) :
  bits .or .u32 (bits .or .u32 (bits .or .u32 (a * 16777216) (b * 65536)) (c * 256)) d = a * 16777216 + b * 65536 + c * 256 + d := by
 obtain ⟨a, rfl⟩ := Int.eq_ofNat_of_zero_le ha.1
 obtain ⟨b, rfl⟩ := Int.eq_ofNat_of_zero_le hb.1
 obtain ⟨c, rfl⟩ := Int.eq_ofNat_of_zero_le hc.1
 obtain ⟨d, rfl⟩ := Int.eq_ofNat_of_zero_le hd.1
 have e1 := u32_or_sum a (b * 65536) 24 16777216 (by decide) (by omega) (by omega)
 have e2 := u32_or_sum (a * 256 + b) (c * 256) 16 65536 (by decide) (by omega) (by omega)
 have e3 := u32_or_sum (a * 65536 + b * 256 + c) d 8 256 (by decide) (by omega) (by omega)
 have c1 : ((a : Int) * 16777216) = ((a * 16777216 : Nat) : Int) := by omega
 have c2 : ((b : Int) * 65536) = ((b * 65536 : Nat) : Int) := by omega
 have c3 : ((a * 16777216 + b * 65536 : Nat) : Int) = (((a * 256 + b) * 65536 : Nat) : Int) := by omega
 have c4 : ((c : Int) * 256) = ((c * 256 : Nat) : Int) := by omega
 have c5 : (((a * 256 + b) * 65536 + c * 256 : Nat) : Int) = (((a * 65536 + b * 256 + c) * 256 : Nat) : Int) := by simp only [Nat.add_mul, Nat.mul_assoc, Nat.reduceMul]
 rw [c1, c2, e1, c3, c4, e2, c5, e3]
 simp only [Nat.add_mul, Nat.mul_assoc, Nat.reduceMul, Int.natCast_add, Int.natCast_mul]
def word4 (b : Nat → Int) (i : Nat) : Int := b (4 * i) * 16777216 + b (4 * i + 1) * 65536 + b (4 * i + 2) * 256 + b (4 * i + 3)
def sg0 (x : Int) : Int := bits .xor .u32 (bits .xor .u32 (rotI x 7) (rotI x 18)) (x / 8)
def sg1 (y : Int) : Int := bits .xor .u32 (bits .xor .u32 (rotI y 17) (rotI y 19)) (y / 1024)
def sch (b : Nat → Int) (i : Nat) : Int :=
 if h : i < 16 then word4 b i
 else (sch b (i - 16) + sg0 (sch b (i - 15)) + sch b (i - 7) + sg1 (sch b (i - 2))) % 4294967296
termination_by i
decreasing_by all_goals omega
def bS1 (e : Int) : Int := bits .xor .u32 (bits .xor .u32 (rotI e 6) (rotI e 11)) (rotI e 25)
def bS0 (a : Int) : Int := bits .xor .u32 (bits .xor .u32 (rotI a 2) (rotI a 13)) (rotI a 22)
theorem sch_bd (b : Nat → Int) (hb : ∀ i, i < 64 → 0 ≤ b i ∧ b i < 256) (i : Nat) : W32 (sch b i) := by
 rw [sch]
 split
 ·rename_i h
  have h0 := hb (4 * i) (by omega)
  have h1 := hb (4 * i + 1) (by omega)
  have h2 := hb (4 * i + 2) (by omega)
  have h3 := hb (4 * i + 3) (by omega)
  unfold word4 W32
  omega
 ·exact ⟨Int.emod_nonneg _ (by omega), Int.emod_lt_of_pos _ (by omega)⟩
end Go.Proofs.YthkpmlfaddlieaaGreatDoor
namespace Go.Proofs.YthkpmlfaddlieaaGreatDoor
open Go.RowKit
theorem wp_tail {P : Program} {id : Nat} {Q : Exit → Act → World → Prop} {a : Act} {w : World} {l : List Oper} (n : Nat) (hm : P.follows .mixedOrders = true) (hB : Region.lexTailB .any l.toArray n = true)
  (h : ∀ w2, w2 = w.drew → wpStill P l.toArray w2 (fun a' => wpList P l.toArray Q (l.drop n) a' w2) (l.take n) a) : (Code.region id l.toArray true).wp P Q a w :=
 wp_region_still_tail n hm hB (h _ rfl)
structure RowT (P : Program) (T : TypeId) (n : Nat) : Prop where
 und : ∃ d, P.underlying T = some d ∧ d.isRow = true
 size : (P.info? T).map (·.size) = some n
theorem RowT.mk' {P : Program} {T : TypeId} {n : Nat} {d : TypeDesc} (h : P.underlying T = some d) (hd : d.isRow = true) (hs : (P.info? T).map (·.size) = some n) : RowT P T n := ⟨⟨d, h, hd⟩, hs⟩
theorem Blk.range {w : World} {b : Nat} {vs : List Value} (h : Blk w b vs.toArray) : w.rangeAt b 0 vs := by
 intro j v hv
 rw [Nat.zero_add, h.cell j]
 simpa using hv
theorem Mod.setCellsL (b : Nat) : ∀ (vs : List Value) (o : Nat) (w : World), Mod [b] w (w.setCells b o vs)
 | [], _, w => Mod.refl _ _
 | v :: r, o, w => by
  rw [World.setCells]
  exact ((Mod.refl _ w).setCell (.inl (by simp)) v).trans (Mod.setCellsL b r (o + 1) _)
section
variable {P : Program} {T : TypeId} {n : Nat} {ops : Array Oper} {rest : List Oper} {op : Oper} {a : Act} {w : World} {Q : Exit → Act → World → Prop}
theorem wpList_rowLoad (hT : RowT P T n) (hgd : op.guard = none) (x : Operand) (ho : op.op = .load T x) {b : Nat} (hx : a.eval x = .pointer (some ⟨b, 0, none⟩)) {vs : List Value} (hl : vs.length = n) (hB : Blk w b vs.toArray)
  (h : wpList P ops Q rest (a.put op.dst (.agg vs.toArray)) w) : wpList P ops Q (op :: rest) a w := by
 obtain ⟨⟨d, h1, h2⟩, h3⟩ := hT
 exact wpList_load_mid hgd T x ho b 0 hx vs d hB.range h1 h2 (by rw [hl]; exact h3) h
theorem wpList_rowStore (hT : RowT P T n) (hgd : op.guard = none) (hd : op.dst = none) (x y : Operand) (ho : op.op = .store T x y) {b : Nat} (hx : a.eval x = .pointer (some ⟨b, 0, none⟩)) {vs : List Value} (hy : a.eval y = .agg vs.toArray) (hl : vs.length = n) (h1 : ∀ v ∈ vs, v.oneCell' = true)
  {us : List Value} (hlu : us.length = n) (hB : Blk w b us.toArray)
  (h : ∀ w', Blk w' b vs.toArray → Mod [b] w w' → wpList P ops Q rest a w') : wpList P ops Q (op :: rest) a w := by
 obtain ⟨_, h3⟩ := hT
 have ht : w.there b 0 vs.length := fun j hj => by
  rw [Nat.zero_add, hB.cell, hB.froz]
  simp; omega
 refine wpList_store_mid hgd T x y ho b 0 _ hx hy (by simpa using ht) (by simp [hl, h3]) (all_oneCell_toArray h1) ?_
 rw [hd]
 refine h _ ⟨fun o => ?_, fun o => by rw [World.frozen?_setCells]; exact hB.froz o, ?_⟩ (Mod.setCellsL b _ 0 w)
 ·by_cases ho : o < vs.length
  ·have := World.cell?_setCells_in b vs 0 w (fun i hi => (ht i hi).1) o ho
   rw [Nat.zero_add] at this
   simp only [List.getElem?_toArray]
   rw [List.getElem?_eq_getElem ho]
   exact this
  ·rw [World.cell?_setCells_out b _ 0 w _ (fun _ _ => .inr (by simp at ho ⊢; omega)), hB.cell]
   simp at ho ⊢
   rw [List.getElem?_eq_none (by omega), List.getElem?_eq_none (by omega)]
 ·exact Nat.lt_of_lt_of_le hB.lt (Mod.setCellsL b _ 0 w).size
theorem row_loadVar (hT : RowT P T n) (w : World) {b : Nat} {vs : List Value} (hl : vs.length = n) (hB : Blk w b vs.toArray) : (loadVar T ⟨b, 0, none⟩).run P w = .ok (.agg vs.toArray) w := by
 obtain ⟨⟨d, h1, h2⟩, h3⟩ := hT
 exact run_loadVar_mid w b 0 T vs d hB.range h1 h2 (by rw [hl]; exact h3)
end
theorem Below.name {B : Nat} {a w : World} (_ : Below B a w) : ∃ w' : World, w' = w := ⟨w, rfl⟩
theorem results_cell1 {P : Program} {fn : Func} {a : Nat} {t : TypeId} (h : fn.results = #[.cell a t]) (tmps : Array Value) (w : World) (p : Addr) (v : Value) (hp : tmps.getD a undef = .pointer (some p)) (hl : (loadVar t p).run P w = .ok v w) :
  (results fn tmps).run P w = .ok v w := by
 unfold results
 rw [h]
 rw [Array.getD_eq_getD_getElem?] at hp
 simp [hp, asAddr, hl, Sem.run_bind]
theorem quietD {P : Program} {f : FuncId} {args : Array Value} {w : World} {a n : Nat} {v : Value} (h : ∀ W : World, Calls P f args W fun e w' => e = .returned v ∧ W = w') :
  Calls P f args (w.drewN (a + n)) fun e w'' => e = .returned v ∧ ∃ k, w'' = w.drewN (a + k) :=
 (h _).mono fun _ _ ⟨he, hw⟩ => ⟨he, n, hw.symm⟩
section
variable {P : Program} {ops : Array Oper} {C : World → Prop} {Q : Act → Prop} {o : Oper} {rest : List Oper} {a : Act}
theorem wpQ_skip (hw : Region.wanted o (yielded ops a.tmps) = false) (h : wpQuiet P ops C Q rest (a.put o.dst undef)) : wpQuiet P ops C Q (o :: rest) a := by
 unfold wpQuiet
 rw [if_neg (by rw [hw]; simp)]
 exact h
theorem wpQ_load (hw : Region.wanted o (yielded ops a.tmps) = true) (u : Value) (hv : ∀ w, C w → (execOp a.eval o).run P w = .ok (.value u) w) (h : wpQuiet P ops C Q rest (a.put o.dst u)) : wpQuiet P ops C Q (o :: rest) a := by
 unfold wpQuiet
 rw [if_pos hw]
 exact ⟨u, fun w hC => by unfold Oper.quietAt; rw [hv w hC]; exact ⟨rfl, rfl⟩, h⟩
theorem wpQ_pure (hw : Region.wanted o (yielded ops a.tmps) = true) (u : Value) (hv : ∀ w, (execOp a.eval o).run P w = .ok (.value u) w) (h : wpQuiet P ops C Q rest (a.put o.dst u)) : wpQuiet P ops C Q (o :: rest) a :=
 wpQ_load hw u (fun w _ => hv w) h
theorem wpQ_call (hw : Region.wanted o (yielded ops a.tmps) = true) (f : FuncId) (args : Array Value) (v : Value) (hc : ∀ w, C w → Calls P f args w fun e w' => e = .returned v ∧ C w') (hv : ∀ w, (execOp a.eval o).run P w = .ok (.enter f args) w)
  (h : wpQuiet P ops C Q rest (a.put o.dst v)) : wpQuiet P ops C Q (o :: rest) a := by
 unfold wpQuiet
 rw [if_pos hw]
 exact ⟨v, fun w hC => by unfold Oper.quietAt; rw [hv w]; exact ⟨rfl, hc w hC⟩, h⟩
theorem wpQ_row {T : TypeId} {n : Nat} (hT : RowT P T n) (hw : Region.wanted o (yielded ops a.tmps) = true) (x : Operand) (ho : o.op = .load T x) {b : Nat} (hx : a.eval x = .pointer (some ⟨b, 0, none⟩)) {vs : List Value} (hl : vs.length = n) (hB : ∀ w, C w → Blk w b vs.toArray)
  (h : wpQuiet P ops C Q rest (a.put o.dst (.agg vs.toArray))) : wpQuiet P ops C Q (o :: rest) a :=
 wpQ_load hw _ (fun w hC => by
  unfold execOp
  simp only [ho, hx, Instr.loadAt, Instr.sureAddr, Sem.run_bind, Sem.run_pure, Result.andThen_ok, row_loadVar hT w hl (hB w hC)]) h
end
theorem wp_held {P : Program} {id : Nat} {Q : Exit → Act → World → Prop} {a : Act} {w : World} {l : List Oper} (hm : P.follows .mixedOrders = true) (hB : Region.lexB .any l.toArray = true)
  (h : wpQuiet P l.toArray (Below w.heap.size w) (fun a' => ∀ w', Below w.heap.size w w' → Q .normal a' w') l a) : (Code.region id l.toArray true).wp P Q a w :=
 wp_region_quiet (C := Below w.heap.size w) hm hB (Below.refl _ _).drew (by simpa using h)
theorem callB {P : Program} {W : World} {f : FuncId} {args : Array Value} {v : Value} (h : ∀ w, Calls P f args w fun e w' => e = .returned v ∧ Below w.heap.size w w') :
  ∀ w, Below W.heap.size W w → Calls P f args w fun e w' => e = .returned v ∧ Below W.heap.size W w' :=
 fun w hb => (h w).mono fun _ _ ⟨he, hb2⟩ => ⟨he, hb.trans (hb2.mono hb.size)⟩
theorem callS {P : Program} {W : World} {f : FuncId} {args : Array Value} {v : Value} (h : ∀ w, Below W.heap.size W w → Calls P f args w fun e w' => e = .returned v ∧ w = w') :
  ∀ w, Below W.heap.size W w → Calls P f args w fun e w' => e = .returned v ∧ Below W.heap.size W w' :=
 fun w hb => (h w hb).mono fun _ _ ⟨he, hb2⟩ => ⟨he, hb2 ▸ hb⟩
theorem callD {P : Program} {W : World} {f : FuncId} {args : Array Value} {v : Value} (h : ∀ w, Below W.heap.size W w → Calls P f args w fun e w' => e = .returned v ∧ ∃ n, w' = w.drewN n) :
  ∀ w, Below W.heap.size W w → Calls P f args w fun e w' => e = .returned v ∧ Below W.heap.size W w' :=
 fun w hb => (h w hb).mono fun _ _ ⟨he, n, hb2⟩ => ⟨he, hb2 ▸ below_drewN hb n⟩
section
variable {P : Program} {ops : Array Oper} {S : World → Prop} {Q : Exit → Act → World → Prop} {fuel : Nat} {listed : Array Bool} {a : Act} {w : World} {oi : Oper}
theorem wpH_pure (i : Nat) (u : Value) (hi : ops[i]? = some oi) (hs : Region.noSelect ops = true) (hf : Region.free .any ops listed i = true) (hr : (Region.ready .any ops listed).contains i = true)
  (hw : Region.wanted oi (yielded ops a.tmps) = true) (hS : S w) (hQ : ∀ c a w, Q (.panic c) (a.put oi.dst u) w → Q (.panic c) a w) (hv : ∀ w, (execOp a.eval oi).run P w = .ok (.value u) w)
  (h : wpAnyH P .any ops Q S fuel (listed.setIfInBounds i true) (a.put oi.dst u) w) : wpAnyH P .any ops Q S (fuel + 1) listed a w :=
 wpAnyH_take hi hs hf hr hQ (.inl ⟨hw, fun w _ => hv w⟩) hS h
theorem wpH_skip (i : Nat) (hi : ops[i]? = some oi) (hs : Region.noSelect ops = true) (hf : Region.free .any ops listed i = true) (hr : (Region.ready .any ops listed).contains i = true)
  (hw : Region.wanted oi (yielded ops a.tmps) = false) (hS : S w) (hQ : ∀ c a w, Q (.panic c) (a.put oi.dst undef) w → Q (.panic c) a w)
  (h : wpAnyH P .any ops Q S fuel (listed.setIfInBounds i true) (a.put oi.dst undef) w) : wpAnyH P .any ops Q S (fuel + 1) listed a w :=
 wpAnyH_take hi hs hf hr hQ (.inr ⟨hw, rfl⟩) hS h
theorem wpH_row {T : TypeId} {n : Nat} (hT : RowT P T n) (i : Nat) (hi : ops[i]? = some oi) (hs : Region.noSelect ops = true) (hf : Region.free .any ops listed i = true) (hr : (Region.ready .any ops listed).contains i = true)
  (hw : Region.wanted oi (yielded ops a.tmps) = true) (hS : S w) {vs : List Value} (hQ : ∀ c a w, Q (.panic c) (a.put oi.dst (.agg vs.toArray)) w → Q (.panic c) a w) (x : Operand) (ho : oi.op = .load T x) {b : Nat} (hx : a.eval x = .pointer (some ⟨b, 0, none⟩)) (hl : vs.length = n) (hB : ∀ w, S w → Blk w b vs.toArray)
  (h : wpAnyH P .any ops Q S fuel (listed.setIfInBounds i true) (a.put oi.dst (.agg vs.toArray)) w) : wpAnyH P .any ops Q S (fuel + 1) listed a w :=
 wpAnyH_take hi hs hf hr hQ (.inl ⟨hw, fun w hC => by
  unfold execOp
  simp only [ho, hx, Instr.loadAt, Instr.sureAddr, Sem.run_bind, Sem.run_pure, Result.andThen_ok, row_loadVar hT w hl (hB w hC)]⟩) hS h
theorem wpH_load (i : Nat) (u : Value) (hi : ops[i]? = some oi) (hs : Region.noSelect ops = true) (hf : Region.free .any ops listed i = true) (hr : (Region.ready .any ops listed).contains i = true)
  (hw : Region.wanted oi (yielded ops a.tmps) = true) (hS : S w) (hQ : ∀ c a w, Q (.panic c) (a.put oi.dst u) w → Q (.panic c) a w) (hv : ∀ w, S w → (execOp a.eval oi).run P w = .ok (.value u) w)
  (h : wpAnyH P .any ops Q S fuel (listed.setIfInBounds i true) (a.put oi.dst u) w) : wpAnyH P .any ops Q S (fuel + 1) listed a w :=
 wpAnyH_take hi hs hf hr hQ (.inl ⟨hw, hv⟩) hS h
theorem wpH_call (i : Nat) (hi : ops[i]? = some oi) (hr : Region.ready .any ops listed = [i]) (hw : Region.wanted oi (yielded ops a.tmps) = true) {f : FuncId} {args : Array Value} {R : Ending → World → Prop} (hc : Calls P f args w R)
  (hv : (execOp a.eval oi).run P w = .ok (.enter f args) w)
  (h : ∀ e w', R e w' → ∃ v, e = .returned v ∧ S w' ∧ wpAnyH P .any ops Q S fuel (listed.setIfInBounds i true) (a.put oi.dst v) w') : wpAnyH P .any ops Q S (fuel + 1) listed a w := by
 refine wpAnyH_all hr (by simp) (fun j hj => ?_)
 obtain rfl : j = i := by simpa using hj
 unfold wpOp
 simp only [hi, hw, if_true]
 refine .inl ?_
 unfold Oper.wp
 rw [hv, Oper.upon_enter]
 refine hc.mono fun e w' hR => ?_
 obtain ⟨v, rfl, h1, h2⟩ := h e w' hR
 exact ⟨h1, h2⟩
theorem wpH_op (i : Nat) (hi : ops[i]? = some oi) (hr : Region.ready .any ops listed = [i]) (hw : Region.wanted oi (yielded ops a.tmps) = true)
  (h : oi.wp P a w (fun a' w' => S w' ∧ wpAnyH P .any ops Q S fuel (listed.setIfInBounds i true) a' w') Q) : wpAnyH P .any ops Q S (fuel + 1) listed a w := by
 refine wpAnyH_all hr (by simp) (fun j hj => ?_)
 obtain rfl : j = i := by simpa using hj
 unfold wpOp
 simp only [hi, hw, if_true]
 exact .inl h
end
theorem wpH_start {P : Program} {id : Nat} {ops : Array Oper} {Q : Exit → Act → World → Prop} {a : Act} {w : World} (hm : P.follows .mixedOrders = true)
  (h : Below w.heap.size w w.drew → wpAnyH P .any ops Q (Below w.heap.size w) ops.size (Array.replicate ops.size false) a w.drew) : (Code.region id ops true).wp P Q a w :=
 wp_region_held_drew hm (Below.refl _ _).drew h
theorem wpH_startM {P : Program} {id : Nat} {ops : Array Oper} {Q : Exit → Act → World → Prop} {a : Act} {w : World} (l : List Nat) (hm : P.follows .mixedOrders = true)
  (h : Mod l w w.drew → wpAnyH P .any ops Q (Mod l w) ops.size (Array.replicate ops.size false) a w.drew) : (Code.region id ops true).wp P Q a w :=
 wp_region_held_drew hm (Mod.refl _ _).drew h
theorem pna (a : Act) (d : Nat) (v : Value) : a.put (some d) v = { a with tmps := a.tmps.setIfInBounds d v } := rfl
theorem pnb (a : Act) (v : Value) : a.put none v = a := rfl
theorem pnc {α : Type} (xs : List α) (i : Nat) (x : α) : xs.toArray.setIfInBounds i x = (xs.set i x).toArray := by simp
theorem pnd {α : Type} (y : α) (r : List α) (x : α) : (y :: r).set 0 x = x :: r := rfl
theorem pne {α : Type} (y : α) (r : List α) (i : Nat) (x : α) : (y :: r).set (i + 1) x = y :: r.set i x := rfl
abbrev ztL : List Value := [.int .i64 (0), .int .i64 (0), .int .i64 (0), .bool false, .string ⟨List.toArray ([])⟩, .string ⟨List.toArray ([])⟩, .string ⟨List.toArray ([])⟩, .string ⟨List.toArray ([])⟩, .string ⟨List.toArray ([])⟩, .string ⟨List.toArray ([])⟩, .slice none 0 0, .slice none 0 0, .int .i64 (0)]
abbrev ztA : Array Value := #[.int .i64 (0), .int .i64 (0), .int .i64 (0), .bool false, .string ⟨List.toArray ([])⟩, .string ⟨List.toArray ([])⟩, .string ⟨List.toArray ([])⟩, .string ⟨List.toArray ([])⟩, .string ⟨List.toArray ([])⟩, .string ⟨List.toArray ([])⟩, .slice none 0 0, .slice none 0 0, .int .i64 (0)]
def bareO (o : Oper) : Oper := { o with pos := "", after := #[] }
theorem exec_bare (r : Operand → Value) (o : Oper) : execOp r (bareO o) = execOp r o := rfl
theorem bare_at {ops : Array Oper} {i : Nat} {oi : Oper} (h : (ops[i]?).map bareO = some oi) : ∃ o, ops[i]? = some o ∧ bareO o = oi := by
 cases hh : ops[i]? with
 | none => rw [hh] at h; cases h
 | some o => rw [hh] at h; injection h with h; exact ⟨o, rfl, h⟩
section
variable {P : Program} {ops : Array Oper} {S : World → Prop} {Q : Exit → Act → World → Prop} {fuel : Nat} {listed : Array Bool} {a : Act} {w : World}
theorem hP (i : Nat) (u : Value) (oi : Oper) (hS : S w) (hv : ∀ w, (execOp a.eval oi).run P w = .ok (.value u) w)
  (h : wpAnyH P .any ops Q S fuel (listed.setIfInBounds i true) (a.put oi.dst u) w) (hi : (ops[i]?).map bareO = some oi := by rfl) (hs : Region.noSelect ops = true := by kernel_rfl) (hf : Region.free .any ops listed i = true := by kernel_rfl) (hr : (Region.ready .any ops listed).contains i = true := by kernel_rfl)
  (hw : Region.wanted oi (yielded ops a.tmps) = true := by rfl) (hQ : ∀ c a w, Q (.panic c) (a.put oi.dst u) w → Q (.panic c) a w := by exact fun _ _ _ h => h) : wpAnyH P .any ops Q S (fuel + 1) listed a w := by
 obtain ⟨o, ho, rfl⟩ := bare_at hi
 exact wpH_pure i u ho hs hf hr hw hS hQ hv h
theorem qP {C : World → Prop} {R : Act → Prop} {o : Oper} {rest : List Oper} (u : Value) (hv : ∀ w, (execOp a.eval o).run P w = .ok (.value u) w) (h : wpQuiet P ops C R rest (a.put o.dst u)) (hw : Region.wanted o (yielded ops a.tmps) = true := by rfl) : wpQuiet P ops C R (o :: rest) a := wpQ_pure hw u hv h
theorem qN {C : World → Prop} {R : Act → Prop} {o : Oper} {rest : List Oper} (h : wpQuiet P ops C R rest (a.put o.dst undef)) (hw : Region.wanted o (yielded ops a.tmps) = false := by first | rfl | (go_simp; rfl)) : wpQuiet P ops C R (o :: rest) a := wpQ_skip hw h
theorem hN (i : Nat) (oi : Oper) (hS : S w) (h : wpAnyH P .any ops Q S fuel (listed.setIfInBounds i true) (a.put oi.dst undef) w) (hi : (ops[i]?).map bareO = some oi := by rfl) (hs : Region.noSelect ops = true := by kernel_rfl) (hf : Region.free .any ops listed i = true := by kernel_rfl) (hr : (Region.ready .any ops listed).contains i = true := by kernel_rfl)
  (hw : Region.wanted oi (yielded ops a.tmps) = false := by rfl) (hQ : ∀ c a w, Q (.panic c) (a.put oi.dst undef) w → Q (.panic c) a w := by exact fun _ _ _ h => h) : wpAnyH P .any ops Q S (fuel + 1) listed a w := by
 obtain ⟨o, ho, rfl⟩ := bare_at hi
 exact wpH_skip i ho hs hf hr hw hS hQ h
end
end Go.Proofs.YthkpmlfaddlieaaGreatDoor
