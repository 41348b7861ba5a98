/- Walks of layer 8: a node as bytes. -/
import Derived.Test.YtmldonbmjgelnaaDoorCheck
import Derived.Test.YtmldonbmjgelnaaDoorPack
import Derived.Test.YtmldonbmjgelnaaDoorNum
set_option linter.unusedSimpArgs false
set_option linter.unusedVariables false
namespace Go.Proofs.YtmldonbmjgelnaaDoor
open Go.RowKit Pl

theorem enc_bad (kind : Int) (path val : Bs) (kid : Nat → Bs) (hp : path.length ≤ 9223372036854775807) (hc : chk kind path val kid = false) (w : World) :
    Calls Tryd.prog 16 #[.agg (nd kind path val kid).toArray] w fun e w' => e = .returned (.tuple #[.string ⟨List.toArray ([])⟩, .int .i64 (80)]) ∧ Below w.heap.size w w' := by
  have hB0 := Blk.new w (nd kind path val kid).toArray 24
  go_enter Tryd.func16, Tryd.ntmps16
  go_wp2_with (refine wpList_node rfl (.tmp 1) rfl rfl hB0 ?_)
  refine (check_any kind path val kid hp _).mono ?_
  rintro e w1 ⟨rfl, hb⟩
  rw [hc]
  go_wp2_with (simp [chkI])
  all_goals (go_ret2; exact ⟨rfl, (Below.allocS (Below.refl _ _) _).trans (hb.mono (by simp))⟩)

set_option maxRecDepth 100000 in
set_option maxHeartbeats 4000000 in
theorem enc_leaf (path val : Bs) (kid : Nat → Bs) (hp : path.length ≤ 9223372036854775807) (hc : chk 1 path val kid = true) (w : World) :
    Calls Tryd.prog 16 #[.agg (nd 1 path val kid).toArray] w fun e w' => e = .returned (.tuple #[.string ⟨List.toArray (1 :: (text (pack path true).1 ++ text val))⟩, .int .i64 (0)]) ∧ Below w.heap.size w w' := by
  have hpl : path.length ≤ 16 := by
    simp [chk, pathOk] at hc; omega
  have hvl : val.length ≤ 32 := by
    simp [chk, pathOk] at hc; omega
  have h1 := text_len val
  have h2 := text_len (pack path true).1
  have h3 := pack_len path true
  have hB0 := Blk.new w (nd 1 path val kid).toArray 24
  go_enter Tryd.func16, Tryd.ntmps16
  go_wp2_with (refine wpList_node rfl (.tmp 1) rfl rfl hB0 ?_)
  refine (check_any 1 path val kid hp _).mono ?_
  rintro e w1 ⟨rfl, hb⟩
  rw [hc, show chkI true = 0 from rfl]
  have hB : Blk w1 w.heap.size (nd 1 path val kid).toArray := hB0.keep hb
  have hb0 : Below w.heap.size w w1 := (Below.allocS (Below.refl _ _) _).trans (hb.mono (by simp))
  clear hb hB0
  obtain ⟨b1, b2, b3⟩ := id hB
  clear hc
  go_wp2_with fail
  refine (npack_any path true (by omega) _).mono ?_
  rintro e w2 ⟨rfl, hb2⟩
  have hb3 : Below w.heap.size w w2 := (Below.allocS hb0 _).trans (hb2.mono (by have := hb0.size; simp; omega))
  have hB2 : Blk w2 w.heap.size (nd 1 path val kid).toArray := (hB.alloc _).keep hb2
  clear hb2 hB b1 b2 b3
  obtain ⟨b1, b2, b3⟩ := id hB2
  go_wp2_with fail
  refine (ctext_any (pack path true).1 (by omega) _).mono ?_
  rintro e w3 ⟨rfl, hb4⟩
  have hb5 : Below w.heap.size w w3 := hb3.trans (hb4.mono hb3.size)
  have hB3 : Blk w3 w.heap.size (nd 1 path val kid).toArray := hB2.keep hb4
  clear hb4 hB2 b1 b2 b3
  obtain ⟨b1, b2, b3⟩ := id hB3
  have hcat : ¬ 9223372036854775807 < 1 + (text (pack path true).1).length := by omega
  go_wp2_with fail
  refine (ctext_any val (by omega) _).mono ?_
  rintro e w4 ⟨rfl, hb6⟩
  have hcat2 : ¬ 9223372036854775807 < (text (pack path true).1).length + 1 + (text val).length := by omega
  go_wp2_with fail
  all_goals (go_ret2; exact ⟨by simp, hb5.trans (hb6.mono hb5.size)⟩)

set_option maxRecDepth 100000 in
set_option maxHeartbeats 4000000 in
theorem enc_ext (path val : Bs) (kid : Nat → Bs) (hp : path.length ≤ 9223372036854775807) (hc : chk 2 path val kid = true) (w : World) :
    Calls Tryd.prog 16 #[.agg (nd 2 path val kid).toArray] w fun e w' => e = .returned (.tuple #[.string ⟨List.toArray (2 :: (text (pack path false).1 ++ kid 0))⟩, .int .i64 (0)]) ∧ Below w.heap.size w w' := by
  have hpl : path.length ≤ 16 := by
    simp [chk, pathOk] at hc; omega
  have hkl : (kid 0).length ≤ 32 := by
    simp [chk, all32] at hc; omega
  have h2 := text_len (pack path false).1
  have h3 := pack_len path false
  have hB0 := Blk.new w (nd 2 path val kid).toArray 24
  go_enter Tryd.func16, Tryd.ntmps16
  go_wp2_with (refine wpList_node rfl (.tmp 1) rfl rfl hB0 ?_)
  refine (check_any 2 path val kid hp _).mono ?_
  rintro e w1 ⟨rfl, hb⟩
  rw [hc, show chkI true = 0 from rfl]
  have hB : Blk w1 w.heap.size (nd 2 path val kid).toArray := hB0.keep hb
  have hb0 : Below w.heap.size w w1 := (Below.allocS (Below.refl _ _) _).trans (hb.mono (by simp))
  clear hb hB0
  obtain ⟨b1, b2, b3⟩ := id hB
  clear hc
  go_wp2_with fail
  refine (npack_any path false (by omega) _).mono ?_
  rintro e w2 ⟨rfl, hb2⟩
  have hb3 : Below w.heap.size w w2 := (Below.allocS hb0 _).trans (hb2.mono (by have := hb0.size; simp; omega))
  have hB2 : Blk w2 w.heap.size (nd 2 path val kid).toArray := (hB.alloc _).keep hb2
  clear hb2 hB b1 b2 b3
  obtain ⟨b1, b2, b3⟩ := id hB2
  go_wp2_with fail
  refine (ctext_any (pack path false).1 (by omega) _).mono ?_
  rintro e w3 ⟨rfl, hb4⟩
  have hb5 : Below w.heap.size w w3 := hb3.trans (hb4.mono hb3.size)
  have hB3 : Blk w3 w.heap.size (nd 2 path val kid).toArray := hB2.keep hb4
  clear hb4 hB2 b1 b2 b3
  obtain ⟨b1, b2, b3⟩ := id hB3
  have hcat : ¬ 9223372036854775807 < 1 + (text (pack path false).1).length := by omega
  have hcat2 : ¬ 9223372036854775807 < (text (pack path false).1).length + 1 + (kid 0).length := by omega
  go_wp2_with fail
  all_goals (go_ret2; exact ⟨by simp, hb5⟩)

theorem wrap64_nat (a : Nat) (ha : a < 9223372036854775808) : wrap64 (a : Int) = a := by
  unfold wrap64
  omega
theorem flat_len (l : List Bs) (h : all32 l = true) : l.flatten.length = 32 * l.length := by
  induction l with
  | nil => rfl
  | cons a r ih =>
    simp [all32] at h ih ⊢
    rw [ih h.2, h.1]; omega

set_option maxRecDepth 100000 in
set_option maxHeartbeats 4000000 in
theorem enc_branch (path val : Bs) (kid : Nat → Bs) (hp : path.length ≤ 9223372036854775807) (hc : chk 3 path val kid = true) (w : World) :
    Calls Tryd.prog 16 #[.agg (nd 3 path val kid).toArray] w fun e w' => e = .returned (.tuple #[.string ⟨List.toArray ([3, UInt8.ofNat (hiK kid), UInt8.ofNat (loK kid)] ++ (kidsF kid).flatten ++ text val)⟩, .int .i64 (0)]) ∧ Below w.heap.size w w' := by
  have hvl : val.length ≤ 32 := by
    simp [chk] at hc; omega
  have ha : all32 (kidsF kid) = true := by
    simp [chk] at hc; exact hc.1.1.2
  have hne : 1 ≤ (kidsF kid).length := by
    simp [chk] at hc
    have := hc.1.2
    split at this <;> omega
  have h1 := text_len val
  have hkl := kidsTo_len kid 16
  have hkl' : (kidsF kid).length ≤ 16 := hkl
  have hB0 := Blk.new w (nd 3 path val kid).toArray 24
  go_enter Tryd.func16, Tryd.ntmps16
  go_wp2_with (refine wpList_node rfl (.tmp 1) rfl rfl hB0 ?_)
  refine (check_any 3 path val kid hp _).mono ?_
  rintro e w1 ⟨rfl, hb⟩
  rw [hc, show chkI true = 0 from rfl]
  have hB : Blk w1 w.heap.size (nd 3 path val kid).toArray := hB0.keep hb
  have hb0 : Below w.heap.size w w1 := (Below.allocS (Below.refl _ _) _).trans (hb.mono (by simp))
  clear hb hB0 hc
  obtain ⟨b1, b2, b3⟩ := id hB
  go_wp2_with (refine wpList_kidsArr rfl (.tmp 26) rfl rfl (hB.alloc _) ?_)
  clear b1 b2 b3
  have hB2 : Blk _ w.heap.size (nd 3 path val kid).toArray := hB.alloc (.cells #[.int .u8 3] 5)
  go_loop [6, 28] (fun s6 s28 => ∃ k : Nat, k ≤ 16 ∧ s28 = .int .i64 k ∧ s6 = .int .i64 ((numTo kid k * 2 ^ (16 - k) : Nat) : Int)) (fun _ s28 => 16 - (intOf s28).toNat)
  case atStart => exact ⟨0, by omega, rfl, by simp [numTo]⟩
  case round =>
    obtain ⟨k, hk, rfl, rfl⟩ := hrel
    by_cases hlt : k < 16
    · have hki := kid_index kid k hlt
      have hlt' : (k : Int) < 16 := by omega
      have hle := numTo_le kid k hk
      by_cases he : kid k = []
      · have HK := Lib.hid (numTo_same kid k hlt he)
        rw [he] at hki
        clear he
        go_wp2_with fail
        exact ⟨⟨k + 1, by omega, by go_num, by rw [HK.out]⟩, by simp [intOf]; omega⟩
      · have HK := Lib.hid (numTo_shift kid k hlt he)
        have he1 : (kid k).isEmpty = false := by simpa using he
        clear he
        have hor : bits .or .i64 ((numTo kid k : Int) * 2 ^ (16 - k)) (wrap64 (2 ^ (15 - k))) = ((numTo kid (k + 1) * 2 ^ (16 - (k + 1)) : Nat) : Int) := by
          have hp2 : (2 : Nat) ^ (15 - k) < 65536 := Nat.lt_of_le_of_lt (Nat.pow_le_pow_right (by omega) (show 15 - k ≤ 15 by omega)) (by decide)
          have h := i64_or_nat (numTo kid k * 2 ^ (16 - k)) (2 ^ (15 - k)) (by omega) (by omega)
          rw [HK.out] at h
          rw [← h]
          have h2 : wrap64 (2 ^ (15 - k)) = ((2 ^ (15 - k) : Nat) : Int) := by
            have hz : (2 : Int) ^ (15 - k) = ((2 ^ (15 - k) : Nat) : Int) := by simp
            rw [hz]
            exact wrap64_nat _ (by omega)
          rw [h2]
          simp
        go_wp2_with fail
        exact ⟨⟨k + 1, by omega, by go_num, by rw [show 16 - (k + 1) = 15 - k from by omega]; simp⟩, by simp [intOf]; omega⟩
    · have hke : k = 16 := by omega
      subst hke
      go_wp2_with (refine wpList_node rfl (.tmp 1) rfl rfl (hB2.alloc _) ?_)
      refine (kids_any _ path val kid _).mono ?_
      rintro e w2 ⟨va, vc, rfl, hS, hb⟩
      have hb3 : Below w.heap.size w w2 := (Below.allocS (Below.allocS hb0 _) _).trans (hb.mono (by have := hb0.size; simp; omega))
      have hB3 : Blk w2 w.heap.size (nd 3 path val kid).toArray := (hB2.alloc _).keep hb
      clear hb hB2 hB
      have hfl := flat_len _ ha
      rcases hS.cells with ⟨hx, hx2⟩ | ⟨g, cap, hx, hgb, hlt, hn, hm, hcl, hf⟩
      · rw [hx2] at hne; cases hne
      obtain ⟨rfl, rfl⟩ : va = some ⟨g, 0, none⟩ ∧ vc = cap := by
        injection hx with h1 h2 h3
        exact ⟨h1, h3⟩
      have hw2 : w.heap.size < w2.heap.size := hB3.lt
      have HH : Hid ([3, UInt8.ofNat (numTo kid 16 / 256 % 256), UInt8.ofNat (numTo kid 16 % 256)] = [3, UInt8.ofNat (hiK kid), UInt8.ofNat (loK kid)]) := Lib.hid (by
        have h1 := numTo_16 kid
        have h2 := loK_lt kid
        have h3 := hiK_lt kid
        rw [show numTo kid 16 / 256 % 256 = hiK kid from by omega, show numTo kid 16 % 256 = loK kid from rfl])
      rw [HH.out]
      generalize hk : kidsF kid = ks at *
      have hfk : ∀ k, (ks.take k).flatten.length ≤ 512 := fun k => by
        rw [flat_len _ (by unfold all32 at *; exact List.all_eq_true.2 (fun x hx => List.all_eq_true.1 ha x (List.mem_of_mem_take hx)))]
        have : (ks.take k).length ≤ ks.length := by rw [List.length_take]; exact Nat.min_le_right _ _
        omega
      have HF := Lib.hid hfk
      have HC := Lib.hid hcl
      have HA := Lib.hid ha
      have HK := Lib.hid hk
      clear hfk hcl ha hfl hk hS hx
      obtain ⟨b1, b2, b3⟩ := id hB3
      go_wp2_with fail
      go_loop [5, 52] (fun s5 s52 => ∃ k : Nat, k ≤ ks.length ∧ s52 = .int .i64 k ∧ s5 = .string ⟨List.toArray ([3, UInt8.ofNat (hiK kid), UInt8.ofNat (loK kid)] ++ (ks.take k).flatten)⟩) (fun _ s52 => ks.length - (intOf s52).toNat)
      case atStart => exact ⟨0, by omega, rfl, by simp⟩
      case round =>
        obtain ⟨k, hk, rfl, rfl⟩ := hrel
        have hfk := HF.out k
        by_cases hlt : k < ks.length
        · have hck := HC.out k hlt
          have h32 : (ks.getD k []).length = 32 := by
            have := List.all_eq_true.1 HA.out (ks[k]) (List.getElem_mem hlt)
            simpa [List.getD, List.getElem?_eq_getElem hlt] using this
          have HT : Hid ((ks.take (k + 1)).flatten = (ks.take k).flatten ++ ks.getD k []) := Lib.hid (by
            rw [List.take_succ_eq_append_getElem hlt, List.flatten_append]
            simp [List.getD, List.getElem?_eq_getElem hlt])
          generalize ks.getD k [] = x at *
          generalize (ks.take k).flatten = y at *
          have hcat : ¬ 9223372036854775807 < y.length + 1 + 1 + 1 + x.length := by omega
          go_wp2_with fail
          exact ⟨⟨k + 1, by omega, by go_num, by rw [HT.out]; simp⟩, by simp [intOf]; omega⟩
        · have hke : k = ks.length := by omega
          subst hke
          rw [List.take_length] at *
          have HFL : Hid (ks.flatten = (kidsF kid).flatten) := Lib.hid (by rw [HK.out])
          generalize ks.flatten = fl at *
          go_wp2_with fail
          refine (ctext_any val (by omega) _).mono ?_
          rintro e w4 ⟨rfl, hb6⟩
          have hcat : ¬ 9223372036854775807 < fl.length + 1 + 1 + 1 + (text val).length := by omega
          go_wp2_with fail
          all_goals (go_ret2; exact ⟨by rw [HFL.out]; simp, hb3.trans (hb6.mono hb3.size)⟩)

theorem encode_any (kind : Int) (path val : Bs) (kid : Nat → Bs) (hp : path.length ≤ 9223372036854775807) (w : World) :
    Calls Tryd.prog 16 #[.agg (nd kind path val kid).toArray] w fun e w' => e = .returned (.tuple #[.string ⟨List.toArray ((encR kind path val kid).1)⟩, .int .i64 ((encR kind path val kid).2)]) ∧ Below w.heap.size w w' := by
  cases hc : chk kind path val kid
  · rw [show encR kind path val kid = ([], 80) from by simp [encR, hc]]
    exact enc_bad kind path val kid hp hc w
  · rw [show encR kind path val kid = (enc kind path val kid, 0) from by simp [encR, hc]]
    by_cases k1 : kind = 1
    · subst k1; exact enc_leaf path val kid hp hc w
    · by_cases k2 : kind = 2
      · subst k2; exact enc_ext path val kid hp hc w
      · by_cases k3 : kind = 3
        · subst k3; exact enc_branch path val kid hp hc w
        · simp [chk, k1, k2, k3] at hc

end Go.Proofs.YtmldonbmjgelnaaDoor
