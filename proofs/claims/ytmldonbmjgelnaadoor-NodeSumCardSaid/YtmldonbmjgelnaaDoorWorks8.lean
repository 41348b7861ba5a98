/- Walks of the statements of layer 8: their parts. -/
import Derived.Test.YtmldonbmjgelnaaDoorDecode
set_option linter.unusedSimpArgs false
set_option linter.unusedVariables false
namespace Go.Proofs.YtmldonbmjgelnaaDoor
open Go.RowKit Pl

/-- Too long to be looked at? -/
def bigK (kid : Nat → Bs) : Bool := (List.range 16).any fun i => decide (100 < (kid i).length)
def bigB (path val : Bs) (kid : Nat → Bs) : Bool := bigK kid || decide (100 < path.length) || decide (100 < val.length)
theorem bigK_no {kid : Nat → Bs} (h : ∀ i, i < 16 → (kid i).length ≤ 100) : bigK kid = false := by
  unfold bigK
  rw [Bool.eq_false_iff]
  intro e
  obtain ⟨i, hi, h2⟩ := List.any_eq_true.1 e
  have := h i (by simpa using hi)
  simp at h2
  omega
theorem bigK_yes {kid : Nat → Bs} {k : Nat} (hk : k < 16) (h : ¬ (kid k).length ≤ 100) : bigK kid = true := by
  unfold bigK
  exact List.any_eq_true.2 ⟨k, by simpa using hk, by simp; omega⟩
theorem big_no {path val : Bs} {kid : Nat → Bs} (h : bigB path val kid = false) : path.length ≤ 100 ∧ val.length ≤ 100 := by
  simp [bigB] at h
  omega

set_option maxRecDepth 100000 in
set_option maxHeartbeats 1000000 in
theorem big_any (kind : Int) (path val : Bs) (kid : Nat → Bs) (w : World) :
    Calls Tryd.prog 14 #[.agg (nd kind path val kid).toArray] w fun e w' => e = .returned (.bool (bigB path val kid)) ∧ Below w.heap.size w w' := by
  have hB := Blk.new w (nd kind path val kid).toArray 24
  have hb : Below w.heap.size w (w.alloc (.cells (nd kind path val kid).toArray 24)) := Below.allocS (Below.refl _ _) _
  generalize hr : bigB path val kid = r
  have HR := Lib.hid hr
  clear hr
  have hf := hB.froz
  have hc1 := hB.cell 1
  have hc2 := hB.cell 2
  rw [nd1] at hc1
  rw [nd2] at hc2
  have HB := Lib.hid hB
  clear hB
  go_enter Tryd.func14, Tryd.ntmps14
  go_wp2_with fail
  go_loop [3] (fun s3 => ∃ k : Nat, k ≤ 16 ∧ s3 = .int .i64 k ∧ Hid (∀ i, i < k → (kid i).length ≤ 100)) (fun s3 => 16 - (intOf s3).toNat)
  case atStart => exact ⟨0, by omega, rfl, Lib.hid (fun i hi => by omega)⟩
  case round =>
    obtain ⟨k, hk, rfl, HK⟩ := hrel
    by_cases hlt : k < 16
    · have hlt' : (k : Int) < 16 := by omega
      have hck := HB.out.cell (3 + k)
      rw [show (nd kind path val kid).toArray[3 + k]? = some (.string ⟨List.toArray (kid k)⟩) from by simpa using nd_at kind path val kid k hlt] at hck
      by_cases hl : (kid k).length ≤ 100
      · have HN : Hid (∀ i, i < k + 1 → (kid i).length ≤ 100) := Lib.hid (fun i hi => by
          rcases Nat.lt_or_ge i k with h | h
          · exact HK.out i h
          · rw [show i = k from by omega]; exact hl)
        generalize kid k = x at *
        have hd : decide ((100 : Int) < (x.length : Int)) = false := by simp; omega
        go_wp2_with fail
        exact ⟨⟨k + 1, by omega, by go_num, HN⟩, by simp [intOf]; omega⟩
      · have HN : Hid (r = true) := Lib.hid (by
          rw [← HR.out, bigB]
          rw [bigK_yes hlt hl]; rfl)
        generalize kid k = x at *
        have hd : decide ((100 : Int) < (x.length : Int)) = true := by simp; omega
        go_wp2_with fail
        go_ret
        exact ⟨by rw [HN.out]; rfl, hb⟩
    · have HN : Hid (r = (decide (100 < path.length) || decide (100 < val.length))) := Lib.hid (by
        rw [← HR.out, bigB]
        rw [bigK_no (fun i hi => HK.out i (by omega)), Bool.false_or])
      by_cases h1 : 100 < path.length
      · have hd : decide ((100 : Int) < (path.length : Int)) = true := by simp; omega
        go_wp2_with fail
        go_ret
        exact ⟨by rw [HN.out]; simp [h1], hb⟩
      · have hd : decide ((100 : Int) < (path.length : Int)) = false := by simp; omega
        by_cases h2 : 100 < val.length
        · have hd2 : decide ((100 : Int) < (val.length : Int)) = true := by simp; omega
          go_wp2_with fail
          go_ret
          exact ⟨by rw [HN.out]; simp [h1, h2], hb⟩
        · have hd2 : decide ((100 : Int) < (val.length : Int)) = false := by simp; omega
          go_wp2_with fail
          go_ret
          exact ⟨by rw [HN.out]; simp [h1, h2], hb⟩

theorem lit_node (kind : Int) (path val : Bs) : (nd kind path val noK).toArray = #[.int .i64 (kind), .string ⟨List.toArray (path)⟩, .string ⟨List.toArray (val)⟩, .string ⟨List.toArray ([])⟩, .string ⟨List.toArray ([])⟩, .string ⟨List.toArray ([])⟩, .string ⟨List.toArray ([])⟩, .string ⟨List.toArray ([])⟩, .string ⟨List.toArray ([])⟩, .string ⟨List.toArray ([])⟩, .string ⟨List.toArray ([])⟩, .string ⟨List.toArray ([])⟩, .string ⟨List.toArray ([])⟩, .string ⟨List.toArray ([])⟩, .string ⟨List.toArray ([])⟩, .string ⟨List.toArray ([])⟩, .string ⟨List.toArray ([])⟩, .string ⟨List.toArray ([])⟩, .string ⟨List.toArray ([])⟩] := rfl
theorem enc_ex : encR 1 [4, 1] [118] noK = ([1, 1, 2, 32, 65, 1, 1, 118], 0) := by decide +kernel
theorem dec_ex : dec [1, 1, 2, 32, 65, 1, 1, 118] = (⟨1, [4, 1], [118], noK⟩, 0) := by kernel_rfl
theorem chk_ex : chk 3 [] [118] noK = false := by decide +kernel

set_option maxRecDepth 100000 in
set_option maxHeartbeats 1000000 in
theorem works8_any (w : World) :
    Calls Tryd.prog 13 #[] w fun e w' => e = .returned (.bool true) ∧ Below w.heap.size w w' := by
  go_enter Tryd.func13, Tryd.ntmps13
  go_wp2_with fail
  refine (encode_any 1 [4, 1] [118] noK (by decide) _).mono ?_
  rw [enc_ex]
  rintro e w1 ⟨rfl, hb1⟩
  go_wp2_with fail
  refine (decode_any [1, 1, 2, 32, 65, 1, 1, 118] (by decide) _).mono ?_
  rw [dec_ex]
  rintro e w2 ⟨rfl, hb2⟩
  have hN := Blk.new w2 (nd 0 [] [] noK).toArray 24
  have hb3 := Below.allocS (hb1.trans (hb2.mono hb1.size)) (.cells (nd 0 [] [] noK).toArray 24)
  rw [zero_node] at hN hb3
  rw [← zero_node] at hN
  go_wp2_with (refine wpList_nodeStore rfl rfl (.tmp 3) (.tmp 13) rfl rfl (kind := 1) (path := [4, 1]) (val := [118]) (kid := noK) rfl hN ?_; intro w3 N3 m3; obtain ⟨b1, b2, b3⟩ := id N3)
  refine (check_any 3 [] [118] noK (by decide) _).mono ?_
  rw [chk_ex]
  rintro e w4 ⟨rfl, hb4⟩
  go_wp2_with (simp [chkI])
  go_ret
  exact ⟨rfl, (Below.mod hb3 m3 (by have := (hb1.trans (hb2.mono hb1.size)).size; simp; omega) (by have := (hb1.trans (hb2.mono hb1.size)).size; simp; omega)).trans (hb4.mono (by have := m3.size; have := (hb1.trans (hb2.mono hb1.size)).size; simp at *; omega))⟩

end Go.Proofs.YtmldonbmjgelnaaDoor
