/- Walks of layer 8 with sums: a node's sum, the document's bytes and sum. -/
import Derived.Test.YtmldonbmjgelnaaDoorWritA
import Derived.Test.YtmldonbmjgelnaaDoorDig
import Derived.Test.YtmldonbmjgelnaaDoorTexts
set_option linter.unusedSimpArgs false
set_option linter.unusedVariables false
namespace Go.Proofs.YtmldonbmjgelnaaDoor
open Go.RowKit Pl

theorem enc_small (kind : Int) (path val : Bs) (kid : Nat → Bs) (h : chk kind path val kid = true) : (enc kind path val kid).length ≤ 1000 := by
  have hf : fineR kind path val kid = true := by rw [fine_chk]; exact h
  unfold fineR at hf
  split at hf
  · cases hf
  · rename_i ha
    have ha' : all32 (kidsF kid) = true := by simpa using ha
    split at hf
    · cases hf
    · rename_i hb
      simp only [not_or] at hb
      obtain ⟨_, hp, hv⟩ := hb
      have h1 := text_len val
      have h2 := text_len (pack path true).1
      have h3 := pack_len path true
      have h4 := text_len (pack path false).1
      have h5 := pack_len path false
      have h6 := flat_take kid ha' 16 (by omega)
      have h6' : (kidsF kid).flatten.length ≤ 512 := h6
      unfold enc
      by_cases k3 : kind = 3
      · rw [if_pos k3]; simp only [List.length_append, List.length_cons, List.length_nil]; omega
      · rw [if_neg k3]
        by_cases k1 : kind = 1
        · rw [if_pos k1]; simp only [List.length_append, List.length_cons]; omega
        · rw [if_neg k1]
          by_cases k2 : kind = 2
          · subst k2
            have h0 : (kid 0).length = 32 := by simp [chk, all32] at h; omega
            simp only [List.length_append, List.length_cons]; omega
          · rw [if_neg k1, if_neg k2, if_neg k3] at hf; cases hf
/-- A node's sum. -/
def dgP (kind : Int) (path val : Bs) (kid : Nat → Bs) : Bs := if chk kind path val kid then tagP 1 (enc kind path val kid) else []

set_option maxRecDepth 100000 in
set_option maxHeartbeats 1000000 in
theorem ndigest_any (kind : Int) (path val : Bs) (kid : Nat → Bs) (hp : path.length ≤ 1000) (w : World) (hk : KT w) :
    Calls Tryd.prog 18 #[.agg (nd kind path val kid).toArray] w fun e w' => e = .returned (.string ⟨List.toArray (dgP kind path val kid)⟩) ∧ Below w.heap.size w w' := by
  generalize hd : dgP kind path val kid = d
  have HD := Lib.hid hd
  clear hd
  have hB := Blk.new w (nd kind path val kid).toArray 24
  have hb0 : Below w.heap.size w (w.alloc (.cells (nd kind path val kid).toArray 24)) := Below.allocS (Below.refl _ _) _
  go_enter Tryd.func18, Tryd.ntmps18
  go_wp2_with (refine wpList_node rfl (.tmp 1) rfl rfl hB ?_)
  refine (encode_any kind path val kid (by omega) _).mono ?_
  rintro e w1 ⟨rfl, hb1⟩
  have hb2 := hb0.trans (hb1.mono (by simp))
  cases hc : chk kind path val kid
  · have HZ : Hid (d = []) := Lib.hid (by rw [← HD.out]; simp [dgP, hc])
    rw [show encR kind path val kid = ([], 80) from by simp [encR, hc]]
    go_wp2_with fail
    go_ret
    exact ⟨by rw [HZ.out]; rfl, hb2⟩
  · have hl := enc_small kind path val kid hc
    have HZ : Hid (d = tagP 1 (enc kind path val kid)) := Lib.hid (by rw [← HD.out]; simp [dgP, hc])
    rw [show encR kind path val kid = (enc kind path val kid, 0) from by simp [encR, hc]]
    generalize enc kind path val kid = en at *
    go_wp2_with fail
    refine (digsum_ok 1 (by omega) (by omega) en (by omega) _ (hk.keep hb2)).mono ?_
    rintro e w2 ⟨rfl, hb3⟩
    go_wp2_with fail
    go_ret
    exact ⟨by rw [HZ.out]; rfl, hb2.trans (hb3.mono hb2.size)⟩

set_option maxRecDepth 100000 in
set_option maxHeartbeats 1000000 in
theorem rcheck_any (kind : Int) (path val : Bs) (kid : Nat → Bs) (hp : path.length ≤ 1000) (w : World) :
    Calls Tryd.prog 21 #[.agg (nd kind path val kid).toArray] w fun e w' => e = .returned (.int .i64 (chkI (chk kind path val kid))) ∧ Below w.heap.size w w' := by
  generalize hd : chkI (chk kind path val kid) = d
  have HD := Lib.hid hd
  clear hd
  have hB := Blk.new w (nd kind path val kid).toArray 24
  have hb0 : Below w.heap.size w (w.alloc (.cells (nd kind path val kid).toArray 24)) := Below.allocS (Below.refl _ _) _
  go_enter Tryd.func21, Tryd.ntmps21
  go_wp2_with (refine wpList_node rfl (.tmp 1) rfl rfl hB ?_)
  refine (rfine_any kind path val kid (by omega) _).mono ?_
  rw [fine_chk]
  rintro e w1 ⟨rfl, hb1⟩
  have hb2 := hb0.trans (hb1.mono (by simp))
  cases hc : chk kind path val kid
  · have HZ : Hid (d = 80) := Lib.hid (by rw [← HD.out, hc]; rfl)
    go_wp2_with fail
    go_ret
    exact ⟨by rw [HZ.out]; rfl, hb2⟩
  · have HZ : Hid (d = 0) := Lib.hid (by rw [← HD.out, hc]; rfl)
    go_wp2_with fail
    go_ret
    exact ⟨by rw [HZ.out]; rfl, hb2⟩

set_option maxRecDepth 100000 in
set_option maxHeartbeats 1000000 in
theorem rencode_any (kind : Int) (path val : Bs) (kid : Nat → Bs) (hp : path.length ≤ 1000) (w : World) :
    Calls Tryd.prog 19 #[.agg (nd kind path val kid).toArray] w fun e w' => e = .returned (.tuple #[.string ⟨List.toArray ((encR kind path val kid).1)⟩, .int .i64 ((encR kind path val kid).2)]) ∧ Below w.heap.size w w' := by
  generalize hd : encR kind path val kid = d
  have HD := Lib.hid hd
  clear hd
  have hB := Blk.new w (nd kind path val kid).toArray 24
  have hb0 : Below w.heap.size w (w.alloc (.cells (nd kind path val kid).toArray 24)) := Below.allocS (Below.refl _ _) _
  go_enter Tryd.func19, Tryd.ntmps19
  go_wp2_with (refine wpList_node rfl (.tmp 1) rfl rfl hB ?_)
  refine (rfine_any kind path val kid (by omega) _).mono ?_
  rintro e w1 ⟨rfl, hb1⟩
  have hB1 := hB.keep hb1
  have hb2 := hb0.trans (hb1.mono (by simp))
  clear hB hb0 hb1
  cases hf : fineR kind path val kid
  · have HZ : Hid (d = ([], 80)) := Lib.hid (by rw [← HD.out]; rw [fine_chk] at hf; simp [encR, hf])
    go_wp2_with fail
    go_ret2
    exact ⟨by rw [HZ.out]; rfl, hb2⟩
  · have hw := writ_any kind path val kid hf
    have HZ : Hid (d = (enc kind path val kid, 0)) := Lib.hid (by rw [← HD.out]; rw [fine_chk] at hf; simp [encR, hf])
    have HW := Lib.hid hw
    clear hw
    go_wp2_with (refine wpList_node rfl (.tmp 1) rfl rfl hB1 ?_)
    refine (HW.out _).mono ?_
    rintro e w2 ⟨rfl, hb3⟩
    go_wp2_with fail
    go_ret2
    exact ⟨by rw [HZ.out]; rfl, hb2.trans (hb3.mono hb2.size)⟩

set_option maxRecDepth 100000 in
set_option maxHeartbeats 1000000 in
theorem rdigest_any (kind : Int) (path val : Bs) (kid : Nat → Bs) (hp : path.length ≤ 1000) (w : World) :
    Calls Tryd.prog 25 #[.agg (nd kind path val kid).toArray] w fun e w' => e = .returned (.string ⟨List.toArray (dgP kind path val kid)⟩) ∧ Below w.heap.size w w' := by
  generalize hd : dgP kind path val kid = d
  have HD := Lib.hid hd
  clear hd
  have hB := Blk.new w (nd kind path val kid).toArray 24
  have hb0 : Below w.heap.size w (w.alloc (.cells (nd kind path val kid).toArray 24)) := Below.allocS (Below.refl _ _) _
  go_enter Tryd.func25, Tryd.ntmps25
  go_wp2_with (refine wpList_node rfl (.tmp 1) rfl rfl hB ?_)
  refine (rfine_any kind path val kid (by omega) _).mono ?_
  rintro e w1 ⟨rfl, hb1⟩
  have hB1 := hB.keep hb1
  have hb2 := hb0.trans (hb1.mono (by simp))
  clear hB hb0 hb1
  cases hf : fineR kind path val kid
  · have HZ : Hid (d = []) := Lib.hid (by rw [← HD.out]; rw [fine_chk] at hf; simp [dgP, hf])
    go_wp2_with fail
    go_ret
    exact ⟨by rw [HZ.out]; rfl, hb2⟩
  · have hw := writ_any kind path val kid hf
    have hl := enc_small kind path val kid (by rw [← fine_chk]; exact hf)
    have HZ : Hid (d = tagP 1 (enc kind path val kid)) := Lib.hid (by rw [← HD.out]; rw [fine_chk] at hf; simp [dgP, hf])
    have HW := Lib.hid hw
    clear hw
    generalize enc kind path val kid = en at *
    go_wp2_with (refine wpList_node rfl (.tmp 1) rfl rfl hB1 ?_)
    refine (HW.out _).mono ?_
    rintro e w2 ⟨rfl, hb3⟩
    go_wp2_with fail
    refine (tagged_any 1 (by omega) en (by omega) _).mono ?_
    rintro e w3 ⟨rfl, hb4⟩
    go_wp2_with fail
    go_ret
    exact ⟨by rw [HZ.out]; rfl, (hb2.trans (hb3.mono hb2.size)).trans (hb4.mono (by have := hb2.size; have := hb3.size; omega))⟩

end Go.Proofs.YtmldonbmjgelnaaDoor
