/- Walks of layer 2: numbers and texts as bytes. -/
import Derived.Test.YtmldonbmjgelnaaDoorRows
import Derived.Test.YtmldonbmjgelnaaDoorKit
import Derived.Test.YtmldonbmjgelnaaDoorPlain
set_option linter.unusedSimpArgs false
set_option linter.unusedVariables false
namespace Go.Proofs.YtmldonbmjgelnaaDoor
open Go.RowKit Pl

/-- The eight cells: zeros, and the bytes so far. -/
def numCells (k : Nat) (d : Bs) : Array Value := ((List.replicate k 0 ++ d).map fun c : UInt8 => Value.int .u8 (c.toNat : Int)).toArray

theorem numCells_get (k : Nat) (d : Bs) (hk : 0 < k) : (numCells k d)[k - 1]? = some (.int .u8 0) := by
  have : ((List.replicate k (0 : UInt8) ++ d).map fun c : UInt8 => Value.int .u8 (c.toNat : Int))[k - 1]? = some (.int .u8 0) := by
    rw [List.getElem?_map, List.getElem?_append_left (by simp; omega), List.getElem?_replicate, if_pos (by omega)]
    rfl
  simpa [numCells] using this
theorem numCells_set (k : Nat) (d : Bs) (hk : 0 < k) (c : UInt8) : (numCells k d).setIfInBounds (k - 1) (.int .u8 (c.toNat : Int)) = numCells (k - 1) (c :: d) := by
  obtain ⟨j, rfl⟩ : ∃ j, k = j + 1 := ⟨k - 1, by omega⟩
  unfold numCells
  apply Array.ext'
  simp only [Array.toList_setIfInBounds, Nat.add_sub_cancel]
  rw [List.replicate_succ', List.append_assoc, List.map_append, List.map_append]
  rw [List.set_append_right _ _ (by simp)]
  simp
theorem numCells_tail (k : Nat) (d : Bs) (i : Nat) (hi : i < d.length) : (numCells k d)[k + i]? = some (.int .u8 ((d.getD i 0).toNat : Int)) := by
  have : ((List.replicate k (0 : UInt8) ++ d).map fun c : UInt8 => Value.int .u8 (c.toNat : Int))[k + i]? = some (.int .u8 ((d.getD i 0).toNat : Int)) := by
    rw [List.getElem?_map, List.getElem?_append_right (by simp)]
    simp [List.getD, List.getElem?_eq_getElem hi]
  simpa [numCells] using this

set_option maxRecDepth 100000 in
set_option maxHeartbeats 1000000 in
theorem cnum_any (n : Nat) (hn : n < 9223372036854775808) (w : World) :
    Calls Tryd.prog 97 #[.int .i64 (n)] w fun e w' => e = .returned (.string ⟨List.toArray (num n)⟩) ∧ Below w.heap.size w w' := by
  go_enter Tryd.func97, Tryd.ntmps97
  go_wp2_with fail
  go_loopw [0, 4] (fun s0 s4 wr => ∃ (k m : Nat) (d : Bs), k ≤ 8 ∧ d.length + k = 8 ∧ m < 256 ^ k ∧ m < 9223372036854775808 ∧ Hid (digs 8 n = digs k m ++ d) ∧ s0 = .int .i64 m ∧ s4 = .int .i64 k ∧ Blk wr w.heap.size (numCells k d) ∧ Below w.heap.size w wr)
    (fun _ s4 _ => (intOf s4).toNat)
  case atStart =>
    exact ⟨8, n, [], by omega, rfl, by omega, hn, Lib.hid (by simp), rfl, rfl, Blk.new _ _ _, (Below.refl _ _).alloc (Nat.le_refl _) _⟩
  case round =>
    obtain ⟨k, m, d, hk, hd, hm, hm2, HD, rfl, rfl, B, hb⟩ := hrel
    obtain ⟨b1, b2, b3⟩ := id B
    by_cases h0 : 0 < m
    · have hk0 : 0 < k := by
        rcases Nat.eq_zero_or_pos k with h | h
        · subst h; omega
        · exact h
      have hget := numCells_get k d hk0
      go_wp2_with fail
      obtain ⟨j, rfl⟩ : ∃ j, k = j + 1 := ⟨k - 1, by omega⟩
      refine ⟨⟨j, m / 256, UInt8.ofNat (m % 256) :: d, by omega, by simp at hd ⊢; omega, by rw [Nat.pow_succ] at hm; omega, by omega, ?_, by go_num, by simp, ?_, hb.setCell (Nat.le_refl _) _⟩, by simp [intOf] <;> omega⟩
      · refine Lib.hid ?_
        rw [HD.out, digs_step _ _ h0, List.append_assoc]; rfl
      · have hB := B.set j (.int .u8 ((UInt8.ofNat (m % 256)).toNat : Int))
        have hc := numCells_set (j + 1) d (by omega) (UInt8.ofNat (m % 256))
        simp only [Nat.add_sub_cancel] at hc
        rw [hc] at hB
        have hv : ((UInt8.ofNat (m % 256)).toNat : Int) = (m : Int) % 256 := by simp
        rw [hv] at hB
        exact hB
    · have hm0 : m = 0 := by omega
      subst hm0
      have hfin : num n = UInt8.ofNat d.length :: d := by
        unfold num
        rw [HD.out, digs_zero, List.nil_append]
      have HF := Lib.hid hfin
      clear hfin
      have hconv : ∀ W : World, (∀ o, W.cell? ⟨w.heap.size, o, none⟩ = (numCells k d)[o]?) → (convert 71 9 (.slice (some ⟨w.heap.size, k, none⟩) (8 - k) (8 - k))).run Tryd.prog W = .ok (.string ⟨List.toArray (d)⟩) W := fun W hW =>
        conv_str _ 5 _ Tryd.underlying71 Tryd.underlying5 Tryd.underlying9 _ _ _ _ d (by omega) (fun i hi => by rw [hW]; exact numCells_tail k d i (by omega))
      have hk8 : (k : Int) ≤ 8 := by omega
      have hcat : ¬ 9223372036854775807 < 1 + d.length := by omega
      have hu8 : UInt8.ofNat (8 - k) = UInt8.ofNat d.length := by congr 1; omega
      by_cases h8 : k = 8
      · subst h8
        have hd0 : d = [] := List.length_eq_zero_iff.1 (by omega)
        subst hd0
        clear hconv
        go_wp2_with fail
        go_region
        all_goals go_wp2_with fail
        all_goals go_ret
        all_goals exact ⟨by rw [HF.out]; rfl, by (repeat (first | exact Below.refl _ _ | assumption | apply Below.drew | apply below_drewN | apply Below.allocS | (refine Below.setCell ?_ (by simp <;> omega) _) | (refine Below.alloc ?_ (by simp <;> omega) _) | (refine Below.trans ?_ (Below.mono (by assumption) (by simp <;> omega)))))⟩
      · have h8n : ¬ 8 = k := by omega
        go_wp2_with fail
        go_region
        all_goals go_wp2_with fail
        all_goals go_ret
        all_goals exact ⟨by rw [HF.out]; rfl, by (repeat (first | exact Below.refl _ _ | assumption | apply Below.drew | apply below_drewN | apply Below.allocS | (refine Below.setCell ?_ (by simp <;> omega) _) | (refine Below.alloc ?_ (by simp <;> omega) _) | (refine Below.trans ?_ (Below.mono (by assumption) (by simp <;> omega)))))⟩

theorem num_len (n : Nat) : (num n).length ≤ 9 := by
  have : ∀ f m, (digs f m).length ≤ f := by
    intro f
    induction f with
    | zero => intro m; simp [digs]
    | succ f ih =>
      intro m
      unfold digs
      split
      · simp
      · have := ih (m / 256); simp; omega
  have := this 8 n
  simp [num]; omega

theorem ctext_any (s : Bs) (hs : s.length < 9223372036854775000) (w : World) :
    Calls Tryd.prog 62 #[.string ⟨List.toArray (s)⟩] w fun e w' => e = .returned (.string ⟨List.toArray (text s)⟩) ∧ Below w.heap.size w w' := by
  have hl := num_len s.length
  have hcat : ¬ 9223372036854775807 < (num s.length).length + s.length := by omega
  go_enter Tryd.func62, Tryd.ntmps62
  go_wp2_with fail
  refine (cnum_any s.length (by omega) _).mono ?_
  rintro e w1 ⟨rfl, hb⟩
  go_wp2_with fail
  go_ret
  exact ⟨rfl, hb⟩

theorem cNum_any (n : Nat) (hn : n < 9223372036854775808) (w : World) :
    Calls Tryd.prog 70 #[.int .i64 (n)] w fun e w' => e = .returned (.tuple #[.string ⟨List.toArray (num n)⟩, .int .i64 (0)]) ∧ Below w.heap.size w w' := by
  go_enter Tryd.func70, Tryd.ntmps70
  go_wp2_with fail
  refine (cnum_any n hn _).mono ?_
  rintro e w1 ⟨rfl, hb⟩
  go_wp2_with fail
  go_ret2
  exact ⟨rfl, hb⟩

end Go.Proofs.YtmldonbmjgelnaaDoor
