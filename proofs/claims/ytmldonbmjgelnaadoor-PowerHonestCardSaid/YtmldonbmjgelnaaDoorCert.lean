/- Certificates: may one be (both), as bytes (both). -/
import Derived.Test.YtmldonbmjgelnaaDoorRefL
import Derived.Test.YtmldonbmjgelnaaDoorMRef
set_option linter.unusedSimpArgs false
set_option linter.unusedVariables false
namespace Go.Proofs.YtmldonbmjgelnaaDoor
open Go.RowKit Pl

namespace Pl
/-- May the signers be, behind one of this name? -/
def okS : Bs → List Bs → Bool
  | _, [] => true
  | z, n :: r => !(leS n z || decide ((6 : Int) < (n.length : Int))) && okS n r
def mayC (d : Bs) (l : List Bs) : Bool := decide (d.length = 32) && decide (l.length ≤ 7) && okS [] l
/-- The one ahead. -/
def lastS (l : List Bs) : Nat → Bs
  | 0 => []
  | i + 1 => l.getD i []
theorem dropS (l : List Bs) (i : Nat) (hi : i < l.length) : l.drop i = l.getD i [] :: l.drop (i + 1) := by
  rw [List.drop_eq_getElem_cons hi, List.getD_eq_getElem?_getD, List.getElem?_eq_getElem hi]
  rfl
end Pl

/-- v reads as the certificate of this digest and these signers. -/
def CV (w : World) (v : Value) (d : Bs) (l : List Bs) : Prop := ∃ u, v = .agg #[.string ⟨List.toArray (d)⟩, u] ∧ SS w u l
theorem CV.keep {W w : World} {v : Value} {d : Bs} {l : List Bs} (h : CV W v d l) (hb : Below W.heap.size W w) : CV w v d l := by
  obtain ⟨u, h1, h2⟩ := h
  exact ⟨u, h1, h2.keep hb⟩

set_option maxRecDepth 100000 in
set_option maxHeartbeats 400000 in
theorem cmay_any (v : Value) (d : Bs) (l : List Bs) (w : World) (hv : CV w v d l) :
    Calls Tryd.prog 83 #[v] w fun e w' => e = .returned (.bool (mayC d l)) ∧ Below w.heap.size w w' := by
  generalize hr : mayC d l = r
  have HR := Lib.hid hr
  clear hr
  obtain ⟨u, rfl, hu⟩ := hv
  obtain ⟨a, c, rfl⟩ := hu.form
  have hm := hu.small
  have HV := Lib.hid hu
  clear hu
  by_cases hd : d.length = 32
  · have hd1 : ((d.length : Int) != 32) = false := by simp; omega
    by_cases h7 : 7 < l.length
    · have hd2 : decide ((7 : Int) < (l.length : Int)) = true := by simp; omega
      have HD := Lib.hid hd
      clear hd
      go_enter Tryd.func83, Tryd.ntmps83
      go_wp2_with fail
      all_goals (go_ret; refine ⟨?_, Below.allocS (Below.refl _ _) _⟩; rw [← HR.out]; have : ¬ l.length ≤ 7 := (by omega); simp [mayC, this])
    · have hd2 : decide ((7 : Int) < (l.length : Int)) = false := by simp; omega
      have HR2 : Hid (okS [] l = r) := Lib.hid (by rw [← HR.out]; have : l.length ≤ 7 := (by omega); simp [mayC, this, hd])
      have HD := Lib.hid hd
      clear hd HR
      go_enter Tryd.func83, Tryd.ntmps83
      go_wp2_with fail
      go_loopw [3, 19] (fun s3 s19 wr => ∃ i : Nat, i ≤ l.length ∧ s19 = .int .i64 i ∧ s3 = .string ⟨List.toArray (lastS l i)⟩ ∧ Hid (okS (lastS l i) (l.drop i) = r) ∧ Below w.heap.size w wr) (fun _ s19 _ => l.length - (intOf s19).toNat)
      case atStart => exact ⟨0, by omega, rfl, rfl, HR2, Below.allocS (Below.refl _ _) _⟩
      case round =>
        obtain ⟨i, hi, rfl, rfl, HI, hb⟩ := hrel
        obtain ⟨wq, h⟩ := Below.nm hb
        subst h
        by_cases hlt : i < l.length
        · obtain ⟨g, off, rfl, c1⟩ := (HV.out.keep hb).at i hlt
          have hi2 := HI.out
          rw [dropS l i hlt] at hi2
          have hnx : lastS l (i + 1) = l.getD i [] := rfl
          generalize hx : l.getD i [] = x at *
          unfold okS at hi2
          generalize lastS l i = z at *
          cases hle : leS x z
          · by_cases h6 : (6 : Int) < (x.length : Int)
            · have HI2 : Hid (false = r) := Lib.hid (by rw [← hi2, hle]; simp [h6])
              clear HI hi2
              go_wp2_with fail
              all_goals (go_ret; refine ⟨?_, hb⟩; rw [← HI2.out]; rfl)
            · have HI2 : Hid (okS x (l.drop (i + 1)) = r) := Lib.hid (by rw [← hi2, hle]; simp [h6])
              clear HI hi2
              go_wp2_with fail
              exact ⟨⟨i + 1, by omega, by go_num, by rw [hnx], by rw [hnx]; exact HI2, hb⟩, by simp [intOf]; omega⟩
          · have HI2 : Hid (false = r) := Lib.hid (by rw [← hi2, hle]; simp)
            clear HI hi2
            go_wp2_with fail
            all_goals (go_ret; refine ⟨?_, hb⟩; rw [← HI2.out]; rfl)
        · obtain rfl : i = l.length := by omega
          go_wp2_with fail
          all_goals (go_ret; refine ⟨?_, hb⟩; rw [← HI.out]; simp [okS])
  · have hd1 : ((d.length : Int) != 32) = true := by simp; omega
    have HD := Lib.hid hd
    clear hd
    go_enter Tryd.func83, Tryd.ntmps83
    go_wp2_with fail
    all_goals (go_ret; refine ⟨?_, Below.allocS (Below.refl _ _) _⟩; rw [← HR.out]; simp [mayC, HD.out])


set_option maxRecDepth 100000 in
set_option maxHeartbeats 600000 in
theorem rmay_any (v : Value) (d : Bs) (l : List Bs) (w : World) (hv : CV w v d l) :
    Calls Tryd.prog 85 #[v] w fun e w' => e = .returned (.bool (mayC d l)) ∧ Below w.heap.size w w' := by
  generalize hr : mayC d l = r
  have HR := Lib.hid hr
  clear hr
  obtain ⟨u, rfl, hu⟩ := hv
  obtain ⟨a, c, rfl⟩ := hu.form
  have hm := hu.small
  have HV := Lib.hid hu
  clear hu
  by_cases hd : d.length = 32
  · have hd1 : ((d.length : Int) != 32) = false := by simp; omega
    by_cases h7 : 7 < l.length
    · have hd2 : decide ((7 : Int) < (l.length : Int)) = true := by simp; omega
      have HD := Lib.hid hd
      clear hd
      go_enter Tryd.func85, Tryd.ntmps85
      go_wp2_with fail
      all_goals (go_ret; refine ⟨?_, Below.allocS (Below.refl _ _) _⟩; rw [← HR.out]; have : ¬ l.length ≤ 7 := (by omega); simp [mayC, this])
    · have hd2 : decide ((7 : Int) < (l.length : Int)) = false := by simp; omega
      have HR2 : Hid (okS [] l = r) := Lib.hid (by rw [← HR.out]; have : l.length ≤ 7 := (by omega); simp [mayC, this, hd])
      have HD := Lib.hid hd
      clear hd HR
      go_enter Tryd.func85, Tryd.ntmps85
      go_wp2_with fail
      go_loopw [3] (fun s3 wr => ∃ i : Nat, i ≤ l.length ∧ s3 = .int .i64 i ∧ Hid (okS (lastS l i) (l.drop i) = r) ∧ Blk wr w.heap.size #[.string ⟨List.toArray (d)⟩, .slice a l.length c] ∧ Below w.heap.size w wr) (fun s3 _ => l.length - (intOf s3).toNat)
      case atStart => exact ⟨0, by omega, rfl, HR2, Blk.new _ _ _, Below.allocS (Below.refl _ _) _⟩
      case round =>
        obtain ⟨i, hi, rfl, HI, B, hb⟩ := hrel
        obtain ⟨wq, h⟩ := Below.nm hb
        subst h
        obtain ⟨b1, b2, b3⟩ := id B
        by_cases hlt : i < l.length
        · have hlt' : (i : Int) < (l.length : Int) := by omega
          have V := HV.out.keep hb
          obtain ⟨g, off, rfl, c1⟩ := V.at i hlt
          have hi2 := HI.out
          rw [dropS l i hlt] at hi2
          have hnx : lastS l (i + 1) = l.getD i [] := rfl
          generalize hx : l.getD i [] = x at *
          unfold okS at hi2
          by_cases hne : x = []
          · subst hne
            rw [leS_nil] at hi2
            have HI2 : Hid (false = r) := Lib.hid (by rw [← hi2]; simp)
            clear HI hi2 HR2 V
            go_wp2_with fail
            go_quiet (fail)
            go_wp2_with fail
            all_goals (go_ret; refine ⟨?_, below_drewN hb _⟩; rw [← HI2.out]; rfl)
          · have hn1 : 0 < x.length := List.length_pos_iff.2 hne
            have hn2 : decide ((x.length : Int) < 1) = false := by simp; omega
            have hn3 : ¬ ((x.length : Int) < 1) := by omega
            by_cases h6 : (6 : Int) < (x.length : Int)
            · have HI2 : Hid (false = r) := Lib.hid (by rw [← hi2]; simp [h6])
              clear HI hi2 HR2 V
              go_wp2_with fail
              go_quiet (fail)
              go_wp2_with fail
              all_goals (go_ret; refine ⟨?_, below_drewN hb _⟩; rw [← HI2.out]; rfl)
            · have h6d : decide ((6 : Int) < (x.length : Int)) = false := by simpa using h6
              by_cases hi0 : i = 0
              · subst hi0
                have hz : lastS l 0 = [] := rfl
                rw [hz, leS_zero x hne] at hi2
                have HI2 : Hid (okS x (l.drop 1) = r) := Lib.hid (by rw [← hi2]; simp [h6])
                clear HI hi2 HR2 hz V
                rw [Nat.add_zero] at c1
                go_wp2_with fail
                go_quiet (fail)
                go_wp2_with fail
                exact ⟨⟨1, by omega, by go_num, by rw [hnx]; exact HI2, B.drewN _, below_drewN hb _⟩, by simp [intOf]; omega⟩
              · obtain ⟨j, hj⟩ : ∃ j, i = j + 1 := ⟨i - 1, by omega⟩
                obtain ⟨g', off', hgo, c3⟩ := V.at j (by omega)
                injection hgo with hgo
                injection hgo with hgo1 hgo2
                subst hgo1 hgo2
                have hz : lastS l i = l.getD j [] := by rw [hj]; rfl
                rw [← hz] at c3
                have q1 : IntKind.i64.wrap ((i : Int) - 1) = (j : Int) := by rw [show (i : Int) - 1 = (j : Int) from by omega]; exact IntWalk.i64_in _ (by omega)
                have q2 : (j : Int) < (l.length : Int) := by omega
                have q3 : decide ((0 : Int) < (i : Int)) = true := by rw [decide_eq_true_iff]; omega
                have q4 : (0 : Int) < (i : Int) := by omega
                have q5 : 0 < i := by omega
                have q6 : ¬ i = 0 := hi0
                generalize lastS l i = z at *
                clear HI HR2 hj hz V
                cases hle : leS x z
                · rw [hle] at hi2
                  have HI2 : Hid (okS x (l.drop (i + 1)) = r) := Lib.hid (by rw [← hi2]; simp [h6])
                  clear hi2
                  go_wp2_with fail
                  go_quiet (fail)
                  go_wp2_with fail
                  exact ⟨⟨i + 1, by omega, by go_num, by rw [hnx]; exact HI2, B.drewN _, below_drewN hb _⟩, by simp [intOf]; omega⟩
                · rw [hle] at hi2
                  have HI2 : Hid (false = r) := Lib.hid (by rw [← hi2]; simp)
                  clear hi2
                  go_wp2_with fail
                  go_quiet (fail)
                  go_wp2_with fail
                  all_goals (go_ret; refine ⟨?_, below_drewN hb _⟩; rw [← HI2.out]; rfl)
        · obtain rfl : i = l.length := by omega
          have hlt' : ¬ (l.length : Int) < (l.length : Int) := by omega
          go_wp2_with fail
          all_goals (go_ret; refine ⟨?_, hb⟩; rw [← HI.out]; simp [okS])
  · have hd1 : ((d.length : Int) != 32) = true := by simp; omega
    have HD := Lib.hid hd
    clear hd
    go_enter Tryd.func85, Tryd.ntmps85
    go_wp2_with fail
    all_goals (go_ret; refine ⟨?_, Below.allocS (Below.refl _ _) _⟩; rw [← HR.out]; simp [mayC, HD.out])
end Go.Proofs.YtmldonbmjgelnaaDoor
