/- Sets of validators: lists of members that are read; may a set be? -/
import Derived.Test.YtmldonbmjgelnaaDoorTexts
set_option linter.unusedSimpArgs false
set_option linter.unusedVariables false
namespace Go.Proofs.YtmldonbmjgelnaaDoor
open Go.RowKit Pl

theorem Below.nm {B : Nat} {a w : World} (_ : Below B a w) : ∃ w' : World, w' = w := ⟨w, rfl⟩
/-- The order of texts. -/
def leS (a b : Bs) : Bool := Op.bytesLess a b || a == b
@[go_sem high] theorem leq_S (t : TypeId) (a b : Bs) : binOp .leq t (.string ⟨List.toArray (a)⟩) (.string ⟨List.toArray (b)⟩) = pure (.bool (leS a b)) := by
  rw [binOp_string_leq]
  unfold leS
  rw [Lib.toList_data, Lib.toList_data]

/-- The cells of a list of members. -/
def MSrc (w : World) (g o : Nat) (l : List (Bs × Int)) : Prop := ∀ i, i < l.length → w.cell? ⟨g, o + i * 2, none⟩ = some (.string ⟨List.toArray ((l.getD i ([], 0)).1)⟩) ∧ w.cell? ⟨g, o + i * 2 + 1, none⟩ = some (.int .i64 ((l.getD i ([], 0)).2))
/-- v reads as these members. -/
def MS (w : World) (v : Value) (l : List (Bs × Int)) : Prop :=
  ∃ a cap, v = .slice a l.length cap ∧ l.length ≤ cap ∧ cap ≤ maxLen ∧ (l ≠ [] → ∃ g off, a = some ⟨g, off, none⟩ ∧ g < w.heap.size ∧ MSrc w g off l)
theorem MS.keep {W w : World} {v : Value} {l : List (Bs × Int)} (h : MS W v l) (hb : Below W.heap.size W w) : MS w v l := by
  obtain ⟨a, cap, h1, h2, h3, h4⟩ := h
  refine ⟨a, cap, h1, h2, h3, fun hl => ?_⟩
  obtain ⟨g, off, e, hg, hc⟩ := h4 hl
  exact ⟨g, off, e, Nat.lt_of_lt_of_le hg hb.size, fun i hi => ⟨(hb.cell (p := ⟨g, off + i * 2, none⟩) hg).trans (hc i hi).1, (hb.cell (p := ⟨g, off + i * 2 + 1, none⟩) hg).trans (hc i hi).2⟩⟩
theorem MS.form {w : World} {v : Value} {l : List (Bs × Int)} (h : MS w v l) : ∃ a c, v = .slice a l.length c := by
  obtain ⟨a, cap, h1, _⟩ := h
  exact ⟨a, cap, h1⟩
theorem MS.small {w : World} {v : Value} {l : List (Bs × Int)} (h : MS w v l) : l.length ≤ 9223372036854775807 := by
  obtain ⟨a, cap, h1, h2, h3, _⟩ := h
  unfold maxLen at h3; omega
theorem MS.at {w : World} {a : Option Addr} {c : Nat} {l : List (Bs × Int)} (h : MS w (.slice a l.length c) l) (i : Nat) (hi : i < l.length) :
    ∃ g off, a = some ⟨g, off, none⟩ ∧ g < w.heap.size ∧ w.cell? ⟨g, off + i * 2, none⟩ = some (.string ⟨List.toArray ((l.getD i ([], 0)).1)⟩) ∧ w.cell? ⟨g, off + i * 2 + 1, none⟩ = some (.int .i64 ((l.getD i ([], 0)).2)) := by
  obtain ⟨a', cap, h1, _, _, h5⟩ := h
  injection h1 with h1 _ _
  obtain ⟨g, off, e, hg, hc⟩ := h5 (by intro e; rw [e] at hi; simp at hi)
  exact ⟨g, off, h1.trans e, hg, (hc i hi).1, (hc i hi).2⟩

namespace Pl
/-- May the members be, behind one of this name? -/
def okM : Bs → List (Bs × Int) → Bool
  | _, [] => true
  | z, (n, p) :: r => !(decide ((6 : Int) < (n.length : Int)) || leS n z || decide (p < 1) || decide (1000 < p)) && okM n r
def chkM (l : List (Bs × Int)) : Bool := decide (l.length ≠ 0) && decide (l.length ≤ 7) && okM [] l
def setI (b : Bool) : Int := if b then 0 else 50
/-- The name of the one ahead. -/
def lastN (l : List (Bs × Int)) : Nat → Bs
  | 0 => []
  | i + 1 => (l.getD i ([], 0)).1
theorem drop_getD (l : List (Bs × Int)) (i : Nat) (hi : i < l.length) : l.drop i = l.getD i ([], 0) :: l.drop (i + 1) := by
  rw [List.drop_eq_getElem_cons hi, List.getD_eq_getElem?_getD, List.getElem?_eq_getElem hi]
  rfl
end Pl

set_option maxRecDepth 100000 in
set_option maxHeartbeats 2000000 in
theorem mcheck_any (v : Value) (l : List (Bs × Int)) (w : World) (hv : MS w v l) :
    Calls Tryd.prog 36 #[v] w fun e w' => e = .returned (.int .i64 (setI (chkM l))) ∧ Below w.heap.size w w' := by
  generalize hr : setI (chkM l) = r
  have HR := Lib.hid hr
  clear hr
  obtain ⟨a, c, rfl⟩ := hv.form
  have hm := hv.small
  have HV := Lib.hid hv
  by_cases h0 : l.length = 0
  · rw [h0]
    clear HV hv
    go_enter Tryd.func36, Tryd.ntmps36
    go_wp2_with fail
    all_goals (go_ret; refine ⟨?_, Below.refl _ _⟩; rw [← HR.out]; simp [chkM, h0, setI])
  · by_cases h7 : 7 < l.length
    · have hd : decide ((7 : Int) < (l.length : Int)) = true := by simp; omega
      have hd0 : ((l.length : Int) == 0) = false := by rw [beq_eq_false_iff_ne]; omega
      clear HV hv
      go_enter Tryd.func36, Tryd.ntmps36
      go_wp2_with fail
      all_goals (go_ret; refine ⟨?_, Below.refl _ _⟩; rw [← HR.out]; have : ¬ l.length ≤ 7 := (by omega); simp [chkM, this, setI])
    · have hd : decide ((7 : Int) < (l.length : Int)) = false := by simp; omega
      have hd0 : ((l.length : Int) == 0) = false := by rw [beq_eq_false_iff_ne]; omega
      have HR2 : Hid (setI (okM [] l) = r) := Lib.hid (by rw [← HR.out]; have : l.length ≤ 7 := (by omega); simp [chkM, this, h0])
      clear HR hv h0
      go_enter Tryd.func36, Tryd.ntmps36
      go_wp2_with fail
      go_loopw [3, 16] (fun s3 s16 wr => ∃ i : Nat, i ≤ l.length ∧ s16 = .int .i64 i ∧ s3 = .string ⟨List.toArray (lastN l i)⟩ ∧ Hid (setI (okM (lastN l i) (l.drop i)) = r) ∧ Below w.heap.size w wr) (fun _ s16 _ => l.length - (intOf s16).toNat)
      case atStart => exact ⟨0, by omega, rfl, rfl, HR2, Below.refl _ _⟩
      case round =>
        obtain ⟨i, hi, rfl, rfl, HI, hb⟩ := hrel
        obtain ⟨wq, h⟩ := Below.nm hb
        subst h
        by_cases hlt : i < l.length
        · obtain ⟨g, off, rfl, hg, c1, c2⟩ := (HV.out.keep hb).at i hlt
          have hi2 := HI.out
          rw [drop_getD l i hlt] at hi2
          have hnx : lastN l (i + 1) = (l.getD i ([], 0)).1 := rfl
          generalize hx : l.getD i ([], 0) = x at *
          obtain ⟨n, p⟩ := x
          simp only at c1 c2 hnx
          unfold okM at hi2
          generalize lastN l i = z at *
          go_wp2_with fail
          all_goals first
            | (refine ⟨⟨i + 1, by omega, by go_num, by rw [hnx], Lib.hid ?_, Below.allocS hb _⟩, by simp [intOf]; omega⟩
               rw [hnx, ← hi2]
               simp_all [setI])
            | (go_ret; refine ⟨?_, Below.allocS hb _⟩; rw [← hi2]; simp_all [setI] <;> (rw [if_neg (by omega)] at hi2; exact hi2))
        · obtain rfl : i = l.length := by omega
          go_wp2_with fail
          all_goals (go_ret; refine ⟨?_, hb⟩; rw [← HI.out]; simp [okM, setI])

end Go.Proofs.YtmldonbmjgelnaaDoor
