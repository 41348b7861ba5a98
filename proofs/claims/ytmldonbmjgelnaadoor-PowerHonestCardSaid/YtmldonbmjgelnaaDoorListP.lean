/- Plain: lists of texts as bytes, and again. -/
import Derived.Test.YtmldonbmjgelnaaDoorPlain
import Derived.Test.YtmldonbmjgelnaaDoorBack
set_option linter.unusedSimpArgs false
set_option linter.unusedVariables false
namespace Go.Proofs.YtmldonbmjgelnaaDoor
namespace Pl
/-- Texts as bytes. -/
def listB : List Bs → Bs
  | [] => []
  | x :: r => text x ++ listB r
def encS (l : List Bs) : Bs := num l.length ++ listB l
theorem listB_app (a : List Bs) (x : Bs) : listB (a ++ [x]) = listB a ++ text x := by
  induction a with
  | nil => simp [listB]
  | cons y r ih => simp [listB, ih, List.append_assoc]
theorem takeS (l : List Bs) (i : Nat) (hi : i < l.length) : l.take (i + 1) = l.take i ++ [l.getD i []] := by
  rw [List.take_add_one, List.getElem?_eq_getElem hi, List.getD_eq_getElem?_getD, List.getElem?_eq_getElem hi]
  rfl
/-- So many texts out of bytes: them, what is left, the code. -/
def lGo (each : Int) : Nat → Bs → List Bs × Bs × Int
  | 0, s => ([], s, 0)
  | n + 1, s => if (tx s each).2.2 ≠ 0 then ([], [], (tx s each).2.2) else ((tx s each).1 :: (lGo each n (tx s each).2.1).1, (lGo each n (tx s each).2.1).2)
/-- A list out of a reader. -/
def mList (s : Bs) (c most each : Int) : List Bs × Bs × Int :=
  if c ≠ 0 then ([], s, c)
  else if (take s).2.2 ≠ 0 then ([], s, (take s).2.2)
  else if most < (take s).1 then ([], s, 2)
  else if (lGo each (take s).1 (take s).2.1).2.2 ≠ 0 then ([], s, (lGo each (take s).1 (take s).2.1).2.2)
  else lGo each (take s).1 (take s).2.1
def mListIn (s : Bs) (x : List Bs × Bs × Int) : List Bs × Bs × Int := if x.2.2 ≠ 0 then ([], s, x.2.2) else x
theorem mList_in (s : Bs) (most each : Int) (h : (take s).2.2 = 0) (hm : ¬ most < (take s).1) : mList s 0 most each = mListIn s (lGo each (take s).1 (take s).2.1) := by
  unfold mList mListIn
  simp [h, hm]
theorem mList_long (s : Bs) (most each : Int) (h : (take s).2.2 = 0) (hm : most < (take s).1) : mList s 0 most each = ([], s, 2) := by
  unfold mList
  simp [h, hm]
theorem mList_bad (s : Bs) (most each : Int) (h : (take s).2.2 ≠ 0) : mList s 0 most each = ([], s, (take s).2.2) := by
  unfold mList
  simp [h]
theorem mList_c (s : Bs) (c most each : Int) (h : c ≠ 0) : mList s c most each = ([], s, c) := by
  unfold mList
  simp [h]
theorem listB_len (l : List Bs) (m : Nat) (h : ∀ i, i < l.length → (l.getD i []).length ≤ m) : ∀ k, k ≤ l.length → (listB (l.take k)).length ≤ (m + 9) * k
  | 0, _ => by simp [listB]
  | k + 1, hk => by
    have h1 := listB_len l m h k (by omega)
    have h2 := h k (by omega)
    rw [takeS l k (by omega), listB_app]
    have h4 := text_len (l.getD k [])
    simp only [List.length_append]
    rw [Nat.mul_add]
    omega
end Pl
end Go.Proofs.YtmldonbmjgelnaaDoor
