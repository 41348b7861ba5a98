/- '==' on arrays of texts. -/
import Derived.Test.YtmldonbmjgelnaaDoorNode
import Derived.ChangeKeysEq
set_option linter.unusedSimpArgs false
set_option linter.unusedVariables false
namespace Go.Proofs.YtmldonbmjgelnaaDoor
open Go.RowKit Pl

theorem str_beq (x y : List UInt8) : ((⟨List.toArray x⟩ : ByteArray) == ⟨List.toArray y⟩) = decide (x = y) := by
  rw [beq_toListBytes, ByteArray.toList_eq, ByteArray.toList_eq, Bool.eq_iff_iff]
  simp

theorem eq_items {P : Program} (w : World) (d : Nat) {e : TypeId} (he : P.underlying e = some .string) (f g : Nat → List UInt8) (xs ys : Array Value) :
    ∀ (is : List Nat), (∀ i ∈ is, xs[i * 1]? = some (.string ⟨List.toArray (f i)⟩) ∧ ys[i * 1]? = some (.string ⟨List.toArray (g i)⟩)) → (Op.eqItems (d + 1) e 1 xs ys is).run P w = .ok (decide (∀ i ∈ is, f i = g i)) w
  | [], _ => by simp [Op.eqItems]
  | i :: is, h => by
    have hp : P.plainKey e = true := by simp [Program.plainKey, he]
    obtain ⟨h1, h2⟩ := h i (by simp)
    have ih := eq_items w d he f g xs ys is (fun j hj => h j (by simp [hj]))
    simp only [Op.eqItems, Sem.run_bind, run_part_plain w hp h1, run_part_plain w hp h2, Result.andThen_ok, run_equalIn_string w d e _ _ he]
    have hb : ((⟨List.toArray (f i)⟩ : ByteArray).toList == (⟨List.toArray (g i)⟩ : ByteArray).toList) = decide (f i = g i) := by
      rw [← beq_toListBytes, str_beq]
    rw [hb]
    by_cases hfg : f i = g i
    · simp [hfg, ih]
    · simp [hfg]

theorem eq_strs {P : Program} (w : World) (d : Nat) {t e : TypeId} {n : Nat} {i : TypeInfo} (hu : P.underlying t = some (.array n e)) (hi : P.info? e = some i) (he : P.underlying e = some .string) (hc : P.cellsOf e = 1)
    (f g : Nat → List UInt8) (xs ys : Array Value) (hx : ∀ i, i < n → xs[i]? = some (.string ⟨List.toArray (f i)⟩)) (hy : ∀ i, i < n → ys[i]? = some (.string ⟨List.toArray (g i)⟩)) :
    (Op.equalIn (d + 2) t (.agg xs) (.agg ys)).run P w = .ok (decide (∀ i, i < n → f i = g i)) w := by
  rw [run_equalIn_array w (d + 1) xs ys hu hi, hc, eq_items w d he f g xs ys (List.range n) (fun i hi => by
    have hi' : i < n := by simpa using hi
    rw [Nat.mul_one]
    exact ⟨hx i hi', hy i hi'⟩)]
  congr 1
  simp

theorem list_getD (l : List (List UInt8)) (i : Nat) (h : i < l.length) : (l.map fun s => Value.string ⟨List.toArray s⟩).toArray[i]? = some (.string ⟨List.toArray (l.getD i [])⟩) := by
  simp [List.getD, List.getElem?_eq_getElem h]

theorem same_of {l m : List (List UInt8)} {n : Nat} (hl : l.length = n) (hm : m.length = n) : decide (∀ i, i < n → l.getD i [] = m.getD i []) = sameL l m := by
  unfold sameL
  rw [decide_eq_decide]
  constructor
  · intro h
    apply List.ext_getElem (by omega)
    intro i h1 h2
    have := h i (by omega)
    simpa [List.getD, List.getElem?_eq_getElem h1, List.getElem?_eq_getElem h2] using this
  · rintro rfl i _
    rfl

theorem cellsStr : Tryd.prog.cellsOf 9 = 1 := by kernel_rfl

theorem ka_get (kid : Nat → Bs) (i : Nat) (h : i < 16) : (ka kid).toArray[i]? = some (.string ⟨List.toArray ((kidL kid).getD i [])⟩) := by
  have h1 := ka_at kid i h
  have h2 : (kidL kid).getD i [] = kid i := by simp [kidL, List.getD, h]
  rw [h2]
  simpa using h1

@[go_sem] theorem eq_kids (kid kid2 : Nat → Bs) (d : Nat) (w : World) :
    (Op.equalIn (d + 2) 22 (.agg (ka kid).toArray) (.agg (ka kid2).toArray)).run Tryd.prog w = .ok (sameL (kidL kid) (kidL kid2)) w := by
  obtain ⟨i0, hi, _⟩ := info_parts infoStr
  rw [eq_strs (P := Tryd.prog) w d Tryd.underlying22 hi Tryd.underlying9 cellsStr (fun i => (kidL kid).getD i []) (fun i => (kidL kid2).getD i []) _ _ (fun i hi => ka_get kid i hi) (fun i hi => ka_get kid2 i hi)]
  exact congrArg (fun b => Result.ok b w) (same_of (by simp [kidL]) (by simp [kidL]))
@[go_sem high] theorem eq_kids_none (kid : Nat → Bs) (d : Nat) (w : World) :
    (Op.equalIn (d + 2) 22 (.agg (ka kid).toArray) (.agg #[.string ⟨List.toArray ([])⟩, .string ⟨List.toArray ([])⟩, .string ⟨List.toArray ([])⟩, .string ⟨List.toArray ([])⟩, .string ⟨List.toArray ([])⟩, .string ⟨List.toArray ([])⟩, .string ⟨List.toArray ([])⟩, .string ⟨List.toArray ([])⟩, .string ⟨List.toArray ([])⟩, .string ⟨List.toArray ([])⟩, .string ⟨List.toArray ([])⟩, .string ⟨List.toArray ([])⟩, .string ⟨List.toArray ([])⟩, .string ⟨List.toArray ([])⟩, .string ⟨List.toArray ([])⟩, .string ⟨List.toArray ([])⟩])).run Tryd.prog w = .ok (noKids kid) w := by
  obtain ⟨i0, hi, _⟩ := info_parts infoStr
  rw [eq_strs (P := Tryd.prog) w d Tryd.underlying22 hi Tryd.underlying9 cellsStr (fun i => (kidL kid).getD i []) (fun i => ([[], [], [], [], [], [], [], [], [], [], [], [], [], [], [], []] : List Bs).getD i []) (ka kid).toArray #[.string ⟨List.toArray ([])⟩, .string ⟨List.toArray ([])⟩, .string ⟨List.toArray ([])⟩, .string ⟨List.toArray ([])⟩, .string ⟨List.toArray ([])⟩, .string ⟨List.toArray ([])⟩, .string ⟨List.toArray ([])⟩, .string ⟨List.toArray ([])⟩, .string ⟨List.toArray ([])⟩, .string ⟨List.toArray ([])⟩, .string ⟨List.toArray ([])⟩, .string ⟨List.toArray ([])⟩, .string ⟨List.toArray ([])⟩, .string ⟨List.toArray ([])⟩, .string ⟨List.toArray ([])⟩, .string ⟨List.toArray ([])⟩] (fun i hi => ka_get kid i hi) (fun i hi => list_getD [[], [], [], [], [], [], [], [], [], [], [], [], [], [], [], []] i hi)]
  exact congrArg (fun b => Result.ok b w) (same_of (by simp [kidL]) rfl)
@[go_sem] theorem eq_kids_one (kid : Nat → Bs) (x : Bs) (d : Nat) (w : World) :
    (Op.equalIn (d + 2) 22 (.agg (ka kid).toArray) (.agg #[.string ⟨List.toArray (x)⟩, .string ⟨List.toArray ([])⟩, .string ⟨List.toArray ([])⟩, .string ⟨List.toArray ([])⟩, .string ⟨List.toArray ([])⟩, .string ⟨List.toArray ([])⟩, .string ⟨List.toArray ([])⟩, .string ⟨List.toArray ([])⟩, .string ⟨List.toArray ([])⟩, .string ⟨List.toArray ([])⟩, .string ⟨List.toArray ([])⟩, .string ⟨List.toArray ([])⟩, .string ⟨List.toArray ([])⟩, .string ⟨List.toArray ([])⟩, .string ⟨List.toArray ([])⟩, .string ⟨List.toArray ([])⟩])).run Tryd.prog w = .ok (oneKidX kid x) w := by
  obtain ⟨i0, hi, _⟩ := info_parts infoStr
  rw [eq_strs (P := Tryd.prog) w d Tryd.underlying22 hi Tryd.underlying9 cellsStr (fun i => (kidL kid).getD i []) (fun i => ([x, [], [], [], [], [], [], [], [], [], [], [], [], [], [], []] : List Bs).getD i []) (ka kid).toArray #[.string ⟨List.toArray (x)⟩, .string ⟨List.toArray ([])⟩, .string ⟨List.toArray ([])⟩, .string ⟨List.toArray ([])⟩, .string ⟨List.toArray ([])⟩, .string ⟨List.toArray ([])⟩, .string ⟨List.toArray ([])⟩, .string ⟨List.toArray ([])⟩, .string ⟨List.toArray ([])⟩, .string ⟨List.toArray ([])⟩, .string ⟨List.toArray ([])⟩, .string ⟨List.toArray ([])⟩, .string ⟨List.toArray ([])⟩, .string ⟨List.toArray ([])⟩, .string ⟨List.toArray ([])⟩, .string ⟨List.toArray ([])⟩] (fun i hi => ka_get kid i hi) (fun i hi => list_getD [x, [], [], [], [], [], [], [], [], [], [], [], [], [], [], []] i hi)]
  exact congrArg (fun b => Result.ok b w) (same_of (by simp [kidL]) rfl)

end Go.Proofs.YtmldonbmjgelnaaDoor
