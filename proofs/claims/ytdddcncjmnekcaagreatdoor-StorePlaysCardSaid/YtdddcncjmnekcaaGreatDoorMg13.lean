/- Open, StrV, Eq, Nibble, NodeC. -/
import Derived.ChangeKeysEq
import Derived.Test.YtdddcncjmnekcaaGreatDoorMg1
import Derived.Test.YtdddcncjmnekcaaGreatDoorMg2
import Derived.Test.YtdddcncjmnekcaaGreatDoorMg3
import Derived.Test.YtdddcncjmnekcaaGreatDoorMg12
set_option linter.unnecessarySimpa false

/- What an argument of plain data looks like: its shape, computed from the type; a reading tells that the cells are of that shape. -/
set_option linter.unusedSimpArgs false
set_option linter.unusedVariables false
namespace Go.Proofs.YtdddcncjmnekcaaGreatDoor
open Go.ChangeShapes Go.WideShapes Go.ChangeAt Go.RowKit

inductive Sh where
  | int (k : IntKind)
  | str
  | bool
  | slice (c : Nat) (e : Sh)
  | unit
  | pair (a b : Sh)

def Sh.cells : Sh → Nat
  | .unit => 0
  | .pair a b => a.cells + b.cells
  | _ => 1

def Sh.Ok (w : World) : Sh → List Value → Prop
  | .int k, cs => ∃ n, cs = [.int k n] ∧ (Lit.int k n).wf = true
  | .str, cs => ∃ s : ByteArray, cs = [.string s] ∧ s.size ≤ maxLen
  | .bool, cs => ∃ b, cs = [.bool b]
  | .slice c e, cs => cs = [.slice none 0 0] ∨ ∃ a len cap, cs = [.slice (some a) len cap] ∧ len ≤ cap ∧ cap ≤ maxLen ∧
      ∀ i, i < len → ∃ cs', w.cells? 0 (a.add (i * c)) c = some cs' ∧ e.Ok w cs'
  | .unit, cs => cs = []
  | .pair a b, cs => ∃ x y, cs = x ++ y ∧ a.Ok w x ∧ b.Ok w y

theorem Sh.Ok.len {w : World} : ∀ {s : Sh} {cs : List Value}, s.Ok w cs → cs.length = s.cells
  | .int _, _, h => by obtain ⟨n, rfl, _⟩ := h; rfl
  | .str, _, h => by obtain ⟨n, rfl, _⟩ := h; rfl
  | .bool, _, h => by obtain ⟨n, rfl⟩ := h; rfl
  | .slice _ _, _, h => by rcases h with rfl | ⟨a, l, c, rfl, _⟩ <;> rfl
  | .unit, _, h => by rw [show _ = [] from h]; rfl
  | .pair a b, _, h => by
    obtain ⟨x, y, rfl, hx, hy⟩ := h
    simp [Sh.cells, hx.len, hy.len]

theorem slice_cells {w : World} {a : Addr} {c len : Nat} {e : Sh} (hc : 0 < c) (hlen : 0 < len)
    (h : ∀ i, i < len → ∃ cs', w.cells? 0 (a.add (i * c)) c = some cs' ∧ e.Ok w cs') :
    a.spot = none ∧ ∀ i, i < len → ∃ cs', e.Ok w cs' ∧ cs'.length = c ∧ ∀ j, j < c → w.cell? ⟨a.block, a.off + i * c + j, none⟩ = cs'[j]? := by
  obtain ⟨b, off, spot⟩ := a
  have hs : spot = none := by
    obtain ⟨cs', h1, _⟩ := h 0 hlen
    obtain ⟨_, hl, h2⟩ := World.cells?_some h1
    have h3 := h2 0 hc
    simp only [Nat.zero_mul, Addr.add, if_true] at h3
    cases spot with
    | none => rfl
    | some s =>
      exfalso
      unfold World.cell? at h3
      rw [List.getElem?_eq_getElem (by omega)] at h3
      split at h3 <;> simp at h3
  subst hs
  refine ⟨rfl, fun i hi => ?_⟩
  obtain ⟨cs', h1, ho⟩ := h i hi
  obtain ⟨_, hl, h2⟩ := World.cells?_some h1
  refine ⟨cs', ho, hl, fun j hj => ?_⟩
  have h3 := h2 j hj
  rw [← h3]
  congr 1
  unfold Addr.add
  by_cases hi0 : i * c = 0
  · by_cases hj0 : j = 0
    · simp [hi0, hj0]
    · simp [hi0, hj0]
  · by_cases hj0 : j = 0
    · simp [hi0, hj0]
    · simp [hi0, hj0]

def repSh (a : Sh) : Nat → Sh
  | 0 => .unit
  | n + 1 => .pair a (repSh a n)

def fieldsSh (P : Program) (f : TypeId → Option Sh) : List Field → Nat → Nat → Option Sh
  | [], off, total => if off = total then some .unit else none
  | x :: xs, off, total =>
    match f x.type with
    | some a => if x.offset = off ∧ a.cells = P.cellsOf x.type then (fieldsSh P f xs (off + a.cells) total).map (.pair a) else none
    | none => none

def shapeOf (P : Program) : Nat → TypeId → Option Sh
  | 0, _ => none
  | n + 1, t =>
    match P.underlying t with
    | some .bool => some .bool
    | some (.int k) => some (.int k)
    | some .string => some .str
    | some (.slice e) => match shapeOf P n e with
      | some s => if s.cells = P.cellsOf e then some (.slice (P.cellsOf e) s) else none
      | none => none
    | some (.struct fs) => fieldsSh P (shapeOf P n) fs.toList 0 (P.cellsOf t)
    | some (.array k e) => match shapeOf P n e with
      | some s => if s.cells = P.cellsOf e ∧ k * P.cellsOf e = P.cellsOf t then some (repSh s k) else none
      | none => none
    | _ => none

section
variable {H : Type} {enc : TypeId × Value → H} {P : Program} {w : World} {spare : Nat → Bool} {held : Bool}

theorem rep_ok {s : Sh} {c : Nat} (hc : s.cells = c) : ∀ (k : Nat) (cs : List Value), cs.length = k * c →
    (∀ i, i < k → s.Ok w ((cs.drop (i * c)).take c)) → (repSh s k).Ok w cs
  | 0, cs, hl, _ => by
    have : cs = [] := by simpa using hl
    exact this
  | k + 1, cs, hl, h => by
    refine ⟨cs.take c, cs.drop c, (List.take_append_drop c cs).symm, by simpa using h 0 (by omega), rep_ok hc k _ ?_ (fun i hi => ?_)⟩
    · rw [List.length_drop, hl, Nat.succ_mul]; omega
    · have := h (i + 1) (by omega)
      rw [List.drop_drop]
      rw [Nat.succ_mul] at this
      rwa [Nat.add_comm c (i * c)]

theorem fields_ok {f : TypeId → Option Sh} {n : Nat} (ih : ∀ t s, f t = some s → ∀ cs x, DataW.trod enc P w 0 spare held n t cs = some x → s.Ok w cs) {cs : List Value} :
    ∀ (fs : List Field) (off total : Nat) (s : Sh), fieldsSh P f fs off total = some s → cs.length = total →
      (∀ x ∈ fs, ∃ y, DataW.trod enc P w 0 spare held n x.type ((cs.drop x.offset).take (P.cellsOf x.type)) = some y) → s.Ok w (cs.drop off)
  | [], off, total, s, h, hl, _ => by
    simp only [fieldsSh] at h
    split at h
    · cases h
      rename_i e
      show cs.drop off = []
      rw [e, ← hl]; simp
    · cases h
  | x :: xs, off, total, s, h, hl, hx => by
    simp only [fieldsSh] at h
    split at h
    · rename_i a ha
      split at h
      · rename_i hc
        cases hr : fieldsSh P f xs (off + a.cells) total with
        | none => rw [hr] at h; cases h
        | some r =>
          rw [hr] at h
          cases h
          obtain ⟨y, hy⟩ := hx x (by simp)
          rw [hc.1] at hy
          have h1 := ih _ _ ha _ _ hy
          have h2 := fields_ok ih xs (off + a.cells) total r hr hl (fun z hz => hx z (by simp [hz]))
          refine ⟨(cs.drop off).take (P.cellsOf x.type), (cs.drop off).drop (P.cellsOf x.type), (List.take_append_drop _ _).symm, h1, ?_⟩
          rw [List.drop_drop, ← hc.2]
          exact h2
      · cases h
    · cases h

theorem shape_ok : ∀ (m : Nat) (t : TypeId) (s : Sh), shapeOf P m t = some s → ∀ (fuel : Nat) (cs : List Value) (x : DataW H × List MemPlace),
    DataW.trod enc P w 0 spare held fuel t cs = some x → s.Ok w cs
  | 0, _, _, h, _, _, _, _ => by cases h
  | m + 1, t, s, h, fuel, cs, x, hx => by
    unfold shapeOf at h
    split at h
    · rename_i ht
      cases h
      obtain ⟨b, hb, _⟩ := DataW.trod_bool ht hx
      exact ⟨b, hb⟩
    · rename_i k ht
      cases h
      obtain ⟨b, hb, _, hw⟩ := DataW.trod_int ht hx
      exact ⟨b, hb, hw⟩
    · rename_i ht
      cases h
      obtain ⟨b, hb, _, hw⟩ := DataW.trod_string ht hx
      exact ⟨b, hb, hw⟩
    · rename_i e ht
      split at h
      · rename_i s' hs
        split at h
        · cases h
          rcases DataW.trod_slice ht hx with ⟨h1, _⟩ | ⟨a, len, cap, elems, rest, n, _, hcs, _, _, hl, hm, hlen, hel, _⟩
          · exact .inl h1
          · refine .inr ⟨a, len, cap, hcs, hl, hm, fun i hi => ?_⟩
            have h2 := hel i hi
            rw [List.getElem?_eq_getElem (by omega)] at h2
            cases hc : w.cells? 0 (a.add (i * P.cellsOf e)) (P.cellsOf e) with
            | none => rw [hc] at h2; cases h2
            | some cs' =>
              rw [hc] at h2
              exact ⟨cs', rfl, shape_ok m e _ hs n cs' _ h2⟩
        · cases h
      · cases h
    · rename_i fs ht
      obtain ⟨xs, n, _, _, hl, hlen, hf⟩ := DataW.trod_struct ht hx
      have := fields_ok (cs := cs) (n := n) (fun t s hs cs x hx => shape_ok m t s hs n cs x hx) fs.toList 0 (P.cellsOf t) s h hl (fun f hmem => by
        obtain ⟨i, hi, rfl⟩ := List.getElem_of_mem hmem
        have h3 := hf i fs.toList[i] (by simp)
        rw [List.getElem?_eq_getElem (by rw [hlen]; simpa using hi)] at h3
        exact ⟨_, h3⟩)
      simpa using this
    · rename_i k e ht
      split at h
      · rename_i s' hs
        split at h
        · rename_i hc
          cases h
          obtain ⟨xs, n, _, _, hl, hlen, hf⟩ := DataW.trod_array ht hx
          refine rep_ok hc.1 k cs (hl.trans hc.2.symm) (fun i hi => ?_)
          have h3 := hf i hi
          rw [List.getElem?_eq_getElem (by omega)] at h3
          exact shape_ok m e _ hs n _ _ h3
        · cases h
      · cases h
    · cases h

/-- The value of a parameter: an aggregate's cells, or the one value. -/
def Sh.Val (w : World) (s : Sh) (v : Value) : Prop :=
  match s with
  | .unit | .pair _ _ => ∃ cs : List Value, v = .agg cs.toArray ∧ s.Ok w cs
  | s => s.Ok w [v]

theorem fieldsSh_agg {f : TypeId → Option Sh} : ∀ {fs : List Field} {off total : Nat} {s : Sh}, fieldsSh P f fs off total = some s → s = .unit ∨ ∃ a b, s = .pair a b
  | [], off, total, s, h => by
    simp only [fieldsSh] at h
    split at h
    · cases h; exact .inl rfl
    · cases h
  | x :: xs, off, total, s, h => by
    simp only [fieldsSh] at h
    split at h
    · split at h
      · cases hr : fieldsSh P f xs (off + _) total with
        | none => rw [hr] at h; cases h
        | some r => rw [hr] at h; cases h; exact .inr ⟨_, _, rfl⟩
      · cases h
    · cases h

theorem shape_val {r : Reach} {b0 : Nat} {m : Nat} {t : TypeId} {s : Sh} (h : shapeOf P m t = some s) {v : Value} {d : DataW H} {ps : List MemPlace}
    (hval : Value.okWide P w r b0 t v) (hd : DataW.Trod enc P w 0 spare held t v d ps) : s.Val w v := by
  obtain ⟨fuel, hf⟩ := hd
  have hok := shape_ok m t s h fuel _ _ hf
  cases m with
  | zero => cases h
  | succ m =>
    unfold shapeOf at h
    split at h
    · rename_i ht
      cases h
      obtain ⟨b, rfl⟩ := okWide_bool ht hval
      exact hok
    · rename_i k ht
      cases h
      obtain ⟨b, rfl⟩ := okWide_int ht hval
      exact hok
    · rename_i ht
      cases h
      obtain ⟨b, rfl⟩ := okWide_string ht hval
      exact hok
    · rename_i e ht
      split at h
      · split at h
        · cases h
          obtain ⟨a, l, c, rfl⟩ := okWide_slice ht hval
          exact hok
        · cases h
      · cases h
    · rename_i fs ht
      obtain ⟨cs, rfl, _⟩ := okWide_struct ht hval
      rcases fieldsSh_agg h with rfl | ⟨a, b, rfl⟩
      · exact ⟨cs.toList, by simp, hok⟩
      · exact ⟨cs.toList, by simp, hok⟩
    · rename_i k e ht
      have hv : ∃ cs : Array Value, v = .agg cs := by
        simp only [Value.okWide, ht] at hval
        obtain ⟨cs, h1, _⟩ := hval
        exact ⟨cs, h1⟩
      obtain ⟨cs, rfl⟩ := hv
      split at h
      · split at h
        · cases h
          cases k with
          | zero => exact ⟨cs.toList, by simp, hok⟩
          | succ k => exact ⟨cs.toList, by simp, hok⟩
        · cases h
      · cases h
    · cases h
end

end Go.Proofs.YtdddcncjmnekcaaGreatDoor

/- An argument that is a text. -/
set_option linter.unusedVariables false
namespace Go.Proofs.YtdddcncjmnekcaaGreatDoor
open Go.ChangeShapes Go.WideShapes Go.ChangeAt Go.RowKit Pl

theorem str_list (s : ByteArray) : s = ⟨List.toArray s.data.toList⟩ := by
  apply ByteArray.ext
  simp
theorem str_val {W : World} {v : Value} (h : Sh.Val W .str v) : ∃ s : Bs, v = .string ⟨List.toArray (s)⟩ := by
  obtain ⟨s, hs, _⟩ := h
  obtain rfl : v = .string s := by simpa using hs
  exact ⟨s.data.toList, congrArg Value.string (str_list s)⟩

theorem str_beq (x y : List UInt8) : ((⟨List.toArray x⟩ : ByteArray) == ⟨List.toArray y⟩) = decide (x = y) := by
  rw [beq_toListBytes, ByteArray.toList_eq, ByteArray.toList_eq, Bool.eq_iff_iff]
  simp

end Go.Proofs.YtdddcncjmnekcaaGreatDoor

/- '==' on arrays of texts. -/
set_option linter.unusedSimpArgs false
set_option linter.unusedVariables false
namespace Go.Proofs.YtdddcncjmnekcaaGreatDoor
open Go.RowKit Pl

theorem eq_items {P : Program} (w : World) (d : Nat) {e : TypeId} (he : P.underlying e = some .string) (f g : Nat → List UInt8) (xs ys : Array Value) :
    ∀ (is : List Nat), (∀ i ∈ is, xs[i * 1]? = some (.string ⟨List.toArray (f i)⟩) ∧ ys[i * 1]? = some (.string ⟨List.toArray (g i)⟩)) → (Op.eqItems (d + 1) e 1 xs ys is).run P w = .ok (decide (∀ i ∈ is, f i = g i)) w
  | [], _ => by simp [Op.eqItems]
  | i :: is, h => by
    have hp : P.plainKey e = true := by simp [Program.plainKey, he]
    obtain ⟨h1, h2⟩ := h i (by simp)
    have ih := eq_items w d he f g xs ys is (fun j hj => h j (by simp [hj]))
    simp only [Op.eqItems, Sem.run_bind, run_part_plain w hp h1, run_part_plain w hp h2, Result.andThen_ok, run_equalIn_string w d e _ _ he]
    have hb : ((⟨List.toArray (f i)⟩ : ByteArray).toList == (⟨List.toArray (g i)⟩ : ByteArray).toList) = decide (f i = g i) := by
      rw [← beq_toListBytes, str_beq]
    rw [hb]
    by_cases hfg : f i = g i
    · simp [hfg, ih]
    · simp [hfg]

theorem eq_strs {P : Program} (w : World) (d : Nat) {t e : TypeId} {n : Nat} {i : TypeInfo} (hu : P.underlying t = some (.array n e)) (hi : P.info? e = some i) (he : P.underlying e = some .string) (hc : P.cellsOf e = 1)
    (f g : Nat → List UInt8) (xs ys : Array Value) (hx : ∀ i, i < n → xs[i]? = some (.string ⟨List.toArray (f i)⟩)) (hy : ∀ i, i < n → ys[i]? = some (.string ⟨List.toArray (g i)⟩)) :
    (Op.equalIn (d + 2) t (.agg xs) (.agg ys)).run P w = .ok (decide (∀ i, i < n → f i = g i)) w := by
  rw [run_equalIn_array w (d + 1) xs ys hu hi, hc, eq_items w d he f g xs ys (List.range n) (fun i hi => by
    have hi' : i < n := by simpa using hi
    rw [Nat.mul_one]
    exact ⟨hx i hi', hy i hi'⟩)]
  congr 1
  simp

theorem list_getD (l : List (List UInt8)) (i : Nat) (h : i < l.length) : (l.map fun s => Value.string ⟨List.toArray s⟩).toArray[i]? = some (.string ⟨List.toArray (l.getD i [])⟩) := by
  simp [List.getD, List.getElem?_eq_getElem h]

theorem same_of {l m : List (List UInt8)} {n : Nat} (hl : l.length = n) (hm : m.length = n) : decide (∀ i, i < n → l.getD i [] = m.getD i []) = sameL l m := by
  unfold sameL
  rw [decide_eq_decide]
  constructor
  · intro h
    apply List.ext_getElem (by omega)
    intro i h1 h2
    have := h i (by omega)
    simpa [List.getD, List.getElem?_eq_getElem h1, List.getElem?_eq_getElem h2] using this
  · rintro rfl i _
    rfl

theorem cellsStr : Tryz.prog.cellsOf 9 = 1 := by kernel_rfl

theorem ka_get (kid : Nat → Bs) (i : Nat) (h : i < 16) : (ka kid).toArray[i]? = some (.string ⟨List.toArray ((kidL kid).getD i [])⟩) := by
  have h1 := ka_at kid i h
  have h2 : (kidL kid).getD i [] = kid i := by simp [kidL, List.getD, h]
  rw [h2]
  simpa using h1

@[go_sem] theorem eq_kids (kid kid2 : Nat → Bs) (d : Nat) (w : World) :
    (Op.equalIn (d + 2) 67 (.agg (ka kid).toArray) (.agg (ka kid2).toArray)).run Tryz.prog w = .ok (sameL (kidL kid) (kidL kid2)) w := by
  obtain ⟨i0, hi, _⟩ := info_parts infoStr
  rw [eq_strs (P := Tryz.prog) w d Tryz.underlying67 hi Tryz.underlying9 cellsStr (fun i => (kidL kid).getD i []) (fun i => (kidL kid2).getD i []) _ _ (fun i hi => ka_get kid i hi) (fun i hi => ka_get kid2 i hi)]
  exact congrArg (fun b => Result.ok b w) (same_of (by simp [kidL]) (by simp [kidL]))
@[go_sem high] theorem eq_kids_none (kid : Nat → Bs) (d : Nat) (w : World) :
    (Op.equalIn (d + 2) 67 (.agg (ka kid).toArray) (.agg #[.string ⟨List.toArray ([])⟩, .string ⟨List.toArray ([])⟩, .string ⟨List.toArray ([])⟩, .string ⟨List.toArray ([])⟩, .string ⟨List.toArray ([])⟩, .string ⟨List.toArray ([])⟩, .string ⟨List.toArray ([])⟩, .string ⟨List.toArray ([])⟩, .string ⟨List.toArray ([])⟩, .string ⟨List.toArray ([])⟩, .string ⟨List.toArray ([])⟩, .string ⟨List.toArray ([])⟩, .string ⟨List.toArray ([])⟩, .string ⟨List.toArray ([])⟩, .string ⟨List.toArray ([])⟩, .string ⟨List.toArray ([])⟩])).run Tryz.prog w = .ok (noKids kid) w := by
  obtain ⟨i0, hi, _⟩ := info_parts infoStr
  rw [eq_strs (P := Tryz.prog) w d Tryz.underlying67 hi Tryz.underlying9 cellsStr (fun i => (kidL kid).getD i []) (fun i => ([[], [], [], [], [], [], [], [], [], [], [], [], [], [], [], []] : List Bs).getD i []) (ka kid).toArray #[.string ⟨List.toArray ([])⟩, .string ⟨List.toArray ([])⟩, .string ⟨List.toArray ([])⟩, .string ⟨List.toArray ([])⟩, .string ⟨List.toArray ([])⟩, .string ⟨List.toArray ([])⟩, .string ⟨List.toArray ([])⟩, .string ⟨List.toArray ([])⟩, .string ⟨List.toArray ([])⟩, .string ⟨List.toArray ([])⟩, .string ⟨List.toArray ([])⟩, .string ⟨List.toArray ([])⟩, .string ⟨List.toArray ([])⟩, .string ⟨List.toArray ([])⟩, .string ⟨List.toArray ([])⟩, .string ⟨List.toArray ([])⟩] (fun i hi => ka_get kid i hi) (fun i hi => list_getD [[], [], [], [], [], [], [], [], [], [], [], [], [], [], [], []] i hi)]
  exact congrArg (fun b => Result.ok b w) (same_of (by simp [kidL]) rfl)
@[go_sem] theorem eq_kids_one (kid : Nat → Bs) (x : Bs) (d : Nat) (w : World) :
    (Op.equalIn (d + 2) 67 (.agg (ka kid).toArray) (.agg #[.string ⟨List.toArray (x)⟩, .string ⟨List.toArray ([])⟩, .string ⟨List.toArray ([])⟩, .string ⟨List.toArray ([])⟩, .string ⟨List.toArray ([])⟩, .string ⟨List.toArray ([])⟩, .string ⟨List.toArray ([])⟩, .string ⟨List.toArray ([])⟩, .string ⟨List.toArray ([])⟩, .string ⟨List.toArray ([])⟩, .string ⟨List.toArray ([])⟩, .string ⟨List.toArray ([])⟩, .string ⟨List.toArray ([])⟩, .string ⟨List.toArray ([])⟩, .string ⟨List.toArray ([])⟩, .string ⟨List.toArray ([])⟩])).run Tryz.prog w = .ok (oneKidX kid x) w := by
  obtain ⟨i0, hi, _⟩ := info_parts infoStr
  rw [eq_strs (P := Tryz.prog) w d Tryz.underlying67 hi Tryz.underlying9 cellsStr (fun i => (kidL kid).getD i []) (fun i => ([x, [], [], [], [], [], [], [], [], [], [], [], [], [], [], []] : List Bs).getD i []) (ka kid).toArray #[.string ⟨List.toArray (x)⟩, .string ⟨List.toArray ([])⟩, .string ⟨List.toArray ([])⟩, .string ⟨List.toArray ([])⟩, .string ⟨List.toArray ([])⟩, .string ⟨List.toArray ([])⟩, .string ⟨List.toArray ([])⟩, .string ⟨List.toArray ([])⟩, .string ⟨List.toArray ([])⟩, .string ⟨List.toArray ([])⟩, .string ⟨List.toArray ([])⟩, .string ⟨List.toArray ([])⟩, .string ⟨List.toArray ([])⟩, .string ⟨List.toArray ([])⟩, .string ⟨List.toArray ([])⟩, .string ⟨List.toArray ([])⟩] (fun i hi => ka_get kid i hi) (fun i hi => list_getD [x, [], [], [], [], [], [], [], [], [], [], [], [], [], [], []] i hi)]
  exact congrArg (fun b => Result.ok b w) (same_of (by simp [kidL]) rfl)

end Go.Proofs.YtdddcncjmnekcaaGreatDoor

/- Walks of layer 1: paths of half bytes. -/
set_option linter.unusedSimpArgs false
set_option linter.unusedVariables false
namespace Go.Proofs.YtdddcncjmnekcaaGreatDoor
open Go.RowKit Pl

theorem nfit_any (s : Bs) (hs : s.length ≤ 9223372036854775807) (w : World) :
    Calls Tryz.prog 101 #[.string ⟨List.toArray (s)⟩] w fun e w' => e = .returned (.bool (fit s)) ∧ w = w' := by
  go_enter Tryz.func101, Tryz.ntmps101
  go_wp2_with fail
  go_loop [6] (fun s6 => ∃ i : Nat, i ≤ s.length ∧ s6 = .int .i64 i ∧ Hid (fit (s.take i) = true)) (fun s6 => s.length - (intOf s6).toNat)
  case atStart => exact ⟨0, by omega, rfl, Lib.hid (by simp [fit])⟩
  case round =>
    obtain ⟨i, hi, rfl, HF⟩ := hrel
    by_cases hlt : i < s.length
    · have hbi := s[i].toNat_lt
      by_cases h15 : 15 < s[i].toNat
      · have h15' : (15 : Int) < (s[i].toNat : Int) := by omega
        have HN := Lib.hid (fit_not s i hlt h15)
        go_wp2_with fail
        go_ret
        exact ⟨by rw [HN.out]; rfl, rfl⟩
      · have h15' : ¬ (15 : Int) < (s[i].toNat : Int) := by omega
        go_wp2_with fail
        exact ⟨⟨i + 1, by omega, by go_num, Lib.hid (by rw [fit_take s i hlt, HF.out]; simp; omega)⟩, by simp [intOf] <;> omega⟩
    · have hie : s.take i = s := List.take_of_length_le (by omega)
      have HN : Hid (fit s = true) := Lib.hid (by rw [← hie]; exact HF.out)
      clear hie
      go_wp2_with fail
      go_ret
      exact ⟨by rw [HN.out]; rfl, rfl⟩

set_option maxRecDepth 100000 in
set_option maxHeartbeats 1000000 in
theorem nof_any (s : Bs) (hs : s.length ≤ 35184372088832) (w : World) :
    Calls Tryz.prog 100 #[.string ⟨List.toArray (s)⟩] w fun e w' => e = .returned (.string ⟨List.toArray (ofP s)⟩) ∧ Below w.heap.size w w' := by
  obtain ⟨w1, hmk, hB, hb1⟩ := BRow.make w w.heap.size (2 * s.length) (by omega) (Nat.le_refl _)
  have hcast : (((2 * s.length : Nat)) : Int) = 2 * (s.length : Int) := by simp
  rw [hcast] at hmk
  clear hcast
  go_enter Tryz.func100, Tryz.ntmps100
  go_wp2_with fail
  go_loopw [3, 11] (fun s3 s11 wr => ∃ i : Nat, i ≤ s.length ∧ s11 = .int .i64 i ∧ BRow wr w.heap.size s3 (ofP (s.take i)) ∧ Below w.heap.size w wr) (fun _ s11 _ => s.length - (intOf s11).toNat)
  case atStart => exact ⟨0, by omega, rfl, hB, hb1⟩
  case round =>
    clear hmk hB hb1
    obtain ⟨i, hi, rfl, hB, hb⟩ := hrel
    rename_i wr
    by_cases hlt : i < s.length
    · have hbi := s[i].toNat_lt
      have hol := ofP_len (s.take i)
      have htl : (s.take i).length = i := by simp; omega
      have HOL : Hid ((ofP (s.take i)).length = 2 * i) := Lib.hid (by rw [hol, htl])
      clear hol htl
      go_wp2_with fail
      go_region_law (refine step_appB rfl (.tmp 14) (.tmp 23) rfl w.heap.size _ (ofP (s.take i)) rfl (hB.alloc _).drew wr.heap.size 0 2 2 [UInt8.ofNat (s[i].toNat / 16), UInt8.ofNat (s[i].toNat % 16)] rfl rfl (bsrc2 _ _ _ _ _ _ (by simp; omega) (by rw [u8_and15 _ hbi]; simp; omega)).drew (by rw [HOL.out]; omega) (by have := hb.size; simp; omega) ?_; rintro v' w2 hB2 hb2)
      all_goals go_wp2_with fail
      all_goals exact ⟨⟨i + 1, by omega, by go_num, by rw [List.take_succ_eq_append_getElem hlt, ofP_snoc]; exact hB2, (Below.allocS hb _).drew.trans hb2⟩, by simp [intOf] <;> omega⟩
    · have hcv := hB.conv
      go_wp2_with fail
      go_ret
      refine ⟨?_, hb⟩
      rw [List.take_of_length_le (by omega)]; rfl

theorem joined_at : ∀ (s : Bs) (i : Nat) (h : 2 * i + 1 < s.length), joined (s.take (2 * i + 2)) = joined (s.take (2 * i)) ++ [UInt8.ofNat ((s[2 * i]'(by omega)).toNat * 16 + (s[2 * i + 1]).toNat)]
  | a :: b :: r, 0, _ => by simp [joined]
  | a :: b :: r, i + 1, h => by
    have h' : 2 * i + 1 < r.length := by simp at h; omega
    have ih := joined_at r i h'
    have e1 : (a :: b :: r).take (2 * (i + 1) + 2) = a :: b :: r.take (2 * i + 2) := by
      rw [show 2 * (i + 1) + 2 = (2 * i + 2) + 1 + 1 from by omega]; simp
    have e2 : (a :: b :: r).take (2 * (i + 1)) = a :: b :: r.take (2 * i) := by
      rw [show 2 * (i + 1) = (2 * i) + 1 + 1 from by omega]; simp
    rw [e1, e2]
    simp only [joined, ih, List.cons_append]
    rfl
  | [], _, h => by simp at h
  | [_], i, h => by simp at h
theorem joined_all (s : Bs) : joined (s.take (2 * (s.length / 2))) = joined s := by
  by_cases h : s.length % 2 = 0
  · rw [List.take_of_length_le (by omega)]
  · have : ∀ (n : Nat) (s : Bs), s.length = 2 * n + 1 → joined (s.take (2 * n)) = joined s := by
      intro n
      induction n with
      | zero =>
        intro s hs
        match s, hs with
        | [a], _ => rfl
      | succ n ih =>
        intro s hs
        match s, hs with
        | a :: b :: r, hs =>
          have e2 : (a :: b :: r).take (2 * (n + 1)) = a :: b :: r.take (2 * n) := by
            rw [show 2 * (n + 1) = (2 * n) + 1 + 1 from by omega]; simp
          rw [e2]
          simp only [joined]
          rw [ih r (by simp at hs; omega)]
    rw [show 2 * (s.length / 2) = 2 * (s.length / 2) from rfl]
    exact this (s.length / 2) s (by omega)
theorem joined_len : ∀ (s : Bs), (joined s).length = s.length / 2
  | [] => rfl
  | [_] => by simp [joined]
  | a :: b :: r => by simp [joined, joined_len r]; omega

end Go.Proofs.YtdddcncjmnekcaaGreatDoor

/- Walks of layer 8: may a node be? -/
set_option linter.unusedSimpArgs false
set_option linter.unusedVariables false
namespace Go.Proofs.YtdddcncjmnekcaaGreatDoor
open Go.RowKit Pl

theorem npath_any (p : Bs) (least : Int) (hs : p.length ≤ 9223372036854775807) (w : World) :
    Calls Tryz.prog 82 #[.string ⟨List.toArray (p)⟩, .int .i64 (least)] w fun e w' => e = .returned (.bool (pathOk p least)) ∧ w = w' := by
  generalize hr : pathOk p least = r
  unfold pathOk at hr
  have HR := Lib.hid hr
  clear hr
  go_enter Tryz.func82, Tryz.ntmps82
  go_wp2_with fail
  refine (nfit_any p hs _).mono ?_
  rintro e w1 ⟨rfl, rfl⟩
  cases hf : fit p
  · rw [hf] at HR
    clear hf
    go_wp2_with fail
    all_goals go_ret
    all_goals exact ⟨by rw [← HR.out]; rfl, rfl⟩
  · rw [hf] at HR
    clear hf
    go_wp2_with fail
    all_goals go_ret
    all_goals (refine ⟨?_, rfl⟩; rw [← HR.out]; simp [*] <;> omega)

theorem sums_nil (w : World) : Calls Tryz.prog 83 #[.slice none 0 0] w fun e w' => e = .returned (.bool (all32 [])) ∧ w = w' := by
  go_enter Tryz.func83, Tryz.ntmps83
  go_wp2_with fail
  go_loop [7] (fun s7 => s7 = .int .i64 0) (fun _ => 0)
  case atStart => rfl
  case round =>
    obtain rfl := hrel
    go_wp2_with fail
    go_ret
    exact ⟨rfl, rfl⟩

theorem all32_not (l : List Bs) (i : Nat) (hi : i < l.length) (h : (l.getD i []).length ≠ 32) : all32 l = false := by
  cases hf : all32 l with
  | false => rfl
  | true =>
    exfalso
    apply h
    have := List.all_eq_true.1 hf (l[i]) (List.getElem_mem hi)
    simpa [List.getD, List.getElem?_eq_getElem hi] using this

theorem sums_own (b off len cap : Nat) (l : List Bs) (hlen : l.length = len) (hmax : len ≤ 9223372036854775807) (w : World) (hc : ∀ i, i < len → w.cell? ⟨b, off + i, none⟩ = some (.string ⟨List.toArray (l.getD i [])⟩)) :
    Calls Tryz.prog 83 #[.slice (some ⟨b, off, none⟩) len cap] w fun e w' => e = .returned (.bool (all32 l)) ∧ w = w' := by
  have HC := Lib.hid hc
  have HL := Lib.hid hlen
  clear hc hlen
  go_enter Tryz.func83, Tryz.ntmps83
  go_wp2_with fail
  go_loop [7] (fun s7 => ∃ i : Nat, i ≤ len ∧ s7 = .int .i64 i ∧ Hid (∀ j, j < i → (l.getD j []).length = 32)) (fun s7 => len - (intOf s7).toNat)
  case atStart => exact ⟨0, by omega, rfl, Lib.hid (fun j hj => by omega)⟩
  case round =>
    obtain ⟨i, hi, rfl, HA⟩ := hrel
    by_cases hlt : i < len
    · have hci := HC.out i hlt
      by_cases h32 : (l.getD i []).length = 32
      · have HN : Hid (∀ j, j < i + 1 → (l.getD j []).length = 32) := Lib.hid (fun j hj => by
          rcases Nat.lt_or_ge j i with h | h
          · exact HA.out j h
          · have : j = i := by omega
            subst this; exact h32)
        generalize l.getD i [] = x at hci h32
        have hb : ((x.length : Int) != 32) = false := by simp; omega
        clear h32
        go_wp2_with fail
        exact ⟨⟨i + 1, by omega, by go_num, HN⟩, by simp [intOf]; omega⟩
      · have HN := Lib.hid (all32_not l i (by rw [HL.out]; exact hlt) h32)
        generalize l.getD i [] = x at hci h32
        have hb : ((x.length : Int) != 32) = true := by simp; omega
        clear h32
        go_wp2_with fail
        go_ret
        exact ⟨by rw [HN.out]; rfl, rfl⟩
    · have HN : Hid (all32 l = true) := Lib.hid (by
        unfold all32
        rw [List.all_eq_true]
        intro s hs
        obtain ⟨j, hj, rfl⟩ := List.getElem_of_mem hs
        have := HA.out j (by have := HL.out; omega)
        simpa [List.getD, List.getElem?_eq_getElem hj] using this)
      go_wp2_with fail
      go_ret
      exact ⟨by rw [HN.out]; rfl, rfl⟩

theorem sums_any (base : Nat) (v : Value) (l : List Bs) (w : World) (h : SRow w base v l) :
    Calls Tryz.prog 83 #[v] w fun e w' => e = .returned (.bool (all32 l)) ∧ w = w' := by
  rcases h.cells with ⟨rfl, rfl⟩ | ⟨g, cap, rfl, hb, hlt, hn, hm, hc, hf⟩
  · exact sums_nil w
  · exact sums_own g 0 l.length cap l rfl (by unfold maxLen at hm; omega) w (fun i hi => by simpa using hc i hi)

end Go.Proofs.YtdddcncjmnekcaaGreatDoor
