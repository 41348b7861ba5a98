/- What an argument of plain data looks like: its shape, computed from the type; a reading tells that the cells are of that shape. -/
import Derived.Test.YtmldonbmjgelnaaDoorKit
set_option linter.unusedSimpArgs false
set_option linter.unusedVariables false
namespace Go.Proofs.YtmldonbmjgelnaaDoor
open Go.ChangeShapes Go.WideShapes Go.ChangeAt Go.RowKit

inductive Sh where
  | int (k : IntKind)
  | str
  | bool
  | slice (c : Nat) (e : Sh)
  | unit
  | pair (a b : Sh)

def Sh.cells : Sh → Nat
  | .unit => 0
  | .pair a b => a.cells + b.cells
  | _ => 1

def Sh.Ok (w : World) : Sh → List Value → Prop
  | .int k, cs => ∃ n, cs = [.int k n] ∧ (Lit.int k n).wf = true
  | .str, cs => ∃ s : ByteArray, cs = [.string s] ∧ s.size ≤ maxLen
  | .bool, cs => ∃ b, cs = [.bool b]
  | .slice c e, cs => cs = [.slice none 0 0] ∨ ∃ a len cap, cs = [.slice (some a) len cap] ∧ len ≤ cap ∧ cap ≤ maxLen ∧
      ∀ i, i < len → ∃ cs', w.cells? 0 (a.add (i * c)) c = some cs' ∧ e.Ok w cs'
  | .unit, cs => cs = []
  | .pair a b, cs => ∃ x y, cs = x ++ y ∧ a.Ok w x ∧ b.Ok w y

theorem Sh.Ok.len {w : World} : ∀ {s : Sh} {cs : List Value}, s.Ok w cs → cs.length = s.cells
  | .int _, _, h => by obtain ⟨n, rfl, _⟩ := h; rfl
  | .str, _, h => by obtain ⟨n, rfl, _⟩ := h; rfl
  | .bool, _, h => by obtain ⟨n, rfl⟩ := h; rfl
  | .slice _ _, _, h => by rcases h with rfl | ⟨a, l, c, rfl, _⟩ <;> rfl
  | .unit, _, h => by rw [show _ = [] from h]; rfl
  | .pair a b, _, h => by
    obtain ⟨x, y, rfl, hx, hy⟩ := h
    simp [Sh.cells, hx.len, hy.len]

theorem slice_cells {w : World} {a : Addr} {c len : Nat} {e : Sh} (hc : 0 < c) (hlen : 0 < len)
    (h : ∀ i, i < len → ∃ cs', w.cells? 0 (a.add (i * c)) c = some cs' ∧ e.Ok w cs') :
    a.spot = none ∧ ∀ i, i < len → ∃ cs', e.Ok w cs' ∧ cs'.length = c ∧ ∀ j, j < c → w.cell? ⟨a.block, a.off + i * c + j, none⟩ = cs'[j]? := by
  obtain ⟨b, off, spot⟩ := a
  have hs : spot = none := by
    obtain ⟨cs', h1, _⟩ := h 0 hlen
    obtain ⟨_, hl, h2⟩ := World.cells?_some h1
    have h3 := h2 0 hc
    simp only [Nat.zero_mul, Addr.add, if_true] at h3
    cases spot with
    | none => rfl
    | some s =>
      exfalso
      unfold World.cell? at h3
      rw [List.getElem?_eq_getElem (by omega)] at h3
      split at h3 <;> simp at h3
  subst hs
  refine ⟨rfl, fun i hi => ?_⟩
  obtain ⟨cs', h1, ho⟩ := h i hi
  obtain ⟨_, hl, h2⟩ := World.cells?_some h1
  refine ⟨cs', ho, hl, fun j hj => ?_⟩
  have h3 := h2 j hj
  rw [← h3]
  congr 1
  unfold Addr.add
  by_cases hi0 : i * c = 0
  · by_cases hj0 : j = 0
    · simp [hi0, hj0]
    · simp [hi0, hj0]
  · by_cases hj0 : j = 0
    · simp [hi0, hj0]
    · simp [hi0, hj0]

def repSh (a : Sh) : Nat → Sh
  | 0 => .unit
  | n + 1 => .pair a (repSh a n)

def fieldsSh (P : Program) (f : TypeId → Option Sh) : List Field → Nat → Nat → Option Sh
  | [], off, total => if off = total then some .unit else none
  | x :: xs, off, total =>
    match f x.type with
    | some a => if x.offset = off ∧ a.cells = P.cellsOf x.type then (fieldsSh P f xs (off + a.cells) total).map (.pair a) else none
    | none => none

def shapeOf (P : Program) : Nat → TypeId → Option Sh
  | 0, _ => none
  | n + 1, t =>
    match P.underlying t with
    | some .bool => some .bool
    | some (.int k) => some (.int k)
    | some .string => some .str
    | some (.slice e) => match shapeOf P n e with
      | some s => if s.cells = P.cellsOf e then some (.slice (P.cellsOf e) s) else none
      | none => none
    | some (.struct fs) => fieldsSh P (shapeOf P n) fs.toList 0 (P.cellsOf t)
    | some (.array k e) => match shapeOf P n e with
      | some s => if s.cells = P.cellsOf e ∧ k * P.cellsOf e = P.cellsOf t then some (repSh s k) else none
      | none => none
    | _ => none

section
variable {H : Type} {enc : TypeId × Value → H} {P : Program} {w : World} {spare : Nat → Bool} {held : Bool}

theorem rep_ok {s : Sh} {c : Nat} (hc : s.cells = c) : ∀ (k : Nat) (cs : List Value), cs.length = k * c →
    (∀ i, i < k → s.Ok w ((cs.drop (i * c)).take c)) → (repSh s k).Ok w cs
  | 0, cs, hl, _ => by
    have : cs = [] := by simpa using hl
    exact this
  | k + 1, cs, hl, h => by
    refine ⟨cs.take c, cs.drop c, (List.take_append_drop c cs).symm, by simpa using h 0 (by omega), rep_ok hc k _ ?_ (fun i hi => ?_)⟩
    · rw [List.length_drop, hl, Nat.succ_mul]; omega
    · have := h (i + 1) (by omega)
      rw [List.drop_drop]
      rw [Nat.succ_mul] at this
      rwa [Nat.add_comm c (i * c)]

theorem fields_ok {f : TypeId → Option Sh} {n : Nat} (ih : ∀ t s, f t = some s → ∀ cs x, DataW.trod enc P w 0 spare held n t cs = some x → s.Ok w cs) {cs : List Value} :
    ∀ (fs : List Field) (off total : Nat) (s : Sh), fieldsSh P f fs off total = some s → cs.length = total →
      (∀ x ∈ fs, ∃ y, DataW.trod enc P w 0 spare held n x.type ((cs.drop x.offset).take (P.cellsOf x.type)) = some y) → s.Ok w (cs.drop off)
  | [], off, total, s, h, hl, _ => by
    simp only [fieldsSh] at h
    split at h
    · cases h
      rename_i e
      show cs.drop off = []
      rw [e, ← hl]; simp
    · cases h
  | x :: xs, off, total, s, h, hl, hx => by
    simp only [fieldsSh] at h
    split at h
    · rename_i a ha
      split at h
      · rename_i hc
        cases hr : fieldsSh P f xs (off + a.cells) total with
        | none => rw [hr] at h; cases h
        | some r =>
          rw [hr] at h
          cases h
          obtain ⟨y, hy⟩ := hx x (by simp)
          rw [hc.1] at hy
          have h1 := ih _ _ ha _ _ hy
          have h2 := fields_ok ih xs (off + a.cells) total r hr hl (fun z hz => hx z (by simp [hz]))
          refine ⟨(cs.drop off).take (P.cellsOf x.type), (cs.drop off).drop (P.cellsOf x.type), (List.take_append_drop _ _).symm, h1, ?_⟩
          rw [List.drop_drop, ← hc.2]
          exact h2
      · cases h
    · cases h

theorem shape_ok : ∀ (m : Nat) (t : TypeId) (s : Sh), shapeOf P m t = some s → ∀ (fuel : Nat) (cs : List Value) (x : DataW H × List MemPlace),
    DataW.trod enc P w 0 spare held fuel t cs = some x → s.Ok w cs
  | 0, _, _, h, _, _, _, _ => by cases h
  | m + 1, t, s, h, fuel, cs, x, hx => by
    unfold shapeOf at h
    split at h
    · rename_i ht
      cases h
      obtain ⟨b, hb, _⟩ := DataW.trod_bool ht hx
      exact ⟨b, hb⟩
    · rename_i k ht
      cases h
      obtain ⟨b, hb, _, hw⟩ := DataW.trod_int ht hx
      exact ⟨b, hb, hw⟩
    · rename_i ht
      cases h
      obtain ⟨b, hb, _, hw⟩ := DataW.trod_string ht hx
      exact ⟨b, hb, hw⟩
    · rename_i e ht
      split at h
      · rename_i s' hs
        split at h
        · cases h
          rcases DataW.trod_slice ht hx with ⟨h1, _⟩ | ⟨a, len, cap, elems, rest, n, _, hcs, _, _, hl, hm, hlen, hel, _⟩
          · exact .inl h1
          · refine .inr ⟨a, len, cap, hcs, hl, hm, fun i hi => ?_⟩
            have h2 := hel i hi
            rw [List.getElem?_eq_getElem (by omega)] at h2
            cases hc : w.cells? 0 (a.add (i * P.cellsOf e)) (P.cellsOf e) with
            | none => rw [hc] at h2; cases h2
            | some cs' =>
              rw [hc] at h2
              exact ⟨cs', rfl, shape_ok m e _ hs n cs' _ h2⟩
        · cases h
      · cases h
    · rename_i fs ht
      obtain ⟨xs, n, _, _, hl, hlen, hf⟩ := DataW.trod_struct ht hx
      have := fields_ok (cs := cs) (n := n) (fun t s hs cs x hx => shape_ok m t s hs n cs x hx) fs.toList 0 (P.cellsOf t) s h hl (fun f hmem => by
        obtain ⟨i, hi, rfl⟩ := List.getElem_of_mem hmem
        have h3 := hf i fs.toList[i] (by simp)
        rw [List.getElem?_eq_getElem (by rw [hlen]; simpa using hi)] at h3
        exact ⟨_, h3⟩)
      simpa using this
    · rename_i k e ht
      split at h
      · rename_i s' hs
        split at h
        · rename_i hc
          cases h
          obtain ⟨xs, n, _, _, hl, hlen, hf⟩ := DataW.trod_array ht hx
          refine rep_ok hc.1 k cs (hl.trans hc.2.symm) (fun i hi => ?_)
          have h3 := hf i hi
          rw [List.getElem?_eq_getElem (by omega)] at h3
          exact shape_ok m e _ hs n _ _ h3
        · cases h
      · cases h
    · cases h

/-- The value of a parameter: an aggregate's cells, or the one value. -/
def Sh.Val (w : World) (s : Sh) (v : Value) : Prop :=
  match s with
  | .unit | .pair _ _ => ∃ cs : List Value, v = .agg cs.toArray ∧ s.Ok w cs
  | s => s.Ok w [v]

theorem fieldsSh_agg {f : TypeId → Option Sh} : ∀ {fs : List Field} {off total : Nat} {s : Sh}, fieldsSh P f fs off total = some s → s = .unit ∨ ∃ a b, s = .pair a b
  | [], off, total, s, h => by
    simp only [fieldsSh] at h
    split at h
    · cases h; exact .inl rfl
    · cases h
  | x :: xs, off, total, s, h => by
    simp only [fieldsSh] at h
    split at h
    · split at h
      · cases hr : fieldsSh P f xs (off + _) total with
        | none => rw [hr] at h; cases h
        | some r => rw [hr] at h; cases h; exact .inr ⟨_, _, rfl⟩
      · cases h
    · cases h

theorem shape_val {r : Reach} {b0 : Nat} {m : Nat} {t : TypeId} {s : Sh} (h : shapeOf P m t = some s) {v : Value} {d : DataW H} {ps : List MemPlace}
    (hval : Value.okWide P w r b0 t v) (hd : DataW.Trod enc P w 0 spare held t v d ps) : s.Val w v := by
  obtain ⟨fuel, hf⟩ := hd
  have hok := shape_ok m t s h fuel _ _ hf
  cases m with
  | zero => cases h
  | succ m =>
    unfold shapeOf at h
    split at h
    · rename_i ht
      cases h
      obtain ⟨b, rfl⟩ := okWide_bool ht hval
      exact hok
    · rename_i k ht
      cases h
      obtain ⟨b, rfl⟩ := okWide_int ht hval
      exact hok
    · rename_i ht
      cases h
      obtain ⟨b, rfl⟩ := okWide_string ht hval
      exact hok
    · rename_i e ht
      split at h
      · split at h
        · cases h
          obtain ⟨a, l, c, rfl⟩ := okWide_slice ht hval
          exact hok
        · cases h
      · cases h
    · rename_i fs ht
      obtain ⟨cs, rfl, _⟩ := okWide_struct ht hval
      rcases fieldsSh_agg h with rfl | ⟨a, b, rfl⟩
      · exact ⟨cs.toList, by simp, hok⟩
      · exact ⟨cs.toList, by simp, hok⟩
    · rename_i k e ht
      have hv : ∃ cs : Array Value, v = .agg cs := by
        simp only [Value.okWide, ht] at hval
        obtain ⟨cs, h1, _⟩ := hval
        exact ⟨cs, h1⟩
      obtain ⟨cs, rfl⟩ := hv
      split at h
      · split at h
        · cases h
          cases k with
          | zero => exact ⟨cs.toList, by simp, hok⟩
          | succ k => exact ⟨cs.toList, by simp, hok⟩
        · cases h
      · cases h
    · cases h
end

end Go.Proofs.YtmldonbmjgelnaaDoor
