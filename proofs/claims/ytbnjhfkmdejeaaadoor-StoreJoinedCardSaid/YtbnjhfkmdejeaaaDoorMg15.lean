/- Open, StrV, MVal, StepV. -/
import Derived.ChangeKeysEq
import Derived.Test.YtbnjhfkmdejeaaaDoorMg1
import Derived.Test.YtbnjhfkmdejeaaaDoorMg2
import Derived.Test.YtbnjhfkmdejeaaaDoorMg3
set_option linter.unnecessarySimpa false

/- What an argument of plain data looks like: its shape, computed from the type; a reading tells that the cells are of that shape. -/
set_option linter.unusedSimpArgs false
set_option linter.unusedVariables false
namespace Go.Proofs.YtbnjhfkmdejeaaaDoor
open Go.ChangeShapes Go.WideShapes Go.ChangeAt Go.RowKit

inductive Sh where
  | int (k : IntKind)
  | str
  | bool
  | slice (c : Nat) (e : Sh)
  | unit
  | pair (a b : Sh)

def Sh.cells : Sh → Nat
  | .unit => 0
  | .pair a b => a.cells + b.cells
  | _ => 1

def Sh.Ok (w : World) : Sh → List Value → Prop
  | .int k, cs => ∃ n, cs = [.int k n] ∧ (Lit.int k n).wf = true
  | .str, cs => ∃ s : ByteArray, cs = [.string s] ∧ s.size ≤ maxLen
  | .bool, cs => ∃ b, cs = [.bool b]
  | .slice c e, cs => cs = [.slice none 0 0] ∨ ∃ a len cap, cs = [.slice (some a) len cap] ∧ len ≤ cap ∧ cap ≤ maxLen ∧
      ∀ i, i < len → ∃ cs', w.cells? 0 (a.add (i * c)) c = some cs' ∧ e.Ok w cs'
  | .unit, cs => cs = []
  | .pair a b, cs => ∃ x y, cs = x ++ y ∧ a.Ok w x ∧ b.Ok w y

theorem Sh.Ok.len {w : World} : ∀ {s : Sh} {cs : List Value}, s.Ok w cs → cs.length = s.cells
  | .int _, _, h => by obtain ⟨n, rfl, _⟩ := h; rfl
  | .str, _, h => by obtain ⟨n, rfl, _⟩ := h; rfl
  | .bool, _, h => by obtain ⟨n, rfl⟩ := h; rfl
  | .slice _ _, _, h => by rcases h with rfl | ⟨a, l, c, rfl, _⟩ <;> rfl
  | .unit, _, h => by rw [show _ = [] from h]; rfl
  | .pair a b, _, h => by
    obtain ⟨x, y, rfl, hx, hy⟩ := h
    simp [Sh.cells, hx.len, hy.len]

theorem slice_cells {w : World} {a : Addr} {c len : Nat} {e : Sh} (hc : 0 < c) (hlen : 0 < len)
    (h : ∀ i, i < len → ∃ cs', w.cells? 0 (a.add (i * c)) c = some cs' ∧ e.Ok w cs') :
    a.spot = none ∧ ∀ i, i < len → ∃ cs', e.Ok w cs' ∧ cs'.length = c ∧ ∀ j, j < c → w.cell? ⟨a.block, a.off + i * c + j, none⟩ = cs'[j]? := by
  obtain ⟨b, off, spot⟩ := a
  have hs : spot = none := by
    obtain ⟨cs', h1, _⟩ := h 0 hlen
    obtain ⟨_, hl, h2⟩ := World.cells?_some h1
    have h3 := h2 0 hc
    simp only [Nat.zero_mul, Addr.add, if_true] at h3
    cases spot with
    | none => rfl
    | some s =>
      exfalso
      unfold World.cell? at h3
      rw [List.getElem?_eq_getElem (by omega)] at h3
      split at h3 <;> simp at h3
  subst hs
  refine ⟨rfl, fun i hi => ?_⟩
  obtain ⟨cs', h1, ho⟩ := h i hi
  obtain ⟨_, hl, h2⟩ := World.cells?_some h1
  refine ⟨cs', ho, hl, fun j hj => ?_⟩
  have h3 := h2 j hj
  rw [← h3]
  congr 1
  unfold Addr.add
  by_cases hi0 : i * c = 0
  · by_cases hj0 : j = 0
    · simp [hi0, hj0]
    · simp [hi0, hj0]
  · by_cases hj0 : j = 0
    · simp [hi0, hj0]
    · simp [hi0, hj0]

def repSh (a : Sh) : Nat → Sh
  | 0 => .unit
  | n + 1 => .pair a (repSh a n)

def fieldsSh (P : Program) (f : TypeId → Option Sh) : List Field → Nat → Nat → Option Sh
  | [], off, total => if off = total then some .unit else none
  | x :: xs, off, total =>
    match f x.type with
    | some a => if x.offset = off ∧ a.cells = P.cellsOf x.type then (fieldsSh P f xs (off + a.cells) total).map (.pair a) else none
    | none => none

def shapeOf (P : Program) : Nat → TypeId → Option Sh
  | 0, _ => none
  | n + 1, t =>
    match P.underlying t with
    | some .bool => some .bool
    | some (.int k) => some (.int k)
    | some .string => some .str
    | some (.slice e) => match shapeOf P n e with
      | some s => if s.cells = P.cellsOf e then some (.slice (P.cellsOf e) s) else none
      | none => none
    | some (.struct fs) => fieldsSh P (shapeOf P n) fs.toList 0 (P.cellsOf t)
    | some (.array k e) => match shapeOf P n e with
      | some s => if s.cells = P.cellsOf e ∧ k * P.cellsOf e = P.cellsOf t then some (repSh s k) else none
      | none => none
    | _ => none

section
variable {H : Type} {enc : TypeId × Value → H} {P : Program} {w : World} {spare : Nat → Bool} {held : Bool}

theorem rep_ok {s : Sh} {c : Nat} (hc : s.cells = c) : ∀ (k : Nat) (cs : List Value), cs.length = k * c →
    (∀ i, i < k → s.Ok w ((cs.drop (i * c)).take c)) → (repSh s k).Ok w cs
  | 0, cs, hl, _ => by
    have : cs = [] := by simpa using hl
    exact this
  | k + 1, cs, hl, h => by
    refine ⟨cs.take c, cs.drop c, (List.take_append_drop c cs).symm, by simpa using h 0 (by omega), rep_ok hc k _ ?_ (fun i hi => ?_)⟩
    · rw [List.length_drop, hl, Nat.succ_mul]; omega
    · have := h (i + 1) (by omega)
      rw [List.drop_drop]
      rw [Nat.succ_mul] at this
      rwa [Nat.add_comm c (i * c)]

theorem fields_ok {f : TypeId → Option Sh} {n : Nat} (ih : ∀ t s, f t = some s → ∀ cs x, DataW.trod enc P w 0 spare held n t cs = some x → s.Ok w cs) {cs : List Value} :
    ∀ (fs : List Field) (off total : Nat) (s : Sh), fieldsSh P f fs off total = some s → cs.length = total →
      (∀ x ∈ fs, ∃ y, DataW.trod enc P w 0 spare held n x.type ((cs.drop x.offset).take (P.cellsOf x.type)) = some y) → s.Ok w (cs.drop off)
  | [], off, total, s, h, hl, _ => by
    simp only [fieldsSh] at h
    split at h
    · cases h
      rename_i e
      show cs.drop off = []
      rw [e, ← hl]; simp
    · cases h
  | x :: xs, off, total, s, h, hl, hx => by
    simp only [fieldsSh] at h
    split at h
    · rename_i a ha
      split at h
      · rename_i hc
        cases hr : fieldsSh P f xs (off + a.cells) total with
        | none => rw [hr] at h; cases h
        | some r =>
          rw [hr] at h
          cases h
          obtain ⟨y, hy⟩ := hx x (by simp)
          rw [hc.1] at hy
          have h1 := ih _ _ ha _ _ hy
          have h2 := fields_ok ih xs (off + a.cells) total r hr hl (fun z hz => hx z (by simp [hz]))
          refine ⟨(cs.drop off).take (P.cellsOf x.type), (cs.drop off).drop (P.cellsOf x.type), (List.take_append_drop _ _).symm, h1, ?_⟩
          rw [List.drop_drop, ← hc.2]
          exact h2
      · cases h
    · cases h

theorem shape_ok : ∀ (m : Nat) (t : TypeId) (s : Sh), shapeOf P m t = some s → ∀ (fuel : Nat) (cs : List Value) (x : DataW H × List MemPlace),
    DataW.trod enc P w 0 spare held fuel t cs = some x → s.Ok w cs
  | 0, _, _, h, _, _, _, _ => by cases h
  | m + 1, t, s, h, fuel, cs, x, hx => by
    unfold shapeOf at h
    split at h
    · rename_i ht
      cases h
      obtain ⟨b, hb, _⟩ := DataW.trod_bool ht hx
      exact ⟨b, hb⟩
    · rename_i k ht
      cases h
      obtain ⟨b, hb, _, hw⟩ := DataW.trod_int ht hx
      exact ⟨b, hb, hw⟩
    · rename_i ht
      cases h
      obtain ⟨b, hb, _, hw⟩ := DataW.trod_string ht hx
      exact ⟨b, hb, hw⟩
    · rename_i e ht
      split at h
      · rename_i s' hs
        split at h
        · cases h
          rcases DataW.trod_slice ht hx with ⟨h1, _⟩ | ⟨a, len, cap, elems, rest, n, _, hcs, _, _, hl, hm, hlen, hel, _⟩
          · exact .inl h1
          · refine .inr ⟨a, len, cap, hcs, hl, hm, fun i hi => ?_⟩
            have h2 := hel i hi
            rw [List.getElem?_eq_getElem (by omega)] at h2
            cases hc : w.cells? 0 (a.add (i * P.cellsOf e)) (P.cellsOf e) with
            | none => rw [hc] at h2; cases h2
            | some cs' =>
              rw [hc] at h2
              exact ⟨cs', rfl, shape_ok m e _ hs n cs' _ h2⟩
        · cases h
      · cases h
    · rename_i fs ht
      obtain ⟨xs, n, _, _, hl, hlen, hf⟩ := DataW.trod_struct ht hx
      have := fields_ok (cs := cs) (n := n) (fun t s hs cs x hx => shape_ok m t s hs n cs x hx) fs.toList 0 (P.cellsOf t) s h hl (fun f hmem => by
        obtain ⟨i, hi, rfl⟩ := List.getElem_of_mem hmem
        have h3 := hf i fs.toList[i] (by simp)
        rw [List.getElem?_eq_getElem (by rw [hlen]; simpa using hi)] at h3
        exact ⟨_, h3⟩)
      simpa using this
    · rename_i k e ht
      split at h
      · rename_i s' hs
        split at h
        · rename_i hc
          cases h
          obtain ⟨xs, n, _, _, hl, hlen, hf⟩ := DataW.trod_array ht hx
          refine rep_ok hc.1 k cs (hl.trans hc.2.symm) (fun i hi => ?_)
          have h3 := hf i hi
          rw [List.getElem?_eq_getElem (by omega)] at h3
          exact shape_ok m e _ hs n _ _ h3
        · cases h
      · cases h
    · cases h

/-- The value of a parameter: an aggregate's cells, or the one value. -/
def Sh.Val (w : World) (s : Sh) (v : Value) : Prop :=
  match s with
  | .unit | .pair _ _ => ∃ cs : List Value, v = .agg cs.toArray ∧ s.Ok w cs
  | s => s.Ok w [v]

theorem fieldsSh_agg {f : TypeId → Option Sh} : ∀ {fs : List Field} {off total : Nat} {s : Sh}, fieldsSh P f fs off total = some s → s = .unit ∨ ∃ a b, s = .pair a b
  | [], off, total, s, h => by
    simp only [fieldsSh] at h
    split at h
    · cases h; exact .inl rfl
    · cases h
  | x :: xs, off, total, s, h => by
    simp only [fieldsSh] at h
    split at h
    · split at h
      · cases hr : fieldsSh P f xs (off + _) total with
        | none => rw [hr] at h; cases h
        | some r => rw [hr] at h; cases h; exact .inr ⟨_, _, rfl⟩
      · cases h
    · cases h

theorem shape_val {r : Reach} {b0 : Nat} {m : Nat} {t : TypeId} {s : Sh} (h : shapeOf P m t = some s) {v : Value} {d : DataW H} {ps : List MemPlace}
    (hval : Value.okWide P w r b0 t v) (hd : DataW.Trod enc P w 0 spare held t v d ps) : s.Val w v := by
  obtain ⟨fuel, hf⟩ := hd
  have hok := shape_ok m t s h fuel _ _ hf
  cases m with
  | zero => cases h
  | succ m =>
    unfold shapeOf at h
    split at h
    · rename_i ht
      cases h
      obtain ⟨b, rfl⟩ := okWide_bool ht hval
      exact hok
    · rename_i k ht
      cases h
      obtain ⟨b, rfl⟩ := okWide_int ht hval
      exact hok
    · rename_i ht
      cases h
      obtain ⟨b, rfl⟩ := okWide_string ht hval
      exact hok
    · rename_i e ht
      split at h
      · split at h
        · cases h
          obtain ⟨a, l, c, rfl⟩ := okWide_slice ht hval
          exact hok
        · cases h
      · cases h
    · rename_i fs ht
      obtain ⟨cs, rfl, _⟩ := okWide_struct ht hval
      rcases fieldsSh_agg h with rfl | ⟨a, b, rfl⟩
      · exact ⟨cs.toList, by simp, hok⟩
      · exact ⟨cs.toList, by simp, hok⟩
    · rename_i k e ht
      have hv : ∃ cs : Array Value, v = .agg cs := by
        simp only [Value.okWide, ht] at hval
        obtain ⟨cs, h1, _⟩ := hval
        exact ⟨cs, h1⟩
      obtain ⟨cs, rfl⟩ := hv
      split at h
      · split at h
        · cases h
          cases k with
          | zero => exact ⟨cs.toList, by simp, hok⟩
          | succ k => exact ⟨cs.toList, by simp, hok⟩
        · cases h
      · cases h
    · cases h
end

end Go.Proofs.YtbnjhfkmdejeaaaDoor

/- An argument that is a text. -/
set_option linter.unusedVariables false
namespace Go.Proofs.YtbnjhfkmdejeaaaDoor
open Go.ChangeShapes Go.WideShapes Go.ChangeAt Go.RowKit Pl

theorem str_list (s : ByteArray) : s = ⟨List.toArray s.data.toList⟩ := by
  apply ByteArray.ext
  simp
theorem str_val {W : World} {v : Value} (h : Sh.Val W .str v) : ∃ s : Bs, v = .string ⟨List.toArray (s)⟩ := by
  obtain ⟨s, hs, _⟩ := h
  obtain rfl : v = .string s := by simpa using hs
  exact ⟨s.data.toList, congrArg Value.string (str_list s)⟩

theorem str_beq (x y : List UInt8) : ((⟨List.toArray x⟩ : ByteArray) == ⟨List.toArray y⟩) = decide (x = y) := by
  rw [beq_toListBytes, ByteArray.toList_eq, ByteArray.toList_eq, Bool.eq_iff_iff]
  simp

end Go.Proofs.YtbnjhfkmdejeaaaDoor

/- An argument of the type []api.Member is a list of members of ours. -/
set_option linter.unusedVariables false
namespace Go.Proofs.YtbnjhfkmdejeaaaDoor
open Go.ChangeShapes Go.WideShapes Go.ChangeAt Go.RowKit Pl

theorem cell_lt {W : World} {g o : Nat} {x : Value} (h : W.cell? ⟨g, o, none⟩ = some x) : g < W.heap.size := by
  rcases Nat.lt_or_ge g W.heap.size with hlt | hge
  · exact hlt
  · unfold World.cell? at h
    rw [Array.getElem?_eq_none hge] at h
    simp at h
theorem ms_val {W : World} {v : Value} (h : Sh.Val W (.slice 2 (.pair .str (.pair (.int .i64) .unit))) v) : ∃ l : List (Bs × Int), MS W v l := by
  rcases (show _ ∨ _ from h) with h | ⟨a, len, cap, hv, hlc, hcm, hel⟩
  · obtain rfl : v = .slice none 0 0 := by simpa using h
    exact ⟨[], none, 0, rfl, Nat.le_refl _, by unfold maxLen; omega, fun h => absurd rfl h⟩
  · obtain rfl : v = .slice (some a) len cap := by simpa using hv
    rcases Nat.eq_zero_or_pos len with h0 | hpos
    · subst h0
      exact ⟨[], some a, cap, rfl, hlc, hcm, fun h => absurd rfl h⟩
    · obtain ⟨hs, hc⟩ := slice_cells (by decide) hpos hel
      have hf : ∀ i, ∃ x : Bs × Int, i < len → W.cell? ⟨a.block, a.off + i * 2, none⟩ = some (.string ⟨List.toArray (x.1)⟩) ∧ W.cell? ⟨a.block, a.off + i * 2 + 1, none⟩ = some (.int .i64 (x.2)) := by
        intro i
        by_cases hi : i < len
        · obtain ⟨cs, ⟨x, y, rfl, ⟨s, rfl, _⟩, z, u, rfl, ⟨n, rfl, _⟩, hu⟩, _, hj⟩ := hc i hi
          have h0 := hj 0 (by decide)
          have h1 := hj 1 (by decide)
          refine ⟨(s.data.toList, n), fun _ => ⟨?_, ?_⟩⟩
          · rw [← str_list s]
            simpa using h0
          · simpa using h1
        · exact ⟨([], 0), fun h => absurd h hi⟩
      obtain ⟨f, hf⟩ := Classical.axiomOfChoice hf
      obtain ⟨b, off, sp⟩ := a
      simp only at hs
      subst hs
      refine ⟨(List.range len).map f, some ⟨b, off, none⟩, cap, by simp, by simpa using hlc, hcm, fun _ => ⟨b, off, rfl, cell_lt (hf 0 hpos).1, fun i hi => ?_⟩⟩
      have hi' : i < len := by simpa using hi
      have hg : ((List.range len).map f).getD i ([], 0) = f i := by simp [List.getD, hi']
      rw [hg]
      exact hf i hi'

end Go.Proofs.YtbnjhfkmdejeaaaDoor

/- Steps that sign, as an argument; a case. -/
set_option linter.unusedVariables false
namespace Go.Proofs.YtbnjhfkmdejeaaaDoor
open Go.ChangeShapes Go.WideShapes Go.ChangeAt Go.RowKit Pl

/-- A step that signs: tag, who, sum, dishonest. -/
abbrev Stp := Int × Bs × Bs × Bool
abbrev stp0 : Stp := (0, [], [], false)
def TSrc (w : World) (g o : Nat) (l : List Stp) : Prop := ∀ i, i < l.length → w.cell? ⟨g, o + i * 4, none⟩ = some (.int .i64 ((l.getD i stp0).1)) ∧ w.cell? ⟨g, o + i * 4 + 1, none⟩ = some (.string ⟨List.toArray ((l.getD i stp0).2.1)⟩) ∧
  w.cell? ⟨g, o + i * 4 + 2, none⟩ = some (.string ⟨List.toArray ((l.getD i stp0).2.2.1)⟩) ∧ w.cell? ⟨g, o + i * 4 + 3, none⟩ = some (.bool (l.getD i stp0).2.2.2)
def TS (w : World) (v : Value) (l : List Stp) : Prop :=
  ∃ a cap, v = .slice a l.length cap ∧ l.length ≤ cap ∧ cap ≤ maxLen ∧ (l ≠ [] → ∃ g off, a = some ⟨g, off, none⟩ ∧ g < w.heap.size ∧ TSrc w g off l)
/-- Its texts are not longer than any can be. -/
def TShort (l : List Stp) : Prop := ∀ i, i < l.length → (l.getD i stp0).2.1.length ≤ maxLen ∧ (l.getD i stp0).2.2.1.length ≤ maxLen
theorem TS.keep {W w : World} {v : Value} {l : List Stp} (h : TS W v l) (hb : Below W.heap.size W w) : TS w v l := by
  obtain ⟨a, cap, h1, h2, h3, h4⟩ := h
  refine ⟨a, cap, h1, h2, h3, fun hl => ?_⟩
  obtain ⟨g, off, e, hg, hc⟩ := h4 hl
  exact ⟨g, off, e, Nat.lt_of_lt_of_le hg hb.size, fun i hi => ⟨(hb.cell (p := ⟨g, off + i * 4, none⟩) hg).trans (hc i hi).1, (hb.cell (p := ⟨g, off + i * 4 + 1, none⟩) hg).trans (hc i hi).2.1,
    (hb.cell (p := ⟨g, off + i * 4 + 2, none⟩) hg).trans (hc i hi).2.2.1, (hb.cell (p := ⟨g, off + i * 4 + 3, none⟩) hg).trans (hc i hi).2.2.2⟩⟩
theorem TS.form {w : World} {v : Value} {l : List Stp} (h : TS w v l) : ∃ a c, v = .slice a l.length c := by
  obtain ⟨a, cap, h1, _⟩ := h
  exact ⟨a, cap, h1⟩
theorem TS.small {w : World} {v : Value} {l : List Stp} (h : TS w v l) : l.length ≤ 9223372036854775807 := by
  obtain ⟨a, cap, h1, h2, h3, _⟩ := h
  unfold maxLen at h3; omega
theorem TS.at {w : World} {v : Value} {l : List Stp} (h : TS w v l) {i : Nat} (hi : i < l.length) : ∃ g off cap, v = .slice (some ⟨g, off, none⟩) l.length cap ∧ g < w.heap.size ∧
    w.cell? ⟨g, off + i * 4, none⟩ = some (.int .i64 ((l.getD i stp0).1)) ∧ w.cell? ⟨g, off + i * 4 + 1, none⟩ = some (.string ⟨List.toArray ((l.getD i stp0).2.1)⟩) ∧
    w.cell? ⟨g, off + i * 4 + 2, none⟩ = some (.string ⟨List.toArray ((l.getD i stp0).2.2.1)⟩) ∧ w.cell? ⟨g, off + i * 4 + 3, none⟩ = some (.bool (l.getD i stp0).2.2.2) := by
  obtain ⟨a, cap, h1, h2, h3, h4⟩ := h
  obtain ⟨g, off, e, hg, hc⟩ := h4 (by intro e; subst e; simp at hi)
  subst e
  exact ⟨g, off, cap, h1, hg, hc i hi⟩

theorem ts_val {W : World} {v : Value} (h : Sh.Val W (.slice 4 (.pair (.int .i64) (.pair .str (.pair .str (.pair .bool .unit))))) v) : ∃ l : List Stp, TS W v l ∧ TShort l := by
  rcases (show _ ∨ _ from h) with h | ⟨a, len, cap, hv, hlc, hcm, hel⟩
  · obtain rfl : v = .slice none 0 0 := by simpa using h
    exact ⟨[], ⟨none, 0, rfl, Nat.le_refl _, by unfold maxLen; omega, fun h => absurd rfl h⟩, fun i hi => by simp at hi⟩
  · obtain rfl : v = .slice (some a) len cap := by simpa using hv
    rcases Nat.eq_zero_or_pos len with h0 | hpos
    · subst h0
      exact ⟨[], ⟨some a, cap, rfl, hlc, hcm, fun h => absurd rfl h⟩, fun i hi => by simp at hi⟩
    · obtain ⟨hs, hc⟩ := slice_cells (by decide) hpos hel
      have hf : ∀ i, ∃ x : Stp, i < len → (W.cell? ⟨a.block, a.off + i * 4, none⟩ = some (.int .i64 (x.1)) ∧ W.cell? ⟨a.block, a.off + i * 4 + 1, none⟩ = some (.string ⟨List.toArray (x.2.1)⟩) ∧
          W.cell? ⟨a.block, a.off + i * 4 + 2, none⟩ = some (.string ⟨List.toArray (x.2.2.1)⟩) ∧ W.cell? ⟨a.block, a.off + i * 4 + 3, none⟩ = some (.bool x.2.2.2)) ∧ x.2.1.length ≤ maxLen ∧ x.2.2.1.length ≤ maxLen := by
        intro i
        by_cases hi : i < len
        · obtain ⟨cs, ⟨c0, c1, rfl, ⟨n, rfl, _⟩, c2, c3, rfl, ⟨s, rfl, hs1⟩, c4, c5, rfl, ⟨s2, rfl, hs2⟩, c6, c7, rfl, ⟨b, rfl⟩, hu⟩, _, hj⟩ := hc i hi
          have h0 := hj 0 (by decide)
          have h1 := hj 1 (by decide)
          have h2 := hj 2 (by decide)
          have h3 := hj 3 (by decide)
          refine ⟨(n, s.data.toList, s2.data.toList, b), fun _ => ⟨⟨?_, ?_, ?_, ?_⟩, by rw [Array.length_toList]; exact hs1, by rw [Array.length_toList]; exact hs2⟩⟩
          · simpa using h0
          · rw [← str_list s]
            simpa using h1
          · rw [← str_list s2]
            simpa using h2
          · simpa using h3
        · exact ⟨stp0, fun h => absurd h hi⟩
      obtain ⟨f, hf⟩ := Classical.axiomOfChoice hf
      obtain ⟨b, off, sp⟩ := a
      simp only at hs
      subst hs
      have hg : ∀ i, i < len → ((List.range len).map f).getD i stp0 = f i := fun i hi' => by simp [List.getD, hi']
      refine ⟨(List.range len).map f, ⟨some ⟨b, off, none⟩, cap, by simp, by simpa using hlc, hcm, fun _ => ⟨b, off, rfl, cell_lt (hf 0 hpos).1.1, fun i hi => ?_⟩⟩, fun i hi => ?_⟩
      · have hi' : i < len := by simpa using hi
        rw [hg i hi']
        exact (hf i hi').1
      · have hi' : i < len := by simpa using hi
        rw [hg i hi']
        exact (hf i hi').2

/-- An argument that is a case: tag, set, steps. -/
theorem case_val {W : World} {v : Value} (h : Sh.Val W (.pair (.int .i64) (.pair (.slice 2 (.pair .str (.pair (.int .i64) .unit))) (.pair (.slice 4 (.pair (.int .i64) (.pair .str (.pair .str (.pair .bool .unit))))) .unit))) v) :
    ∃ (tag : Int) (mv sv : Value) (l : List (Bs × Int)) (st : List Stp), v = .agg #[.int .i64 (tag), mv, sv] ∧ MS W mv l ∧ TS W sv st ∧ TShort st := by
  obtain ⟨c0, rfl, x, y, rfl, ⟨n, rfl, _⟩, z, u, rfl, hz, x2, y2, rfl, hx2, hy2⟩ := h
  obtain rfl : y2 = [] := hy2
  obtain ⟨v1, rfl, hv1⟩ : ∃ v', z = [v'] ∧ Sh.Val W (.slice 2 (.pair .str (.pair (.int .i64) .unit))) v' := by
    rcases hz with rfl | ⟨a, len, cap, rfl, hr⟩
    · exact ⟨_, rfl, .inl rfl⟩
    · exact ⟨_, rfl, .inr ⟨a, len, cap, rfl, hr⟩⟩
  obtain ⟨v2, rfl, hv2⟩ : ∃ v', x2 = [v'] ∧ Sh.Val W (.slice 4 (.pair (.int .i64) (.pair .str (.pair .str (.pair .bool .unit))))) v' := by
    rcases hx2 with rfl | ⟨a, len, cap, rfl, hr⟩
    · exact ⟨_, rfl, .inl rfl⟩
    · exact ⟨_, rfl, .inr ⟨a, len, cap, rfl, hr⟩⟩
  obtain ⟨l, hl⟩ := ms_val hv1
  obtain ⟨st, hst, hsh⟩ := ts_val hv2
  exact ⟨n, v1, v2, l, st, rfl, hl, hst, hsh⟩
end Go.Proofs.YtbnjhfkmdejeaaaDoor
