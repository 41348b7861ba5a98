/- Open, StrV, MVal, Pairs, SafetyWorks, Agree. -/
import Derived.ChangeKeysEq
import Derived.Test.YtbnjhfkmdejeaaaMg1
import Derived.Test.YtbnjhfkmdejeaaaMg2
import Derived.Test.YtbnjhfkmdejeaaaMg3
import Derived.Test.YtbnjhfkmdejeaaaMg4
import Derived.Test.YtbnjhfkmdejeaaaMg6
import Derived.Test.YtbnjhfkmdejeaaaMg7
set_option linter.unnecessarySimpa false

/- What an argument of plain data looks like: its shape, computed from the type; a reading tells that the cells are of that shape. -/
set_option linter.unusedSimpArgs false
set_option linter.unusedVariables false
namespace Go.Proofs.Ytbnjhfkmdejeaaa
open Go.ChangeShapes Go.WideShapes Go.ChangeAt Go.RowKit

inductive Sh where
  | int (k : IntKind)
  | str
  | bool
  | slice (c : Nat) (e : Sh)
  | unit
  | pair (a b : Sh)

def Sh.cells : Sh → Nat
  | .unit => 0
  | .pair a b => a.cells + b.cells
  | _ => 1

def Sh.Ok (w : World) : Sh → List Value → Prop
  | .int k, cs => ∃ n, cs = [.int k n] ∧ (Lit.int k n).wf = true
  | .str, cs => ∃ s : ByteArray, cs = [.string s] ∧ s.size ≤ maxLen
  | .bool, cs => ∃ b, cs = [.bool b]
  | .slice c e, cs => cs = [.slice none 0 0] ∨ ∃ a len cap, cs = [.slice (some a) len cap] ∧ len ≤ cap ∧ cap ≤ maxLen ∧
      ∀ i, i < len → ∃ cs', w.cells? 0 (a.add (i * c)) c = some cs' ∧ e.Ok w cs'
  | .unit, cs => cs = []
  | .pair a b, cs => ∃ x y, cs = x ++ y ∧ a.Ok w x ∧ b.Ok w y

theorem Sh.Ok.len {w : World} : ∀ {s : Sh} {cs : List Value}, s.Ok w cs → cs.length = s.cells
  | .int _, _, h => by obtain ⟨n, rfl, _⟩ := h; rfl
  | .str, _, h => by obtain ⟨n, rfl, _⟩ := h; rfl
  | .bool, _, h => by obtain ⟨n, rfl⟩ := h; rfl
  | .slice _ _, _, h => by rcases h with rfl | ⟨a, l, c, rfl, _⟩ <;> rfl
  | .unit, _, h => by rw [show _ = [] from h]; rfl
  | .pair a b, _, h => by
    obtain ⟨x, y, rfl, hx, hy⟩ := h
    simp [Sh.cells, hx.len, hy.len]

theorem slice_cells {w : World} {a : Addr} {c len : Nat} {e : Sh} (hc : 0 < c) (hlen : 0 < len)
    (h : ∀ i, i < len → ∃ cs', w.cells? 0 (a.add (i * c)) c = some cs' ∧ e.Ok w cs') :
    a.spot = none ∧ ∀ i, i < len → ∃ cs', e.Ok w cs' ∧ cs'.length = c ∧ ∀ j, j < c → w.cell? ⟨a.block, a.off + i * c + j, none⟩ = cs'[j]? := by
  obtain ⟨b, off, spot⟩ := a
  have hs : spot = none := by
    obtain ⟨cs', h1, _⟩ := h 0 hlen
    obtain ⟨_, hl, h2⟩ := World.cells?_some h1
    have h3 := h2 0 hc
    simp only [Nat.zero_mul, Addr.add, if_true] at h3
    cases spot with
    | none => rfl
    | some s =>
      exfalso
      unfold World.cell? at h3
      rw [List.getElem?_eq_getElem (by omega)] at h3
      split at h3 <;> simp at h3
  subst hs
  refine ⟨rfl, fun i hi => ?_⟩
  obtain ⟨cs', h1, ho⟩ := h i hi
  obtain ⟨_, hl, h2⟩ := World.cells?_some h1
  refine ⟨cs', ho, hl, fun j hj => ?_⟩
  have h3 := h2 j hj
  rw [← h3]
  congr 1
  unfold Addr.add
  by_cases hi0 : i * c = 0
  · by_cases hj0 : j = 0
    · simp [hi0, hj0]
    · simp [hi0, hj0]
  · by_cases hj0 : j = 0
    · simp [hi0, hj0]
    · simp [hi0, hj0]

def repSh (a : Sh) : Nat → Sh
  | 0 => .unit
  | n + 1 => .pair a (repSh a n)

def fieldsSh (P : Program) (f : TypeId → Option Sh) : List Field → Nat → Nat → Option Sh
  | [], off, total => if off = total then some .unit else none
  | x :: xs, off, total =>
    match f x.type with
    | some a => if x.offset = off ∧ a.cells = P.cellsOf x.type then (fieldsSh P f xs (off + a.cells) total).map (.pair a) else none
    | none => none

def shapeOf (P : Program) : Nat → TypeId → Option Sh
  | 0, _ => none
  | n + 1, t =>
    match P.underlying t with
    | some .bool => some .bool
    | some (.int k) => some (.int k)
    | some .string => some .str
    | some (.slice e) => match shapeOf P n e with
      | some s => if s.cells = P.cellsOf e then some (.slice (P.cellsOf e) s) else none
      | none => none
    | some (.struct fs) => fieldsSh P (shapeOf P n) fs.toList 0 (P.cellsOf t)
    | some (.array k e) => match shapeOf P n e with
      | some s => if s.cells = P.cellsOf e ∧ k * P.cellsOf e = P.cellsOf t then some (repSh s k) else none
      | none => none
    | _ => none

section
variable {H : Type} {enc : TypeId × Value → H} {P : Program} {w : World} {spare : Nat → Bool} {held : Bool}

theorem rep_ok {s : Sh} {c : Nat} (hc : s.cells = c) : ∀ (k : Nat) (cs : List Value), cs.length = k * c →
    (∀ i, i < k → s.Ok w ((cs.drop (i * c)).take c)) → (repSh s k).Ok w cs
  | 0, cs, hl, _ => by
    have : cs = [] := by simpa using hl
    exact this
  | k + 1, cs, hl, h => by
    refine ⟨cs.take c, cs.drop c, (List.take_append_drop c cs).symm, by simpa using h 0 (by omega), rep_ok hc k _ ?_ (fun i hi => ?_)⟩
    · rw [List.length_drop, hl, Nat.succ_mul]; omega
    · have := h (i + 1) (by omega)
      rw [List.drop_drop]
      rw [Nat.succ_mul] at this
      rwa [Nat.add_comm c (i * c)]

theorem fields_ok {f : TypeId → Option Sh} {n : Nat} (ih : ∀ t s, f t = some s → ∀ cs x, DataW.trod enc P w 0 spare held n t cs = some x → s.Ok w cs) {cs : List Value} :
    ∀ (fs : List Field) (off total : Nat) (s : Sh), fieldsSh P f fs off total = some s → cs.length = total →
      (∀ x ∈ fs, ∃ y, DataW.trod enc P w 0 spare held n x.type ((cs.drop x.offset).take (P.cellsOf x.type)) = some y) → s.Ok w (cs.drop off)
  | [], off, total, s, h, hl, _ => by
    simp only [fieldsSh] at h
    split at h
    · cases h
      rename_i e
      show cs.drop off = []
      rw [e, ← hl]; simp
    · cases h
  | x :: xs, off, total, s, h, hl, hx => by
    simp only [fieldsSh] at h
    split at h
    · rename_i a ha
      split at h
      · rename_i hc
        cases hr : fieldsSh P f xs (off + a.cells) total with
        | none => rw [hr] at h; cases h
        | some r =>
          rw [hr] at h
          cases h
          obtain ⟨y, hy⟩ := hx x (by simp)
          rw [hc.1] at hy
          have h1 := ih _ _ ha _ _ hy
          have h2 := fields_ok ih xs (off + a.cells) total r hr hl (fun z hz => hx z (by simp [hz]))
          refine ⟨(cs.drop off).take (P.cellsOf x.type), (cs.drop off).drop (P.cellsOf x.type), (List.take_append_drop _ _).symm, h1, ?_⟩
          rw [List.drop_drop, ← hc.2]
          exact h2
      · cases h
    · cases h

theorem shape_ok : ∀ (m : Nat) (t : TypeId) (s : Sh), shapeOf P m t = some s → ∀ (fuel : Nat) (cs : List Value) (x : DataW H × List MemPlace),
    DataW.trod enc P w 0 spare held fuel t cs = some x → s.Ok w cs
  | 0, _, _, h, _, _, _, _ => by cases h
  | m + 1, t, s, h, fuel, cs, x, hx => by
    unfold shapeOf at h
    split at h
    · rename_i ht
      cases h
      obtain ⟨b, hb, _⟩ := DataW.trod_bool ht hx
      exact ⟨b, hb⟩
    · rename_i k ht
      cases h
      obtain ⟨b, hb, _, hw⟩ := DataW.trod_int ht hx
      exact ⟨b, hb, hw⟩
    · rename_i ht
      cases h
      obtain ⟨b, hb, _, hw⟩ := DataW.trod_string ht hx
      exact ⟨b, hb, hw⟩
    · rename_i e ht
      split at h
      · rename_i s' hs
        split at h
        · cases h
          rcases DataW.trod_slice ht hx with ⟨h1, _⟩ | ⟨a, len, cap, elems, rest, n, _, hcs, _, _, hl, hm, hlen, hel, _⟩
          · exact .inl h1
          · refine .inr ⟨a, len, cap, hcs, hl, hm, fun i hi => ?_⟩
            have h2 := hel i hi
            rw [List.getElem?_eq_getElem (by omega)] at h2
            cases hc : w.cells? 0 (a.add (i * P.cellsOf e)) (P.cellsOf e) with
            | none => rw [hc] at h2; cases h2
            | some cs' =>
              rw [hc] at h2
              exact ⟨cs', rfl, shape_ok m e _ hs n cs' _ h2⟩
        · cases h
      · cases h
    · rename_i fs ht
      obtain ⟨xs, n, _, _, hl, hlen, hf⟩ := DataW.trod_struct ht hx
      have := fields_ok (cs := cs) (n := n) (fun t s hs cs x hx => shape_ok m t s hs n cs x hx) fs.toList 0 (P.cellsOf t) s h hl (fun f hmem => by
        obtain ⟨i, hi, rfl⟩ := List.getElem_of_mem hmem
        have h3 := hf i fs.toList[i] (by simp)
        rw [List.getElem?_eq_getElem (by rw [hlen]; simpa using hi)] at h3
        exact ⟨_, h3⟩)
      simpa using this
    · rename_i k e ht
      split at h
      · rename_i s' hs
        split at h
        · rename_i hc
          cases h
          obtain ⟨xs, n, _, _, hl, hlen, hf⟩ := DataW.trod_array ht hx
          refine rep_ok hc.1 k cs (hl.trans hc.2.symm) (fun i hi => ?_)
          have h3 := hf i hi
          rw [List.getElem?_eq_getElem (by omega)] at h3
          exact shape_ok m e _ hs n _ _ h3
        · cases h
      · cases h
    · cases h

/-- The value of a parameter: an aggregate's cells, or the one value. -/
def Sh.Val (w : World) (s : Sh) (v : Value) : Prop :=
  match s with
  | .unit | .pair _ _ => ∃ cs : List Value, v = .agg cs.toArray ∧ s.Ok w cs
  | s => s.Ok w [v]

theorem fieldsSh_agg {f : TypeId → Option Sh} : ∀ {fs : List Field} {off total : Nat} {s : Sh}, fieldsSh P f fs off total = some s → s = .unit ∨ ∃ a b, s = .pair a b
  | [], off, total, s, h => by
    simp only [fieldsSh] at h
    split at h
    · cases h; exact .inl rfl
    · cases h
  | x :: xs, off, total, s, h => by
    simp only [fieldsSh] at h
    split at h
    · split at h
      · cases hr : fieldsSh P f xs (off + _) total with
        | none => rw [hr] at h; cases h
        | some r => rw [hr] at h; cases h; exact .inr ⟨_, _, rfl⟩
      · cases h
    · cases h

theorem shape_val {r : Reach} {b0 : Nat} {m : Nat} {t : TypeId} {s : Sh} (h : shapeOf P m t = some s) {v : Value} {d : DataW H} {ps : List MemPlace}
    (hval : Value.okWide P w r b0 t v) (hd : DataW.Trod enc P w 0 spare held t v d ps) : s.Val w v := by
  obtain ⟨fuel, hf⟩ := hd
  have hok := shape_ok m t s h fuel _ _ hf
  cases m with
  | zero => cases h
  | succ m =>
    unfold shapeOf at h
    split at h
    · rename_i ht
      cases h
      obtain ⟨b, rfl⟩ := okWide_bool ht hval
      exact hok
    · rename_i k ht
      cases h
      obtain ⟨b, rfl⟩ := okWide_int ht hval
      exact hok
    · rename_i ht
      cases h
      obtain ⟨b, rfl⟩ := okWide_string ht hval
      exact hok
    · rename_i e ht
      split at h
      · split at h
        · cases h
          obtain ⟨a, l, c, rfl⟩ := okWide_slice ht hval
          exact hok
        · cases h
      · cases h
    · rename_i fs ht
      obtain ⟨cs, rfl, _⟩ := okWide_struct ht hval
      rcases fieldsSh_agg h with rfl | ⟨a, b, rfl⟩
      · exact ⟨cs.toList, by simp, hok⟩
      · exact ⟨cs.toList, by simp, hok⟩
    · rename_i k e ht
      have hv : ∃ cs : Array Value, v = .agg cs := by
        simp only [Value.okWide, ht] at hval
        obtain ⟨cs, h1, _⟩ := hval
        exact ⟨cs, h1⟩
      obtain ⟨cs, rfl⟩ := hv
      split at h
      · split at h
        · cases h
          cases k with
          | zero => exact ⟨cs.toList, by simp, hok⟩
          | succ k => exact ⟨cs.toList, by simp, hok⟩
        · cases h
      · cases h
    · cases h
end

end Go.Proofs.Ytbnjhfkmdejeaaa

/- An argument that is a text. -/
set_option linter.unusedVariables false
namespace Go.Proofs.Ytbnjhfkmdejeaaa
open Go.ChangeShapes Go.WideShapes Go.ChangeAt Go.RowKit Pl

theorem str_list (s : ByteArray) : s = ⟨List.toArray s.data.toList⟩ := by
  apply ByteArray.ext
  simp
theorem str_val {W : World} {v : Value} (h : Sh.Val W .str v) : ∃ s : Bs, v = .string ⟨List.toArray (s)⟩ := by
  obtain ⟨s, hs, _⟩ := h
  obtain rfl : v = .string s := by simpa using hs
  exact ⟨s.data.toList, congrArg Value.string (str_list s)⟩

theorem str_beq (x y : List UInt8) : ((⟨List.toArray x⟩ : ByteArray) == ⟨List.toArray y⟩) = decide (x = y) := by
  rw [beq_toListBytes, ByteArray.toList_eq, ByteArray.toList_eq, Bool.eq_iff_iff]
  simp

end Go.Proofs.Ytbnjhfkmdejeaaa

/- An argument of the type []api.Member is a list of members of ours. -/
set_option linter.unusedVariables false
namespace Go.Proofs.Ytbnjhfkmdejeaaa
open Go.ChangeShapes Go.WideShapes Go.ChangeAt Go.RowKit Pl

theorem cell_lt {W : World} {g o : Nat} {x : Value} (h : W.cell? ⟨g, o, none⟩ = some x) : g < W.heap.size := by
  rcases Nat.lt_or_ge g W.heap.size with hlt | hge
  · exact hlt
  · unfold World.cell? at h
    rw [Array.getElem?_eq_none hge] at h
    simp at h
theorem ms_val {W : World} {v : Value} (h : Sh.Val W (.slice 2 (.pair .str (.pair (.int .i64) .unit))) v) : ∃ l : List (Bs × Int), MS W v l := by
  rcases (show _ ∨ _ from h) with h | ⟨a, len, cap, hv, hlc, hcm, hel⟩
  · obtain rfl : v = .slice none 0 0 := by simpa using h
    exact ⟨[], none, 0, rfl, Nat.le_refl _, by unfold maxLen; omega, fun h => absurd rfl h⟩
  · obtain rfl : v = .slice (some a) len cap := by simpa using hv
    rcases Nat.eq_zero_or_pos len with h0 | hpos
    · subst h0
      exact ⟨[], some a, cap, rfl, hlc, hcm, fun h => absurd rfl h⟩
    · obtain ⟨hs, hc⟩ := slice_cells (by decide) hpos hel
      have hf : ∀ i, ∃ x : Bs × Int, i < len → W.cell? ⟨a.block, a.off + i * 2, none⟩ = some (.string ⟨List.toArray (x.1)⟩) ∧ W.cell? ⟨a.block, a.off + i * 2 + 1, none⟩ = some (.int .i64 (x.2)) := by
        intro i
        by_cases hi : i < len
        · obtain ⟨cs, ⟨x, y, rfl, ⟨s, rfl, _⟩, z, u, rfl, ⟨n, rfl, _⟩, hu⟩, _, hj⟩ := hc i hi
          have h0 := hj 0 (by decide)
          have h1 := hj 1 (by decide)
          refine ⟨(s.data.toList, n), fun _ => ⟨?_, ?_⟩⟩
          · rw [← str_list s]
            simpa using h0
          · simpa using h1
        · exact ⟨([], 0), fun h => absurd h hi⟩
      obtain ⟨f, hf⟩ := Classical.axiomOfChoice hf
      obtain ⟨b, off, sp⟩ := a
      simp only at hs
      subst hs
      refine ⟨(List.range len).map f, some ⟨b, off, none⟩, cap, by simp, by simpa using hlc, hcm, fun _ => ⟨b, off, rfl, cell_lt (hf 0 hpos).1, fun i hi => ?_⟩⟩
      have hi' : i < len := by simpa using hi
      have hg : ((List.range len).map f).getD i ([], 0) = f i := by simp [List.getD, hi']
      rw [hg]
      exact hf i hi'
theorem ss_val {W : World} {v : Value} (h : Sh.Val W (.slice 1 .str) v) : ∃ l : List Bs, SS W v l ∧ ∀ i, i < l.length → (l.getD i []).length ≤ maxLen := by
  rcases (show _ ∨ _ from h) with h | ⟨a, len, cap, hv, hlc, hcm, hel⟩
  · obtain rfl : v = .slice none 0 0 := by simpa using h
    exact ⟨[], SS.nil W, fun i hi => by simp at hi⟩
  · obtain rfl : v = .slice (some a) len cap := by simpa using hv
    rcases Nat.eq_zero_or_pos len with h0 | hpos
    · subst h0
      exact ⟨[], ⟨some a, cap, rfl, hlc, hcm, fun h => absurd rfl h⟩, fun i hi => by simp at hi⟩
    · obtain ⟨hs, hc⟩ := slice_cells (by decide) hpos hel
      have hf : ∀ i, ∃ x : Bs, i < len → W.cell? ⟨a.block, a.off + i, none⟩ = some (.string ⟨List.toArray (x)⟩) ∧ x.length ≤ maxLen := by
        intro i
        by_cases hi : i < len
        · obtain ⟨cs, ⟨s, rfl, hsl⟩, _, hj⟩ := hc i hi
          have h0 := hj 0 (by decide)
          refine ⟨s.data.toList, fun _ => ⟨?_, by rw [Array.length_toList]; exact hsl⟩⟩
          rw [← str_list s]
          simpa using h0
        · exact ⟨[], fun h => absurd h hi⟩
      obtain ⟨f, hf⟩ := Classical.axiomOfChoice hf
      obtain ⟨b, off, sp⟩ := a
      simp only at hs
      subst hs
      have hg : ∀ i, i < len → ((List.range len).map f).getD i [] = f i := fun i hi => by simp [List.getD, hi]
      refine ⟨(List.range len).map f, ⟨some ⟨b, off, none⟩, cap, by simp, by simpa using hlc, hcm, fun _ => ⟨b, off, rfl, cell_lt (hf 0 hpos).1, fun i hi => ?_⟩⟩, fun i hi => ?_⟩
      · have hi' : i < len := by simpa using hi
        rw [hg i hi']
        exact (hf i hi').1
      · have hi' : i < len := by simpa using hi
        rw [hg i hi']
        exact (hf i hi').2
end Go.Proofs.Ytbnjhfkmdejeaaa

/- Lists of pairs of numbers that are read; an argument of the type Play. -/
set_option linter.unusedSimpArgs false
set_option linter.unusedVariables false
namespace Go.Proofs.Ytbnjhfkmdejeaaa
open Go.ChangeShapes Go.WideShapes Go.ChangeAt Go.RowKit Pl

def PSrc (w : World) (g o : Nat) (l : List (Int × Int)) : Prop := ∀ i, i < l.length → w.cell? ⟨g, o + i * 2, none⟩ = some (.int .i64 ((l.getD i (0, 0)).1)) ∧ w.cell? ⟨g, o + i * 2 + 1, none⟩ = some (.int .i64 ((l.getD i (0, 0)).2))
def PS (w : World) (v : Value) (l : List (Int × Int)) : Prop :=
  ∃ a cap, v = .slice a l.length cap ∧ l.length ≤ cap ∧ cap ≤ maxLen ∧ (l ≠ [] → ∃ g off, a = some ⟨g, off, none⟩ ∧ g < w.heap.size ∧ PSrc w g off l)
theorem PS.keep {W w : World} {v : Value} {l : List (Int × Int)} (h : PS W v l) (hb : Below W.heap.size W w) : PS w v l := by
  obtain ⟨a, cap, h1, h2, h3, h4⟩ := h
  refine ⟨a, cap, h1, h2, h3, fun hl => ?_⟩
  obtain ⟨g, off, e, hg, hc⟩ := h4 hl
  exact ⟨g, off, e, Nat.lt_of_lt_of_le hg hb.size, fun i hi => ⟨(hb.cell (p := ⟨g, off + i * 2, none⟩) hg).trans (hc i hi).1, (hb.cell (p := ⟨g, off + i * 2 + 1, none⟩) hg).trans (hc i hi).2⟩⟩
theorem PS.form {w : World} {v : Value} {l : List (Int × Int)} (h : PS w v l) : ∃ a c, v = .slice a l.length c := by
  obtain ⟨a, cap, h1, _⟩ := h
  exact ⟨a, cap, h1⟩
theorem PS.small {w : World} {v : Value} {l : List (Int × Int)} (h : PS w v l) : l.length ≤ 9223372036854775807 := by
  obtain ⟨a, cap, h1, h2, h3, _⟩ := h
  unfold maxLen at h3; omega
theorem PS.at {w : World} {v : Value} {l : List (Int × Int)} (h : PS w v l) (i : Nat) (hi : i < l.length) :
    ∃ g off cap, v = .slice (some ⟨g, off, none⟩) l.length cap ∧ g < w.heap.size ∧ w.cell? ⟨g, off + i * 2, none⟩ = some (.int .i64 ((l.getD i (0, 0)).1)) ∧ w.cell? ⟨g, off + i * 2 + 1, none⟩ = some (.int .i64 ((l.getD i (0, 0)).2)) := by
  obtain ⟨a', cap, h1, _, _, h5⟩ := h
  obtain ⟨g, off, e, hg, hc⟩ := h5 (by intro e; rw [e] at hi; simp at hi)
  exact ⟨g, off, cap, by rw [h1, e], hg, (hc i hi).1, (hc i hi).2⟩
theorem ps_val {W : World} {v : Value} (h : Sh.Val W (.slice 2 (.pair (.int .i64) (.pair (.int .i64) .unit))) v) : ∃ l : List (Int × Int), PS W v l := by
  rcases (show _ ∨ _ from h) with h | ⟨a, len, cap, hv, hlc, hcm, hel⟩
  · obtain rfl : v = .slice none 0 0 := by simpa using h
    exact ⟨[], none, 0, rfl, Nat.le_refl _, by unfold maxLen; omega, fun h => absurd rfl h⟩
  · obtain rfl : v = .slice (some a) len cap := by simpa using hv
    rcases Nat.eq_zero_or_pos len with h0 | hpos
    · subst h0
      exact ⟨[], some a, cap, rfl, hlc, hcm, fun h => absurd rfl h⟩
    · obtain ⟨hs, hc⟩ := slice_cells (by decide) hpos hel
      have hf : ∀ i, ∃ x : Int × Int, i < len → W.cell? ⟨a.block, a.off + i * 2, none⟩ = some (.int .i64 (x.1)) ∧ W.cell? ⟨a.block, a.off + i * 2 + 1, none⟩ = some (.int .i64 (x.2)) := by
        intro i
        by_cases hi : i < len
        · obtain ⟨cs, ⟨x, y, rfl, ⟨n, rfl, _⟩, z, u, rfl, ⟨m, rfl, _⟩, hu⟩, _, hj⟩ := hc i hi
          have h0 := hj 0 (by decide)
          have h1 := hj 1 (by decide)
          exact ⟨(n, m), fun _ => ⟨h0, h1⟩⟩
        · exact ⟨(0, 0), fun h => absurd h hi⟩
      obtain ⟨f, hf⟩ := Classical.axiomOfChoice hf
      obtain ⟨b, off, sp⟩ := a
      simp only at hs
      subst hs
      refine ⟨(List.range len).map f, some ⟨b, off, none⟩, cap, by simp, by simp; exact hlc, hcm, fun _ => ⟨b, off, rfl, cell_lt (hf 0 hpos).1, fun i hi => ?_⟩⟩
      have hi' : i < len := by simpa using hi
      have hg : ((List.range len).map f).getD i (0, 0) = f i := by simp [List.getD, hi']
      rw [hg]
      exact hf i hi'
end Go.Proofs.Ytbnjhfkmdejeaaa

/- Walks of the laws. -/
set_option linter.unusedSimpArgs false
set_option linter.unusedVariables false
namespace Go.Proofs.Ytbnjhfkmdejeaaa
open Go.RowKit

set_option maxHeartbeats 400000 in
theorem works_any (w : World) :
    Calls Try.prog 4 #[] w fun e w' => e = .returned (.bool true) ∧ Below w.heap.size w w' := by
  go_enter Try.func4, Try.ntmps4
  go_wp2_with fail
  refine (vote_any _ _ _ _ _ _).mono ?_
  rintro e w1 ⟨rfl, hb⟩
  rw [show voteF 3 2 4 3 2 = (4, 2, 0) from by decide]
  have c0 : w1.cell? ⟨w.heap.size, 0, none⟩ = some (.int .i64 3) := keepC hb (by simp)
  have c1 : w1.cell? ⟨w.heap.size, 1, none⟩ = some (.int .i64 2) := keepC hb (by simp)
  have hz0 : w.heap.size < w1.heap.size := by have := hb.size; simp at this; omega
  go_wp2_with fail
  refine (may_any _ _ _ _ _).mono ?_
  rintro e w2 ⟨rfl, hb2⟩
  rw [show mayF 3 2 4 2 = 0 from by decide]
  have c02 : w2.cell? ⟨w.heap.size, 0, none⟩ = some (.int .i64 3) := keepC hb2 (by simp [go_sem, c0, hz0])
  have c12 : w2.cell? ⟨w.heap.size, 1, none⟩ = some (.int .i64 2) := keepC hb2 (by simp [go_sem, c1, hz0])
  have d02 : w2.cell? ⟨w1.heap.size, 0, none⟩ = some (.int .i64 4) := keepC hb2 (by simp)
  have d12 : w2.cell? ⟨w1.heap.size, 1, none⟩ = some (.int .i64 2) := keepC hb2 (by simp)
  go_wp2_with fail
  refine (may_any _ _ _ _ _).mono ?_
  rintro e w3 ⟨rfl, hb3⟩
  rw [show mayF 3 2 3 2 = 230 from by decide]
  have c03 : w3.cell? ⟨w.heap.size, 0, none⟩ = some (.int .i64 3) := keepC hb3 c02
  have c13 : w3.cell? ⟨w.heap.size, 1, none⟩ = some (.int .i64 2) := keepC hb3 c12
  have d03 : w3.cell? ⟨w1.heap.size, 0, none⟩ = some (.int .i64 4) := keepC hb3 d02
  have d13 : w3.cell? ⟨w1.heap.size, 1, none⟩ = some (.int .i64 2) := keepC hb3 d12
  go_wp2_with fail
  refine (may_any _ _ _ _ _).mono ?_
  rintro e w4 ⟨rfl, hb4⟩
  rw [show mayF 3 2 5 1 = 231 from by decide]
  have d04 : w4.cell? ⟨w1.heap.size, 0, none⟩ = some (.int .i64 4) := keepC hb4 d03
  have d14 : w4.cell? ⟨w1.heap.size, 1, none⟩ = some (.int .i64 2) := keepC hb4 d13
  go_wp2_with fail
  refine (three_any _ _ _ (by omega) (by omega) (by omega) _).mono ?_
  rintro e w' ⟨rfl, rfl⟩
  rw [show threeB 4 5 6 = true from by decide]
  go_wp2_with fail
  refine (three_any _ _ _ (by omega) (by omega) (by omega) _).mono ?_
  rintro e w' ⟨rfl, rfl⟩
  rw [show threeB 4 5 7 = false from by decide]
  go_wp2_with fail
  go_ret
  refine ⟨rfl, ?_⟩
  have h1 := hb.size
  have h2 := hb2.size
  have h3 := hb3.size
  simp at h1 h2
  refine Below.trans (Below.trans (Below.trans (Below.trans ?_ (hb.mono (by simp))) ?_) (hb3.mono (by omega))) (hb4.mono (by omega))
  · exact (Below.refl _ _).alloc (Nat.le_refl _) _
  · exact ((Below.refl _ _).alloc (by omega) _).trans (hb2.mono (by simp; omega))

end Go.Proofs.Ytbnjhfkmdejeaaa

/- On one line: the walk of SafetyAgrees. -/
set_option linter.unusedSimpArgs false
set_option linter.unusedVariables false
namespace Go.Proofs.Ytbnjhfkmdejeaaa
open Go.RowKit Pl

theorem irow_snoc {w : World} {base : Nat} {v : Value} {l : List Int} {x : Int} (h : w.ownsRow base 3 1 v (l.length + 1) (iv l ++ [.int .i64 (x)])) : IRow w base v (l ++ [x]) := by
  unfold IRow
  rw [List.length_append]
  simpa [iv] using h
theorem trow_snoc {w : World} {base : Nat} {v x : Value} {l : List Value} (h : w.ownsRow base 23 1 v (l.length + 1) (l ++ [x])) : TRow w base v (l ++ [x]) := by
  unfold TRow
  rw [List.length_append]
  exact h
/-- The rows that are made first, in whatever order. -/
structure LB (base n : Nat) (w0 : World) (a b c d : Option Nat) (w : World) : Prop where
  below : Below base w0 w
  fa : ∀ k, a = some k → base ≤ k ∧ IRow w base (.slice (some ⟨k, 0, none⟩) 1 1) [0] ∧ k < w.heap.size
  fb : ∀ k, b = some k → base ≤ k ∧ IRow w base (.slice (some ⟨k, 0, none⟩) 1 1) [0] ∧ k < w.heap.size
  fc : ∀ k, c = some k → base ≤ k ∧ TRow w base (.slice (some ⟨k, 0, none⟩) 1 1) [nilS] ∧ k < w.heap.size
  fd : ∀ k, d = some k → base ≤ k ∧ RRow w base (.slice (some ⟨k, 0, none⟩) n n) (List.replicate n (0, 0)) ∧ k < w.heap.size
  ab : ∀ k, a = some k → b ≠ some k
section
variable {base n : Nat} {w0 w w' : World} {a b c d : Option Nat}
theorem LB.start (h : Below base w0 w) : LB base n w0 none none none none w := ⟨h, by simp, by simp, by simp, by simp, by simp⟩
theorem LB.keep (h : LB base n w0 a b c d w) (hbs : base ≤ w.heap.size) (hb : Below w.heap.size w w') : LB base n w0 a b c d w' :=
  ⟨h.below.trans (hb.mono hbs), fun k hk => ⟨(h.fa k hk).1, row_below (h.fa k hk).2.1 hb, Nat.lt_of_lt_of_le (h.fa k hk).2.2 hb.size⟩, fun k hk => ⟨(h.fb k hk).1, row_below (h.fb k hk).2.1 hb, Nat.lt_of_lt_of_le (h.fb k hk).2.2 hb.size⟩,
   fun k hk => ⟨(h.fc k hk).1, row_below (h.fc k hk).2.1 hb, Nat.lt_of_lt_of_le (h.fc k hk).2.2 hb.size⟩, fun k hk => ⟨(h.fd k hk).1, row_below (h.fd k hk).2.1 hb, Nat.lt_of_lt_of_le (h.fd k hk).2.2 hb.size⟩, h.ab⟩
theorem LB.mkA {k : Nat} (h : LB base n w0 none b c d w) (hbs : base ≤ w.heap.size) (hk : w.heap.size ≤ k) (hh : w'.heap[k]? = some (.cells #[.int .i64 (0)] 3)) (hlt : k < w'.heap.size) (hb : Below w.heap.size w w') : LB base n w0 (some k) b c d w' := by
  have h1 := h.keep hbs hb
  refine ⟨h1.below, fun k' e => ?_, h1.fb, h1.fc, h1.fd, fun k' e e2 => ?_⟩
  · cases e; exact ⟨by omega, ⟨rfl, .inr ⟨k, 1, _, rfl, by omega, hh, Nat.le_refl _, by unfold maxLen; omega, rfl, rfl⟩⟩, hlt⟩
  · cases e; have := (h.fb _ e2).2.2; omega
theorem LB.mkB {k : Nat} (h : LB base n w0 a none c d w) (hbs : base ≤ w.heap.size) (hk : w.heap.size ≤ k) (hh : w'.heap[k]? = some (.cells #[.int .i64 (0)] 3)) (hlt : k < w'.heap.size) (hb : Below w.heap.size w w') : LB base n w0 a (some k) c d w' := by
  have h1 := h.keep hbs hb
  refine ⟨h1.below, h1.fa, fun k' e => ?_, h1.fc, h1.fd, fun k' e e2 => ?_⟩
  · cases e; exact ⟨by omega, ⟨rfl, .inr ⟨k, 1, _, rfl, by omega, hh, Nat.le_refl _, by unfold maxLen; omega, rfl, rfl⟩⟩, hlt⟩
  · cases e2; have := (h.fa _ e).2.2; omega
theorem LB.mkC {k : Nat} (h : LB base n w0 a b none d w) (hbs : base ≤ w.heap.size) (hk : w.heap.size ≤ k) (hh : w'.heap[k]? = some (.cells #[nilS] 23)) (hlt : k < w'.heap.size) (hb : Below w.heap.size w w') : LB base n w0 a b (some k) d w' := by
  have h1 := h.keep hbs hb
  refine ⟨h1.below, h1.fa, h1.fb, fun k' e => ?_, h1.fd, h1.ab⟩
  cases e; exact ⟨by omega, ⟨rfl, .inr ⟨k, 1, _, rfl, by omega, hh, Nat.le_refl _, by unfold maxLen; omega, rfl, rfl⟩⟩, hlt⟩
theorem infoRul : (Try.prog.info? 49).map (fun i => (i.zero, i.size, i.bytes)) = some (some (.agg #[.int .i64 (0), .int .i64 (0)]), 2, 16) := by kernel_rfl
theorem infoInt : (Try.prog.info? 3).map (fun i => (i.zero, i.size, i.bytes)) = some (some (.int .i64 (0)), 1, 8) := by kernel_rfl
theorem infoTx : (Try.prog.info? 23).map (fun i => (i.zero, i.size, i.bytes)) = some (some nilS, 1, 24) := by kernel_rfl
theorem made2 (n : Nat) : (madeCells #[.int .i64 (0), .int .i64 (0)] (n * 2)).toList = rv (List.replicate n (0, 0)) := by
  rw [rv_zero]
  apply List.ext_getElem?
  intro j
  by_cases hj : j < n * 2
  · have : j % 2 = 0 ∨ j % 2 = 1 := by omega
    rcases this with h | h <;> simp [madeCells, hj, h]
  · simp [madeCells, hj]
theorem LB.mkD {k : Nat} (h : LB base n w0 a b c none w) (hbs : base ≤ w.heap.size) (hn : n ≤ 1000000) (hk : w.heap.size ≤ k) (hh : w'.heap[k]? = some (.cells (madeCells #[.int .i64 (0), .int .i64 (0)] (n * 2)) 49)) (hlt : k < w'.heap.size) (hb : Below w.heap.size w w') : LB base n w0 a b c (some k) w' := by
  have h1 := h.keep hbs hb
  refine ⟨h1.below, h1.fa, h1.fb, h1.fc, fun k' e => ?_, h1.ab⟩
  cases e
  refine ⟨by omega, ?_, hlt⟩
  unfold RRow
  rw [List.length_replicate]
  refine ⟨by rw [rv_len, List.length_replicate], .inr ⟨k, n, _, rfl, by omega, hh, Nat.le_refl _, by unfold maxLen; omega, by simp [madeCells], ?_⟩⟩
  rw [made2, List.take_of_length_le (by rw [rv_len, List.length_replicate]; exact Nat.le_refl _)]
end
/-- What the rows are then. -/
structure LI where
  p : Nat
  a : Nat
  b : Nat
  c : Nat
  d : Nat
structure J9 where
  q : Nat
  na : Option Addr
  nc : Nat
def parsP (bl : List (Int × Int)) (n : Nat) : List Nat := 0 :: (List.range n).map fun i => modN (bl.getD i (0, 0)).1 (i + 1)
def viewsP (bl : List (Int × Int)) (n : Nat) : List Int := 0 :: (List.range n).map fun i => (bl.getD i (0, 0)).2
theorem pars_len (bl : List (Int × Int)) (n : Nat) : (parsP bl n).length = n + 1 := by simp [parsP]
theorem views_len (bl : List (Int × Int)) (n : Nat) : (viewsP bl n).length = n + 1 := by simp [viewsP]
theorem pars_step (bl : List (Int × Int)) (n : Nat) : castP (parsP bl (n + 1)) = castP (parsP bl n) ++ [((modN (bl.getD n (0, 0)).1 (n + 1) : Nat) : Int)] := by
  unfold parsP castP
  rw [List.range_succ, List.map_append, ← List.cons_append, List.map_append]
  rfl
theorem views_step (bl : List (Int × Int)) (n : Nat) : viewsP bl (n + 1) = viewsP bl n ++ [(bl.getD n (0, 0)).2] := by
  unfold viewsP
  rw [List.range_succ, List.map_append, ← List.cons_append]
  rfl
theorem wf_pars (bl : List (Int × Int)) (n : Nat) : WfP (parsP bl n) (viewsP bl n) := by
  refine ⟨fun b h0 hb => ?_, rfl, rfl⟩
  rw [pars_len] at hb
  cases b with
  | zero => omega
  | succ i =>
    have : par (parsP bl n) (i + 1) = modN (bl.getD i (0, 0)).1 (i + 1) := by
      unfold par parsP
      rw [List.getD_cons_succ, List.getD_eq_getElem?_getD, List.getElem?_map, List.getElem?_range (by omega)]
      rfl
    rw [this]
    exact modN_lt _ _ (by omega)
theorem wpList_app1 {ops : Array Oper} {rest : List Oper} {o : Oper} {a : Act} {w : World} {Q : Exit → Act → World → Prop} (hgd : o.guard = none) (s x : Operand) (T e : TypeId) (z : Value) (by0 : Nat) (hT : Try.prog.underlying T = some (.slice e))
    (hinfo : (Try.prog.info? e).map (fun i => (i.zero, i.size, i.bytes)) = some (some z, 1, by0)) (hz : z.cells.size = 1) (hby : by0 ≤ 24)
    (ho : o.op = .call { callee := .builtin .append, args := #[s, x], argTypes := #[T, T] })
    (base n : Nat) (v u : Value) (xs : List Value) (hs : a.eval s = v) (hown : w.ownsRow base e 1 v n xs)
    (q : Nat) (hx : a.eval x = .slice (some ⟨q, 0, none⟩) 1 1) (hq : w.cell? ⟨q, 0, none⟩ = some u) (hu : u.oneCell' = true)
    (hlen : n ≤ 1000000) (hbase : base ≤ w.heap.size)
    (h : ∀ v' w', w'.ownsRow base e 1 v' (n + 1) (xs ++ [u]) → w.grownBy w' v.ownBlock → (v'.ownBlock = v.ownBlock ∨ v'.ownBlock = some w.heap.size) → wpList Try.prog ops Q rest (a.put o.dst v') w') : wpList Try.prog ops Q (o :: rest) a w :=
  wpList_plain hgd fun _ hK => wp_app1 s x T e z by0 hT hinfo hz hby ho base n v u xs hs hown q hx hq hu hlen hbase (fun v' w' h1 h2 h3 => hK _ _ (h v' w' h1 h2 h3))
theorem mboth_len (u v : Value) (a b : List Bs) (ha : a.length ≤ 1000) (hb0 : b.length ≤ 1000) (hal : ∀ i, i < a.length → (a.getD i []).length ≤ maxLen) (hbl : ∀ i, i < b.length → (b.getD i []).length ≤ maxLen) (w : World) (hu : SS w u a) (hv : SS w v b) :
    Calls Try.prog 9 #[u, v] w fun e w' => ∃ xa xc, e = .returned (.slice xa (bothP a b).length xc) ∧ Below w.heap.size w w' :=
  (mboth_any u v a b ha hb0 hal hbl w hu hv).mono fun e w' ⟨x, he, hr, hb⟩ => by
    obtain ⟨xa, xc, rfl⟩ := hr.form
    exact ⟨xa, xc, he, hb⟩
theorem inv_start (l : List (Bs × Int)) (bad : List Bs) (P : List Nat) (V : List Int) : InvA l bad P V (List.replicate P.length [], List.replicate l.length (0, 0)) := by
  have he : ∀ b, (List.replicate P.length ([] : List Bs)).getD b [] = [] := fun b => by
    rw [List.getD_eq_getElem?_getD, List.getElem?_replicate]
    split <;> rfl
  refine ⟨by simp, by simp, fun m _ _ b _ h => ?_, fun m _ _ b c _ _ h => ?_, fun m _ _ b c _ _ h => ?_⟩
  all_goals (simp only [he] at h; cases h)
theorem voteA_T (l : List (Bs × Int)) (P : List Nat) (V : List Int) (bd : Bool) (m b : Nat) (s : StA) : (voteA l P V bd m b s).1 = s.1 ∨ (voteA l P V bd m b s).1 = addV s b (nmA l m) := by
  unfold voteA
  split
  · exact .inl rfl
  · split
    · exact .inr rfl
    · split
      · exact .inl rfl
      · exact .inr rfl
theorem voteA_len (l : List (Bs × Int)) (P : List Nat) (V : List Int) (bd : Bool) (m b : Nat) (s : StA) (hb : b < s.1.length) (n : Nat) (h : ∀ c, (s.1.getD c []).length ≤ n) : ∀ c, ((voteA l P V bd m b s).1.getD c []).length ≤ n + 1 := by
  intro c
  rcases voteA_T l P V bd m b s with e | e
  · rw [e]; have := h c; omega
  · rw [e]
    unfold addV
    rw [getD_set _ _ _ _ hb]
    split
    · rw [List.length_append, List.length_cons, List.length_nil]; have := h b; omega
    · have := h c; omega
theorem voteA_names (l : List (Bs × Int)) (P : List Nat) (V : List Int) (bd : Bool) (m b : Nat) (s : StA) (hb : b < s.1.length) (hn : (nmA l m).length ≤ maxLen) (h : ∀ c x, x ∈ s.1.getD c [] → x.length ≤ maxLen) : ∀ c x, x ∈ (voteA l P V bd m b s).1.getD c [] → x.length ≤ maxLen := by
  intro c x hx
  rcases voteA_T l P V bd m b s with e | e
  · rw [e] at hx; exact h c x hx
  · rw [e] at hx
    rcases (addV_mem hb _ x c).1 hx with hx | ⟨_, rfl⟩
    · exact h c x hx
    · exact hn
theorem names_at {T : List (List Bs)} (h : ∀ c x, x ∈ T.getD c [] → x.length ≤ maxLen) : ∀ c i, i < (T.getD c []).length → ((T.getD c []).getD i []).length ≤ maxLen := by
  intro c i hi
  refine h c _ ?_
  rw [List.getD_eq_getElem?_getD (l := T.getD c []), List.getElem?_eq_getElem hi]
  exact List.getElem_mem _
theorem name_short {l : List (Bs × Int)} (hc : chkM l = true) (m : Nat) (hm : m < l.length) : (nmA l m).length ≤ 6 := by
  simp only [chkM, Bool.and_eq_true, decide_eq_true_eq] at hc
  exact (okM_at l [] hc.2 m hm).1
theorem bad_iff (n : Bs) (bad : List Bs) : decide ((0 : Int) < ((bothP [n] bad).length : Int)) = true ↔ n ∈ bad := by
  have h := (bothP_is [n] bad).2
  rw [decide_eq_true_iff]
  constructor
  · intro hp
    cases hb : bothP [n] bad with
    | nil => rw [hb] at hp; simp at hp
    | cons y r =>
      have := (h y).1 (by rw [hb]; simp)
      simp only [List.mem_singleton] at this
      rw [← this.1]; exact this.2
  · intro hn
    have := (h n).2 ⟨by simp, hn⟩
    have := List.length_pos_of_mem this
    omega
theorem rep_getD (n c : Nat) : (List.replicate n ([] : List Bs)).getD c [] = [] := by
  rw [List.getD_eq_getElem?_getD, List.getElem?_replicate]
  split <;> rfl
theorem ss_one {w : World} {q : Nat} {n : Bs} (hh : w.heap[q]? = some (.cells #[.string ⟨List.toArray (n)⟩] 9)) (hlt : q < w.heap.size) : SS w (.slice (some ⟨q, 0, none⟩) 1 1) [n] := by
  have hc := (Blk.of_heap hh hlt).cell 0
  refine SS.of (l := [n]) (by simp) (by unfold maxLen; omega) hlt (fun i hi => ?_)
  have : i = 0 := by simp at hi; omega
  subst this
  simpa using hc
theorem one_names {n : Bs} (h : n.length ≤ 6) : ∀ i, i < [n].length → ([n].getD i []).length ≤ maxLen := by
  intro i hi
  have : i = 0 := by simp at hi; omega
  subst this
  unfold maxLen
  simp
  omega
def I64 (x : Int) : Prop := -9223372036854775808 ≤ x ∧ x ≤ 9223372036854775807
theorem i64_zero : I64 0 := ⟨by decide, by decide⟩
theorem views_bound {bl : List (Int × Int)} (h : ∀ i, I64 (bl.getD i (0, 0)).2) (n : Nat) : ∀ b, I64 (vw (viewsP bl n) b) := by
  intro b
  unfold vw viewsP
  cases b with
  | zero => exact i64_zero
  | succ i =>
    rw [List.getD_cons_succ, List.getD_eq_getElem?_getD, List.getElem?_map]
    by_cases hi : i < n
    · rw [List.getElem?_range hi]
      exact h i
    · rw [List.getElem?_eq_none (by simpa using hi)]
      exact i64_zero
theorem castP_snoc (D : List Nat) (x : Nat) : castP (D ++ [x]) = castP D ++ [(x : Int)] := by
  unfold castP
  rw [List.map_append]
  rfl
end Go.Proofs.Ytbnjhfkmdejeaaa
