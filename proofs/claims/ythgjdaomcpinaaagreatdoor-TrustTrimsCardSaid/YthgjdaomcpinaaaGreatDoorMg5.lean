/- Open, Members, StrV, MVal, IntV, Ints. -/
import Derived.ChangeKeysEq
import Derived.Test.YthgjdaomcpinaaaGreatDoorRows
import Derived.Test.YthgjdaomcpinaaaGreatDoorMg1
import Derived.Test.YthgjdaomcpinaaaGreatDoorMg3
import Derived.Test.YthgjdaomcpinaaaGreatDoorMg4
set_option linter.unnecessarySimpa false

/- What an argument of plain data looks like: its shape, computed from the type; a reading tells that the cells are of that shape. -/
set_option linter.unusedSimpArgs false
set_option linter.unusedVariables false
namespace Go.Proofs.YthgjdaomcpinaaaGreatDoor
open Go.ChangeShapes Go.WideShapes Go.ChangeAt Go.RowKit

inductive Sh where
  | int (k : IntKind)
  | str
  | bool
  | slice (c : Nat) (e : Sh)
  | unit
  | pair (a b : Sh)

def Sh.cells : Sh → Nat
  | .unit => 0
  | .pair a b => a.cells + b.cells
  | _ => 1

def Sh.Ok (w : World) : Sh → List Value → Prop
  | .int k, cs => ∃ n, cs = [.int k n] ∧ (Lit.int k n).wf = true
  | .str, cs => ∃ s : ByteArray, cs = [.string s] ∧ s.size ≤ maxLen
  | .bool, cs => ∃ b, cs = [.bool b]
  | .slice c e, cs => cs = [.slice none 0 0] ∨ ∃ a len cap, cs = [.slice (some a) len cap] ∧ len ≤ cap ∧ cap ≤ maxLen ∧
      ∀ i, i < len → ∃ cs', w.cells? 0 (a.add (i * c)) c = some cs' ∧ e.Ok w cs'
  | .unit, cs => cs = []
  | .pair a b, cs => ∃ x y, cs = x ++ y ∧ a.Ok w x ∧ b.Ok w y

theorem Sh.Ok.len {w : World} : ∀ {s : Sh} {cs : List Value}, s.Ok w cs → cs.length = s.cells
  | .int _, _, h => by obtain ⟨n, rfl, _⟩ := h; rfl
  | .str, _, h => by obtain ⟨n, rfl, _⟩ := h; rfl
  | .bool, _, h => by obtain ⟨n, rfl⟩ := h; rfl
  | .slice _ _, _, h => by rcases h with rfl | ⟨a, l, c, rfl, _⟩ <;> rfl
  | .unit, _, h => by rw [show _ = [] from h]; rfl
  | .pair a b, _, h => by
    obtain ⟨x, y, rfl, hx, hy⟩ := h
    simp [Sh.cells, hx.len, hy.len]

theorem slice_cells {w : World} {a : Addr} {c len : Nat} {e : Sh} (hc : 0 < c) (hlen : 0 < len)
    (h : ∀ i, i < len → ∃ cs', w.cells? 0 (a.add (i * c)) c = some cs' ∧ e.Ok w cs') :
    a.spot = none ∧ ∀ i, i < len → ∃ cs', e.Ok w cs' ∧ cs'.length = c ∧ ∀ j, j < c → w.cell? ⟨a.block, a.off + i * c + j, none⟩ = cs'[j]? := by
  obtain ⟨b, off, spot⟩ := a
  have hs : spot = none := by
    obtain ⟨cs', h1, _⟩ := h 0 hlen
    obtain ⟨_, hl, h2⟩ := World.cells?_some h1
    have h3 := h2 0 hc
    simp only [Nat.zero_mul, Addr.add, if_true] at h3
    cases spot with
    | none => rfl
    | some s =>
      exfalso
      unfold World.cell? at h3
      rw [List.getElem?_eq_getElem (by omega)] at h3
      split at h3 <;> simp at h3
  subst hs
  refine ⟨rfl, fun i hi => ?_⟩
  obtain ⟨cs', h1, ho⟩ := h i hi
  obtain ⟨_, hl, h2⟩ := World.cells?_some h1
  refine ⟨cs', ho, hl, fun j hj => ?_⟩
  have h3 := h2 j hj
  rw [← h3]
  congr 1
  unfold Addr.add
  by_cases hi0 : i * c = 0
  · by_cases hj0 : j = 0
    · simp [hi0, hj0]
    · simp [hi0, hj0]
  · by_cases hj0 : j = 0
    · simp [hi0, hj0]
    · simp [hi0, hj0]

def repSh (a : Sh) : Nat → Sh
  | 0 => .unit
  | n + 1 => .pair a (repSh a n)

def fieldsSh (P : Program) (f : TypeId → Option Sh) : List Field → Nat → Nat → Option Sh
  | [], off, total => if off = total then some .unit else none
  | x :: xs, off, total =>
    match f x.type with
    | some a => if x.offset = off ∧ a.cells = P.cellsOf x.type then (fieldsSh P f xs (off + a.cells) total).map (.pair a) else none
    | none => none

def shapeOf (P : Program) : Nat → TypeId → Option Sh
  | 0, _ => none
  | n + 1, t =>
    match P.underlying t with
    | some .bool => some .bool
    | some (.int k) => some (.int k)
    | some .string => some .str
    | some (.slice e) => match shapeOf P n e with
      | some s => if s.cells = P.cellsOf e then some (.slice (P.cellsOf e) s) else none
      | none => none
    | some (.struct fs) => fieldsSh P (shapeOf P n) fs.toList 0 (P.cellsOf t)
    | some (.array k e) => match shapeOf P n e with
      | some s => if s.cells = P.cellsOf e ∧ k * P.cellsOf e = P.cellsOf t then some (repSh s k) else none
      | none => none
    | _ => none

section
variable {H : Type} {enc : TypeId × Value → H} {P : Program} {w : World} {spare : Nat → Bool} {held : Bool}

theorem rep_ok {s : Sh} {c : Nat} (hc : s.cells = c) : ∀ (k : Nat) (cs : List Value), cs.length = k * c →
    (∀ i, i < k → s.Ok w ((cs.drop (i * c)).take c)) → (repSh s k).Ok w cs
  | 0, cs, hl, _ => by
    have : cs = [] := by simpa using hl
    exact this
  | k + 1, cs, hl, h => by
    refine ⟨cs.take c, cs.drop c, (List.take_append_drop c cs).symm, by simpa using h 0 (by omega), rep_ok hc k _ ?_ (fun i hi => ?_)⟩
    · rw [List.length_drop, hl, Nat.succ_mul]; omega
    · have := h (i + 1) (by omega)
      rw [List.drop_drop]
      rw [Nat.succ_mul] at this
      rwa [Nat.add_comm c (i * c)]

theorem fields_ok {f : TypeId → Option Sh} {n : Nat} (ih : ∀ t s, f t = some s → ∀ cs x, DataW.trod enc P w 0 spare held n t cs = some x → s.Ok w cs) {cs : List Value} :
    ∀ (fs : List Field) (off total : Nat) (s : Sh), fieldsSh P f fs off total = some s → cs.length = total →
      (∀ x ∈ fs, ∃ y, DataW.trod enc P w 0 spare held n x.type ((cs.drop x.offset).take (P.cellsOf x.type)) = some y) → s.Ok w (cs.drop off)
  | [], off, total, s, h, hl, _ => by
    simp only [fieldsSh] at h
    split at h
    · cases h
      rename_i e
      show cs.drop off = []
      rw [e, ← hl]; simp
    · cases h
  | x :: xs, off, total, s, h, hl, hx => by
    simp only [fieldsSh] at h
    split at h
    · rename_i a ha
      split at h
      · rename_i hc
        cases hr : fieldsSh P f xs (off + a.cells) total with
        | none => rw [hr] at h; cases h
        | some r =>
          rw [hr] at h
          cases h
          obtain ⟨y, hy⟩ := hx x (by simp)
          rw [hc.1] at hy
          have h1 := ih _ _ ha _ _ hy
          have h2 := fields_ok ih xs (off + a.cells) total r hr hl (fun z hz => hx z (by simp [hz]))
          refine ⟨(cs.drop off).take (P.cellsOf x.type), (cs.drop off).drop (P.cellsOf x.type), (List.take_append_drop _ _).symm, h1, ?_⟩
          rw [List.drop_drop, ← hc.2]
          exact h2
      · cases h
    · cases h

theorem shape_ok : ∀ (m : Nat) (t : TypeId) (s : Sh), shapeOf P m t = some s → ∀ (fuel : Nat) (cs : List Value) (x : DataW H × List MemPlace),
    DataW.trod enc P w 0 spare held fuel t cs = some x → s.Ok w cs
  | 0, _, _, h, _, _, _, _ => by cases h
  | m + 1, t, s, h, fuel, cs, x, hx => by
    unfold shapeOf at h
    split at h
    · rename_i ht
      cases h
      obtain ⟨b, hb, _⟩ := DataW.trod_bool ht hx
      exact ⟨b, hb⟩
    · rename_i k ht
      cases h
      obtain ⟨b, hb, _, hw⟩ := DataW.trod_int ht hx
      exact ⟨b, hb, hw⟩
    · rename_i ht
      cases h
      obtain ⟨b, hb, _, hw⟩ := DataW.trod_string ht hx
      exact ⟨b, hb, hw⟩
    · rename_i e ht
      split at h
      · rename_i s' hs
        split at h
        · cases h
          rcases DataW.trod_slice ht hx with ⟨h1, _⟩ | ⟨a, len, cap, elems, rest, n, _, hcs, _, _, hl, hm, hlen, hel, _⟩
          · exact .inl h1
          · refine .inr ⟨a, len, cap, hcs, hl, hm, fun i hi => ?_⟩
            have h2 := hel i hi
            rw [List.getElem?_eq_getElem (by omega)] at h2
            cases hc : w.cells? 0 (a.add (i * P.cellsOf e)) (P.cellsOf e) with
            | none => rw [hc] at h2; cases h2
            | some cs' =>
              rw [hc] at h2
              exact ⟨cs', rfl, shape_ok m e _ hs n cs' _ h2⟩
        · cases h
      · cases h
    · rename_i fs ht
      obtain ⟨xs, n, _, _, hl, hlen, hf⟩ := DataW.trod_struct ht hx
      have := fields_ok (cs := cs) (n := n) (fun t s hs cs x hx => shape_ok m t s hs n cs x hx) fs.toList 0 (P.cellsOf t) s h hl (fun f hmem => by
        obtain ⟨i, hi, rfl⟩ := List.getElem_of_mem hmem
        have h3 := hf i fs.toList[i] (by simp)
        rw [List.getElem?_eq_getElem (by rw [hlen]; simpa using hi)] at h3
        exact ⟨_, h3⟩)
      simpa using this
    · rename_i k e ht
      split at h
      · rename_i s' hs
        split at h
        · rename_i hc
          cases h
          obtain ⟨xs, n, _, _, hl, hlen, hf⟩ := DataW.trod_array ht hx
          refine rep_ok hc.1 k cs (hl.trans hc.2.symm) (fun i hi => ?_)
          have h3 := hf i hi
          rw [List.getElem?_eq_getElem (by omega)] at h3
          exact shape_ok m e _ hs n _ _ h3
        · cases h
      · cases h
    · cases h

/-- The value of a parameter: an aggregate's cells, or the one value. -/
def Sh.Val (w : World) (s : Sh) (v : Value) : Prop :=
  match s with
  | .unit | .pair _ _ => ∃ cs : List Value, v = .agg cs.toArray ∧ s.Ok w cs
  | s => s.Ok w [v]

theorem fieldsSh_agg {f : TypeId → Option Sh} : ∀ {fs : List Field} {off total : Nat} {s : Sh}, fieldsSh P f fs off total = some s → s = .unit ∨ ∃ a b, s = .pair a b
  | [], off, total, s, h => by
    simp only [fieldsSh] at h
    split at h
    · cases h; exact .inl rfl
    · cases h
  | x :: xs, off, total, s, h => by
    simp only [fieldsSh] at h
    split at h
    · split at h
      · cases hr : fieldsSh P f xs (off + _) total with
        | none => rw [hr] at h; cases h
        | some r => rw [hr] at h; cases h; exact .inr ⟨_, _, rfl⟩
      · cases h
    · cases h

theorem shape_val {r : Reach} {b0 : Nat} {m : Nat} {t : TypeId} {s : Sh} (h : shapeOf P m t = some s) {v : Value} {d : DataW H} {ps : List MemPlace}
    (hval : Value.okWide P w r b0 t v) (hd : DataW.Trod enc P w 0 spare held t v d ps) : s.Val w v := by
  obtain ⟨fuel, hf⟩ := hd
  have hok := shape_ok m t s h fuel _ _ hf
  cases m with
  | zero => cases h
  | succ m =>
    unfold shapeOf at h
    split at h
    · rename_i ht
      cases h
      obtain ⟨b, rfl⟩ := okWide_bool ht hval
      exact hok
    · rename_i k ht
      cases h
      obtain ⟨b, rfl⟩ := okWide_int ht hval
      exact hok
    · rename_i ht
      cases h
      obtain ⟨b, rfl⟩ := okWide_string ht hval
      exact hok
    · rename_i e ht
      split at h
      · split at h
        · cases h
          obtain ⟨a, l, c, rfl⟩ := okWide_slice ht hval
          exact hok
        · cases h
      · cases h
    · rename_i fs ht
      obtain ⟨cs, rfl, _⟩ := okWide_struct ht hval
      rcases fieldsSh_agg h with rfl | ⟨a, b, rfl⟩
      · exact ⟨cs.toList, by simp, hok⟩
      · exact ⟨cs.toList, by simp, hok⟩
    · rename_i k e ht
      have hv : ∃ cs : Array Value, v = .agg cs := by
        simp only [Value.okWide, ht] at hval
        obtain ⟨cs, h1, _⟩ := hval
        exact ⟨cs, h1⟩
      obtain ⟨cs, rfl⟩ := hv
      split at h
      · split at h
        · cases h
          cases k with
          | zero => exact ⟨cs.toList, by simp, hok⟩
          | succ k => exact ⟨cs.toList, by simp, hok⟩
        · cases h
      · cases h
    · cases h
end

end Go.Proofs.YthgjdaomcpinaaaGreatDoor

/- Sets of validators: lists of members that are read; may a set be? -/
set_option linter.unusedSimpArgs false
set_option linter.unusedVariables false
namespace Go.Proofs.YthgjdaomcpinaaaGreatDoor
open Go.RowKit Pl

theorem Below.nm {B : Nat} {a w : World} (_ : Below B a w) : ∃ w' : World, w' = w := ⟨w, rfl⟩
/-- The order of texts. -/
def leS (a b : Bs) : Bool := Op.bytesLess a b || a == b
@[go_sem high] theorem leq_S (t : TypeId) (a b : Bs) : binOp .leq t (.string ⟨List.toArray (a)⟩) (.string ⟨List.toArray (b)⟩) = pure (.bool (leS a b)) := by
  rw [binOp_string_leq]
  unfold leS
  rw [Lib.toList_data, Lib.toList_data]

/-- The cells of a list of members. -/
def MSrc (w : World) (g o : Nat) (l : List (Bs × Int)) : Prop := ∀ i, i < l.length → w.cell? ⟨g, o + i * 2, none⟩ = some (.string ⟨List.toArray ((l.getD i ([], 0)).1)⟩) ∧ w.cell? ⟨g, o + i * 2 + 1, none⟩ = some (.int .i64 ((l.getD i ([], 0)).2))
/-- v reads as these members. -/
def MS (w : World) (v : Value) (l : List (Bs × Int)) : Prop :=
  ∃ a cap, v = .slice a l.length cap ∧ l.length ≤ cap ∧ cap ≤ maxLen ∧ (l ≠ [] → ∃ g off, a = some ⟨g, off, none⟩ ∧ g < w.heap.size ∧ MSrc w g off l)
theorem MS.keep {W w : World} {v : Value} {l : List (Bs × Int)} (h : MS W v l) (hb : Below W.heap.size W w) : MS w v l := by
  obtain ⟨a, cap, h1, h2, h3, h4⟩ := h
  refine ⟨a, cap, h1, h2, h3, fun hl => ?_⟩
  obtain ⟨g, off, e, hg, hc⟩ := h4 hl
  exact ⟨g, off, e, Nat.lt_of_lt_of_le hg hb.size, fun i hi => ⟨(hb.cell (p := ⟨g, off + i * 2, none⟩) hg).trans (hc i hi).1, (hb.cell (p := ⟨g, off + i * 2 + 1, none⟩) hg).trans (hc i hi).2⟩⟩
theorem MS.form {w : World} {v : Value} {l : List (Bs × Int)} (h : MS w v l) : ∃ a c, v = .slice a l.length c := by
  obtain ⟨a, cap, h1, _⟩ := h
  exact ⟨a, cap, h1⟩
theorem MS.small {w : World} {v : Value} {l : List (Bs × Int)} (h : MS w v l) : l.length ≤ 9223372036854775807 := by
  obtain ⟨a, cap, h1, h2, h3, _⟩ := h
  unfold maxLen at h3; omega
theorem MS.at {w : World} {a : Option Addr} {c : Nat} {l : List (Bs × Int)} (h : MS w (.slice a l.length c) l) (i : Nat) (hi : i < l.length) :
    ∃ g off, a = some ⟨g, off, none⟩ ∧ g < w.heap.size ∧ w.cell? ⟨g, off + i * 2, none⟩ = some (.string ⟨List.toArray ((l.getD i ([], 0)).1)⟩) ∧ w.cell? ⟨g, off + i * 2 + 1, none⟩ = some (.int .i64 ((l.getD i ([], 0)).2)) := by
  obtain ⟨a', cap, h1, _, _, h5⟩ := h
  injection h1 with h1 _ _
  obtain ⟨g, off, e, hg, hc⟩ := h5 (by intro e; rw [e] at hi; simp at hi)
  exact ⟨g, off, h1.trans e, hg, (hc i hi).1, (hc i hi).2⟩

namespace Pl
/-- May the members be, behind one of this name? -/
def okM : Bs → List (Bs × Int) → Bool
  | _, [] => true
  | z, (n, p) :: r => !(decide ((6 : Int) < (n.length : Int)) || leS n z || decide (p < 1) || decide (1000 < p)) && okM n r
def chkM (l : List (Bs × Int)) : Bool := decide (l.length ≠ 0) && decide (l.length ≤ 7) && okM [] l
def setI (b : Bool) : Int := if b then 0 else 50
/-- The name of the one ahead. -/
def lastN (l : List (Bs × Int)) : Nat → Bs
  | 0 => []
  | i + 1 => (l.getD i ([], 0)).1
theorem drop_getD (l : List (Bs × Int)) (i : Nat) (hi : i < l.length) : l.drop i = l.getD i ([], 0) :: l.drop (i + 1) := by
  rw [List.drop_eq_getElem_cons hi, List.getD_eq_getElem?_getD, List.getElem?_eq_getElem hi]
  rfl
theorem okM_at : ∀ (l : List (Bs × Int)) (z : Bs), okM z l = true → ∀ i, i < l.length → (l.getD i ([], 0)).1.length ≤ 6 ∧ 1 ≤ (l.getD i ([], 0)).2 ∧ (l.getD i ([], 0)).2 ≤ 1000
  | (n, p) :: r, z, h, i, hi => by
    simp only [okM, Bool.and_eq_true, Bool.not_eq_true', Bool.or_eq_false_iff, decide_eq_false_iff_not] at h
    obtain ⟨⟨⟨⟨h1, h2⟩, h3⟩, h4⟩, h5⟩ := h
    match i with
    | 0 => exact ⟨by simp; omega, by simp; omega, by simp; omega⟩
    | j + 1 => exact okM_at r n h5 j (by simpa using hi)
theorem take_getD (l : List (Bs × Int)) (i : Nat) (hi : i < l.length) : l.take (i + 1) = l.take i ++ [l.getD i ([], 0)] := by
  rw [List.take_add_one, List.getElem?_eq_getElem hi, List.getD_eq_getElem?_getD, List.getElem?_eq_getElem hi]
  rfl
/-- May the signers be, behind one of this name? -/
def okS : Bs → List Bs → Bool
  | _, [] => true
  | z, n :: r => !(leS n z || decide ((6 : Int) < (n.length : Int))) && okS n r
theorem dropS (l : List Bs) (i : Nat) (hi : i < l.length) : l.drop i = l.getD i [] :: l.drop (i + 1) := by
  rw [List.drop_eq_getElem_cons hi, List.getD_eq_getElem?_getD, List.getElem?_eq_getElem hi]
  rfl
end Pl

set_option maxRecDepth 100000 in
set_option maxHeartbeats 2000000 in
theorem mcheck_any (v : Value) (l : List (Bs × Int)) (w : World) (hv : MS w v l) :
    Calls Tryz.prog 66 #[v] w fun e w' => e = .returned (.int .i64 (setI (chkM l))) ∧ Below w.heap.size w w' := by
  generalize hr : setI (chkM l) = r
  have HR := Lib.hid hr
  clear hr
  obtain ⟨a, c, rfl⟩ := hv.form
  have hm := hv.small
  have HV := Lib.hid hv
  by_cases h0 : l.length = 0
  · rw [h0]
    clear HV hv
    go_enter Tryz.func66, Tryz.ntmps66
    go_wp2_with fail
    all_goals (go_ret; refine ⟨?_, Below.refl _ _⟩; rw [← HR.out]; simp [chkM, h0, setI])
  · by_cases h7 : 7 < l.length
    · have hd : decide ((7 : Int) < (l.length : Int)) = true := by simp; omega
      have hd0 : ((l.length : Int) == 0) = false := by rw [beq_eq_false_iff_ne]; omega
      clear HV hv
      go_enter Tryz.func66, Tryz.ntmps66
      go_wp2_with fail
      all_goals (go_ret; refine ⟨?_, Below.refl _ _⟩; rw [← HR.out]; have : ¬ l.length ≤ 7 := (by omega); simp [chkM, this, setI])
    · have hd : decide ((7 : Int) < (l.length : Int)) = false := by simp; omega
      have hd0 : ((l.length : Int) == 0) = false := by rw [beq_eq_false_iff_ne]; omega
      have HR2 : Hid (setI (okM [] l) = r) := Lib.hid (by rw [← HR.out]; have : l.length ≤ 7 := (by omega); simp [chkM, this, h0])
      clear HR hv h0
      go_enter Tryz.func66, Tryz.ntmps66
      go_wp2_with fail
      go_loopw [3, 16] (fun s3 s16 wr => ∃ i : Nat, i ≤ l.length ∧ s16 = .int .i64 i ∧ s3 = .string ⟨List.toArray (lastN l i)⟩ ∧ Hid (setI (okM (lastN l i) (l.drop i)) = r) ∧ Below w.heap.size w wr) (fun _ s16 _ => l.length - (intOf s16).toNat)
      case atStart => exact ⟨0, by omega, rfl, rfl, HR2, Below.refl _ _⟩
      case round =>
        obtain ⟨i, hi, rfl, rfl, HI, hb⟩ := hrel
        obtain ⟨wq, h⟩ := Below.nm hb
        subst h
        by_cases hlt : i < l.length
        · obtain ⟨g, off, rfl, hg, c1, c2⟩ := (HV.out.keep hb).at i hlt
          have hi2 := HI.out
          rw [drop_getD l i hlt] at hi2
          have hnx : lastN l (i + 1) = (l.getD i ([], 0)).1 := rfl
          generalize hx : l.getD i ([], 0) = x at *
          obtain ⟨n, p⟩ := x
          simp only at c1 c2 hnx
          unfold okM at hi2
          generalize lastN l i = z at *
          go_wp2_with fail
          all_goals first
            | (refine ⟨⟨i + 1, by omega, by go_num, by rw [hnx], Lib.hid ?_, Below.allocS hb _⟩, by simp [intOf]; omega⟩
               rw [hnx, ← hi2]
               simp_all [setI])
            | (go_ret; refine ⟨?_, Below.allocS hb _⟩; rw [← hi2]; simp_all [setI] <;> (rw [if_neg (by omega)] at hi2; exact hi2))
        · obtain rfl : i = l.length := by omega
          go_wp2_with fail
          all_goals (go_ret; refine ⟨?_, hb⟩; rw [← HI.out]; simp [okM, setI])

end Go.Proofs.YthgjdaomcpinaaaGreatDoor

/- An argument that is a text. -/
set_option linter.unusedVariables false
namespace Go.Proofs.YthgjdaomcpinaaaGreatDoor
open Go.ChangeShapes Go.WideShapes Go.ChangeAt Go.RowKit Pl

theorem str_list (s : ByteArray) : s = ⟨List.toArray s.data.toList⟩ := by
  apply ByteArray.ext
  simp
theorem str_val {W : World} {v : Value} (h : Sh.Val W .str v) : ∃ s : Bs, v = .string ⟨List.toArray (s)⟩ := by
  obtain ⟨s, hs, _⟩ := h
  obtain rfl : v = .string s := by simpa using hs
  exact ⟨s.data.toList, congrArg Value.string (str_list s)⟩

theorem str_beq (x y : List UInt8) : ((⟨List.toArray x⟩ : ByteArray) == ⟨List.toArray y⟩) = decide (x = y) := by
  rw [beq_toListBytes, ByteArray.toList_eq, ByteArray.toList_eq, Bool.eq_iff_iff]
  simp

end Go.Proofs.YthgjdaomcpinaaaGreatDoor

/- An argument of the type []api.Member is a list of members of ours. -/
set_option linter.unusedVariables false
namespace Go.Proofs.YthgjdaomcpinaaaGreatDoor
open Go.ChangeShapes Go.WideShapes Go.ChangeAt Go.RowKit Pl

theorem cell_lt {W : World} {g o : Nat} {x : Value} (h : W.cell? ⟨g, o, none⟩ = some x) : g < W.heap.size := by
  rcases Nat.lt_or_ge g W.heap.size with hlt | hge
  · exact hlt
  · unfold World.cell? at h
    rw [Array.getElem?_eq_none hge] at h
    simp at h
theorem ms_val {W : World} {v : Value} (h : Sh.Val W (.slice 2 (.pair .str (.pair (.int .i64) .unit))) v) : ∃ l : List (Bs × Int), MS W v l := by
  rcases (show _ ∨ _ from h) with h | ⟨a, len, cap, hv, hlc, hcm, hel⟩
  · obtain rfl : v = .slice none 0 0 := by simpa using h
    exact ⟨[], none, 0, rfl, Nat.le_refl _, by unfold maxLen; omega, fun h => absurd rfl h⟩
  · obtain rfl : v = .slice (some a) len cap := by simpa using hv
    rcases Nat.eq_zero_or_pos len with h0 | hpos
    · subst h0
      exact ⟨[], some a, cap, rfl, hlc, hcm, fun h => absurd rfl h⟩
    · obtain ⟨hs, hc⟩ := slice_cells (by decide) hpos hel
      have hf : ∀ i, ∃ x : Bs × Int, i < len → W.cell? ⟨a.block, a.off + i * 2, none⟩ = some (.string ⟨List.toArray (x.1)⟩) ∧ W.cell? ⟨a.block, a.off + i * 2 + 1, none⟩ = some (.int .i64 (x.2)) := by
        intro i
        by_cases hi : i < len
        · obtain ⟨cs, ⟨x, y, rfl, ⟨s, rfl, _⟩, z, u, rfl, ⟨n, rfl, _⟩, hu⟩, _, hj⟩ := hc i hi
          have h0 := hj 0 (by decide)
          have h1 := hj 1 (by decide)
          refine ⟨(s.data.toList, n), fun _ => ⟨?_, ?_⟩⟩
          · rw [← str_list s]
            simpa using h0
          · simpa using h1
        · exact ⟨([], 0), fun h => absurd h hi⟩
      obtain ⟨f, hf⟩ := Classical.axiomOfChoice hf
      obtain ⟨b, off, sp⟩ := a
      simp only at hs
      subst hs
      refine ⟨(List.range len).map f, some ⟨b, off, none⟩, cap, by simp, by simpa using hlc, hcm, fun _ => ⟨b, off, rfl, cell_lt (hf 0 hpos).1, fun i hi => ?_⟩⟩
      have hi' : i < len := by simpa using hi
      have hg : ((List.range len).map f).getD i ([], 0) = f i := by simp [List.getD, hi']
      rw [hg]
      exact hf i hi'
theorem ss_val {W : World} {v : Value} (h : Sh.Val W (.slice 1 .str) v) : ∃ l : List Bs, SS W v l ∧ ∀ i, i < l.length → (l.getD i []).length ≤ maxLen := by
  rcases (show _ ∨ _ from h) with h | ⟨a, len, cap, hv, hlc, hcm, hel⟩
  · obtain rfl : v = .slice none 0 0 := by simpa using h
    exact ⟨[], SS.nil W, fun i hi => by simp at hi⟩
  · obtain rfl : v = .slice (some a) len cap := by simpa using hv
    rcases Nat.eq_zero_or_pos len with h0 | hpos
    · subst h0
      exact ⟨[], ⟨some a, cap, rfl, hlc, hcm, fun h => absurd rfl h⟩, fun i hi => by simp at hi⟩
    · obtain ⟨hs, hc⟩ := slice_cells (by decide) hpos hel
      have hf : ∀ i, ∃ x : Bs, i < len → W.cell? ⟨a.block, a.off + i, none⟩ = some (.string ⟨List.toArray (x)⟩) ∧ x.length ≤ maxLen := by
        intro i
        by_cases hi : i < len
        · obtain ⟨cs, ⟨s, rfl, hsl⟩, _, hj⟩ := hc i hi
          have h0 := hj 0 (by decide)
          refine ⟨s.data.toList, fun _ => ⟨?_, by rw [Array.length_toList]; exact hsl⟩⟩
          rw [← str_list s]
          simpa using h0
        · exact ⟨[], fun h => absurd h hi⟩
      obtain ⟨f, hf⟩ := Classical.axiomOfChoice hf
      obtain ⟨b, off, sp⟩ := a
      simp only at hs
      subst hs
      have hg : ∀ i, i < len → ((List.range len).map f).getD i [] = f i := fun i hi => by simp [List.getD, hi]
      refine ⟨(List.range len).map f, ⟨some ⟨b, off, none⟩, cap, by simp, by simpa using hlc, hcm, fun _ => ⟨b, off, rfl, cell_lt (hf 0 hpos).1, fun i hi => ?_⟩⟩, fun i hi => ?_⟩
      · have hi' : i < len := by simpa using hi
        rw [hg i hi']
        exact (hf i hi').1
      · have hi' : i < len := by simpa using hi
        rw [hg i hi']
        exact (hf i hi').2
end Go.Proofs.YthgjdaomcpinaaaGreatDoor

/- A list of numbers, as an argument. -/
set_option linter.unusedVariables false
set_option linter.unnecessarySimpa false
namespace Go.Proofs.YthgjdaomcpinaaaGreatDoor
open Go.ChangeShapes Go.WideShapes Go.ChangeAt Go.RowKit Pl

def ISrc (w : World) (g o : Nat) (l : List Int) : Prop := ∀ i, i < l.length → w.cell? ⟨g, o + i, none⟩ = some (.int .i64 (l.getD i 0))
def IS (w : World) (v : Value) (l : List Int) : Prop :=
  ∃ a cap, v = .slice a l.length cap ∧ l.length ≤ cap ∧ cap ≤ maxLen ∧ (l ≠ [] → ∃ g off, a = some ⟨g, off, none⟩ ∧ g < w.heap.size ∧ ISrc w g off l)
theorem IS.keep {W w : World} {v : Value} {l : List Int} (h : IS W v l) (hb : Below W.heap.size W w) : IS w v l := by
  obtain ⟨a, cap, h1, h2, h3, h4⟩ := h
  refine ⟨a, cap, h1, h2, h3, fun hl => ?_⟩
  obtain ⟨g, off, e, hg, hc⟩ := h4 hl
  exact ⟨g, off, e, Nat.lt_of_lt_of_le hg hb.size, fun i hi => (hb.cell (p := ⟨g, off + i, none⟩) hg).trans (hc i hi)⟩
theorem IS.form {w : World} {v : Value} {l : List Int} (h : IS w v l) : ∃ a c, v = .slice a l.length c := by
  obtain ⟨a, cap, h1, _⟩ := h
  exact ⟨a, cap, h1⟩
theorem IS.small {w : World} {v : Value} {l : List Int} (h : IS w v l) : l.length ≤ 9223372036854775807 := by
  obtain ⟨a, cap, h1, h2, h3, _⟩ := h
  unfold maxLen at h3; omega
theorem IS.at' {w : World} {a : Option Addr} {c : Nat} {l : List Int} (h : IS w (.slice a l.length c) l) (i : Nat) (hi : i < l.length) :
    ∃ g off, a = some ⟨g, off, none⟩ ∧ g < w.heap.size ∧ w.cell? ⟨g, off + i, none⟩ = some (.int .i64 (l.getD i 0)) := by
  obtain ⟨a', cap, h1, _, _, h5⟩ := h
  injection h1 with h1 _ _
  obtain ⟨g, off, e, hg, hc⟩ := h5 (by intro e; rw [e] at hi; simp at hi)
  exact ⟨g, off, h1.trans e, hg, hc i hi⟩
theorem is_val {W : World} {v : Value} (h : Sh.Val W (.slice 1 (.int .i64)) v) : ∃ l : List Int, IS W v l := by
  rcases (show _ ∨ _ from h) with h | ⟨a, len, cap, hv, hlc, hcm, hel⟩
  · obtain rfl : v = .slice none 0 0 := by simpa using h
    exact ⟨[], ⟨none, 0, rfl, Nat.le_refl _, by unfold maxLen; omega, fun h => absurd rfl h⟩⟩
  · obtain rfl : v = .slice (some a) len cap := by simpa using hv
    rcases Nat.eq_zero_or_pos len with h0 | hpos
    · subst h0
      exact ⟨[], ⟨some a, cap, rfl, hlc, hcm, fun h => absurd rfl h⟩⟩
    · obtain ⟨hs, hc⟩ := slice_cells (by decide) hpos hel
      have hf : ∀ i, ∃ x : Int, i < len → W.cell? ⟨a.block, a.off + i, none⟩ = some (.int .i64 (x)) := by
        intro i
        by_cases hi : i < len
        · obtain ⟨cs, ⟨n, rfl, _⟩, _, hj⟩ := hc i hi
          have h0 := hj 0 (by decide)
          exact ⟨n, fun _ => by simpa using h0⟩
        · exact ⟨0, fun h => absurd h hi⟩
      obtain ⟨f, hf⟩ := Classical.axiomOfChoice hf
      obtain ⟨b, off, sp⟩ := a
      simp only at hs
      subst hs
      have hg : ∀ i, i < len → ((List.range len).map f).getD i 0 = f i := fun i hi' => by simp [List.getD, hi']
      refine ⟨(List.range len).map f, ⟨some ⟨b, off, none⟩, cap, by simp, by simpa using hlc, hcm, fun _ => ⟨b, off, rfl, cell_lt (hf 0 hpos), fun i hi => ?_⟩⟩⟩
      have hi' : i < len := by simpa using hi
      rw [hg i hi']
      exact hf i hi'
end Go.Proofs.YthgjdaomcpinaaaGreatDoor

/- Slices of numbers that a call itself made: append. -/
set_option linter.unusedSimpArgs false
set_option linter.unusedVariables false
namespace Go.Proofs.YthgjdaomcpinaaaGreatDoor
open Go.RowKit

theorem infoZ : (Tryz.prog.info? 3).map (fun i => (i.zero, i.size, i.bytes)) = some (some (.int .i64 (0)), 1, 8) := by kernel_rfl

def zv (l : List Int) : List Value := l.map fun c => Value.int .i64 c
/-- v is nil, or a slice of a block from base on, with these numbers. -/
def ZRow (w : World) (base : Nat) (v : Value) (l : List Int) : Prop := w.ownsRow base 3 1 v l.length (zv l)

theorem zv_len (l : List Int) : (zv l).length = l.length := by simp [zv]
theorem ZRow.nil (w : World) (base : Nat) : ZRow w base (.slice none 0 0) [] := ⟨rfl, .inl ⟨rfl, rfl⟩⟩
theorem ZRow.cells {w : World} {base : Nat} {v : Value} {l : List Int} (h : ZRow w base v l) :
    (v = .slice none 0 0 ∧ l = []) ∨ ∃ g cap, v = .slice (some ⟨g, 0, none⟩) l.length cap ∧ base ≤ g ∧ g < w.heap.size ∧ l.length ≤ cap ∧ cap ≤ maxLen ∧ (∀ i, i < l.length → w.cell? ⟨g, i, none⟩ = some (.int .i64 (l.getD i 0))) ∧ ∀ o, w.frozen? ⟨g, o, none⟩ = false := by
  rcases h.2 with ⟨h1, h2⟩ | ⟨g, cap, cur, hv, hb, hg, hn, hm, hc, ht⟩
  · exact .inl ⟨h1, List.length_eq_zero_iff.1 h2⟩
  · refine .inr ⟨g, cap, hv, hb, ?_, hn, hm, fun i hi => ?_, fun o => ?_⟩
    · rcases Nat.lt_or_ge g w.heap.size with hlt | hge
      · exact hlt
      · rw [Array.getElem?_eq_none hge] at hg; cases hg
    · have h1 : cur[i]? = (cur.toList.take (l.length * 1))[i]? := by
        rw [List.getElem?_take, if_pos (by omega)]; simp
      have h2 : w.cell? ⟨g, i, none⟩ = cur[i]? := by simp [World.cell?, hg]
      rw [h2, h1, ht]
      simp [zv, List.getD, List.getElem?_eq_getElem hi]
    · simp [World.frozen?, hg]

theorem ZRow.form {w : World} {base : Nat} {v : Value} {l : List Int} (h : ZRow w base v l) : ∃ (a : Option Addr) (cap : Nat), v = .slice a l.length cap := by
  rcases h.cells with ⟨rfl, rfl⟩ | ⟨g, cap, rfl, _⟩
  · exact ⟨none, 0, rfl⟩
  · exact ⟨_, cap, rfl⟩
theorem ZRow.own {w : World} {base : Nat} {v : Value} {l : List Int} (h : ZRow w base v l) : ∀ k, v.ownBlock = some k → base ≤ k := by
  intro k hk
  rcases h.cells with ⟨rfl, _⟩ | ⟨g, cap, rfl, hb, _⟩
  · cases hk
  · cases hk; exact hb

theorem ZRow.kept {w w' : World} {base : Nat} {v : Value} {l : List Int} (h : ZRow w base v l) (hb : ∀ k, v.ownBlock = some k → w'.heap[k]? = w.heap[k]?) : ZRow w' base v l := by
  refine ⟨h.1, h.2.imp id ?_⟩
  rintro ⟨g, cap, cur, hv, h1, h2, h3⟩
  subst hv
  exact ⟨g, cap, cur, rfl, h1, (hb g rfl).trans h2, h3⟩
theorem ZRow.alloc {w : World} {base : Nat} {v : Value} {l : List Int} (h : ZRow w base v l) (o : Obj) : ZRow (w.alloc o) base v l := by
  refine h.kept (fun k hk => Below.heap_alloc _ _ _ ?_)
  rcases h.cells with ⟨rfl, rfl⟩ | ⟨g, cap, rfl, _, hlt, _⟩
  · cases hk
  · cases hk; exact hlt
theorem ZRow.drew {w : World} {base : Nat} {v : Value} {l : List Int} (h : ZRow w base v l) : ZRow w.drew base v l := h

theorem zsrc1 (w : World) (x : Int) (t : TypeId) : ISrc (w.alloc (.cells #[.int .i64 (x)] t)) w.heap.size 0 [x] := by
  intro i hi
  have : i = 0 := by simp at hi; omega
  subst this
  simp
theorem ISrc.drew {w : World} {g o : Nat} {l : List Int} (h : ISrc w g o l) : ISrc w.drew g o l := h
theorem zsrc_news {w : World} {g o : Nat} {l : List Int} (h : ISrc w g o l) : ∀ j u, (zv l)[j]? = some u → w.cell? ((⟨g, o, none⟩ : Addr).add j) = some u := by
  intro j u hj
  have hjl : j < l.length := by
    rcases Nat.lt_or_ge j l.length with hlt | hge
    · exact hlt
    · rw [List.getElem?_eq_none (by rw [zv_len]; exact hge)] at hj; cases hj
  have hadd : (⟨g, o, none⟩ : Addr).add j = ⟨g, o + j, none⟩ := by unfold Addr.add; split <;> simp_all
  rw [hadd, h j hjl]
  simp [zv, List.getElem?_eq_getElem hjl] at hj
  simp [List.getD, List.getElem?_eq_getElem hjl, hj]

theorem zone (l : List Int) : ∀ u ∈ zv l, u.oneCell' = true := by
  intro u hu
  simp [zv] at hu
  obtain ⟨c, _, rfl⟩ := hu
  rfl

theorem ZRow.is {w : World} {base : Nat} {v : Value} {l : List Int} (h : ZRow w base v l) : IS w v l := by
  rcases h.cells with ⟨rfl, rfl⟩ | ⟨g, cap, h1, h2, h3, h4, h5, h6, h7⟩
  · exact ⟨none, 0, rfl, Nat.le_refl _, by unfold maxLen; omega, fun h => absurd rfl h⟩
  · exact ⟨_, cap, h1, h4, h5, fun _ => ⟨g, 0, rfl, h3, fun i hi => by rw [Nat.zero_add]; exact h6 i hi⟩⟩
theorem ZRow.keep {W w : World} {b : Nat} {v : Value} {l : List Int} (h : ZRow W b v l) (hb : Below W.heap.size W w) : ZRow w b v l := by
  refine h.kept (fun k hk => hb.block k ?_)
  rcases h.cells with ⟨rfl, _⟩ | ⟨g, cap, rfl, _, hg, _⟩
  · cases hk
  · cases hk; exact hg
theorem ZRow.low {w : World} {b c : Nat} {v : Value} {l : List Int} (h : ZRow w b v l) (hc : c ≤ b) : ZRow w c v l := by
  refine ⟨h.1, h.2.imp id ?_⟩
  rintro ⟨g, cap, cur, hv, h1, h2⟩
  exact ⟨g, cap, cur, hv, Nat.le_trans hc h1, h2⟩

section
variable {ops : Array Oper} {o : Oper} {a : Act} {w : World} {Q : Exit → Act → World → Prop}

theorem wp_appZ {K : Act → World → Prop} (s x : Operand)
    (ho : o.op = .call { callee := .builtin .append, args := #[s, x], argTypes := #[51, 51] })
    (base : Nat) (v : Value) (l : List Int) (hs : a.eval s = v) (hown : ZRow w base v l)
    (g off m c : Nat) (news : List Int) (hx : a.eval x = .slice (some ⟨g, off, none⟩) m c) (hm : news.length = m) (hsrc : ISrc w g off news)
    (hlen : l.length + m ≤ 8796093022208) (hbase : base ≤ w.heap.size)
    (h : ∀ v' w', ZRow w' base v' (l ++ news) → Below base w w' → K (a.put o.dst v') w') : o.wp Tryz.prog a w K Q := by
  obtain ⟨i0, hi, hz0, hz1, hz2⟩ := info_parts infoZ
  refine wp_append_own w s x 51 ho base 3 i0 (.int .i64 (0)) 1 8 Tryz.underlying51 hi hz0 hz1 hz2 rfl (by decide) v l.length (zv l) hs hown ⟨g, off, none⟩ m c (zv news) hx (by rw [zv_len, hm]; omega) (zsrc_news hsrc) (zone news)
    (by unfold maxLen; omega) (by omega) hbase (fun v' w' h2 h3 _ => h v' w' ?_ (grown_below h3 hbase hown.own))
  unfold ZRow
  rw [List.length_append, hm, show zv (l ++ news) = zv l ++ zv news from by simp [zv]]
  exact h2

theorem wpList_appZ {rest : List Oper} (hgd : o.guard = none) (s x : Operand)
    (ho : o.op = .call { callee := .builtin .append, args := #[s, x], argTypes := #[51, 51] })
    (base : Nat) (v : Value) (l : List Int) (hs : a.eval s = v) (hown : ZRow w base v l)
    (g off m c : Nat) (news : List Int) (hx : a.eval x = .slice (some ⟨g, off, none⟩) m c) (hm : news.length = m) (hsrc : ISrc w g off news)
    (hlen : l.length + m ≤ 8796093022208) (hbase : base ≤ w.heap.size)
    (h : ∀ v' w', ZRow w' base v' (l ++ news) → Below base w w' → wpList Tryz.prog ops Q rest (a.put o.dst v') w') : wpList Tryz.prog ops Q (o :: rest) a w :=
  wpList_plain hgd fun _ hK => wp_appZ s x ho base v l hs hown g off m c news hx hm hsrc hlen hbase fun v' w' h2 h3 => hK _ _ (h v' w' h2 h3)

theorem step_appZ {K : Act → World → Prop} {E : Prop} (hgd : o.guard = none) (s x : Operand)
    (ho : o.op = .call { callee := .builtin .append, args := #[s, x], argTypes := #[51, 51] })
    (base : Nat) (v : Value) (l : List Int) (hs : a.eval s = v) (hown : ZRow w base v l)
    (g off m c : Nat) (news : List Int) (hx : a.eval x = .slice (some ⟨g, off, none⟩) m c) (hm : news.length = m) (hsrc : ISrc w g off news)
    (hlen : l.length + m ≤ 8796093022208) (hbase : base ≤ w.heap.size)
    (h : ∀ v' w', ZRow w' base v' (l ++ news) → Below base w w' → K (a.put o.dst v') w') :
    if Region.wanted o (yielded ops a.tmps) = true then Oper.wp Tryz.prog o a w K Q else E := by
  have hw : Region.wanted o (yielded ops a.tmps) = true := by simp [Region.wanted, hgd]
  rw [if_pos hw]
  exact wp_appZ s x ho base v l hs hown g off m c news hx hm hsrc hlen hbase h
end
end Go.Proofs.YthgjdaomcpinaaaGreatDoor
