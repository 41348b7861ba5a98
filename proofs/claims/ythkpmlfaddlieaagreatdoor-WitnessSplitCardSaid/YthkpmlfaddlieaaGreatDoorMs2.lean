/- Open, StrV, Eq, Nibble, NodeC, Num, Enc, Dec, Ref1, Ref2. -/
import Derived.Test.YthkpmlfaddlieaaGreatDoorMs1
set_option linter.unnecessarySimpa false
set_option linter.unusedSimpArgs false
set_option linter.unusedVariables false
set_option maxRecDepth 100000
set_option maxHeartbeats 32000000
namespace Go.Proofs.YthkpmlfaddlieaaGreatDoor
open Go.ChangeShapes Go.WideShapes Go.ChangeAt Go.RowKit
inductive Sh where
 | int (k : IntKind)
 | str
 | bool
 | slice (c : Nat) (e : Sh)
 | unit
 | pair (a b : Sh)
def Sh.cells : Sh → Nat
 | .unit => 0
 | .pair a b => a.cells + b.cells
 | _ => 1
def Sh.Ok (w : World) : Sh → List Value → Prop
 | .int k, cs => ∃ n, cs = [.int k n] ∧ (Lit.int k n).wf = true
 | .str, cs => ∃ s : ByteArray, cs = [.string s] ∧ s.size ≤ maxLen
 | .bool, cs => ∃ b, cs = [.bool b]
 | .slice c e, cs => cs = [.slice none 0 0] ∨ ∃ a len cap, cs = [.slice (some a) len cap] ∧ len ≤ cap ∧ cap ≤ maxLen ∧
   ∀ i, i < len → ∃ cs', w.cells? 0 (a.add (i * c)) c = some cs' ∧ e.Ok w cs'
 | .unit, cs => cs = []
 | .pair a b, cs => ∃ x y, cs = x ++ y ∧ a.Ok w x ∧ b.Ok w y
theorem slice_cells {w : World} {a : Addr} {c len : Nat} {e : Sh} (hc : 0 < c) (hlen : 0 < len)
  (h : ∀ i, i < len → ∃ cs', w.cells? 0 (a.add (i * c)) c = some cs' ∧ e.Ok w cs') :
  a.spot = none ∧ ∀ i, i < len → ∃ cs', e.Ok w cs' ∧ cs'.length = c ∧ ∀ j, j < c → w.cell? ⟨a.block, a.off + i * c + j, none⟩ = cs'[j]? := by
 obtain ⟨b, off, spot⟩ := a
 have hs : spot = none := by
  obtain ⟨cs', h1, _⟩ := h 0 hlen
  obtain ⟨_, hl, h2⟩ := World.cells?_some h1
  have h3 := h2 0 hc
  simp only [Nat.zero_mul, Addr.add, if_true] at h3
  cases spot with
  | none => rfl
  | some s =>
   exfalso
   unfold World.cell? at h3
   rw [List.getElem?_eq_getElem (by omega)] at h3
   split at h3 <;> simp at h3
 subst hs
 refine ⟨rfl, fun i hi => ?_⟩
 obtain ⟨cs', h1, ho⟩ := h i hi
 obtain ⟨_, hl, h2⟩ := World.cells?_some h1
 refine ⟨cs', ho, hl, fun j hj => ?_⟩
 have h3 := h2 j hj
 rw [← h3]
 congr 1
 unfold Addr.add
 by_cases hi0 : i * c = 0
 ·by_cases hj0 : j = 0
  ·simp [hi0, hj0]
  ·simp [hi0, hj0]
 ·by_cases hj0 : j = 0
  ·simp [hi0, hj0]
  ·simp [hi0, hj0]
def repSh (a : Sh) : Nat → Sh
 | 0 => .unit
 | n + 1 => .pair a (repSh a n)
def fieldsSh (P : Program) (f : TypeId → Option Sh) : List Field → Nat → Nat → Option Sh
 | [], off, total => if off = total then some .unit else none
 | x :: xs, off, total =>
  match f x.type with
  | some a => if x.offset = off ∧ a.cells = P.cellsOf x.type then (fieldsSh P f xs (off + a.cells) total).map (.pair a) else none
  | none => none
def shapeOf (P : Program) : Nat → TypeId → Option Sh
 | 0, _ => none
 | n + 1, t =>
  match P.underlying t with
  | some .bool => some .bool
  | some (.int k) => some (.int k)
  | some .string => some .str
  | some (.slice e) => match shapeOf P n e with
   | some s => if s.cells = P.cellsOf e then some (.slice (P.cellsOf e) s) else none
   | none => none
  | some (.struct fs) => fieldsSh P (shapeOf P n) fs.toList 0 (P.cellsOf t)
  | some (.array k e) => match shapeOf P n e with
   | some s => if s.cells = P.cellsOf e ∧ k * P.cellsOf e = P.cellsOf t then some (repSh s k) else none
   | none => none
  | _ => none
section
variable {H : Type} {enc : TypeId × Value → H} {P : Program} {w : World} {spare : Nat → Bool} {held : Bool}
theorem rep_ok {s : Sh} {c : Nat} (hc : s.cells = c) : ∀ (k : Nat) (cs : List Value), cs.length = k * c →
  (∀ i, i < k → s.Ok w ((cs.drop (i * c)).take c)) → (repSh s k).Ok w cs
 | 0, cs, hl, _ => by
  have : cs = [] := by simpa using hl
  exact this
 | k + 1, cs, hl, h => by
  refine ⟨cs.take c, cs.drop c, (List.take_append_drop c cs).symm, by simpa using h 0 (by omega), rep_ok hc k _ ?_ (fun i hi => ?_)⟩
  ·rw [List.length_drop, hl, Nat.succ_mul]; omega
  ·have := h (i + 1) (by omega)
   rw [List.drop_drop]
   rw [Nat.succ_mul] at this
   rwa [Nat.add_comm c (i * c)]
theorem fields_ok {f : TypeId → Option Sh} {n : Nat} (ih : ∀ t s, f t = some s → ∀ cs x, DataW.trod enc P w 0 spare held n t cs = some x → s.Ok w cs) {cs : List Value} :
  ∀ (fs : List Field) (off total : Nat) (s : Sh), fieldsSh P f fs off total = some s → cs.length = total →
   (∀ x ∈ fs, ∃ y, DataW.trod enc P w 0 spare held n x.type ((cs.drop x.offset).take (P.cellsOf x.type)) = some y) → s.Ok w (cs.drop off)
 | [], off, total, s, h, hl, _ => by
  simp only [fieldsSh] at h
  split at h
  ·cases h
   rename_i e
   show cs.drop off = []
   rw [e, ← hl]; simp
  ·cases h
 | x :: xs, off, total, s, h, hl, hx => by
  simp only [fieldsSh] at h
  split at h
  ·rename_i a ha
   split at h
   ·rename_i hc
    cases hr : fieldsSh P f xs (off + a.cells) total with
    | none => rw [hr] at h; cases h
    | some r =>
     rw [hr] at h
     cases h
     obtain ⟨y, hy⟩ := hx x (by simp)
     rw [hc.1] at hy
     have h1 := ih _ _ ha _ _ hy
     have h2 := fields_ok ih xs (off + a.cells) total r hr hl (fun z hz => hx z (by simp [hz]))
     refine ⟨(cs.drop off).take (P.cellsOf x.type), (cs.drop off).drop (P.cellsOf x.type), (List.take_append_drop _ _).symm, h1, ?_⟩
     rw [List.drop_drop, ← hc.2]
     exact h2
   ·cases h
  ·cases h
theorem shape_ok : ∀ (m : Nat) (t : TypeId) (s : Sh), shapeOf P m t = some s → ∀ (fuel : Nat) (cs : List Value) (x : DataW H × List MemPlace),
  DataW.trod enc P w 0 spare held fuel t cs = some x → s.Ok w cs
 | 0, _, _, h, _, _, _, _ => by cases h
 | m + 1, t, s, h, fuel, cs, x, hx => by
  unfold shapeOf at h
  split at h
  ·rename_i ht
   cases h
   obtain ⟨b, hb, _⟩ := DataW.trod_bool ht hx
   exact ⟨b, hb⟩
  ·rename_i k ht
   cases h
   obtain ⟨b, hb, _, hw⟩ := DataW.trod_int ht hx
   exact ⟨b, hb, hw⟩
  ·rename_i ht
   cases h
   obtain ⟨b, hb, _, hw⟩ := DataW.trod_string ht hx
   exact ⟨b, hb, hw⟩
  ·rename_i e ht
   split at h
   ·rename_i s' hs
    split at h
    ·cases h
     rcases DataW.trod_slice ht hx with ⟨h1, _⟩ | ⟨a, len, cap, elems, rest, n, _, hcs, _, _, hl, hm, hlen, hel, _⟩
     ·exact .inl h1
     ·refine .inr ⟨a, len, cap, hcs, hl, hm, fun i hi => ?_⟩
      have h2 := hel i hi
      rw [List.getElem?_eq_getElem (by omega)] at h2
      cases hc : w.cells? 0 (a.add (i * P.cellsOf e)) (P.cellsOf e) with
      | none => rw [hc] at h2; cases h2
      | some cs' =>
       rw [hc] at h2
       exact ⟨cs', rfl, shape_ok m e _ hs n cs' _ h2⟩
    ·cases h
   ·cases h
  ·rename_i fs ht
   obtain ⟨xs, n, _, _, hl, hlen, hf⟩ := DataW.trod_struct ht hx
   have := fields_ok (cs := cs) (n := n) (fun t s hs cs x hx => shape_ok m t s hs n cs x hx) fs.toList 0 (P.cellsOf t) s h hl (fun f hmem => by
    obtain ⟨i, hi, rfl⟩ := List.getElem_of_mem hmem
    have h3 := hf i fs.toList[i] (by simp)
    rw [List.getElem?_eq_getElem (by rw [hlen]; simpa using hi)] at h3
    exact ⟨_, h3⟩)
   simpa using this
  ·rename_i k e ht
   split at h
   ·rename_i s' hs
    split at h
    ·rename_i hc
     cases h
     obtain ⟨xs, n, _, _, hl, hlen, hf⟩ := DataW.trod_array ht hx
     refine rep_ok hc.1 k cs (hl.trans hc.2.symm) (fun i hi => ?_)
     have h3 := hf i hi
     rw [List.getElem?_eq_getElem (by omega)] at h3
     exact shape_ok m e _ hs n _ _ h3
    ·cases h
   ·cases h
  ·cases h
def Sh.Val (w : World) (s : Sh) (v : Value) : Prop :=
 match s with
 | .unit | .pair _ _ => ∃ cs : List Value, v = .agg cs.toArray ∧ s.Ok w cs
 | s => s.Ok w [v]
theorem fieldsSh_agg {f : TypeId → Option Sh} : ∀ {fs : List Field} {off total : Nat} {s : Sh}, fieldsSh P f fs off total = some s → s = .unit ∨ ∃ a b, s = .pair a b
 | [], off, total, s, h => by
  simp only [fieldsSh] at h
  split at h
  ·cases h; exact .inl rfl
  ·cases h
 | x :: xs, off, total, s, h => by
  simp only [fieldsSh] at h
  split at h
  ·split at h
   ·cases hr : fieldsSh P f xs (off + _) total with
    | none => rw [hr] at h; cases h
    | some r => rw [hr] at h; cases h; exact .inr ⟨_, _, rfl⟩
   ·cases h
  ·cases h
theorem shape_val {r : Reach} {b0 : Nat} {m : Nat} {t : TypeId} {s : Sh} (h : shapeOf P m t = some s) {v : Value} {d : DataW H} {ps : List MemPlace}
  (hval : Value.okWide P w r b0 t v) (hd : DataW.Trod enc P w 0 spare held t v d ps) : s.Val w v := by
 obtain ⟨fuel, hf⟩ := hd
 have hok := shape_ok m t s h fuel _ _ hf
 cases m with
 | zero => cases h
 | succ m =>
  unfold shapeOf at h
  split at h
  ·rename_i ht
   cases h
   obtain ⟨b, rfl⟩ := okWide_bool ht hval
   exact hok
  ·rename_i k ht
   cases h
   obtain ⟨b, rfl⟩ := okWide_int ht hval
   exact hok
  ·rename_i ht
   cases h
   obtain ⟨b, rfl⟩ := okWide_string ht hval
   exact hok
  ·rename_i e ht
   split at h
   ·split at h
    ·cases h
     obtain ⟨a, l, c, rfl⟩ := okWide_slice ht hval
     exact hok
    ·cases h
   ·cases h
  ·rename_i fs ht
   obtain ⟨cs, rfl, _⟩ := okWide_struct ht hval
   rcases fieldsSh_agg h with rfl | ⟨a, b, rfl⟩
   ·exact ⟨cs.toList, by simp, hok⟩
   ·exact ⟨cs.toList, by simp, hok⟩
  ·rename_i k e ht
   have hv : ∃ cs : Array Value, v = .agg cs := by
    simp only [Value.okWide, ht] at hval
    obtain ⟨cs, h1, _⟩ := hval
    exact ⟨cs, h1⟩
   obtain ⟨cs, rfl⟩ := hv
   split at h
   ·split at h
    ·cases h
     cases k with
     | zero => exact ⟨cs.toList, by simp, hok⟩
     | succ k => exact ⟨cs.toList, by simp, hok⟩
    ·cases h
   ·cases h
  ·cases h
end
end Go.Proofs.YthkpmlfaddlieaaGreatDoor
namespace Go.Proofs.YthkpmlfaddlieaaGreatDoor
open Go.ChangeShapes Go.WideShapes Go.ChangeAt Go.RowKit Pl
theorem str_list (s : ByteArray) : s = ⟨List.toArray s.data.toList⟩ := by
 apply ByteArray.ext
 simp
theorem str_beq (x y : List UInt8) : ((⟨x.toArray⟩ : ByteArray) == ⟨y.toArray⟩) = decide (x = y) := by
 rw [beq_toListBytes, ByteArray.toList_eq, ByteArray.toList_eq, Bool.eq_iff_iff]
 simp
end Go.Proofs.YthkpmlfaddlieaaGreatDoor
namespace Go.Proofs.YthkpmlfaddlieaaGreatDoor
open Go.RowKit Pl
theorem eq_items {P : Program} (w : World) (d : Nat) {e : TypeId} (he : P.underlying e = some .string) (f g : Nat → List UInt8) (xs ys : Array Value) :
  ∀ (is : List Nat), (∀ i ∈ is, xs[i * 1]? = some (.string ⟨List.toArray (f i)⟩) ∧ ys[i * 1]? = some (.string ⟨List.toArray (g i)⟩)) → (Op.eqItems (d + 1) e 1 xs ys is).run P w = .ok (decide (∀ i ∈ is, f i = g i)) w
 | [], _ => by simp [Op.eqItems]
 | i :: is, h => by
  have hp : P.plainKey e = true := by simp [Program.plainKey, he]
  obtain ⟨h1, h2⟩ := h i (by simp)
  have ih := eq_items w d he f g xs ys is (fun j hj => h j (by simp [hj]))
  simp only [Op.eqItems, Sem.run_bind, run_part_plain w hp h1, run_part_plain w hp h2, Result.andThen_ok, run_equalIn_string w d e _ _ he]
  have hb : ((⟨List.toArray (f i)⟩ : ByteArray).toList == (⟨List.toArray (g i)⟩ : ByteArray).toList) = decide (f i = g i) := by
   rw [← beq_toListBytes, str_beq]
  rw [hb]
  by_cases hfg : f i = g i
  ·simp [hfg, ih]
  ·simp [hfg]
theorem eq_strs {P : Program} (w : World) (d : Nat) {t e : TypeId} {n : Nat} {i : TypeInfo} (hu : P.underlying t = some (.array n e)) (hi : P.info? e = some i) (he : P.underlying e = some .string) (hc : P.cellsOf e = 1)
  (f g : Nat → List UInt8) (xs ys : Array Value) (hx : ∀ i, i < n → xs[i]? = some (.string ⟨List.toArray (f i)⟩)) (hy : ∀ i, i < n → ys[i]? = some (.string ⟨List.toArray (g i)⟩)) :
  (Op.equalIn (d + 2) t (.agg xs) (.agg ys)).run P w = .ok (decide (∀ i, i < n → f i = g i)) w := by
 rw [run_equalIn_array w (d + 1) xs ys hu hi, hc, eq_items w d he f g xs ys (List.range n) (fun i hi => by
  have hi' : i < n := by simpa using hi
  rw [Nat.mul_one]
  exact ⟨hx i hi', hy i hi'⟩)]
 congr 1
 simp
theorem list_getD (l : List (List UInt8)) (i : Nat) (h : i < l.length) : (l.map fun s => Value.string ⟨s.toArray⟩).toArray[i]? = some (.string ⟨List.toArray (l.getD i [])⟩) := by
 simp [List.getD, List.getElem?_eq_getElem h]
theorem same_of {l m : List (List UInt8)} {n : Nat} (hl : l.length = n) (hm : m.length = n) : decide (∀ i, i < n → l.getD i [] = m.getD i []) = sameL l m := by
 unfold sameL
 rw [decide_eq_decide]
 constructor
 ·intro h
  apply List.ext_getElem (by omega)
  intro i h1 h2
  have := h i (by omega)
  simpa [List.getD, List.getElem?_eq_getElem h1, List.getElem?_eq_getElem h2] using this
 ·rintro rfl i _
  rfl
theorem cellsStr : Tryz.prog.cellsOf 9 = 1 := by kernel_rfl
theorem ka_get (kid : Nat → Bs) (i : Nat) (h : i < 16) : (ka kid).toArray[i]? = some (.string ⟨List.toArray ((kidL kid).getD i [])⟩) := by
 have h1 := ka_at kid i h
 have h2 : (kidL kid).getD i [] = kid i := by simp [kidL, List.getD, h]
 rw [h2]
 simpa using h1
@[go_sem] theorem eq_kids (kid kid2 : Nat → Bs) (d : Nat) (w : World) :
  (Op.equalIn (d + 2) 171 (.agg (ka kid).toArray) (.agg (ka kid2).toArray)).run Tryz.prog w = .ok (sameL (kidL kid) (kidL kid2)) w := by
 obtain ⟨i0, hi, _⟩ := info_parts infoStr
 rw [eq_strs (P := Tryz.prog) w d Tryz.underlying171 hi Tryz.underlying9 cellsStr (fun i => (kidL kid).getD i []) (fun i => (kidL kid2).getD i []) _ _ (fun i hi => ka_get kid i hi) (fun i hi => ka_get kid2 i hi)]
 exact congrArg (fun b => Result.ok b w) (same_of (by simp [kidL]) (by simp [kidL]))
@[go_sem high] theorem eq_kids_none (kid : Nat → Bs) (d : Nat) (w : World) :
  (Op.equalIn (d + 2) 171 (.agg (ka kid).toArray) (.agg #[.string ⟨List.toArray []⟩, .string ⟨List.toArray []⟩, .string ⟨List.toArray []⟩, .string ⟨List.toArray []⟩, .string ⟨List.toArray []⟩, .string ⟨List.toArray []⟩, .string ⟨List.toArray []⟩, .string ⟨List.toArray []⟩, .string ⟨List.toArray []⟩, .string ⟨List.toArray []⟩, .string ⟨List.toArray []⟩, .string ⟨List.toArray []⟩, .string ⟨List.toArray []⟩, .string ⟨List.toArray []⟩, .string ⟨List.toArray []⟩, .string ⟨List.toArray []⟩])).run Tryz.prog w = .ok (noKids kid) w := by
 obtain ⟨i0, hi, _⟩ := info_parts infoStr
 rw [eq_strs (P := Tryz.prog) w d Tryz.underlying171 hi Tryz.underlying9 cellsStr (fun i => (kidL kid).getD i []) (fun i => ([[], [], [], [], [], [], [], [], [], [], [], [], [], [], [], []] : List Bs).getD i []) (ka kid).toArray #[.string ⟨List.toArray []⟩, .string ⟨List.toArray []⟩, .string ⟨List.toArray []⟩, .string ⟨List.toArray []⟩, .string ⟨List.toArray []⟩, .string ⟨List.toArray []⟩, .string ⟨List.toArray []⟩, .string ⟨List.toArray []⟩, .string ⟨List.toArray []⟩, .string ⟨List.toArray []⟩, .string ⟨List.toArray []⟩, .string ⟨List.toArray []⟩, .string ⟨List.toArray []⟩, .string ⟨List.toArray []⟩, .string ⟨List.toArray []⟩, .string ⟨List.toArray []⟩] (fun i hi => ka_get kid i hi) (fun i hi => list_getD [[], [], [], [], [], [], [], [], [], [], [], [], [], [], [], []] i hi)]
 exact congrArg (fun b => Result.ok b w) (same_of (by simp [kidL]) rfl)
@[go_sem] theorem eq_kids_one (kid : Nat → Bs) (x : Bs) (d : Nat) (w : World) :
  (Op.equalIn (d + 2) 171 (.agg (ka kid).toArray) (.agg #[.string ⟨x.toArray⟩, .string ⟨List.toArray []⟩, .string ⟨List.toArray []⟩, .string ⟨List.toArray []⟩, .string ⟨List.toArray []⟩, .string ⟨List.toArray []⟩, .string ⟨List.toArray []⟩, .string ⟨List.toArray []⟩, .string ⟨List.toArray []⟩, .string ⟨List.toArray []⟩, .string ⟨List.toArray []⟩, .string ⟨List.toArray []⟩, .string ⟨List.toArray []⟩, .string ⟨List.toArray []⟩, .string ⟨List.toArray []⟩, .string ⟨List.toArray []⟩])).run Tryz.prog w = .ok (oneKidX kid x) w := by
 obtain ⟨i0, hi, _⟩ := info_parts infoStr
 rw [eq_strs (P := Tryz.prog) w d Tryz.underlying171 hi Tryz.underlying9 cellsStr (fun i => (kidL kid).getD i []) (fun i => ([x, [], [], [], [], [], [], [], [], [], [], [], [], [], [], []] : List Bs).getD i []) (ka kid).toArray #[.string ⟨x.toArray⟩, .string ⟨List.toArray []⟩, .string ⟨List.toArray []⟩, .string ⟨List.toArray []⟩, .string ⟨List.toArray []⟩, .string ⟨List.toArray []⟩, .string ⟨List.toArray []⟩, .string ⟨List.toArray []⟩, .string ⟨List.toArray []⟩, .string ⟨List.toArray []⟩, .string ⟨List.toArray []⟩, .string ⟨List.toArray []⟩, .string ⟨List.toArray []⟩, .string ⟨List.toArray []⟩, .string ⟨List.toArray []⟩, .string ⟨List.toArray []⟩] (fun i hi => ka_get kid i hi) (fun i hi => list_getD [x, [], [], [], [], [], [], [], [], [], [], [], [], [], [], []] i hi)]
 exact congrArg (fun b => Result.ok b w) (same_of (by simp [kidL]) rfl)
end Go.Proofs.YthkpmlfaddlieaaGreatDoor
namespace Go.Proofs.YthkpmlfaddlieaaGreatDoor
open Go.RowKit Pl
theorem joined_at : ∀ (s : Bs) (i : Nat) (h : 2 * i + 1 < s.length), joined (s.take (2 * i + 2)) = joined (s.take (2 * i)) ++ [UInt8.ofNat ((s[2 * i]'(by omega)).toNat * 16 + (s[2 * i + 1]).toNat)]
 | a :: b :: r, 0, _ => by simp [joined]
 | a :: b :: r, i + 1, h => by
  have h' : 2 * i + 1 < r.length := by simp at h; omega
  have ih := joined_at r i h'
  have e1 : (a :: b :: r).take (2 * (i + 1) + 2) = a :: b :: r.take (2 * i + 2) := by
   rw [show 2 * (i + 1) + 2 = (2 * i + 2) + 1 + 1 from by omega]; simp
  have e2 : (a :: b :: r).take (2 * (i + 1)) = a :: b :: r.take (2 * i) := by
   rw [show 2 * (i + 1) = (2 * i) + 1 + 1 from by omega]; simp
  rw [e1, e2]
  simp only [joined, ih, List.cons_append]
  rfl
 | [], _, h => by simp at h
 | [_], i, h => by simp at h
theorem joined_all (s : Bs) : joined (s.take (2 * (s.length / 2))) = joined s := by
 by_cases h : s.length % 2 = 0
 ·rw [List.take_of_length_le (by omega)]
 ·have : ∀ (n : Nat) (s : Bs), s.length = 2 * n + 1 → joined (s.take (2 * n)) = joined s := by
   intro n
   induction n with
   | zero =>
    intro s hs
    match s, hs with
    | [a], _ => rfl
   | succ n ih =>
    intro s hs
    match s, hs with
    | a :: b :: r, hs =>
     have e2 : (a :: b :: r).take (2 * (n + 1)) = a :: b :: r.take (2 * n) := by
      rw [show 2 * (n + 1) = (2 * n) + 1 + 1 from by omega]; simp
     rw [e2]
     simp only [joined]
     rw [ih r (by simp at hs; omega)]
  rw [show 2 * (s.length / 2) = 2 * (s.length / 2) from rfl]
  exact this (s.length / 2) s (by omega)
theorem joined_len : ∀ (s : Bs), (joined s).length = s.length / 2
 | [] => rfl
 | [_] => by simp [joined]
 | a :: b :: r => by simp [joined, joined_len r]; omega
end Go.Proofs.YthkpmlfaddlieaaGreatDoor
namespace Go.Proofs.YthkpmlfaddlieaaGreatDoor
open Go.RowKit Pl
theorem all32_not (l : List Bs) (i : Nat) (hi : i < l.length) (h : (l.getD i []).length ≠ 32) : all32 l = false := by
 cases hf : all32 l with
 | false => rfl
 | true =>
  exfalso
  apply h
  have := List.all_eq_true.1 hf (l[i]) (List.getElem_mem hi)
  simpa [List.getD, List.getElem?_eq_getElem hi] using this
end Go.Proofs.YthkpmlfaddlieaaGreatDoor
namespace Go.Proofs.YthkpmlfaddlieaaGreatDoor
open Go.RowKit Pl
def numCells (k : Nat) (d : Bs) : Array Value := ((List.replicate k 0 ++ d).map fun c : UInt8 => Value.int .u8 (c.toNat : Int)).toArray
theorem numCells_get (k : Nat) (d : Bs) (hk : 0 < k) : (numCells k d)[k - 1]? = some (.int .u8 0) := by
 have : ((List.replicate k (0 : UInt8) ++ d).map fun c : UInt8 => Value.int .u8 (c.toNat : Int))[k - 1]? = some (.int .u8 0) := by
  rw [List.getElem?_map, List.getElem?_append_left (by simp; omega), List.getElem?_replicate, if_pos (by omega)]
  rfl
 simpa [numCells] using this
theorem numCells_set (k : Nat) (d : Bs) (hk : 0 < k) (c : UInt8) : (numCells k d).setIfInBounds (k - 1) (.int .u8 (c.toNat : Int)) = numCells (k - 1) (c :: d) := by
 obtain ⟨j, rfl⟩ : ∃ j, k = j + 1 := ⟨k - 1, by omega⟩
 unfold numCells
 apply Array.ext'
 simp only [Array.toList_setIfInBounds, Nat.add_sub_cancel]
 rw [List.replicate_succ', List.append_assoc, List.map_append, List.map_append]
 rw [List.set_append_right _ _ (by simp)]
 simp
theorem numCells_tail (k : Nat) (d : Bs) (i : Nat) (hi : i < d.length) : (numCells k d)[k + i]? = some (.int .u8 ((d.getD i 0).toNat : Int)) := by
 have : ((List.replicate k (0 : UInt8) ++ d).map fun c : UInt8 => Value.int .u8 (c.toNat : Int))[k + i]? = some (.int .u8 ((d.getD i 0).toNat : Int)) := by
  rw [List.getElem?_map, List.getElem?_append_right (by simp)]
  simp [List.getD, List.getElem?_eq_getElem hi]
 simpa [numCells] using this
theorem cnum_any (n : Nat) (hn : n < 9223372036854775808) (w : World) :
  Calls Tryz.prog 81 #[.int .i64 n] w fun e w' => e = .returned (.string ⟨List.toArray (num n)⟩) ∧ Below w.heap.size w w' := by
 go_enter Tryz.func81, Tryz.ntmps81
 go_wp2_with fail
 go_loopw [0, 4] (fun s0 s4 wr => ∃ (k m : Nat) (d : Bs), k ≤ 8 ∧ d.length + k = 8 ∧ m < 256 ^ k ∧ m < 9223372036854775808 ∧ Hid (digs 8 n = digs k m ++ d) ∧ s0 = .int .i64 m ∧ s4 = .int .i64 k ∧ Blk wr w.heap.size (numCells k d) ∧ Below w.heap.size w wr)
  (fun _ s4 _ => (intOf s4).toNat)
 case atStart =>
  exact ⟨8, n, [], by omega, rfl, by omega, hn, Lib.hid (by simp), rfl, rfl, Blk.new _ _ _, (Below.refl _ _).alloc (Nat.le_refl _) _⟩
 case round =>
  obtain ⟨k, m, d, hk, hd, hm, hm2, HD, rfl, rfl, B, hb⟩ := hrel
  obtain ⟨b1, b2, b3⟩ := id B
  by_cases h0 : 0 < m
  ·have hk0 : 0 < k := by
    rcases Nat.eq_zero_or_pos k with h | h
    ·subst h; omega
    ·exact h
   have hget := numCells_get k d hk0
   go_wp2_with fail
   obtain ⟨j, rfl⟩ : ∃ j, k = j + 1 := ⟨k - 1, by omega⟩
   refine ⟨⟨j, m / 256, UInt8.ofNat (m % 256) :: d, by omega, by simp at hd ⊢; omega, by rw [Nat.pow_succ] at hm; omega, by omega, ?_, by go_num, by simp, ?_, hb.setCell (Nat.le_refl _) _⟩, by simp [intOf] <;> omega⟩
   ·refine Lib.hid ?_
    rw [HD.out, digs_step _ _ h0, List.append_assoc]; rfl
   ·have hB := B.set j (.int .u8 ((UInt8.ofNat (m % 256)).toNat : Int))
    have hc := numCells_set (j + 1) d (by omega) (UInt8.ofNat (m % 256))
    simp only [Nat.add_sub_cancel] at hc
    rw [hc] at hB
    have hv : ((UInt8.ofNat (m % 256)).toNat : Int) = (m : Int) % 256 := by simp
    rw [hv] at hB
    exact hB
  ·have hm0 : m = 0 := by omega
   subst hm0
   have hfin : num n = UInt8.ofNat d.length :: d := by
    unfold num
    rw [HD.out, digs_zero, List.nil_append]
   have HF := Lib.hid hfin
   clear hfin
   have hconv : ∀ W : World, (∀ o, W.cell? ⟨w.heap.size, o, none⟩ = (numCells k d)[o]?) → (convert 130 9 (.slice (some ⟨w.heap.size, k, none⟩) (8 - k) (8 - k))).run Tryz.prog W = .ok (.string ⟨d.toArray⟩) W := fun W hW =>
    conv_str _ 5 _ Tryz.underlying130 Tryz.underlying5 Tryz.underlying9 _ _ _ _ d (by omega) (fun i hi => by rw [hW]; exact numCells_tail k d i (by omega))
   have hk8 : (k : Int) ≤ 8 := by omega
   have hcat : ¬ 9223372036854775807 < 1 + d.length := by omega
   have hu8 : UInt8.ofNat (8 - k) = UInt8.ofNat d.length := by congr 1; omega
   by_cases h8 : k = 8
   ·subst h8
    have hd0 : d = [] := List.length_eq_zero_iff.1 (by omega)
    subst hd0
    clear hconv
    go_wp2_with fail
    go_region
    all_goals go_wp2_with fail
    all_goals go_ret
    all_goals exact ⟨by rw [HF.out]; rfl, by (repeat (first | exact Below.refl _ _ | assumption | apply Below.drew | apply below_drewN | apply Below.allocS | (refine Below.setCell ?_ (by simp <;> omega) _) | (refine Below.alloc ?_ (by simp <;> omega) _) | (refine Below.trans ?_ (Below.mono (by assumption) (by simp <;> omega)))))⟩
   ·have h8n : ¬ 8 = k := by omega
    go_wp2_with fail
    go_region
    all_goals go_wp2_with fail
    all_goals go_ret
    all_goals exact ⟨by rw [HF.out]; rfl, by (repeat (first | exact Below.refl _ _ | assumption | apply Below.drew | apply below_drewN | apply Below.allocS | (refine Below.setCell ?_ (by simp <;> omega) _) | (refine Below.alloc ?_ (by simp <;> omega) _) | (refine Below.trans ?_ (Below.mono (by assumption) (by simp <;> omega)))))⟩
theorem num_len (n : Nat) : (num n).length ≤ 9 := by
 have : ∀ f m, (digs f m).length ≤ f := by
  intro f
  induction f with
  | zero => intro m; simp [digs]
  | succ f ih =>
   intro m
   unfold digs
   split
   ·simp
   ·have := ih (m / 256); simp; omega
 have := this 8 n
 simp [num]; omega
theorem ctext_any (s : Bs) (hs : s.length < 9223372036854775000) (w : World) :
  Calls Tryz.prog 46 #[.string ⟨s.toArray⟩] w fun e w' => e = .returned (.string ⟨List.toArray (text s)⟩) ∧ Below w.heap.size w w' := by
 have hl := num_len s.length
 have hcat : ¬ 9223372036854775807 < (num s.length).length + s.length := by omega
 go_enter Tryz.func46, Tryz.ntmps46
 go_wp2_with fail
 refine (cnum_any s.length (by omega) _).mono ?_
 rintro e w1 ⟨rfl, hb⟩
 go_wp2_with fail
 go_ret
 exact ⟨rfl, hb⟩
theorem cNum_any (n : Nat) (hn : n < 9223372036854775808) (w : World) :
  Calls Tryz.prog 44 #[.int .i64 n] w fun e w' => e = .returned (.tuple #[.string ⟨List.toArray (num n)⟩, .int .i64 0]) ∧ Below w.heap.size w w' := by
 go_enter Tryz.func44, Tryz.ntmps44
 go_wp2_with fail
 refine (cnum_any n hn _).mono ?_
 rintro e w1 ⟨rfl, hb⟩
 go_wp2_with fail
 go_ret2
 exact ⟨rfl, hb⟩
end Go.Proofs.YthkpmlfaddlieaaGreatDoor
namespace Go.Proofs.YthkpmlfaddlieaaGreatDoor
open Go.RowKit Pl
theorem flat_len (l : List Bs) (h : all32 l = true) : l.flatten.length = 32 * l.length := by
 induction l with
 | nil => rfl
 | cons a r ih =>
  simp [all32] at h ih ⊢
  rw [ih h.2, h.1]; omega
end Go.Proofs.YthkpmlfaddlieaaGreatDoor
namespace Go.Proofs.YthkpmlfaddlieaaGreatDoor
open Go.RowKit Pl
theorem ka_upd (kid : Nat → Bs) (k : Nat) (hk : k < 16) (x : Bs) : (ka kid).set k (.string ⟨x.toArray⟩) = ka (upd kid k x) := by
 unfold ka kidL
 apply List.ext_getElem (by simp)
 intro i h1 h2
 simp [List.getElem_set, upd]
 by_cases h : k = i
 ·subst h; simp
 ·rw [if_neg h, if_neg (fun e => h e.symm)]
theorem nd_setk (kind : Int) (path val : Bs) (kid : Nat → Bs) (k : Nat) (hk : k < 16) (x : Bs) : (nd kind path val kid).toArray.setIfInBounds (3 + k) (.string ⟨x.toArray⟩) = (nd kind path val (upd kid k x)).toArray := by
 apply Array.ext'
 rw [Array.toList_setIfInBounds]
 show List.set _ _ _ = _
 rw [Nat.add_comm]
 simp only [nd, List.set_cons_succ, ka_upd kid k hk x]
theorem nd_set2 (kind : Int) (path val : Bs) (kid : Nat → Bs) (x : Bs) : (nd kind path val kid).toArray.setIfInBounds 2 (.string ⟨x.toArray⟩) = (nd kind path x kid).toArray := rfl
end Go.Proofs.YthkpmlfaddlieaaGreatDoor
namespace Go.Proofs.YthkpmlfaddlieaaGreatDoor
open Go.RowKit Pl
theorem rfit_any (s : Bs) (hs : s.length ≤ 9223372036854775807) (w : World) :
  Calls Tryz.prog 181 #[.string ⟨s.toArray⟩] w fun e w' => e = .returned (.bool (fit s)) ∧ w = w' := by
 go_enter Tryz.func181, Tryz.ntmps181
 go_wp2_with fail
 go_loop [3] (fun s3 => ∃ i : Nat, i ≤ s.length ∧ s3 = .int .i64 i ∧ Hid (fit (s.take i) = true)) (fun s3 => s.length - (intOf s3).toNat)
 case atStart => exact ⟨0, by omega, rfl, Lib.hid (by simp [fit])⟩
 case round =>
  obtain ⟨i, hi, rfl, HF⟩ := hrel
  by_cases hlt : i < s.length
  ·have hbi := s[i].toNat_lt
   by_cases h15 : 15 < s[i].toNat
   ·have h15' : (15 : Int) < (s[i].toNat : Int) := by omega
    have HN := Lib.hid (fit_not s i hlt h15)
    go_wp2_with fail
    go_ret
    exact ⟨by rw [HN.out]; rfl, rfl⟩
   ·have h15' : ¬ (15 : Int) < (s[i].toNat : Int) := by omega
    go_wp2_with fail
    exact ⟨⟨i + 1, by omega, by go_num, Lib.hid (by rw [fit_take s i hlt, HF.out]; simp; omega)⟩, by simp [intOf] <;> omega⟩
  ·have hie : s.take i = s := List.take_of_length_le (by omega)
   have HN : Hid (fit s = true) := Lib.hid (by rw [← hie]; exact HF.out)
   clear hie
   go_wp2_with fail
   go_ret
   exact ⟨by rw [HN.out]; rfl, rfl⟩
theorem rof_any (s : Bs) (hs : s.length ≤ 35184372088832) (w : World) :
  Calls Tryz.prog 133 #[.string ⟨s.toArray⟩] w fun e w' => e = .returned (.string ⟨List.toArray (ofP s)⟩) ∧ Below w.heap.size w w' := by
 go_enter Tryz.func133, Tryz.ntmps133
 go_wp2_with fail
 go_loopw [3, 4] (fun s3 s4 wr => ∃ i : Nat, i ≤ s.length ∧ s4 = .int .i64 i ∧ s3 = .string ⟨List.toArray (ofP (s.take i))⟩ ∧ Below w.heap.size w wr) (fun _ s4 _ => s.length - (intOf s4).toNat)
 case atStart => exact ⟨0, by omega, rfl, rfl, Below.refl _ _⟩
 case round =>
  obtain ⟨i, hi, rfl, rfl, hb⟩ := hrel
  rename_i wr
  by_cases hlt : i < s.length
  ·have hbi := s[i].toNat_lt
   have hol := ofP_len (s.take i)
   have htl : (s.take i).length = i := by simp; omega
   rw [htl] at hol
   have hcat : ¬ 9223372036854775807 < (ofP (s.take i)).length + 2 := by omega
   have HOS := Lib.hid (show ofP (s.take (i + 1)) = ofP (s.take i) ++ [UInt8.ofNat (s[i].toNat / 16), UInt8.ofNat (s[i].toNat % 16)] from by
    rw [List.take_succ_eq_append_getElem hlt, ofP_snoc])
   clear hol htl
   go_wp2_with fail
   go_region
   all_goals go_wp2_with fail
   exact ⟨⟨i + 1, by omega, by go_num, by rw [HOS.out, u8_div16, u8_mod16], by (repeat (first | exact Below.refl _ _ | assumption | apply Below.drew | apply below_drewN | apply Below.allocS | (refine Below.setCell ?_ (by simp <;> omega) _) | (refine Below.alloc ?_ (by simp <;> omega) _) | (refine Below.trans ?_ (Below.mono (by assumption) (by simp <;> omega)))))⟩, by simp [intOf]; omega⟩
  ·go_wp2_with fail
   go_ret
   refine ⟨?_, hb⟩
   rw [List.take_of_length_le (by omega)]; rfl
theorem rkey_bad (s : Bs) (hf : fit s = false) (hs : s.length ≤ 35184372088832) (w : World) :
  Calls Tryz.prog 182 #[.string ⟨s.toArray⟩] w fun e w' => e = .returned (.tuple #[.string ⟨List.toArray []⟩, .int .i64 3]) ∧ Below w.heap.size w w' := by
 go_enter Tryz.func182, Tryz.ntmps182
 go_wp2_with fail
 refine (rfit_any s (by omega) _).mono ?_
 rintro e w1 ⟨rfl, rfl⟩
 rw [hf]
 go_wp2_with fail
 go_ret2
 exact ⟨rfl, Below.refl _ _⟩
theorem rkey_even (s : Bs) (hf : fit s = true) (hev : s.length % 2 = 0) (hs : s.length ≤ 35184372088832) (w : World) :
  Calls Tryz.prog 182 #[.string ⟨s.toArray⟩] w fun e w' => e = .returned (.tuple #[.string ⟨List.toArray (joined s)⟩, .int .i64 0]) ∧ Below w.heap.size w w' := by
 have hodd : ((s.length : Int) % 2 != 0) = false := by simp; omega
 have HFit := Lib.hid hf
 have HEV := Lib.hid hev
 clear hf hev
 go_enter Tryz.func182, Tryz.ntmps182
 go_wp2_with fail
 refine (rfit_any s (by omega) _).mono ?_
 rintro e w1 ⟨rfl, rfl⟩
 rw [HFit.out]
 go_wp2_with fail
 go_loopw [4, 5] (fun s4 s5 wr => ∃ i : Nat, i ≤ s.length / 2 ∧ s5 = .int .i64 (2 * (i : Int)) ∧ s4 = .string ⟨List.toArray (joined (s.take (2 * i)))⟩ ∧ Below w.heap.size w wr) (fun _ s5 _ => s.length - (intOf s5).toNat)
 case atStart => exact ⟨0, by omega, rfl, rfl, Below.refl _ _⟩
 case round =>
  obtain ⟨i, hi, rfl, rfl, hb⟩ := hrel
  rename_i wr
  by_cases hlt : i < s.length / 2
  ·have h2 : 2 * i + 1 < s.length := by omega
   have ha := fit_at s HFit.out (2 * i) (by omega)
   have hb' := fit_at s HFit.out (2 * i + 1) h2
   have HJ := Lib.hid (joined_at s i h2)
   have hL : (joined (s.take (2 * i))).length = i := by rw [joined_len]; simp; omega
   have hcat : ¬ 9223372036854775807 < (joined (s.take (2 * i))).length + 1 := by omega
   clear hL
   have hai : (s[2 * i].toNat : Int) ≤ 15 := by omega
   have hbi : (s[2 * i + 1].toNat : Int) ≤ 15 := by omega
   have q1 : (0 : Int) ≤ 2 * (i : Int) := by omega
   have q2 : 2 * (i : Int) < (s.length : Int) := by omega
   have q3 : (0 : Int) ≤ 2 * (i : Int) + 1 := by omega
   have q4 : 2 * (i : Int) + 1 < (s.length : Int) := by omega
   have q5 : (2 * (i : Int)).toNat = 2 * i := by omega
   have q6 : (2 * (i : Int) + 1).toNat = 2 * i + 1 := by omega
   have q8 : IntKind.i64.wrap (2 * (i : Int) + 1) = 2 * (i : Int) + 1 := IntWalk.i64_in _ (by omega)
   have q9 : IntKind.u8.wrap ((s[2 * i].toNat : Int) * 16) = (s[2 * i].toNat : Int) * 16 := by rw [IntKind.wrap_u8']; omega
   have q10 : IntKind.u8.wrap ((s[2 * i].toNat : Int) * 16 + (s[2 * i + 1].toNat : Int)) = (s[2 * i].toNat : Int) * 16 + (s[2 * i + 1].toNat : Int) := by rw [IntKind.wrap_u8']; omega
   have q11 : ((s[2 * i].toNat : Int) * 16 + (s[2 * i + 1].toNat : Int)).toNat = s[2 * i].toNat * 16 + s[2 * i + 1].toNat := by omega
   go_wp2_with fail
   go_region
   all_goals go_wp2_with fail
   refine ⟨⟨i + 1, by omega, by go_num, by rw [show 2 * (i + 1) = 2 * i + 2 from by omega, HJ.out]; simp, by (repeat (first | exact Below.refl _ _ | assumption | apply Below.drew | apply below_drewN | apply Below.allocS | (refine Below.setCell ?_ (by simp <;> omega) _) | (refine Below.alloc ?_ (by simp <;> omega) _) | (refine Below.trans ?_ (Below.mono (by assumption) (by simp <;> omega)))))⟩, by simp [intOf]; omega⟩
  ·have hii : i = s.length / 2 := by omega
   have HJ : Hid (joined (s.take (2 * i)) = joined s) := Lib.hid (by rw [hii]; exact joined_all s)
   have hlt' : ¬ 2 * (i : Int) < (s.length : Int) := by have := HEV.out; omega
   clear hii
   rw [HJ.out]
   go_wp2_with fail
   go_ret2
   exact ⟨rfl, hb⟩
theorem fit_cons (c : UInt8) (s : Bs) : fit (c :: s) = (decide (c.toNat ≤ 15) && fit s) := by simp [fit]
theorem rpack_any (s : Bs) (leaf : Bool) (hs : s.length ≤ 35184372080000) (w : World) :
  Calls Tryz.prog 178 #[.string ⟨s.toArray⟩, .bool leaf] w fun e w' => e = .returned (.tuple #[.string ⟨List.toArray ((pack s leaf).1)⟩, .int .i64 ((pack s leaf).2)]) ∧ Below w.heap.size w w' := by
 cases hf : fit s with
 | false =>
  rw [show pack s leaf = ([], 3) from by unfold pack; rw [if_pos hf]]
  go_enter Tryz.func178, Tryz.ntmps178
  go_wp2_with fail
  refine (rfit_any s (by omega) _).mono ?_
  rintro e w1 ⟨rfl, rfl⟩
  rw [hf]
  go_wp2_with fail
  go_ret2
  exact ⟨rfl, Below.refl _ _⟩
 | true =>
  have HF := Lib.hid hf
  clear hf
  have hc2 : ¬ 9223372036854775807 < 2 + s.length := by omega
  have hc1 : ¬ 9223372036854775807 < 1 + s.length := by omega
  by_cases ho : s.length % 2 = 1
  ·obtain ⟨c, r, rfl⟩ : ∃ c r, s = c :: r := by
    cases s with
    | nil => simp at ho
    | cons c r => exact ⟨c, r, rfl⟩
   have hc15 : c.toNat ≤ 15 := fit_at _ HF.out 0 (by simp)
   have hev : ∀ k : UInt8, (k :: c :: r).length % 2 = 0 := by intro k; simp at ho ⊢; omega
   have hft : ∀ k : UInt8, k.toNat ≤ 15 → fit (k :: c :: r) = true := by intro k hk; rw [fit_cons, HF.out]; simp [hk]
   rw [show pack (c :: r) leaf = (UInt8.ofNat ((if leaf then 32 else 0) + 16 + c.toNat) :: joined r, 0) from by unfold pack; rw [if_neg (by rw [HF.out]; simp), if_pos ho]; rfl]
   have ho' : (((r.length : Int) + 1) % 2) = 1 := by simp at ho; omega
   have HO := Lib.hid ho
   clear ho
   cases leaf
   ·have hres : joined ((1 : UInt8) :: c :: r) = UInt8.ofNat (0 + 16 + c.toNat) :: joined r := by
     simp only [joined]
     congr 1
    go_enter Tryz.func178, Tryz.ntmps178
    go_wp2_with fail
    refine (rfit_any (c :: r) (by simp at hs ⊢; omega) _).mono ?_
    rintro e w1 ⟨rfl, rfl⟩
    rw [HF.out]
    go_wp2_with fail
    refine (rkey_even (1 :: c :: r) (hft 1 (by decide)) (hev 1) (by simp at hs ⊢; omega) _).mono ?_
    rintro e w2 ⟨rfl, hb2⟩
    rw [hres]
    clear hres
    go_wp2_with fail
    go_ret2
    exact ⟨rfl, by (repeat (first | exact Below.refl _ _ | assumption | apply Below.drew | apply below_drewN | apply Below.allocS | (refine Below.setCell ?_ (by simp <;> omega) _) | (refine Below.alloc ?_ (by simp <;> omega) _) | (refine Below.trans ?_ (Below.mono (by assumption) (by simp <;> omega)))))⟩
   ·have hres : joined ((3 : UInt8) :: c :: r) = UInt8.ofNat (32 + 16 + c.toNat) :: joined r := by
     simp only [joined]
     congr 1
    go_enter Tryz.func178, Tryz.ntmps178
    go_wp2_with fail
    refine (rfit_any (c :: r) (by simp at hs ⊢; omega) _).mono ?_
    rintro e w1 ⟨rfl, rfl⟩
    rw [HF.out]
    go_wp2_with fail
    refine (rkey_even (3 :: c :: r) (hft 3 (by decide)) (hev 3) (by simp at hs ⊢; omega) _).mono ?_
    rintro e w2 ⟨rfl, hb2⟩
    rw [hres]
    clear hres
    go_wp2_with fail
    go_ret2
    exact ⟨rfl, by (repeat (first | exact Below.refl _ _ | assumption | apply Below.drew | apply below_drewN | apply Below.allocS | (refine Below.setCell ?_ (by simp <;> omega) _) | (refine Below.alloc ?_ (by simp <;> omega) _) | (refine Below.trans ?_ (Below.mono (by assumption) (by simp <;> omega)))))⟩
  ·have hev : ∀ k j : UInt8, (k :: j :: s).length % 2 = 0 := by intro k j; simp; omega
   have hft : ∀ k : UInt8, k.toNat ≤ 15 → fit (k :: 0 :: s) = true := by intro k hk; rw [fit_cons, fit_cons, HF.out]; simp [hk]
   rw [show pack s leaf = (UInt8.ofNat (if leaf then 32 else 0) :: joined s, 0) from by unfold pack; rw [if_neg (by rw [HF.out]; simp), if_neg ho]]
   have ho' : ((s.length : Int) % 2) = 0 := by omega
   have HO := Lib.hid ho
   clear ho
   cases leaf
   ·have hres : joined ((0 : UInt8) :: 0 :: s) = UInt8.ofNat 0 :: joined s := by
     simp only [joined]
     congr 1
    go_enter Tryz.func178, Tryz.ntmps178
    go_wp2_with fail
    refine (rfit_any s (by omega) _).mono ?_
    rintro e w1 ⟨rfl, rfl⟩
    rw [HF.out]
    go_wp2_with fail
    refine (rkey_even (0 :: 0 :: s) (hft 0 (by decide)) (hev 0 0) (by simp; omega) _).mono ?_
    rintro e w2 ⟨rfl, hb2⟩
    rw [hres]
    clear hres
    go_wp2_with fail
    go_ret2
    exact ⟨rfl, by (repeat (first | exact Below.refl _ _ | assumption | apply Below.drew | apply below_drewN | apply Below.allocS | (refine Below.setCell ?_ (by simp <;> omega) _) | (refine Below.alloc ?_ (by simp <;> omega) _) | (refine Below.trans ?_ (Below.mono (by assumption) (by simp <;> omega)))))⟩
   ·have hres : joined ((2 : UInt8) :: 0 :: s) = UInt8.ofNat 32 :: joined s := by
     simp only [joined]
     congr 1
    go_enter Tryz.func178, Tryz.ntmps178
    go_wp2_with fail
    refine (rfit_any s (by omega) _).mono ?_
    rintro e w1 ⟨rfl, rfl⟩
    rw [HF.out]
    go_wp2_with fail
    refine (rkey_even (2 :: 0 :: s) (hft 2 (by decide)) (hev 2 0) (by simp; omega) _).mono ?_
    rintro e w2 ⟨rfl, hb2⟩
    rw [hres]
    clear hres
    go_wp2_with fail
    go_ret2
    exact ⟨rfl, by (repeat (first | exact Below.refl _ _ | assumption | apply Below.drew | apply below_drewN | apply Below.allocS | (refine Below.setCell ?_ (by simp <;> omega) _) | (refine Below.alloc ?_ (by simp <;> omega) _) | (refine Below.trans ?_ (Below.mono (by assumption) (by simp <;> omega)))))⟩
end Go.Proofs.YthkpmlfaddlieaaGreatDoor
namespace Go.Proofs.YthkpmlfaddlieaaGreatDoor
open Go.RowKit Pl
theorem rNumber_any (n : Nat) (hn : n < 9223372036854775808) (w : World) :
  Calls Tryz.prog 104 #[.int .i64 n] w fun e w' => e = .returned (.string ⟨List.toArray (num n)⟩) ∧ Below w.heap.size w w' := by
 go_enter Tryz.func104, Tryz.ntmps104
 go_wp2_with fail
 go_loopw [0, 3] (fun s0 s3 wr => ∃ (k m : Nat) (d : Bs), d.length + k = 8 ∧ m < 256 ^ k ∧ m < 9223372036854775808 ∧ Hid (digs 8 n = digs k m ++ d) ∧ s0 = .int .i64 m ∧ s3 = .string ⟨d.toArray⟩ ∧ Below w.heap.size w wr)
  (fun s0 _ _ => (intOf s0).toNat)
 case atStart =>
  exact ⟨8, n, [], rfl, by omega, hn, Lib.hid (by simp), rfl, rfl, Below.refl _ _⟩
 case round =>
  obtain ⟨k, m, d, hd, hm, hm2, HD, rfl, rfl, hb⟩ := hrel
  have hcat : ¬ 9223372036854775807 < 1 + d.length := by omega
  by_cases h0 : 0 < m
  ·obtain ⟨j, rfl⟩ : ∃ j, k = j + 1 := by
    rcases Nat.eq_zero_or_pos k with h | h
    ·subst h; omega
    ·exact ⟨k - 1, by omega⟩
   go_wp2_with fail
   refine ⟨⟨j, m / 256, UInt8.ofNat (m % 256) :: d, by simp at hd ⊢; omega, by rw [Nat.pow_succ] at hm; omega, by omega, ?_, by go_num, ?_, by (repeat (first | exact Below.refl _ _ | assumption | apply Below.drew | apply below_drewN | apply Below.allocS | (refine Below.setCell ?_ (by simp <;> omega) _) | (refine Below.alloc ?_ (by simp <;> omega) _) | (refine Below.trans ?_ (Below.mono (by assumption) (by simp <;> omega)))))⟩, by simp [intOf]; omega⟩
   ·refine Lib.hid ?_
    rw [HD.out, digs_step _ _ h0, List.append_assoc]; rfl
   ·refine str_eq ?_
    simp
  ·have hm0 : m = 0 := by omega
   subst hm0
   have hfin : num n = UInt8.ofNat d.length :: d := by
    unfold num
    rw [HD.out, digs_zero, List.nil_append]
   have HF := Lib.hid hfin
   clear hfin
   have hdl : (d.length : Int) ≤ 8 := by omega
   go_wp2_with fail
   go_ret
   exact ⟨by rw [HF.out]; rfl, by (repeat (first | exact Below.refl _ _ | assumption | apply Below.drew | apply below_drewN | apply Below.allocS | (refine Below.setCell ?_ (by simp <;> omega) _) | (refine Below.alloc ?_ (by simp <;> omega) _) | (refine Below.trans ?_ (Below.mono (by assumption) (by simp <;> omega)))))⟩
theorem rText_any (s : Bs) (hs : s.length < 9223372036854775000) (w : World) :
  Calls Tryz.prog 106 #[.string ⟨s.toArray⟩] w fun e w' => e = .returned (.string ⟨List.toArray (text s)⟩) ∧ Below w.heap.size w w' := by
 have hl := num_len s.length
 have hcat : ¬ 9223372036854775807 < (num s.length).length + s.length := by omega
 go_enter Tryz.func106, Tryz.ntmps106
 go_wp2_with fail
 refine (rNumber_any s.length (by omega) _).mono ?_
 rintro e w1 ⟨rfl, hb⟩
 go_wp2_with fail
 go_ret
 exact ⟨rfl, hb⟩
end Go.Proofs.YthkpmlfaddlieaaGreatDoor
