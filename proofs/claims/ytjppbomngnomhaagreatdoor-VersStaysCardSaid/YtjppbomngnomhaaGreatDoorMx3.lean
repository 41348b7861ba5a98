/- Open, StrV, ItemV, Node, Eq, Nibble, NodeC, Check. -/
import Derived.ChangeKeysEq
import Derived.Test.YtjppbomngnomhaaGreatDoorMx2
set_option linter.unnecessarySimpa false
set_option linter.unusedSimpArgs false
set_option linter.unusedVariables false
set_option maxRecDepth 100000
set_option maxHeartbeats 32000000
namespace Go.Proofs.YtjppbomngnomhaaGreatDoor
open Go.ChangeShapes Go.WideShapes Go.ChangeAt Go.RowKit
inductive Sh where
 | int (k : IntKind)
 | str
 | bool
 | slice (c : Nat) (e : Sh)
 | unit
 | pair (a b : Sh)
def Sh.cells : Sh → Nat
 | .unit => 0
 | .pair a b => a.cells + b.cells
 | _ => 1
def Sh.Ok (w : World) : Sh → List Value → Prop
 | .int k, cs => ∃ n, cs = [.int k n] ∧ (Lit.int k n).wf = true
 | .str, cs => ∃ s : ByteArray, cs = [.string s] ∧ s.size ≤ maxLen
 | .bool, cs => ∃ b, cs = [.bool b]
 | .slice c e, cs => cs = [.slice none 0 0] ∨ ∃ a len cap, cs = [.slice (some a) len cap] ∧ len ≤ cap ∧ cap ≤ maxLen ∧
   ∀ i, i < len → ∃ cs', w.cells? 0 (a.add (i * c)) c = some cs' ∧ e.Ok w cs'
 | .unit, cs => cs = []
 | .pair a b, cs => ∃ x y, cs = x ++ y ∧ a.Ok w x ∧ b.Ok w y
theorem Sh.Ok.len {w : World} : ∀ {s : Sh} {cs : List Value}, s.Ok w cs → cs.length = s.cells
 | .int _, _, h => by obtain ⟨n, rfl, _⟩ := h; rfl
 | .str, _, h => by obtain ⟨n, rfl, _⟩ := h; rfl
 | .bool, _, h => by obtain ⟨n, rfl⟩ := h; rfl
 | .slice _ _, _, h => by rcases h with rfl | ⟨a, l, c, rfl, _⟩ <;> rfl
 | .unit, _, h => by rw [show _ = [] from h]; rfl
 | .pair a b, _, h => by
  obtain ⟨x, y, rfl, hx, hy⟩ := h
  simp [Sh.cells, hx.len, hy.len]
theorem slice_cells {w : World} {a : Addr} {c len : Nat} {e : Sh} (hc : 0 < c) (hlen : 0 < len)
  (h : ∀ i, i < len → ∃ cs', w.cells? 0 (a.add (i * c)) c = some cs' ∧ e.Ok w cs') :
  a.spot = none ∧ ∀ i, i < len → ∃ cs', e.Ok w cs' ∧ cs'.length = c ∧ ∀ j, j < c → w.cell? ⟨a.block, a.off + i * c + j, none⟩ = cs'[j]? := by
 obtain ⟨b, off, spot⟩ := a
 have hs : spot = none := by
  obtain ⟨cs', h1, _⟩ := h 0 hlen
  obtain ⟨_, hl, h2⟩ := World.cells?_some h1
  have h3 := h2 0 hc
  simp only [Nat.zero_mul, Addr.add, if_true] at h3
  cases spot with
  | none => rfl
  | some s =>
   exfalso
   unfold World.cell? at h3
   rw [List.getElem?_eq_getElem (by omega)] at h3
   split at h3 <;> simp at h3
 subst hs
 refine ⟨rfl, fun i hi => ?_⟩
 obtain ⟨cs', h1, ho⟩ := h i hi
 obtain ⟨_, hl, h2⟩ := World.cells?_some h1
 refine ⟨cs', ho, hl, fun j hj => ?_⟩
 have h3 := h2 j hj
 rw [← h3]
 congr 1
 unfold Addr.add
 by_cases hi0 : i * c = 0
 ·by_cases hj0 : j = 0
  ·simp [hi0, hj0]
  ·simp [hi0, hj0]
 ·by_cases hj0 : j = 0
  ·simp [hi0, hj0]
  ·simp [hi0, hj0]
def repSh (a : Sh) : Nat → Sh
 | 0 => .unit
 | n + 1 => .pair a (repSh a n)
def fieldsSh (P : Program) (f : TypeId → Option Sh) : List Field → Nat → Nat → Option Sh
 | [], off, total => if off = total then some .unit else none
 | x :: xs, off, total =>
  match f x.type with
  | some a => if x.offset = off ∧ a.cells = P.cellsOf x.type then (fieldsSh P f xs (off + a.cells) total).map (.pair a) else none
  | none => none
def shapeOf (P : Program) : Nat → TypeId → Option Sh
 | 0, _ => none
 | n + 1, t =>
  match P.underlying t with
  | some .bool => some .bool
  | some (.int k) => some (.int k)
  | some .string => some .str
  | some (.slice e) => match shapeOf P n e with
   | some s => if s.cells = P.cellsOf e then some (.slice (P.cellsOf e) s) else none
   | none => none
  | some (.struct fs) => fieldsSh P (shapeOf P n) fs.toList 0 (P.cellsOf t)
  | some (.array k e) => match shapeOf P n e with
   | some s => if s.cells = P.cellsOf e ∧ k * P.cellsOf e = P.cellsOf t then some (repSh s k) else none
   | none => none
  | _ => none
section
variable {H : Type} {enc : TypeId × Value → H} {P : Program} {w : World} {spare : Nat → Bool} {held : Bool}
theorem rep_ok {s : Sh} {c : Nat} (hc : s.cells = c) : ∀ (k : Nat) (cs : List Value), cs.length = k * c →
  (∀ i, i < k → s.Ok w ((cs.drop (i * c)).take c)) → (repSh s k).Ok w cs
 | 0, cs, hl, _ => by
  have : cs = [] := by simpa using hl
  exact this
 | k + 1, cs, hl, h => by
  refine ⟨cs.take c, cs.drop c, (List.take_append_drop c cs).symm, by simpa using h 0 (by omega), rep_ok hc k _ ?_ (fun i hi => ?_)⟩
  ·rw [List.length_drop, hl, Nat.succ_mul]; omega
  ·have := h (i + 1) (by omega)
   rw [List.drop_drop]
   rw [Nat.succ_mul] at this
   rwa [Nat.add_comm c (i * c)]
theorem fields_ok {f : TypeId → Option Sh} {n : Nat} (ih : ∀ t s, f t = some s → ∀ cs x, DataW.trod enc P w 0 spare held n t cs = some x → s.Ok w cs) {cs : List Value} :
  ∀ (fs : List Field) (off total : Nat) (s : Sh), fieldsSh P f fs off total = some s → cs.length = total →
   (∀ x ∈ fs, ∃ y, DataW.trod enc P w 0 spare held n x.type ((cs.drop x.offset).take (P.cellsOf x.type)) = some y) → s.Ok w (cs.drop off)
 | [], off, total, s, h, hl, _ => by
  simp only [fieldsSh] at h
  split at h
  ·cases h
   rename_i e
   show cs.drop off = []
   rw [e, ← hl]; simp
  ·cases h
 | x :: xs, off, total, s, h, hl, hx => by
  simp only [fieldsSh] at h
  split at h
  ·rename_i a ha
   split at h
   ·rename_i hc
    cases hr : fieldsSh P f xs (off + a.cells) total with
    | none => rw [hr] at h; cases h
    | some r =>
     rw [hr] at h
     cases h
     obtain ⟨y, hy⟩ := hx x (by simp)
     rw [hc.1] at hy
     have h1 := ih _ _ ha _ _ hy
     have h2 := fields_ok ih xs (off + a.cells) total r hr hl (fun z hz => hx z (by simp [hz]))
     refine ⟨(cs.drop off).take (P.cellsOf x.type), (cs.drop off).drop (P.cellsOf x.type), (List.take_append_drop _ _).symm, h1, ?_⟩
     rw [List.drop_drop, ← hc.2]
     exact h2
   ·cases h
  ·cases h
theorem shape_ok : ∀ (m : Nat) (t : TypeId) (s : Sh), shapeOf P m t = some s → ∀ (fuel : Nat) (cs : List Value) (x : DataW H × List MemPlace),
  DataW.trod enc P w 0 spare held fuel t cs = some x → s.Ok w cs
 | 0, _, _, h, _, _, _, _ => by cases h
 | m + 1, t, s, h, fuel, cs, x, hx => by
  unfold shapeOf at h
  split at h
  ·rename_i ht
   cases h
   obtain ⟨b, hb, _⟩ := DataW.trod_bool ht hx
   exact ⟨b, hb⟩
  ·rename_i k ht
   cases h
   obtain ⟨b, hb, _, hw⟩ := DataW.trod_int ht hx
   exact ⟨b, hb, hw⟩
  ·rename_i ht
   cases h
   obtain ⟨b, hb, _, hw⟩ := DataW.trod_string ht hx
   exact ⟨b, hb, hw⟩
  ·rename_i e ht
   split at h
   ·rename_i s' hs
    split at h
    ·cases h
     rcases DataW.trod_slice ht hx with ⟨h1, _⟩ | ⟨a, len, cap, elems, rest, n, _, hcs, _, _, hl, hm, hlen, hel, _⟩
     ·exact .inl h1
     ·refine .inr ⟨a, len, cap, hcs, hl, hm, fun i hi => ?_⟩
      have h2 := hel i hi
      rw [List.getElem?_eq_getElem (by omega)] at h2
      cases hc : w.cells? 0 (a.add (i * P.cellsOf e)) (P.cellsOf e) with
      | none => rw [hc] at h2; cases h2
      | some cs' =>
       rw [hc] at h2
       exact ⟨cs', rfl, shape_ok m e _ hs n cs' _ h2⟩
    ·cases h
   ·cases h
  ·rename_i fs ht
   obtain ⟨xs, n, _, _, hl, hlen, hf⟩ := DataW.trod_struct ht hx
   have := fields_ok (cs := cs) (n := n) (fun t s hs cs x hx => shape_ok m t s hs n cs x hx) fs.toList 0 (P.cellsOf t) s h hl (fun f hmem => by
    obtain ⟨i, hi, rfl⟩ := List.getElem_of_mem hmem
    have h3 := hf i fs.toList[i] (by simp)
    rw [List.getElem?_eq_getElem (by rw [hlen]; simpa using hi)] at h3
    exact ⟨_, h3⟩)
   simpa using this
  ·rename_i k e ht
   split at h
   ·rename_i s' hs
    split at h
    ·rename_i hc
     cases h
     obtain ⟨xs, n, _, _, hl, hlen, hf⟩ := DataW.trod_array ht hx
     refine rep_ok hc.1 k cs (hl.trans hc.2.symm) (fun i hi => ?_)
     have h3 := hf i hi
     rw [List.getElem?_eq_getElem (by omega)] at h3
     exact shape_ok m e _ hs n _ _ h3
    ·cases h
   ·cases h
  ·cases h
def Sh.Val (w : World) (s : Sh) (v : Value) : Prop :=
 match s with
 | .unit | .pair _ _ => ∃ cs : List Value, v = .agg cs.toArray ∧ s.Ok w cs
 | s => s.Ok w [v]
theorem fieldsSh_agg {f : TypeId → Option Sh} : ∀ {fs : List Field} {off total : Nat} {s : Sh}, fieldsSh P f fs off total = some s → s = .unit ∨ ∃ a b, s = .pair a b
 | [], off, total, s, h => by
  simp only [fieldsSh] at h
  split at h
  ·cases h; exact .inl rfl
  ·cases h
 | x :: xs, off, total, s, h => by
  simp only [fieldsSh] at h
  split at h
  ·split at h
   ·cases hr : fieldsSh P f xs (off + _) total with
    | none => rw [hr] at h; cases h
    | some r => rw [hr] at h; cases h; exact .inr ⟨_, _, rfl⟩
   ·cases h
  ·cases h
theorem shape_val {r : Reach} {b0 : Nat} {m : Nat} {t : TypeId} {s : Sh} (h : shapeOf P m t = some s) {v : Value} {d : DataW H} {ps : List MemPlace}
  (hval : Value.okWide P w r b0 t v) (hd : DataW.Trod enc P w 0 spare held t v d ps) : s.Val w v := by
 obtain ⟨fuel, hf⟩ := hd
 have hok := shape_ok m t s h fuel _ _ hf
 cases m with
 | zero => cases h
 | succ m =>
  unfold shapeOf at h
  split at h
  ·rename_i ht
   cases h
   obtain ⟨b, rfl⟩ := okWide_bool ht hval
   exact hok
  ·rename_i k ht
   cases h
   obtain ⟨b, rfl⟩ := okWide_int ht hval
   exact hok
  ·rename_i ht
   cases h
   obtain ⟨b, rfl⟩ := okWide_string ht hval
   exact hok
  ·rename_i e ht
   split at h
   ·split at h
    ·cases h
     obtain ⟨a, l, c, rfl⟩ := okWide_slice ht hval
     exact hok
    ·cases h
   ·cases h
  ·rename_i fs ht
   obtain ⟨cs, rfl, _⟩ := okWide_struct ht hval
   rcases fieldsSh_agg h with rfl | ⟨a, b, rfl⟩
   ·exact ⟨cs.toList, by simp, hok⟩
   ·exact ⟨cs.toList, by simp, hok⟩
  ·rename_i k e ht
   have hv : ∃ cs : Array Value, v = .agg cs := by
    simp only [Value.okWide, ht] at hval
    obtain ⟨cs, h1, _⟩ := hval
    exact ⟨cs, h1⟩
   obtain ⟨cs, rfl⟩ := hv
   split at h
   ·split at h
    ·cases h
     cases k with
     | zero => exact ⟨cs.toList, by simp, hok⟩
     | succ k => exact ⟨cs.toList, by simp, hok⟩
    ·cases h
   ·cases h
  ·cases h
end
end Go.Proofs.YtjppbomngnomhaaGreatDoor
namespace Go.Proofs.YtjppbomngnomhaaGreatDoor
open Go.ChangeShapes Go.WideShapes Go.ChangeAt Go.RowKit Pl
theorem str_list (s : ByteArray) : s = ⟨List.toArray s.data.toList⟩ := by
 apply ByteArray.ext
 simp
theorem str_beq (x y : List UInt8) : ((⟨List.toArray x⟩ : ByteArray) == ⟨List.toArray y⟩) = decide (x = y) := by
 rw [beq_toListBytes, ByteArray.toList_eq, ByteArray.toList_eq, Bool.eq_iff_iff]
 simp
end Go.Proofs.YtjppbomngnomhaaGreatDoor
namespace Go.Proofs.YtjppbomngnomhaaGreatDoor
open Go.ChangeShapes Go.WideShapes Go.ChangeAt Go.RowKit Pl
theorem cell_ltI {W : World} {g o : Nat} {x : Value} (h : W.cell? ⟨g, o, none⟩ = some x) : g < W.heap.size := by
 rcases Nat.lt_or_ge g W.heap.size with hlt | hge
 ·exact hlt
 ·unfold World.cell? at h
  rw [Array.getElem?_eq_none hge] at h
  simp at h
theorem item_val {W : World} {v : Value} (h : Sh.Val W (.slice 2 (.pair .str (.pair .str .unit))) v) : ∃ l : List It, IL W v l ∧ ∀ x ∈ l, x.1.length ≤ 9223372036854775807 ∧ x.2.length ≤ 9223372036854775807 := by
 rcases (show _ ∨ _ from h) with h | ⟨a, len, cap, hv, hlc, hcm, hel⟩
 ·obtain rfl : v = .slice none 0 0 := by simpa using h
  exact ⟨[], ⟨none, 0, rfl, Nat.le_refl _, by unfold maxLen; omega, fun h => absurd rfl h⟩, by simp⟩
 ·obtain rfl : v = .slice (some a) len cap := by simpa using hv
  rcases Nat.eq_zero_or_pos len with h0 | hpos
  ·subst h0
   exact ⟨[], ⟨some a, cap, rfl, hlc, hcm, fun h => absurd rfl h⟩, by simp⟩
  ·obtain ⟨hs, hc⟩ := slice_cells (by decide) hpos hel
   have hf : ∀ i, ∃ x : It, i < len → (W.cell? ⟨a.block, a.off + i * 2, none⟩ = some (.string ⟨List.toArray x.1⟩) ∧ W.cell? ⟨a.block, a.off + i * 2 + 1, none⟩ = some (.string ⟨List.toArray x.2⟩)) ∧ x.1.length ≤ 9223372036854775807 ∧ x.2.length ≤ 9223372036854775807 := by
    intro i
    by_cases hi : i < len
    ·obtain ⟨cs, ⟨x, y, rfl, ⟨s, rfl, hs1⟩, z, u, rfl, ⟨n, rfl, hs2⟩, hu⟩, _, hj⟩ := hc i hi
     have h0 := hj 0 (by decide)
     have h1 := hj 1 (by decide)
     have l1 : s.data.toList.length ≤ 9223372036854775807 := by rw [Array.length_toList]; have h : s.data.size ≤ maxLen := hs1; unfold maxLen at h; omega
     have l2 : n.data.toList.length ≤ 9223372036854775807 := by rw [Array.length_toList]; have h : n.data.size ≤ maxLen := hs2; unfold maxLen at h; omega
     refine ⟨(s.data.toList, n.data.toList), fun _ => ⟨⟨?_, ?_⟩, l1, l2⟩⟩
     ·rw [← str_list s]
      simpa using h0
     ·rw [← str_list n]
      simpa using h1
    ·exact ⟨([], []), fun h => absurd h hi⟩
   obtain ⟨f, hf⟩ := Classical.axiomOfChoice hf
   obtain ⟨b, off, sp⟩ := a
   simp only at hs
   subst hs
   refine ⟨(List.range len).map f, ⟨some ⟨b, off, none⟩, cap, by simp, by simpa using hlc, hcm, fun _ => ⟨b, off, rfl, cell_ltI (hf 0 hpos).1.1, fun i hi => ?_⟩⟩, ?_⟩
   rotate_left
   ·intro x hx
    rw [List.mem_map] at hx
    obtain ⟨i, hi, rfl⟩ := hx
    exact (hf i (List.mem_range.1 hi)).2
   have hi' : i < len := by simpa using hi
   have hg : ((List.range len).map f).getD i ([], []) = f i := by simp [List.getD, hi']
   rw [hg]
   exact (hf i hi').1
end Go.Proofs.YtjppbomngnomhaaGreatDoor
namespace Go.Proofs.YtjppbomngnomhaaGreatDoor
open Go.RowKit Pl
def ka (kid : Nat → Bs) : List Value := (kidL kid).map fun s => .string ⟨List.toArray s⟩
def nd (kind : Int) (path val : Bs) (kid : Nat → Bs) : List Value := .int .i64 kind :: .string ⟨List.toArray path⟩ :: .string ⟨List.toArray val⟩ :: ka kid
theorem ka_len (kid : Nat → Bs) : (ka kid).length = 16 := by simp [ka, kidL]
theorem nd_len (kind : Int) (path val : Bs) (kid : Nat → Bs) : (nd kind path val kid).length = 19 := by simp [nd, ka_len]
theorem ka_at (kid : Nat → Bs) (k : Nat) (hk : k < 16) : (ka kid)[k]? = some (.string ⟨List.toArray (kid k)⟩) := by
 simp [ka, kidL, hk]
theorem nd_at (kind : Int) (path val : Bs) (kid : Nat → Bs) (k : Nat) (hk : k < 16) : (nd kind path val kid)[3 + k]? = some (.string ⟨List.toArray (kid k)⟩) := by
 have : (nd kind path val kid)[3 + k]? = (ka kid)[k]? := by
  rw [Nat.add_comm]; rfl
 rw [this, ka_at kid k hk]
@[go_sem, simp] theorem nd0 (kind : Int) (path val : Bs) (kid : Nat → Bs) : (nd kind path val kid).toArray[0]? = some (.int .i64 kind) := rfl
@[go_sem, simp] theorem nd1 (kind : Int) (path val : Bs) (kid : Nat → Bs) : (nd kind path val kid).toArray[1]? = some (.string ⟨List.toArray path⟩) := rfl
@[go_sem, simp] theorem nd2 (kind : Int) (path val : Bs) (kid : Nat → Bs) : (nd kind path val kid).toArray[2]? = some (.string ⟨List.toArray val⟩) := rfl
@[go_sem, simp] theorem nd3 (kind : Int) (path val : Bs) (kid : Nat → Bs) : (nd kind path val kid).toArray[3]? = some (.string ⟨List.toArray (kid 0)⟩) := rfl
@[go_sem, simp] theorem nd0g (kind : Int) (path val : Bs) (kid : Nat → Bs) (h : 0 < (nd kind path val kid).length) : (nd kind path val kid)[0]'h = .int .i64 kind := rfl
@[go_sem, simp] theorem nd1g (kind : Int) (path val : Bs) (kid : Nat → Bs) (h : 1 < (nd kind path val kid).length) : (nd kind path val kid)[1]'h = .string ⟨List.toArray path⟩ := rfl
@[go_sem, simp] theorem nd2g (kind : Int) (path val : Bs) (kid : Nat → Bs) (h : 2 < (nd kind path val kid).length) : (nd kind path val kid)[2]'h = .string ⟨List.toArray val⟩ := rfl
@[go_sem, simp] theorem nd3g (kind : Int) (path val : Bs) (kid : Nat → Bs) (h : 3 < (nd kind path val kid).length) : (nd kind path val kid)[3]'h = .string ⟨List.toArray (kid 0)⟩ := rfl
@[go_sem, simp] theorem ka_size (kid : Nat → Bs) : (ka kid).toArray.size = 16 := by simp [ka_len]
@[go_sem, simp] theorem nd_size (kind : Int) (path val : Bs) (kid : Nat → Bs) : (nd kind path val kid).toArray.size = 19 := by simp [nd_len]
@[go_sem, simp] theorem ka_size' (kid : Nat → Bs) : (ka kid).length = 16 := ka_len kid
@[go_sem, simp] theorem nd_size' (kind : Int) (path val : Bs) (kid : Nat → Bs) : (nd kind path val kid).length = 19 := nd_len kind path val kid
theorem nd_range {w : World} {b : Nat} {kind : Int} {path val : Bs} {kid : Nat → Bs} (h : Blk w b (nd kind path val kid).toArray) : w.rangeAt b 0 (nd kind path val kid) := by
 intro j v hv
 rw [Nat.zero_add, h.cell j]
 simpa using hv
theorem ka_range {w : World} {b : Nat} {kind : Int} {path val : Bs} {kid : Nat → Bs} (h : Blk w b (nd kind path val kid).toArray) : w.rangeAt b 3 (ka kid) := by
 intro j v hv
 rw [h.cell (3 + j)]
 have : (nd kind path val kid)[3 + j]? = (ka kid)[j]? := by
  rw [Nat.add_comm]; rfl
 simpa [this] using hv
theorem blk_kid {w : World} {b : Nat} {kind : Int} {path val : Bs} {kid : Nat → Bs} (h : Blk w b (nd kind path val kid).toArray) (k : Nat) (hk : k < 16) : w.cell? ⟨b, 3 + k, none⟩ = some (.string ⟨List.toArray (kid k)⟩) := by
 rw [h.cell]
 simpa using nd_at kind path val kid k hk
theorem nd_info : (Tryz.prog.info? 76).map (·.size) = some 19 := by kernel_rfl
theorem ka_info : (Tryz.prog.info? 74).map (·.size) = some 16 := by kernel_rfl
section
variable {ops : Array Oper} {rest : List Oper} {op : Oper} {a : Act} {w : World} {Q : Exit → Act → World → Prop}
theorem wpList_node (hgd : op.guard = none) (x : Operand) (ho : op.op = .load 76 x) {b : Nat} (hx : a.eval x = .pointer (some ⟨b, 0, none⟩)) {kind : Int} {path val : Bs} {kid : Nat → Bs} (hB : Blk w b (nd kind path val kid).toArray)
  (h : wpList Tryz.prog ops Q rest (a.put op.dst (.agg (nd kind path val kid).toArray)) w) : wpList Tryz.prog ops Q (op :: rest) a w :=
 wpList_load_mid hgd 76 x ho b 0 hx (nd kind path val kid) _ (nd_range hB) Tryz.underlying76 rfl (by rw [nd_len]; exact nd_info) h
theorem wpList_kidsArr (hgd : op.guard = none) (x : Operand) (ho : op.op = .load 74 x) {b : Nat} (hx : a.eval x = .pointer (some ⟨b, 3, none⟩)) {kind : Int} {path val : Bs} {kid : Nat → Bs} (hB : Blk w b (nd kind path val kid).toArray)
  (h : wpList Tryz.prog ops Q rest (a.put op.dst (.agg (ka kid).toArray)) w) : wpList Tryz.prog ops Q (op :: rest) a w :=
 wpList_load_mid hgd 74 x ho b 3 hx (ka kid) _ (ka_range hB) Tryz.underlying74 rfl (by rw [ka_len]; exact ka_info) h
end
theorem kid_index (kid : Nat → Bs) (k : Nat) (hk : k < 16) (w : World) : (Instr.index 74 (.agg (ka kid).toArray) (.int .i64 (k : Int))).run Tryz.prog w = .ok (.string ⟨List.toArray (kid k)⟩) w := by
 obtain ⟨i0, hi, _, hs, _⟩ := info_parts infoStr
 have hp : (Tryz.prog).plainKey 9 = true := by simp [Program.plainKey, Tryz.underlying9]
 have hpart := run_part_plain (P := Tryz.prog) w hp (off := k) (xs := (ka kid).toArray) (by simpa using ka_at kid k hk)
 have hsz : (Go.sizeOf 9).run Tryz.prog w = .ok 1 w := by simp [Go.sizeOf, typeInfo, hi, hs]
 have hk' : (0 : Int) ≤ (k : Int) ∧ (k : Int) < 16 := by omega
 simp [Instr.index, asIntOf, run_underlying Tryz.underlying74, hk', hsz, hpart, Sem.run_bind]
 intro h
 omega
theorem kids_any (kind : Int) (path val : Bs) (kid : Nat → Bs) (w : World) :
  Calls Tryz.prog 62 #[.agg (nd kind path val kid).toArray] w fun e w' => ∃ (x : Option Addr) (cap : Nat), e = .returned (.slice x (kidsF kid).length cap) ∧ SRow w' w.heap.size (.slice x (kidsF kid).length cap) (kidsF kid) ∧ Below w.heap.size w w' := by
 have hB := Blk.new w (nd kind path val kid).toArray 76
 go_enter Tryz.func62, Tryz.ntmps62
 go_wp2_with (refine wpList_kidsArr rfl (.tmp 6) rfl rfl hB ?_)
 go_loopw [3, 8] (fun s3 s8 wr => ∃ k : Nat, k ≤ 16 ∧ s8 = .int .i64 k ∧ SRow wr w.heap.size s3 (kidsTo kid k) ∧ Below w.heap.size w wr) (fun _ s8 _ => 16 - (intOf s8).toNat)
 case atStart => exact ⟨0, by omega, rfl, SRow.nil _ _, by (repeat (first | exact Below.refl _ _ | assumption | apply Below.drew | apply below_drewN | apply Below.allocS | (refine Below.setCell ?_ (by simp <;> omega) _) | (refine Below.alloc ?_ (by simp <;> omega) _) | (refine Below.trans ?_ (Below.mono (by assumption) (by simp <;> omega)))))⟩
 case round =>
  obtain ⟨k, hk, rfl, hS, hb⟩ := hrel
  rename_i wr
  clear hB
  by_cases hlt : k < 16
  ·have hki := kid_index kid k hlt
   have hlt' : (k : Int) < 16 := by omega
   have hkl := kidsTo_len kid k
   have HKS := Lib.hid (kidsTo_succ kid k)
   by_cases he : kid k = []
   ·have HK : Hid (kidsTo kid (k + 1) = kidsTo kid k) := Lib.hid (by rw [HKS.out, if_pos he]; simp)
    rw [he] at hki
    have HE := Lib.hid he
    clear he
    go_wp2_with fail
    exact ⟨⟨k + 1, by omega, by go_num, by rw [HK.out]; exact hS, hb⟩, by simp [intOf]; omega⟩
   ·have HK : Hid (kidsTo kid (k + 1) = kidsTo kid k ++ [kid k]) := Lib.hid (by rw [HKS.out, if_neg he])
    have he1 : (kid k).isEmpty = false := by simpa using he
    go_wp2_with (at_builtin; refine wpList_appS rfl (.tmp 13) (.tmp 15) rfl w.heap.size _ (kidsTo kid k) rfl (hS.alloc _) wr.heap.size 0 1 1 [kid k] rfl rfl (ssrc1 _ _ _) (by omega) (by have := hb.size; simp; omega) ?_; rintro v' w2 hS2 hb2)
    exact ⟨⟨k + 1, by omega, by go_num, by rw [HK.out]; exact hS2, (Below.allocS hb _).trans hb2⟩, by simp [intOf]; omega⟩
  ·have hke : k = 16 := by omega
   subst hke
   go_wp2_with fail
   go_ret
   obtain ⟨x, cap, hv⟩ := hS.form
   rw [hv] at hS
   exact ⟨x, cap, congrArg Ending.returned hv, hS, hb⟩
end Go.Proofs.YtjppbomngnomhaaGreatDoor
namespace Go.Proofs.YtjppbomngnomhaaGreatDoor
open Go.RowKit Pl
theorem eq_items {P : Program} (w : World) (d : Nat) {e : TypeId} (he : P.underlying e = some .string) (f g : Nat → List UInt8) (xs ys : Array Value) :
  ∀ (is : List Nat), (∀ i ∈ is, xs[i * 1]? = some (.string ⟨List.toArray (f i)⟩) ∧ ys[i * 1]? = some (.string ⟨List.toArray (g i)⟩)) → (Op.eqItems (d + 1) e 1 xs ys is).run P w = .ok (decide (∀ i ∈ is, f i = g i)) w
 | [], _ => by simp [Op.eqItems]
 | i :: is, h => by
  have hp : P.plainKey e = true := by simp [Program.plainKey, he]
  obtain ⟨h1, h2⟩ := h i (by simp)
  have ih := eq_items w d he f g xs ys is (fun j hj => h j (by simp [hj]))
  simp only [Op.eqItems, Sem.run_bind, run_part_plain w hp h1, run_part_plain w hp h2, Result.andThen_ok, run_equalIn_string w d e _ _ he]
  have hb : ((⟨List.toArray (f i)⟩ : ByteArray).toList == (⟨List.toArray (g i)⟩ : ByteArray).toList) = decide (f i = g i) := by
   rw [← beq_toListBytes, str_beq]
  rw [hb]
  by_cases hfg : f i = g i
  ·simp [hfg, ih]
  ·simp [hfg]
theorem eq_strs {P : Program} (w : World) (d : Nat) {t e : TypeId} {n : Nat} {i : TypeInfo} (hu : P.underlying t = some (.array n e)) (hi : P.info? e = some i) (he : P.underlying e = some .string) (hc : P.cellsOf e = 1)
  (f g : Nat → List UInt8) (xs ys : Array Value) (hx : ∀ i, i < n → xs[i]? = some (.string ⟨List.toArray (f i)⟩)) (hy : ∀ i, i < n → ys[i]? = some (.string ⟨List.toArray (g i)⟩)) :
  (Op.equalIn (d + 2) t (.agg xs) (.agg ys)).run P w = .ok (decide (∀ i, i < n → f i = g i)) w := by
 rw [run_equalIn_array w (d + 1) xs ys hu hi, hc, eq_items w d he f g xs ys (List.range n) (fun i hi => by
  have hi' : i < n := by simpa using hi
  rw [Nat.mul_one]
  exact ⟨hx i hi', hy i hi'⟩)]
 congr 1
 simp
theorem list_getD (l : List (List UInt8)) (i : Nat) (h : i < l.length) : (l.map fun s => Value.string ⟨List.toArray s⟩).toArray[i]? = some (.string ⟨List.toArray (l.getD i [])⟩) := by
 simp [List.getD, List.getElem?_eq_getElem h]
theorem same_of {l m : List (List UInt8)} {n : Nat} (hl : l.length = n) (hm : m.length = n) : decide (∀ i, i < n → l.getD i [] = m.getD i []) = sameL l m := by
 unfold sameL
 rw [decide_eq_decide]
 constructor
 ·intro h
  apply List.ext_getElem (by omega)
  intro i h1 h2
  have := h i (by omega)
  simpa [List.getD, List.getElem?_eq_getElem h1, List.getElem?_eq_getElem h2] using this
 ·rintro rfl i _
  rfl
theorem cellsStr : Tryz.prog.cellsOf 9 = 1 := by kernel_rfl
theorem ka_get (kid : Nat → Bs) (i : Nat) (h : i < 16) : (ka kid).toArray[i]? = some (.string ⟨List.toArray ((kidL kid).getD i [])⟩) := by
 have h1 := ka_at kid i h
 have h2 : (kidL kid).getD i [] = kid i := by simp [kidL, List.getD, h]
 rw [h2]
 simpa using h1
@[go_sem] theorem eq_kids (kid kid2 : Nat → Bs) (d : Nat) (w : World) :
  (Op.equalIn (d + 2) 74 (.agg (ka kid).toArray) (.agg (ka kid2).toArray)).run Tryz.prog w = .ok (sameL (kidL kid) (kidL kid2)) w := by
 obtain ⟨i0, hi, _⟩ := info_parts infoStr
 rw [eq_strs (P := Tryz.prog) w d Tryz.underlying74 hi Tryz.underlying9 cellsStr (fun i => (kidL kid).getD i []) (fun i => (kidL kid2).getD i []) _ _ (fun i hi => ka_get kid i hi) (fun i hi => ka_get kid2 i hi)]
 exact congrArg (fun b => Result.ok b w) (same_of (by simp [kidL]) (by simp [kidL]))
@[go_sem high] theorem eq_kids_none (kid : Nat → Bs) (d : Nat) (w : World) :
  (Op.equalIn (d + 2) 74 (.agg (ka kid).toArray) (.agg #[.string ⟨List.toArray []⟩, .string ⟨List.toArray []⟩, .string ⟨List.toArray []⟩, .string ⟨List.toArray []⟩, .string ⟨List.toArray []⟩, .string ⟨List.toArray []⟩, .string ⟨List.toArray []⟩, .string ⟨List.toArray []⟩, .string ⟨List.toArray []⟩, .string ⟨List.toArray []⟩, .string ⟨List.toArray []⟩, .string ⟨List.toArray []⟩, .string ⟨List.toArray []⟩, .string ⟨List.toArray []⟩, .string ⟨List.toArray []⟩, .string ⟨List.toArray []⟩])).run Tryz.prog w = .ok (noKids kid) w := by
 obtain ⟨i0, hi, _⟩ := info_parts infoStr
 rw [eq_strs (P := Tryz.prog) w d Tryz.underlying74 hi Tryz.underlying9 cellsStr (fun i => (kidL kid).getD i []) (fun i => ([[], [], [], [], [], [], [], [], [], [], [], [], [], [], [], []] : List Bs).getD i []) (ka kid).toArray #[.string ⟨List.toArray []⟩, .string ⟨List.toArray []⟩, .string ⟨List.toArray []⟩, .string ⟨List.toArray []⟩, .string ⟨List.toArray []⟩, .string ⟨List.toArray []⟩, .string ⟨List.toArray []⟩, .string ⟨List.toArray []⟩, .string ⟨List.toArray []⟩, .string ⟨List.toArray []⟩, .string ⟨List.toArray []⟩, .string ⟨List.toArray []⟩, .string ⟨List.toArray []⟩, .string ⟨List.toArray []⟩, .string ⟨List.toArray []⟩, .string ⟨List.toArray []⟩] (fun i hi => ka_get kid i hi) (fun i hi => list_getD [[], [], [], [], [], [], [], [], [], [], [], [], [], [], [], []] i hi)]
 exact congrArg (fun b => Result.ok b w) (same_of (by simp [kidL]) rfl)
@[go_sem] theorem eq_kids_one (kid : Nat → Bs) (x : Bs) (d : Nat) (w : World) :
  (Op.equalIn (d + 2) 74 (.agg (ka kid).toArray) (.agg #[.string ⟨List.toArray x⟩, .string ⟨List.toArray []⟩, .string ⟨List.toArray []⟩, .string ⟨List.toArray []⟩, .string ⟨List.toArray []⟩, .string ⟨List.toArray []⟩, .string ⟨List.toArray []⟩, .string ⟨List.toArray []⟩, .string ⟨List.toArray []⟩, .string ⟨List.toArray []⟩, .string ⟨List.toArray []⟩, .string ⟨List.toArray []⟩, .string ⟨List.toArray []⟩, .string ⟨List.toArray []⟩, .string ⟨List.toArray []⟩, .string ⟨List.toArray []⟩])).run Tryz.prog w = .ok (oneKidX kid x) w := by
 obtain ⟨i0, hi, _⟩ := info_parts infoStr
 rw [eq_strs (P := Tryz.prog) w d Tryz.underlying74 hi Tryz.underlying9 cellsStr (fun i => (kidL kid).getD i []) (fun i => ([x, [], [], [], [], [], [], [], [], [], [], [], [], [], [], []] : List Bs).getD i []) (ka kid).toArray #[.string ⟨List.toArray x⟩, .string ⟨List.toArray []⟩, .string ⟨List.toArray []⟩, .string ⟨List.toArray []⟩, .string ⟨List.toArray []⟩, .string ⟨List.toArray []⟩, .string ⟨List.toArray []⟩, .string ⟨List.toArray []⟩, .string ⟨List.toArray []⟩, .string ⟨List.toArray []⟩, .string ⟨List.toArray []⟩, .string ⟨List.toArray []⟩, .string ⟨List.toArray []⟩, .string ⟨List.toArray []⟩, .string ⟨List.toArray []⟩, .string ⟨List.toArray []⟩] (fun i hi => ka_get kid i hi) (fun i hi => list_getD [x, [], [], [], [], [], [], [], [], [], [], [], [], [], [], []] i hi)]
 exact congrArg (fun b => Result.ok b w) (same_of (by simp [kidL]) rfl)
end Go.Proofs.YtjppbomngnomhaaGreatDoor
namespace Go.Proofs.YtjppbomngnomhaaGreatDoor
open Go.RowKit Pl
theorem nfit_any (s : Bs) (hs : s.length ≤ 9223372036854775807) (w : World) :
  Calls Tryz.prog 51 #[.string ⟨List.toArray s⟩] w fun e w' => e = .returned (.bool (fit s)) ∧ w = w' := by
 go_enter Tryz.func51, Tryz.ntmps51
 go_wp2_with fail
 go_loop [6] (fun s6 => ∃ i : Nat, i ≤ s.length ∧ s6 = .int .i64 i ∧ Hid (fit (s.take i) = true)) (fun s6 => s.length - (intOf s6).toNat)
 case atStart => exact ⟨0, by omega, rfl, Lib.hid (by simp [fit])⟩
 case round =>
  obtain ⟨i, hi, rfl, HF⟩ := hrel
  by_cases hlt : i < s.length
  ·have hbi := s[i].toNat_lt
   by_cases h15 : 15 < s[i].toNat
   ·have h15' : (15 : Int) < (s[i].toNat : Int) := by omega
    have HN := Lib.hid (fit_not s i hlt h15)
    go_wp2_with fail
    go_ret
    exact ⟨by rw [HN.out]; rfl, rfl⟩
   ·have h15' : ¬ (15 : Int) < (s[i].toNat : Int) := by omega
    go_wp2_with fail
    exact ⟨⟨i + 1, by omega, by go_num, Lib.hid (by rw [fit_take s i hlt, HF.out]; simp; omega)⟩, by simp [intOf] <;> omega⟩
  ·have hie : s.take i = s := List.take_of_length_le (by omega)
   have HN : Hid (fit s = true) := Lib.hid (by rw [← hie]; exact HF.out)
   clear hie
   go_wp2_with fail
   go_ret
   exact ⟨by rw [HN.out]; rfl, rfl⟩
theorem nof_any (s : Bs) (hs : s.length ≤ 35184372088832) (w : World) :
  Calls Tryz.prog 44 #[.string ⟨List.toArray s⟩] w fun e w' => e = .returned (.string ⟨List.toArray (ofP s)⟩) ∧ Below w.heap.size w w' := by
 obtain ⟨w1, hmk, hB, hb1⟩ := BRow.make w w.heap.size (2 * s.length) (by omega) (Nat.le_refl _)
 have hcast : (((2 * s.length : Nat)) : Int) = 2 * (s.length : Int) := by simp
 rw [hcast] at hmk
 clear hcast
 go_enter Tryz.func44, Tryz.ntmps44
 go_wp2_with fail
 go_loopw [3, 11] (fun s3 s11 wr => ∃ i : Nat, i ≤ s.length ∧ s11 = .int .i64 i ∧ BRow wr w.heap.size s3 (ofP (s.take i)) ∧ Below w.heap.size w wr) (fun _ s11 _ => s.length - (intOf s11).toNat)
 case atStart => exact ⟨0, by omega, rfl, hB, hb1⟩
 case round =>
  clear hmk hB hb1
  obtain ⟨i, hi, rfl, hB, hb⟩ := hrel
  rename_i wr
  by_cases hlt : i < s.length
  ·have hbi := s[i].toNat_lt
   have hol := ofP_len (s.take i)
   have htl : (s.take i).length = i := by simp; omega
   have HOL : Hid ((ofP (s.take i)).length = 2 * i) := Lib.hid (by rw [hol, htl])
   clear hol htl
   go_wp2_with fail
   go_region_law (refine step_appB rfl (.tmp 14) (.tmp 23) rfl w.heap.size _ (ofP (s.take i)) rfl (hB.alloc _).drew wr.heap.size 0 2 2 [UInt8.ofNat (s[i].toNat / 16), UInt8.ofNat (s[i].toNat % 16)] rfl rfl (bsrc2 _ _ _ _ _ _ (by simp; omega) (by rw [u8_and15 _ hbi]; simp; omega)).drew (by rw [HOL.out]; omega) (by have := hb.size; simp; omega) ?_; rintro v' w2 hB2 hb2)
   all_goals go_wp2_with fail
   all_goals exact ⟨⟨i + 1, by omega, by go_num, by rw [List.take_succ_eq_append_getElem hlt, ofP_snoc]; exact hB2, (Below.allocS hb _).drew.trans hb2⟩, by simp [intOf] <;> omega⟩
  ·have hcv := hB.conv
   go_wp2_with fail
   go_ret
   refine ⟨?_, hb⟩
   rw [List.take_of_length_le (by omega)]; rfl
theorem joined_at : ∀ (s : Bs) (i : Nat) (h : 2 * i + 1 < s.length), joined (s.take (2 * i + 2)) = joined (s.take (2 * i)) ++ [UInt8.ofNat ((s[2 * i]'(by omega)).toNat * 16 + (s[2 * i + 1]).toNat)]
 | a :: b :: r, 0, _ => by simp [joined]
 | a :: b :: r, i + 1, h => by
  have h' : 2 * i + 1 < r.length := by simp at h; omega
  have ih := joined_at r i h'
  have e1 : (a :: b :: r).take (2 * (i + 1) + 2) = a :: b :: r.take (2 * i + 2) := by
   rw [show 2 * (i + 1) + 2 = (2 * i + 2) + 1 + 1 from by omega]; simp
  have e2 : (a :: b :: r).take (2 * (i + 1)) = a :: b :: r.take (2 * i) := by
   rw [show 2 * (i + 1) = (2 * i) + 1 + 1 from by omega]; simp
  rw [e1, e2]
  simp only [joined, ih, List.cons_append]
  rfl
 | [], _, h => by simp at h
 | [_], i, h => by simp at h
theorem joined_all (s : Bs) : joined (s.take (2 * (s.length / 2))) = joined s := by
 by_cases h : s.length % 2 = 0
 ·rw [List.take_of_length_le (by omega)]
 ·have : ∀ (n : Nat) (s : Bs), s.length = 2 * n + 1 → joined (s.take (2 * n)) = joined s := by
   intro n
   induction n with
   | zero =>
    intro s hs
    match s, hs with
    | [a], _ => rfl
   | succ n ih =>
    intro s hs
    match s, hs with
    | a :: b :: r, hs =>
     have e2 : (a :: b :: r).take (2 * (n + 1)) = a :: b :: r.take (2 * n) := by
      rw [show 2 * (n + 1) = (2 * n) + 1 + 1 from by omega]; simp
     rw [e2]
     simp only [joined]
     rw [ih r (by simp at hs; omega)]
  rw [show 2 * (s.length / 2) = 2 * (s.length / 2) from rfl]
  exact this (s.length / 2) s (by omega)
theorem joined_len : ∀ (s : Bs), (joined s).length = s.length / 2
 | [] => rfl
 | [_] => by simp [joined]
 | a :: b :: r => by simp [joined, joined_len r]; omega
theorem njoined_any (s : Bs) (hf : fit s = true) (hs : s.length ≤ 35184372088832) (w : World) :
  Calls Tryz.prog 52 #[.string ⟨List.toArray s⟩] w fun e w' => e = .returned (.string ⟨List.toArray (joined s)⟩) ∧ Below w.heap.size w w' := by
 obtain ⟨w1, hmk, hB, hb1⟩ := BRow.make w w.heap.size (s.length / 2) (by omega) (Nat.le_refl _)
 have hcast : (((s.length / 2 : Nat)) : Int) = (s.length : Int) / 2 := by omega
 rw [hcast] at hmk
 clear hcast
 have HFit := Lib.hid hf
 clear hf
 go_enter Tryz.func52, Tryz.ntmps52
 go_wp2_with fail
 go_loopw [3, 12] (fun s3 s12 wr => ∃ i : Nat, i ≤ s.length / 2 ∧ s12 = .int .i64 i ∧ BRow wr w.heap.size s3 (joined (s.take (2 * i))) ∧ Below w.heap.size w wr) (fun _ s12 _ => s.length / 2 - (intOf s12).toNat)
 case atStart => exact ⟨0, by omega, rfl, hB, hb1⟩
 case round =>
  clear hmk hB hb1
  obtain ⟨i, hi, rfl, hB, hb⟩ := hrel
  rename_i wr
  by_cases hlt : i < s.length / 2
  ·have h2 : 2 * i + 1 < s.length := by omega
   have hlt' : (i : Int) < (s.length : Int) / 2 := by omega
   have ha := fit_at s HFit.out (2 * i) (by omega)
   have hb' := fit_at s HFit.out (2 * i + 1) h2
   have HJ := Lib.hid (joined_at s i h2)
   have HL : Hid ((joined (s.take (2 * i))).length = i) := Lib.hid (by rw [joined_len]; simp; omega)
   have hai : (s[2 * i].toNat : Int) ≤ 15 := by omega
   have hbi : (s[2 * i + 1].toNat : Int) ≤ 15 := by omega
   have q1 : (0 : Int) ≤ 2 * (i : Int) := by omega
   have q2 : 2 * (i : Int) < (s.length : Int) := by omega
   have q3 : (0 : Int) ≤ 2 * (i : Int) + 1 := by omega
   have q4 : 2 * (i : Int) + 1 < (s.length : Int) := by omega
   have q5 : (2 * (i : Int)).toNat = 2 * i := by omega
   have q6 : (2 * (i : Int) + 1).toNat = 2 * i + 1 := by omega
   have q7 : IntKind.i64.wrap (2 * (i : Int)) = 2 * (i : Int) := IntWalk.i64_in _ (by omega)
   have q8 : IntKind.i64.wrap (2 * (i : Int) + 1) = 2 * (i : Int) + 1 := IntWalk.i64_in _ (by omega)
   have q9 : IntKind.u8.wrap ((s[2 * i].toNat : Int) * 16) = (s[2 * i].toNat : Int) * 16 := by rw [IntKind.wrap_u8']; omega
   go_wp2_with fail
   go_region_law (refine step_appB rfl (.tmp 15) (.tmp 27) rfl w.heap.size _ (joined (s.take (2 * i))) rfl (hB.alloc _).drew wr.heap.size 0 1 1 [UInt8.ofNat (s[2 * i].toNat * 16 + s[2 * i + 1].toNat)] rfl rfl (bsrc1 _ _ _ _ (by rw [u8_or_hi _ _ (by omega) (by omega)]; simp; omega)).drew (by rw [HL.out]; omega) (by have := hb.size; simp; omega) ?_; rintro v' w2 hB2 hb2)
   all_goals go_wp2_with fail
   all_goals exact ⟨⟨i + 1, by omega, by go_num, by rw [show 2 * (i + 1) = 2 * i + 2 from by omega, HJ.out]; exact hB2, (Below.allocS hb _).drew.trans hb2⟩, by simp [intOf] <;> omega⟩
  ·have hcv := hB.conv
   have hlt' : ¬ (i : Int) < (s.length : Int) / 2 := by omega
   have hii : i = s.length / 2 := by omega
   have HJ : Hid (joined (s.take (2 * i)) = joined s) := Lib.hid (by rw [hii]; exact joined_all s)
   clear hii
   go_wp2_with fail
   go_ret
   refine ⟨?_, hb⟩
   rw [← HJ.out]; rfl
end Go.Proofs.YtjppbomngnomhaaGreatDoor
namespace Go.Proofs.YtjppbomngnomhaaGreatDoor
open Go.RowKit Pl
theorem npath_any (p : Bs) (least : Int) (hs : p.length ≤ 9223372036854775807) (w : World) :
  Calls Tryz.prog 132 #[.string ⟨List.toArray p⟩, .int .i64 least] w fun e w' => e = .returned (.bool (pathOk p least)) ∧ w = w' := by
 generalize hr : pathOk p least = r
 unfold pathOk at hr
 have HR := Lib.hid hr
 clear hr
 go_enter Tryz.func132, Tryz.ntmps132
 go_wp2_with fail
 refine (nfit_any p hs _).mono ?_
 rintro e w1 ⟨rfl, rfl⟩
 cases hf : fit p
 ·rw [hf] at HR
  clear hf
  go_wp2_with fail
  all_goals go_ret
  all_goals exact ⟨by rw [← HR.out]; rfl, rfl⟩
 ·rw [hf] at HR
  clear hf
  go_wp2_with fail
  all_goals go_ret
  all_goals (refine ⟨?_, rfl⟩; rw [← HR.out]; simp [*] <;> omega)
theorem sums_nil (w : World) : Calls Tryz.prog 133 #[.slice none 0 0] w fun e w' => e = .returned (.bool (all32 [])) ∧ w = w' := by
 go_enter Tryz.func133, Tryz.ntmps133
 go_wp2_with fail
 go_loop [7] (fun s7 => s7 = .int .i64 0) (fun _ => 0)
 case atStart => rfl
 case round =>
  obtain rfl := hrel
  go_wp2_with fail
  go_ret
  exact ⟨rfl, rfl⟩
theorem all32_not (l : List Bs) (i : Nat) (hi : i < l.length) (h : (l.getD i []).length ≠ 32) : all32 l = false := by
 cases hf : all32 l with
 | false => rfl
 | true =>
  exfalso
  apply h
  have := List.all_eq_true.1 hf (l[i]) (List.getElem_mem hi)
  simpa [List.getD, List.getElem?_eq_getElem hi] using this
theorem sums_own (b off len cap : Nat) (l : List Bs) (hlen : l.length = len) (hmax : len ≤ 9223372036854775807) (w : World) (hc : ∀ i, i < len → w.cell? ⟨b, off + i, none⟩ = some (.string ⟨List.toArray (l.getD i [])⟩)) :
  Calls Tryz.prog 133 #[.slice (some ⟨b, off, none⟩) len cap] w fun e w' => e = .returned (.bool (all32 l)) ∧ w = w' := by
 have HC := Lib.hid hc
 have HL := Lib.hid hlen
 clear hc hlen
 go_enter Tryz.func133, Tryz.ntmps133
 go_wp2_with fail
 go_loop [7] (fun s7 => ∃ i : Nat, i ≤ len ∧ s7 = .int .i64 i ∧ Hid (∀ j, j < i → (l.getD j []).length = 32)) (fun s7 => len - (intOf s7).toNat)
 case atStart => exact ⟨0, by omega, rfl, Lib.hid (fun j hj => by omega)⟩
 case round =>
  obtain ⟨i, hi, rfl, HA⟩ := hrel
  by_cases hlt : i < len
  ·have hci := HC.out i hlt
   by_cases h32 : (l.getD i []).length = 32
   ·have HN : Hid (∀ j, j < i + 1 → (l.getD j []).length = 32) := Lib.hid (fun j hj => by
     rcases Nat.lt_or_ge j i with h | h
     ·exact HA.out j h
     ·have : j = i := by omega
      subst this; exact h32)
    generalize l.getD i [] = x at hci h32
    have hb : ((x.length : Int) != 32) = false := by simp; omega
    clear h32
    go_wp2_with fail
    exact ⟨⟨i + 1, by omega, by go_num, HN⟩, by simp [intOf]; omega⟩
   ·have HN := Lib.hid (all32_not l i (by rw [HL.out]; exact hlt) h32)
    generalize l.getD i [] = x at hci h32
    have hb : ((x.length : Int) != 32) = true := by simp; omega
    clear h32
    go_wp2_with fail
    go_ret
    exact ⟨by rw [HN.out]; rfl, rfl⟩
  ·have HN : Hid (all32 l = true) := Lib.hid (by
    unfold all32
    rw [List.all_eq_true]
    intro s hs
    obtain ⟨j, hj, rfl⟩ := List.getElem_of_mem hs
    have := HA.out j (by have := HL.out; omega)
    simpa [List.getD, List.getElem?_eq_getElem hj] using this)
   go_wp2_with fail
   go_ret
   exact ⟨by rw [HN.out]; rfl, rfl⟩
theorem sums_any (base : Nat) (v : Value) (l : List Bs) (w : World) (h : SRow w base v l) :
  Calls Tryz.prog 133 #[v] w fun e w' => e = .returned (.bool (all32 l)) ∧ w = w' := by
 rcases h.cells with ⟨rfl, rfl⟩ | ⟨g, cap, rfl, hb, hlt, hn, hm, hc, hf⟩
 ·exact sums_nil w
 ·exact sums_own g 0 l.length cap l rfl (by unfold maxLen at hm; omega) w (fun i hi => by simpa using hc i hi)
end Go.Proofs.YtjppbomngnomhaaGreatDoor
namespace Go.Proofs.YtjppbomngnomhaaGreatDoor
open Go.RowKit Pl
theorem check_leaf (path val : Bs) (kid : Nat → Bs) (hp : path.length ≤ 9223372036854775807) (w : World) :
  Calls Tryz.prog 111 #[.agg (nd 1 path val kid).toArray] w fun e w' => e = .returned (.int .i64 (chkI (chk 1 path val kid))) ∧ Below w.heap.size w w' := by
 generalize hr : chkI (chk 1 path val kid) = r
 unfold chk at hr
 rw [if_pos rfl] at hr
 have HR := Lib.hid hr
 clear hr
 have hB0 := Blk.new w (nd 1 path val kid).toArray 76
 go_enter Tryz.func111, Tryz.ntmps111
 go_wp2_with (refine wpList_node rfl (.tmp 1) rfl rfl hB0 ?_)
 refine (kids_any _ path val kid _).mono ?_
 rintro e w1 ⟨va, vc, rfl, hS, hb⟩
 have hB : Blk w1 w.heap.size (nd 1 path val kid).toArray := hB0.keep hb
 have hb0 : Below w.heap.size w w1 := (Below.allocS (Below.refl _ _) _).trans (hb.mono (by simp))
 clear hb hB0
 obtain ⟨b1, b2, b3⟩ := id hB
 cases h1 : noKids kid
 ·go_wp2_with (refine wpList_kidsArr rfl (.tmp 12) rfl rfl hB ?_)
  all_goals (go_ret; refine ⟨?_, hb0⟩; rw [← HR.out]; simp [*, chkI])
 ·go_wp2_with (refine wpList_kidsArr rfl (.tmp 12) rfl rfl hB ?_)
  refine (npath_any path 0 hp _).mono ?_
  rintro e w2 ⟨rfl, rfl⟩
  cases h2 : pathOk path 0
  ·go_wp2_with fail
   all_goals (go_ret; refine ⟨?_, hb0⟩; rw [← HR.out]; simp [*, chkI])
  ·by_cases hv : val = []
   ·subst hv
    go_wp2_with fail
    all_goals (go_ret; refine ⟨?_, hb0⟩; rw [← HR.out]; simp [*, chkI])
   ·have hv1 : val.isEmpty = false := by simpa using hv
    clear hv
    by_cases h32 : val.length ≤ 32
    ·have h32' : decide ((val.length : Int) ≤ 32) = true := by simp; omega
     go_wp2_with fail
     all_goals (go_ret; refine ⟨?_, hb0⟩; rw [← HR.out]; simp [*, chkI])
    ·have h32' : decide ((val.length : Int) ≤ 32) = false := by simp; omega
     go_wp2_with fail
     all_goals (go_ret; refine ⟨?_, hb0⟩; rw [← HR.out]; simp [*, chkI])
 
theorem check_branch (path val : Bs) (kid : Nat → Bs) (hp : path.length ≤ 9223372036854775807) (w : World) :
  Calls Tryz.prog 111 #[.agg (nd 3 path val kid).toArray] w fun e w' => e = .returned (.int .i64 (chkI (chk 3 path val kid))) ∧ Below w.heap.size w w' := by
 generalize hr : chkI (chk 3 path val kid) = r
 unfold chk at hr
 rw [if_neg (by decide), if_neg (by decide), if_pos rfl] at hr
 have HR := Lib.hid hr
 clear hr
 have hB0 := Blk.new w (nd 3 path val kid).toArray 76
 go_enter Tryz.func111, Tryz.ntmps111
 go_wp2_with (refine wpList_node rfl (.tmp 1) rfl rfl hB0 ?_)
 refine (kids_any _ path val kid _).mono ?_
 rintro e w1 ⟨va, vc, rfl, hS, hb⟩
 have hB : Blk w1 w.heap.size (nd 3 path val kid).toArray := hB0.keep hb
 have hb0 : Below w.heap.size w w1 := (Below.allocS (Below.refl _ _) _).trans (hb.mono (by simp))
 clear hb hB0
 obtain ⟨b1, b2, b3⟩ := id hB
 have hkl := kidsTo_len kid 16
 have hkl' : ((kidsF kid).length : Int) ≤ 16 := by unfold kidsF; omega
 cases path with
 | cons pc pr =>
  by_cases hv : val = []
  ·subst hv
   go_wp2_with fail
   all_goals (go_ret; refine ⟨?_, hb0⟩; rw [← HR.out]; simp [*, chkI])
  ·have hv1 : val.isEmpty = false := by simpa using hv
   clear hv
   go_wp2_with fail
   all_goals (go_ret; refine ⟨?_, hb0⟩; rw [← HR.out]; simp [*, chkI])
 | nil =>
  cases h1 : all32 (kidsF kid)
  ·by_cases hv : val = []
   ·subst hv
    go_wp2_with fail
    refine (sums_any _ _ _ _ hS).mono ?_
    rintro e w2 ⟨rfl, rfl⟩
    rw [h1]
    go_wp2_with fail
    all_goals (go_ret; refine ⟨?_, hb0⟩; rw [← HR.out]; simp [*, chkI])
   ·have hv1 : val.isEmpty = false := by simpa using hv
    clear hv
    go_wp2_with fail
    refine (sums_any _ _ _ _ hS).mono ?_
    rintro e w2 ⟨rfl, rfl⟩
    rw [h1]
    go_wp2_with fail
    all_goals (go_ret; refine ⟨?_, hb0⟩; rw [← HR.out]; simp [*, chkI])
 
  ·by_cases hv : val = []
   ·subst hv
    by_cases h2 : 2 ≤ (kidsF kid).length
    ·have h2' : decide ((2 : Int) ≤ ((kidsF kid).length : Int)) = true := by simp; omega
     go_wp2_with fail
     refine (sums_any _ _ _ _ hS).mono ?_
     rintro e w2 ⟨rfl, rfl⟩
     rw [h1]
     go_wp2_with fail
     all_goals (go_ret; refine ⟨?_, hb0⟩; rw [← HR.out]; simp [*, chkI])
    ·have h2' : decide ((2 : Int) ≤ ((kidsF kid).length : Int)) = false := by simp; omega
     go_wp2_with fail
     refine (sums_any _ _ _ _ hS).mono ?_
     rintro e w2 ⟨rfl, rfl⟩
     rw [h1]
     go_wp2_with fail
     all_goals (go_ret; refine ⟨?_, hb0⟩; rw [← HR.out]; simp [*, chkI])
   ·have hv1 : val.isEmpty = false := by simpa using hv
    clear hv
    by_cases h32 : val.length ≤ 32
    ·have h32' : decide ((val.length : Int) ≤ 32) = true := by simp; omega
     by_cases h2 : 2 ≤ (kidsF kid).length + 1
     ·have h2' : decide ((2 : Int) ≤ ((kidsF kid).length : Int) + 1) = true := by simp; omega
      go_wp2_with fail
      refine (sums_any _ _ _ _ hS).mono ?_
      rintro e w2 ⟨rfl, rfl⟩
      rw [h1]
      go_wp2_with fail
      all_goals (go_ret; refine ⟨?_, hb0⟩; rw [← HR.out]; simp [*, chkI])
     ·have h2' : decide ((2 : Int) ≤ ((kidsF kid).length : Int) + 1) = false := by simp; omega
      go_wp2_with fail
      refine (sums_any _ _ _ _ hS).mono ?_
      rintro e w2 ⟨rfl, rfl⟩
      rw [h1]
      go_wp2_with fail
      all_goals (go_ret; refine ⟨?_, hb0⟩; rw [← HR.out]; simp [*, chkI])
    ·have h32' : decide ((val.length : Int) ≤ 32) = false := by simp; omega
     by_cases h2 : 2 ≤ (kidsF kid).length + 1
     ·have h2' : decide ((2 : Int) ≤ ((kidsF kid).length : Int) + 1) = true := by simp; omega
      go_wp2_with fail
      refine (sums_any _ _ _ _ hS).mono ?_
      rintro e w2 ⟨rfl, rfl⟩
      rw [h1]
      go_wp2_with fail
      all_goals (go_ret; refine ⟨?_, hb0⟩; rw [← HR.out]; simp [*, chkI])
     ·have h2' : decide ((2 : Int) ≤ ((kidsF kid).length : Int) + 1) = false := by simp; omega
      go_wp2_with fail
      refine (sums_any _ _ _ _ hS).mono ?_
      rintro e w2 ⟨rfl, rfl⟩
      rw [h1]
      go_wp2_with fail
      all_goals (go_ret; refine ⟨?_, hb0⟩; rw [← HR.out]; simp [*, chkI])
theorem check_ext (path val : Bs) (kid : Nat → Bs) (hp : path.length ≤ 9223372036854775807) (w : World) :
  Calls Tryz.prog 111 #[.agg (nd 2 path val kid).toArray] w fun e w' => e = .returned (.int .i64 (chkI (chk 2 path val kid))) ∧ Below w.heap.size w w' := by
 generalize hr : chkI (chk 2 path val kid) = r
 unfold chk at hr
 rw [if_neg (by decide), if_pos rfl] at hr
 have HR := Lib.hid hr
 clear hr
 have hB0 := Blk.new w (nd 2 path val kid).toArray 76
 go_enter Tryz.func111, Tryz.ntmps111
 go_wp2_with (refine wpList_node rfl (.tmp 1) rfl rfl hB0 ?_)
 refine (kids_any _ path val kid _).mono ?_
 rintro e w1 ⟨va, vc, rfl, hS, hb⟩
 have hB : Blk w1 w.heap.size (nd 2 path val kid).toArray := hB0.keep hb
 have hb0 : Below w.heap.size w w1 := (Below.allocS (Below.refl _ _) _).trans (hb.mono (by simp))
 clear hb hB0
 obtain ⟨b1, b2, b3⟩ := id hB
 cases h1 : oneKidX kid (kid 0)
 ·go_wp2_with (refine wpList_kidsArr rfl (.tmp 34) rfl rfl hB ?_)
  all_goals (go_ret; refine ⟨?_, hb0⟩; rw [← HR.out]; simp [*, chkI])
 ·go_wp2_with (refine wpList_kidsArr rfl (.tmp 34) rfl rfl hB ?_)
  refine (sums_own w.heap.size 3 1 16 [kid 0] rfl (by decide) _ (fun i hi => by
   have : i = 0 := by omega
   subst this
   simpa using b1 3)).mono ?_
  rintro e w2 ⟨rfl, rfl⟩
  cases h2 : all32 [kid 0]
  ·go_wp2_with fail
   all_goals (go_ret; refine ⟨?_, hb0⟩; rw [← HR.out]; simp [*, chkI])
  ·go_wp2_with fail
   refine (npath_any path 1 hp _).mono ?_
   rintro e w2 ⟨rfl, rfl⟩
   cases h3 : pathOk path 1
   ·go_wp2_with fail
    all_goals (go_ret; refine ⟨?_, hb0⟩; rw [← HR.out]; simp [*, chkI])
   ·by_cases hv : val = []
    ·subst hv
     go_wp2_with fail
     all_goals (go_ret; refine ⟨?_, hb0⟩; rw [← HR.out]; simp [*, chkI])
    ·have hv1 : val.isEmpty = false := by simpa using hv
     clear hv
     go_wp2_with fail
     all_goals (go_ret; refine ⟨?_, hb0⟩; rw [← HR.out]; simp [*, chkI])
theorem check_else (kind : Int) (path val : Bs) (kid : Nat → Bs) (k1 : (kind == 1) = false) (k2 : (kind == 2) = false) (k3 : (kind == 3) = false) (w : World) :
  Calls Tryz.prog 111 #[.agg (nd kind path val kid).toArray] w fun e w' => e = .returned (.int .i64 (chkI (chk kind path val kid))) ∧ Below w.heap.size w w' := by
 generalize hr : chkI (chk kind path val kid) = r
 unfold chk at hr
 rw [if_neg (by simpa using k1), if_neg (by simpa using k2), if_neg (by simpa using k3)] at hr
 have HR := Lib.hid hr
 clear hr
 have hB0 := Blk.new w (nd kind path val kid).toArray 76
 go_enter Tryz.func111, Tryz.ntmps111
 go_wp2_with (refine wpList_node rfl (.tmp 1) rfl rfl hB0 ?_)
 refine (kids_any _ path val kid _).mono ?_
 rintro e w1 ⟨va, vc, rfl, hS, hb⟩
 have hB : Blk w1 w.heap.size (nd kind path val kid).toArray := hB0.keep hb
 have hb0 : Below w.heap.size w w1 := (Below.allocS (Below.refl _ _) _).trans (hb.mono (by simp))
 clear hb hB0
 obtain ⟨b1, b2, b3⟩ := id hB
 go_wp2_with fail
 all_goals (go_ret; refine ⟨?_, hb0⟩; rw [← HR.out]; simp [*, chkI])
theorem check_any (kind : Int) (path val : Bs) (kid : Nat → Bs) (hp : path.length ≤ 9223372036854775807) (w : World) :
  Calls Tryz.prog 111 #[.agg (nd kind path val kid).toArray] w fun e w' => e = .returned (.int .i64 (chkI (chk kind path val kid))) ∧ Below w.heap.size w w' := by
 by_cases k1 : kind = 1
 ·subst k1; exact check_leaf path val kid hp w
 ·by_cases k2 : kind = 2
  ·subst k2; exact check_ext path val kid hp w
  ·by_cases k3 : kind = 3
   ·subst k3; exact check_branch path val kid hp w
   ·exact check_else kind path val kid (by simpa using k1) (by simpa using k2) (by simpa using k3) w
end Go.Proofs.YtjppbomngnomhaaGreatDoor
