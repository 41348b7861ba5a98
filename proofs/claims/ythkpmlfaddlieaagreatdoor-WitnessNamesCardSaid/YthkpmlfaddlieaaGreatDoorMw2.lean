/- Strs, Node, Open, StrV, Nibble, NodeC, Num, Enc, Dec. -/
import Derived.Deep.MidRow
import Derived.ChangeKeysEq
import Derived.Test.YthkpmlfaddlieaaGreatDoorMw1
set_option linter.unnecessarySimpa false
set_option linter.unusedSimpArgs false
set_option linter.unusedVariables false
set_option maxRecDepth 100000
set_option maxHeartbeats 32000000
namespace Go.Proofs.YthkpmlfaddlieaaGreatDoor
open Go.RowKit
theorem infoStr : (Tryz.prog.info? 9).map (fun i => (i.zero, i.size, i.bytes)) = some (some (.string ⟨#[]⟩), 1, 16) := by kernel_rfl
def sv (l : List (List UInt8)) : List Value := l.map fun c => Value.string ⟨List.toArray c⟩
def SRow (w : World) (base : Nat) (v : Value) (l : List (List UInt8)) : Prop := w.ownsRow base 9 1 v l.length (sv l)
theorem sv_len (l : List (List UInt8)) : (sv l).length = l.length := by simp [sv]
theorem SRow.nil (w : World) (base : Nat) : SRow w base (.slice none 0 0) [] := ⟨rfl, .inl ⟨rfl, rfl⟩⟩
theorem SRow.cells {w : World} {base : Nat} {v : Value} {l : List (List UInt8)} (h : SRow w base v l) :
  (v = .slice none 0 0 ∧ l = []) ∨ ∃ g cap, v = .slice (some ⟨g, 0, none⟩) l.length cap ∧ base ≤ g ∧ g < w.heap.size ∧ l.length ≤ cap ∧ cap ≤ maxLen ∧ (∀ i, i < l.length → w.cell? ⟨g, i, none⟩ = some (.string ⟨List.toArray (l.getD i [])⟩)) ∧ ∀ o, w.frozen? ⟨g, o, none⟩ = false := by
 rcases h.2 with ⟨h1, h2⟩ | ⟨g, cap, cur, hv, hb, hg, hn, hm, hc, ht⟩
 ·exact .inl ⟨h1, List.length_eq_zero_iff.1 h2⟩
 ·refine .inr ⟨g, cap, hv, hb, ?_, hn, hm, fun i hi => ?_, fun o => ?_⟩
  ·rcases Nat.lt_or_ge g w.heap.size with hlt | hge
   ·exact hlt
   ·rw [Array.getElem?_eq_none hge] at hg; cases hg
  ·have h1 : cur[i]? = (cur.toList.take (l.length * 1))[i]? := by
    rw [List.getElem?_take, if_pos (by omega)]; simp
   have h2 : w.cell? ⟨g, i, none⟩ = cur[i]? := by simp [World.cell?, hg]
   rw [h2, h1, ht]
   simp [sv, List.getD, List.getElem?_eq_getElem hi]
  ·simp [World.frozen?, hg]
theorem SRow.form {w : World} {base : Nat} {v : Value} {l : List (List UInt8)} (h : SRow w base v l) : ∃ (a : Option Addr) (cap : Nat), v = .slice a l.length cap := by
 rcases h.cells with ⟨rfl, rfl⟩ | ⟨g, cap, rfl, _⟩
 ·exact ⟨none, 0, rfl⟩
 ·exact ⟨_, cap, rfl⟩
theorem SRow.own {w : World} {base : Nat} {v : Value} {l : List (List UInt8)} (h : SRow w base v l) : ∀ k, v.ownBlock = some k → base ≤ k := by
 intro k hk
 rcases h.cells with ⟨rfl, _⟩ | ⟨g, cap, rfl, hb, _⟩
 ·cases hk
 ·cases hk; exact hb
theorem SRow.kept {w w' : World} {base : Nat} {v : Value} {l : List (List UInt8)} (h : SRow w base v l) (hb : ∀ k, v.ownBlock = some k → w'.heap[k]? = w.heap[k]?) : SRow w' base v l := by
 refine ⟨h.1, h.2.imp id ?_⟩
 rintro ⟨g, cap, cur, hv, h1, h2, h3⟩
 subst hv
 exact ⟨g, cap, cur, rfl, h1, (hb g rfl).trans h2, h3⟩
theorem SRow.alloc {w : World} {base : Nat} {v : Value} {l : List (List UInt8)} (h : SRow w base v l) (o : Obj) : SRow (w.alloc o) base v l := by
 refine h.kept (fun k hk => Below.heap_alloc _ _ _ ?_)
 rcases h.cells with ⟨rfl, rfl⟩ | ⟨g, cap, rfl, _, hlt, _⟩
 ·cases hk
 ·cases hk; exact hlt
theorem SRow.drew {w : World} {base : Nat} {v : Value} {l : List (List UInt8)} (h : SRow w base v l) : SRow w.drew base v l := h
def SSrc (w : World) (g o : Nat) (l : List (List UInt8)) : Prop := ∀ i, i < l.length → w.cell? ⟨g, o + i, none⟩ = some (.string ⟨List.toArray (l.getD i [])⟩)
theorem ssrc1 (w : World) (x : List UInt8) (t : TypeId) : SSrc (w.alloc (.cells #[.string ⟨List.toArray x⟩] t)) w.heap.size 0 [x] := by
 intro i hi
 have : i = 0 := by simp at hi; omega
 subst this
 simp
theorem SSrc.drew {w : World} {g o : Nat} {l : List (List UInt8)} (h : SSrc w g o l) : SSrc w.drew g o l := h
theorem ssrc_news {w : World} {g o : Nat} {l : List (List UInt8)} (h : SSrc w g o l) : ∀ j u, (sv l)[j]? = some u → w.cell? ((⟨g, o, none⟩ : Addr).add j) = some u := by
 intro j u hj
 have hjl : j < l.length := by
  rcases Nat.lt_or_ge j l.length with hlt | hge
  ·exact hlt
  ·rw [List.getElem?_eq_none (by rw [sv_len]; exact hge)] at hj; cases hj
 have hadd : (⟨g, o, none⟩ : Addr).add j = ⟨g, o + j, none⟩ := by unfold Addr.add; split <;> simp_all
 rw [hadd, h j hjl]
 simp [sv, List.getElem?_eq_getElem hjl] at hj
 simp [List.getD, List.getElem?_eq_getElem hjl, hj]
theorem sone (l : List (List UInt8)) : ∀ u ∈ sv l, u.oneCell' = true := by
 intro u hu
 simp [sv] at hu
 obtain ⟨c, _, rfl⟩ := hu
 rfl
section
variable {ops : Array Oper} {o : Oper} {a : Act} {w : World} {Q : Exit → Act → World → Prop}
theorem wp_appS {K : Act → World → Prop} (s x : Operand)
  (ho : o.op = .call { callee := .builtin .append, args := #[s, x], argTypes := #[24, 24] })
  (base : Nat) (v : Value) (l : List (List UInt8)) (hs : a.eval s = v) (hown : SRow w base v l)
  (g off m c : Nat) (news : List (List UInt8)) (hx : a.eval x = .slice (some ⟨g, off, none⟩) m c) (hm : news.length = m) (hsrc : SSrc w g off news)
  (hlen : l.length + m ≤ 8796093022208) (hbase : base ≤ w.heap.size)
  (h : ∀ v' w', SRow w' base v' (l ++ news) → Below base w w' → K (a.put o.dst v') w') : o.wp Tryz.prog a w K Q := by
 obtain ⟨i0, hi, hz0, hz1, hz2⟩ := info_parts infoStr
 refine wp_append_own w s x 24 ho base 9 i0 (.string ⟨#[]⟩) 1 16 Tryz.underlying24 hi hz0 hz1 hz2 rfl (by decide) v l.length (sv l) hs hown ⟨g, off, none⟩ m c (sv news) hx (by rw [sv_len, hm]; omega) (ssrc_news hsrc) (sone news)
  (by unfold maxLen; omega) (by omega) hbase (fun v' w' h2 h3 _ => h v' w' ?_ (grown_below h3 hbase hown.own))
 unfold SRow
 rw [List.length_append, hm, show sv (l ++ news) = sv l ++ sv news from by simp [sv]]
 exact h2
theorem wpList_appS {rest : List Oper} (hgd : o.guard = none) (s x : Operand)
  (ho : o.op = .call { callee := .builtin .append, args := #[s, x], argTypes := #[24, 24] })
  (base : Nat) (v : Value) (l : List (List UInt8)) (hs : a.eval s = v) (hown : SRow w base v l)
  (g off m c : Nat) (news : List (List UInt8)) (hx : a.eval x = .slice (some ⟨g, off, none⟩) m c) (hm : news.length = m) (hsrc : SSrc w g off news)
  (hlen : l.length + m ≤ 8796093022208) (hbase : base ≤ w.heap.size)
  (h : ∀ v' w', SRow w' base v' (l ++ news) → Below base w w' → wpList Tryz.prog ops Q rest (a.put o.dst v') w') : wpList Tryz.prog ops Q (o :: rest) a w :=
 wpList_plain hgd fun _ hK => wp_appS s x ho base v l hs hown g off m c news hx hm hsrc hlen hbase fun v' w' h2 h3 => hK _ _ (h v' w' h2 h3)
theorem step_appS {K : Act → World → Prop} {E : Prop} (hgd : o.guard = none) (s x : Operand)
  (ho : o.op = .call { callee := .builtin .append, args := #[s, x], argTypes := #[24, 24] })
  (base : Nat) (v : Value) (l : List (List UInt8)) (hs : a.eval s = v) (hown : SRow w base v l)
  (g off m c : Nat) (news : List (List UInt8)) (hx : a.eval x = .slice (some ⟨g, off, none⟩) m c) (hm : news.length = m) (hsrc : SSrc w g off news)
  (hlen : l.length + m ≤ 8796093022208) (hbase : base ≤ w.heap.size)
  (h : ∀ v' w', SRow w' base v' (l ++ news) → Below base w w' → K (a.put o.dst v') w') :
  if Region.wanted o (yielded ops a.tmps) = true then Oper.wp Tryz.prog o a w K Q else E := by
 have hw : Region.wanted o (yielded ops a.tmps) = true := by simp [Region.wanted, hgd]
 rw [if_pos hw]
 exact wp_appS s x ho base v l hs hown g off m c news hx hm hsrc hlen hbase h
end
end Go.Proofs.YthkpmlfaddlieaaGreatDoor
namespace Go.Proofs.YthkpmlfaddlieaaGreatDoor
open Go.RowKit Pl
def ka (kid : Nat → Bs) : List Value := (kidL kid).map fun s => .string ⟨List.toArray s⟩
def nd (kind : Int) (path val : Bs) (kid : Nat → Bs) : List Value := .int .i64 kind :: .string ⟨List.toArray path⟩ :: .string ⟨List.toArray val⟩ :: ka kid
theorem ka_len (kid : Nat → Bs) : (ka kid).length = 16 := by simp [ka, kidL]
theorem nd_len (kind : Int) (path val : Bs) (kid : Nat → Bs) : (nd kind path val kid).length = 19 := by simp [nd, ka_len]
theorem ka_at (kid : Nat → Bs) (k : Nat) (hk : k < 16) : (ka kid)[k]? = some (.string ⟨List.toArray (kid k)⟩) := by
 simp [ka, kidL, hk]
theorem nd_at (kind : Int) (path val : Bs) (kid : Nat → Bs) (k : Nat) (hk : k < 16) : (nd kind path val kid)[3 + k]? = some (.string ⟨List.toArray (kid k)⟩) := by
 have : (nd kind path val kid)[3 + k]? = (ka kid)[k]? := by
  rw [Nat.add_comm]; rfl
 rw [this, ka_at kid k hk]
@[go_sem, simp] theorem nd0 (kind : Int) (path val : Bs) (kid : Nat → Bs) : (nd kind path val kid).toArray[0]? = some (.int .i64 kind) := rfl
@[go_sem, simp] theorem nd1 (kind : Int) (path val : Bs) (kid : Nat → Bs) : (nd kind path val kid).toArray[1]? = some (.string ⟨List.toArray path⟩) := rfl
@[go_sem, simp] theorem nd2 (kind : Int) (path val : Bs) (kid : Nat → Bs) : (nd kind path val kid).toArray[2]? = some (.string ⟨List.toArray val⟩) := rfl
@[go_sem, simp] theorem nd3 (kind : Int) (path val : Bs) (kid : Nat → Bs) : (nd kind path val kid).toArray[3]? = some (.string ⟨List.toArray (kid 0)⟩) := rfl
@[go_sem, simp] theorem nd0g (kind : Int) (path val : Bs) (kid : Nat → Bs) (h : 0 < (nd kind path val kid).length) : (nd kind path val kid)[0]'h = .int .i64 kind := rfl
@[go_sem, simp] theorem nd1g (kind : Int) (path val : Bs) (kid : Nat → Bs) (h : 1 < (nd kind path val kid).length) : (nd kind path val kid)[1]'h = .string ⟨List.toArray path⟩ := rfl
@[go_sem, simp] theorem nd2g (kind : Int) (path val : Bs) (kid : Nat → Bs) (h : 2 < (nd kind path val kid).length) : (nd kind path val kid)[2]'h = .string ⟨List.toArray val⟩ := rfl
@[go_sem, simp] theorem nd3g (kind : Int) (path val : Bs) (kid : Nat → Bs) (h : 3 < (nd kind path val kid).length) : (nd kind path val kid)[3]'h = .string ⟨List.toArray (kid 0)⟩ := rfl
@[go_sem, simp] theorem ka_size (kid : Nat → Bs) : (ka kid).toArray.size = 16 := by simp [ka_len]
@[go_sem, simp] theorem nd_size (kind : Int) (path val : Bs) (kid : Nat → Bs) : (nd kind path val kid).toArray.size = 19 := by simp [nd_len]
@[go_sem, simp] theorem ka_size' (kid : Nat → Bs) : (ka kid).length = 16 := ka_len kid
@[go_sem, simp] theorem nd_size' (kind : Int) (path val : Bs) (kid : Nat → Bs) : (nd kind path val kid).length = 19 := nd_len kind path val kid
theorem nd_range {w : World} {b : Nat} {kind : Int} {path val : Bs} {kid : Nat → Bs} (h : Blk w b (nd kind path val kid).toArray) : w.rangeAt b 0 (nd kind path val kid) := by
 intro j v hv
 rw [Nat.zero_add, h.cell j]
 simpa using hv
theorem blk_kid {w : World} {b : Nat} {kind : Int} {path val : Bs} {kid : Nat → Bs} (h : Blk w b (nd kind path val kid).toArray) (k : Nat) (hk : k < 16) : w.cell? ⟨b, 3 + k, none⟩ = some (.string ⟨List.toArray (kid k)⟩) := by
 rw [h.cell]
 simpa using nd_at kind path val kid k hk
theorem nd_info : (Tryz.prog.info? 173).map (·.size) = some 19 := by kernel_rfl
section
variable {ops : Array Oper} {rest : List Oper} {op : Oper} {a : Act} {w : World} {Q : Exit → Act → World → Prop}
theorem wpList_node (hgd : op.guard = none) (x : Operand) (ho : op.op = .load 173 x) {b : Nat} (hx : a.eval x = .pointer (some ⟨b, 0, none⟩)) {kind : Int} {path val : Bs} {kid : Nat → Bs} (hB : Blk w b (nd kind path val kid).toArray)
  (h : wpList Tryz.prog ops Q rest (a.put op.dst (.agg (nd kind path val kid).toArray)) w) : wpList Tryz.prog ops Q (op :: rest) a w :=
 wpList_load_mid hgd 173 x ho b 0 hx (nd kind path val kid) _ (nd_range hB) Tryz.underlying173 rfl (by rw [nd_len]; exact nd_info) h
end
end Go.Proofs.YthkpmlfaddlieaaGreatDoor
namespace Go.Proofs.YthkpmlfaddlieaaGreatDoor
open Go.ChangeShapes Go.WideShapes Go.ChangeAt Go.RowKit
inductive Sh where
 | int (k : IntKind)
 | str
 | bool
 | slice (c : Nat) (e : Sh)
 | unit
 | pair (a b : Sh)
def Sh.cells : Sh → Nat
 | .unit => 0
 | .pair a b => a.cells + b.cells
 | _ => 1
def Sh.Ok (w : World) : Sh → List Value → Prop
 | .int k, cs => ∃ n, cs = [.int k n] ∧ (Lit.int k n).wf = true
 | .str, cs => ∃ s : ByteArray, cs = [.string s] ∧ s.size ≤ maxLen
 | .bool, cs => ∃ b, cs = [.bool b]
 | .slice c e, cs => cs = [.slice none 0 0] ∨ ∃ a len cap, cs = [.slice (some a) len cap] ∧ len ≤ cap ∧ cap ≤ maxLen ∧
   ∀ i, i < len → ∃ cs', w.cells? 0 (a.add (i * c)) c = some cs' ∧ e.Ok w cs'
 | .unit, cs => cs = []
 | .pair a b, cs => ∃ x y, cs = x ++ y ∧ a.Ok w x ∧ b.Ok w y
theorem slice_cells {w : World} {a : Addr} {c len : Nat} {e : Sh} (hc : 0 < c) (hlen : 0 < len)
  (h : ∀ i, i < len → ∃ cs', w.cells? 0 (a.add (i * c)) c = some cs' ∧ e.Ok w cs') :
  a.spot = none ∧ ∀ i, i < len → ∃ cs', e.Ok w cs' ∧ cs'.length = c ∧ ∀ j, j < c → w.cell? ⟨a.block, a.off + i * c + j, none⟩ = cs'[j]? := by
 obtain ⟨b, off, spot⟩ := a
 have hs : spot = none := by
  obtain ⟨cs', h1, _⟩ := h 0 hlen
  obtain ⟨_, hl, h2⟩ := World.cells?_some h1
  have h3 := h2 0 hc
  simp only [Nat.zero_mul, Addr.add, if_true] at h3
  cases spot with
  | none => rfl
  | some s =>
   exfalso
   unfold World.cell? at h3
   rw [List.getElem?_eq_getElem (by omega)] at h3
   split at h3 <;> simp at h3
 subst hs
 refine ⟨rfl, fun i hi => ?_⟩
 obtain ⟨cs', h1, ho⟩ := h i hi
 obtain ⟨_, hl, h2⟩ := World.cells?_some h1
 refine ⟨cs', ho, hl, fun j hj => ?_⟩
 have h3 := h2 j hj
 rw [← h3]
 congr 1
 unfold Addr.add
 by_cases hi0 : i * c = 0
 ·by_cases hj0 : j = 0
  ·simp [hi0, hj0]
  ·simp [hi0, hj0]
 ·by_cases hj0 : j = 0
  ·simp [hi0, hj0]
  ·simp [hi0, hj0]
def repSh (a : Sh) : Nat → Sh
 | 0 => .unit
 | n + 1 => .pair a (repSh a n)
def fieldsSh (P : Program) (f : TypeId → Option Sh) : List Field → Nat → Nat → Option Sh
 | [], off, total => if off = total then some .unit else none
 | x :: xs, off, total =>
  match f x.type with
  | some a => if x.offset = off ∧ a.cells = P.cellsOf x.type then (fieldsSh P f xs (off + a.cells) total).map (.pair a) else none
  | none => none
def shapeOf (P : Program) : Nat → TypeId → Option Sh
 | 0, _ => none
 | n + 1, t =>
  match P.underlying t with
  | some .bool => some .bool
  | some (.int k) => some (.int k)
  | some .string => some .str
  | some (.slice e) => match shapeOf P n e with
   | some s => if s.cells = P.cellsOf e then some (.slice (P.cellsOf e) s) else none
   | none => none
  | some (.struct fs) => fieldsSh P (shapeOf P n) fs.toList 0 (P.cellsOf t)
  | some (.array k e) => match shapeOf P n e with
   | some s => if s.cells = P.cellsOf e ∧ k * P.cellsOf e = P.cellsOf t then some (repSh s k) else none
   | none => none
  | _ => none
section
variable {H : Type} {enc : TypeId × Value → H} {P : Program} {w : World} {spare : Nat → Bool} {held : Bool}
theorem rep_ok {s : Sh} {c : Nat} (hc : s.cells = c) : ∀ (k : Nat) (cs : List Value), cs.length = k * c →
  (∀ i, i < k → s.Ok w ((cs.drop (i * c)).take c)) → (repSh s k).Ok w cs
 | 0, cs, hl, _ => by
  have : cs = [] := by simpa using hl
  exact this
 | k + 1, cs, hl, h => by
  refine ⟨cs.take c, cs.drop c, (List.take_append_drop c cs).symm, by simpa using h 0 (by omega), rep_ok hc k _ ?_ (fun i hi => ?_)⟩
  ·rw [List.length_drop, hl, Nat.succ_mul]; omega
  ·have := h (i + 1) (by omega)
   rw [List.drop_drop]
   rw [Nat.succ_mul] at this
   rwa [Nat.add_comm c (i * c)]
theorem fields_ok {f : TypeId → Option Sh} {n : Nat} (ih : ∀ t s, f t = some s → ∀ cs x, DataW.trod enc P w 0 spare held n t cs = some x → s.Ok w cs) {cs : List Value} :
  ∀ (fs : List Field) (off total : Nat) (s : Sh), fieldsSh P f fs off total = some s → cs.length = total →
   (∀ x ∈ fs, ∃ y, DataW.trod enc P w 0 spare held n x.type ((cs.drop x.offset).take (P.cellsOf x.type)) = some y) → s.Ok w (cs.drop off)
 | [], off, total, s, h, hl, _ => by
  simp only [fieldsSh] at h
  split at h
  ·cases h
   rename_i e
   show cs.drop off = []
   rw [e, ← hl]; simp
  ·cases h
 | x :: xs, off, total, s, h, hl, hx => by
  simp only [fieldsSh] at h
  split at h
  ·rename_i a ha
   split at h
   ·rename_i hc
    cases hr : fieldsSh P f xs (off + a.cells) total with
    | none => rw [hr] at h; cases h
    | some r =>
     rw [hr] at h
     cases h
     obtain ⟨y, hy⟩ := hx x (by simp)
     rw [hc.1] at hy
     have h1 := ih _ _ ha _ _ hy
     have h2 := fields_ok ih xs (off + a.cells) total r hr hl (fun z hz => hx z (by simp [hz]))
     refine ⟨(cs.drop off).take (P.cellsOf x.type), (cs.drop off).drop (P.cellsOf x.type), (List.take_append_drop _ _).symm, h1, ?_⟩
     rw [List.drop_drop, ← hc.2]
     exact h2
   ·cases h
  ·cases h
theorem shape_ok : ∀ (m : Nat) (t : TypeId) (s : Sh), shapeOf P m t = some s → ∀ (fuel : Nat) (cs : List Value) (x : DataW H × List MemPlace),
  DataW.trod enc P w 0 spare held fuel t cs = some x → s.Ok w cs
 | 0, _, _, h, _, _, _, _ => by cases h
 | m + 1, t, s, h, fuel, cs, x, hx => by
  unfold shapeOf at h
  split at h
  ·rename_i ht
   cases h
   obtain ⟨b, hb, _⟩ := DataW.trod_bool ht hx
   exact ⟨b, hb⟩
  ·rename_i k ht
   cases h
   obtain ⟨b, hb, _, hw⟩ := DataW.trod_int ht hx
   exact ⟨b, hb, hw⟩
  ·rename_i ht
   cases h
   obtain ⟨b, hb, _, hw⟩ := DataW.trod_string ht hx
   exact ⟨b, hb, hw⟩
  ·rename_i e ht
   split at h
   ·rename_i s' hs
    split at h
    ·cases h
     rcases DataW.trod_slice ht hx with ⟨h1, _⟩ | ⟨a, len, cap, elems, rest, n, _, hcs, _, _, hl, hm, hlen, hel, _⟩
     ·exact .inl h1
     ·refine .inr ⟨a, len, cap, hcs, hl, hm, fun i hi => ?_⟩
      have h2 := hel i hi
      rw [List.getElem?_eq_getElem (by omega)] at h2
      cases hc : w.cells? 0 (a.add (i * P.cellsOf e)) (P.cellsOf e) with
      | none => rw [hc] at h2; cases h2
      | some cs' =>
       rw [hc] at h2
       exact ⟨cs', rfl, shape_ok m e _ hs n cs' _ h2⟩
    ·cases h
   ·cases h
  ·rename_i fs ht
   obtain ⟨xs, n, _, _, hl, hlen, hf⟩ := DataW.trod_struct ht hx
   have := fields_ok (cs := cs) (n := n) (fun t s hs cs x hx => shape_ok m t s hs n cs x hx) fs.toList 0 (P.cellsOf t) s h hl (fun f hmem => by
    obtain ⟨i, hi, rfl⟩ := List.getElem_of_mem hmem
    have h3 := hf i fs.toList[i] (by simp)
    rw [List.getElem?_eq_getElem (by rw [hlen]; simpa using hi)] at h3
    exact ⟨_, h3⟩)
   simpa using this
  ·rename_i k e ht
   split at h
   ·rename_i s' hs
    split at h
    ·rename_i hc
     cases h
     obtain ⟨xs, n, _, _, hl, hlen, hf⟩ := DataW.trod_array ht hx
     refine rep_ok hc.1 k cs (hl.trans hc.2.symm) (fun i hi => ?_)
     have h3 := hf i hi
     rw [List.getElem?_eq_getElem (by omega)] at h3
     exact shape_ok m e _ hs n _ _ h3
    ·cases h
   ·cases h
  ·cases h
def Sh.Val (w : World) (s : Sh) (v : Value) : Prop :=
 match s with
 | .unit | .pair _ _ => ∃ cs : List Value, v = .agg cs.toArray ∧ s.Ok w cs
 | s => s.Ok w [v]
theorem fieldsSh_agg {f : TypeId → Option Sh} : ∀ {fs : List Field} {off total : Nat} {s : Sh}, fieldsSh P f fs off total = some s → s = .unit ∨ ∃ a b, s = .pair a b
 | [], off, total, s, h => by
  simp only [fieldsSh] at h
  split at h
  ·cases h; exact .inl rfl
  ·cases h
 | x :: xs, off, total, s, h => by
  simp only [fieldsSh] at h
  split at h
  ·split at h
   ·cases hr : fieldsSh P f xs (off + _) total with
    | none => rw [hr] at h; cases h
    | some r => rw [hr] at h; cases h; exact .inr ⟨_, _, rfl⟩
   ·cases h
  ·cases h
theorem shape_val {r : Reach} {b0 : Nat} {m : Nat} {t : TypeId} {s : Sh} (h : shapeOf P m t = some s) {v : Value} {d : DataW H} {ps : List MemPlace}
  (hval : Value.okWide P w r b0 t v) (hd : DataW.Trod enc P w 0 spare held t v d ps) : s.Val w v := by
 obtain ⟨fuel, hf⟩ := hd
 have hok := shape_ok m t s h fuel _ _ hf
 cases m with
 | zero => cases h
 | succ m =>
  unfold shapeOf at h
  split at h
  ·rename_i ht
   cases h
   obtain ⟨b, rfl⟩ := okWide_bool ht hval
   exact hok
  ·rename_i k ht
   cases h
   obtain ⟨b, rfl⟩ := okWide_int ht hval
   exact hok
  ·rename_i ht
   cases h
   obtain ⟨b, rfl⟩ := okWide_string ht hval
   exact hok
  ·rename_i e ht
   split at h
   ·split at h
    ·cases h
     obtain ⟨a, l, c, rfl⟩ := okWide_slice ht hval
     exact hok
    ·cases h
   ·cases h
  ·rename_i fs ht
   obtain ⟨cs, rfl, _⟩ := okWide_struct ht hval
   rcases fieldsSh_agg h with rfl | ⟨a, b, rfl⟩
   ·exact ⟨cs.toList, by simp, hok⟩
   ·exact ⟨cs.toList, by simp, hok⟩
  ·rename_i k e ht
   have hv : ∃ cs : Array Value, v = .agg cs := by
    simp only [Value.okWide, ht] at hval
    obtain ⟨cs, h1, _⟩ := hval
    exact ⟨cs, h1⟩
   obtain ⟨cs, rfl⟩ := hv
   split at h
   ·split at h
    ·cases h
     cases k with
     | zero => exact ⟨cs.toList, by simp, hok⟩
     | succ k => exact ⟨cs.toList, by simp, hok⟩
    ·cases h
   ·cases h
  ·cases h
end
end Go.Proofs.YthkpmlfaddlieaaGreatDoor
namespace Go.Proofs.YthkpmlfaddlieaaGreatDoor
open Go.ChangeShapes Go.WideShapes Go.ChangeAt Go.RowKit Pl
theorem str_list (s : ByteArray) : s = ⟨List.toArray s.data.toList⟩ := by
 apply ByteArray.ext
 simp
theorem str_beq (x y : List UInt8) : ((⟨List.toArray x⟩ : ByteArray) == ⟨List.toArray y⟩) = decide (x = y) := by
 rw [beq_toListBytes, ByteArray.toList_eq, ByteArray.toList_eq, Bool.eq_iff_iff]
 simp
end Go.Proofs.YthkpmlfaddlieaaGreatDoor
namespace Go.Proofs.YthkpmlfaddlieaaGreatDoor
open Go.RowKit Pl
theorem joined_at : ∀ (s : Bs) (i : Nat) (h : 2 * i + 1 < s.length), joined (s.take (2 * i + 2)) = joined (s.take (2 * i)) ++ [UInt8.ofNat ((s[2 * i]'(by omega)).toNat * 16 + (s[2 * i + 1]).toNat)]
 | a :: b :: r, 0, _ => by simp [joined]
 | a :: b :: r, i + 1, h => by
  have h' : 2 * i + 1 < r.length := by simp at h; omega
  have ih := joined_at r i h'
  have e1 : (a :: b :: r).take (2 * (i + 1) + 2) = a :: b :: r.take (2 * i + 2) := by
   rw [show 2 * (i + 1) + 2 = (2 * i + 2) + 1 + 1 from by omega]; simp
  have e2 : (a :: b :: r).take (2 * (i + 1)) = a :: b :: r.take (2 * i) := by
   rw [show 2 * (i + 1) = (2 * i) + 1 + 1 from by omega]; simp
  rw [e1, e2]
  simp only [joined, ih, List.cons_append]
  rfl
 | [], _, h => by simp at h
 | [_], i, h => by simp at h
theorem joined_all (s : Bs) : joined (s.take (2 * (s.length / 2))) = joined s := by
 by_cases h : s.length % 2 = 0
 ·rw [List.take_of_length_le (by omega)]
 ·have : ∀ (n : Nat) (s : Bs), s.length = 2 * n + 1 → joined (s.take (2 * n)) = joined s := by
   intro n
   induction n with
   | zero =>
    intro s hs
    match s, hs with
    | [a], _ => rfl
   | succ n ih =>
    intro s hs
    match s, hs with
    | a :: b :: r, hs =>
     have e2 : (a :: b :: r).take (2 * (n + 1)) = a :: b :: r.take (2 * n) := by
      rw [show 2 * (n + 1) = (2 * n) + 1 + 1 from by omega]; simp
     rw [e2]
     simp only [joined]
     rw [ih r (by simp at hs; omega)]
  rw [show 2 * (s.length / 2) = 2 * (s.length / 2) from rfl]
  exact this (s.length / 2) s (by omega)
theorem joined_len : ∀ (s : Bs), (joined s).length = s.length / 2
 | [] => rfl
 | [_] => by simp [joined]
 | a :: b :: r => by simp [joined, joined_len r]; omega
end Go.Proofs.YthkpmlfaddlieaaGreatDoor
namespace Go.Proofs.YthkpmlfaddlieaaGreatDoor
open Go.RowKit Pl
theorem all32_not (l : List Bs) (i : Nat) (hi : i < l.length) (h : (l.getD i []).length ≠ 32) : all32 l = false := by
 cases hf : all32 l with
 | false => rfl
 | true =>
  exfalso
  apply h
  have := List.all_eq_true.1 hf (l[i]) (List.getElem_mem hi)
  simpa [List.getD, List.getElem?_eq_getElem hi] using this
end Go.Proofs.YthkpmlfaddlieaaGreatDoor
namespace Go.Proofs.YthkpmlfaddlieaaGreatDoor
open Go.RowKit Pl
def numCells (k : Nat) (d : Bs) : Array Value := ((List.replicate k 0 ++ d).map fun c : UInt8 => Value.int .u8 (c.toNat : Int)).toArray
theorem numCells_get (k : Nat) (d : Bs) (hk : 0 < k) : (numCells k d)[k - 1]? = some (.int .u8 0) := by
 have : ((List.replicate k (0 : UInt8) ++ d).map fun c : UInt8 => Value.int .u8 (c.toNat : Int))[k - 1]? = some (.int .u8 0) := by
  rw [List.getElem?_map, List.getElem?_append_left (by simp; omega), List.getElem?_replicate, if_pos (by omega)]
  rfl
 simpa [numCells] using this
theorem numCells_set (k : Nat) (d : Bs) (hk : 0 < k) (c : UInt8) : (numCells k d).setIfInBounds (k - 1) (.int .u8 (c.toNat : Int)) = numCells (k - 1) (c :: d) := by
 obtain ⟨j, rfl⟩ : ∃ j, k = j + 1 := ⟨k - 1, by omega⟩
 unfold numCells
 apply Array.ext'
 simp only [Array.toList_setIfInBounds, Nat.add_sub_cancel]
 rw [List.replicate_succ', List.append_assoc, List.map_append, List.map_append]
 rw [List.set_append_right _ _ (by simp)]
 simp
theorem numCells_tail (k : Nat) (d : Bs) (i : Nat) (hi : i < d.length) : (numCells k d)[k + i]? = some (.int .u8 ((d.getD i 0).toNat : Int)) := by
 have : ((List.replicate k (0 : UInt8) ++ d).map fun c : UInt8 => Value.int .u8 (c.toNat : Int))[k + i]? = some (.int .u8 ((d.getD i 0).toNat : Int)) := by
  rw [List.getElem?_map, List.getElem?_append_right (by simp)]
  simp [List.getD, List.getElem?_eq_getElem hi]
 simpa [numCells] using this
theorem cnum_any (n : Nat) (hn : n < 9223372036854775808) (w : World) :
  Calls Tryz.prog 81 #[.int .i64 n] w fun e w' => e = .returned (.string ⟨List.toArray (num n)⟩) ∧ Below w.heap.size w w' := by
 go_enter Tryz.func81, Tryz.ntmps81
 go_wp2_with fail
 go_loopw [0, 4] (fun s0 s4 wr => ∃ (k m : Nat) (d : Bs), k ≤ 8 ∧ d.length + k = 8 ∧ m < 256 ^ k ∧ m < 9223372036854775808 ∧ Hid (digs 8 n = digs k m ++ d) ∧ s0 = .int .i64 m ∧ s4 = .int .i64 k ∧ Blk wr w.heap.size (numCells k d) ∧ Below w.heap.size w wr)
  (fun _ s4 _ => (intOf s4).toNat)
 case atStart =>
  exact ⟨8, n, [], by omega, rfl, by omega, hn, Lib.hid (by simp), rfl, rfl, Blk.new _ _ _, (Below.refl _ _).alloc (Nat.le_refl _) _⟩
 case round =>
  obtain ⟨k, m, d, hk, hd, hm, hm2, HD, rfl, rfl, B, hb⟩ := hrel
  obtain ⟨b1, b2, b3⟩ := id B
  by_cases h0 : 0 < m
  ·have hk0 : 0 < k := by
    rcases Nat.eq_zero_or_pos k with h | h
    ·subst h; omega
    ·exact h
   have hget := numCells_get k d hk0
   go_wp2_with fail
   obtain ⟨j, rfl⟩ : ∃ j, k = j + 1 := ⟨k - 1, by omega⟩
   refine ⟨⟨j, m / 256, UInt8.ofNat (m % 256) :: d, by omega, by simp at hd ⊢; omega, by rw [Nat.pow_succ] at hm; omega, by omega, ?_, by go_num, by simp, ?_, hb.setCell (Nat.le_refl _) _⟩, by simp [intOf] <;> omega⟩
   ·refine Lib.hid ?_
    rw [HD.out, digs_step _ _ h0, List.append_assoc]; rfl
   ·have hB := B.set j (.int .u8 ((UInt8.ofNat (m % 256)).toNat : Int))
    have hc := numCells_set (j + 1) d (by omega) (UInt8.ofNat (m % 256))
    simp only [Nat.add_sub_cancel] at hc
    rw [hc] at hB
    have hv : ((UInt8.ofNat (m % 256)).toNat : Int) = (m : Int) % 256 := by simp
    rw [hv] at hB
    exact hB
  ·have hm0 : m = 0 := by omega
   subst hm0
   have hfin : num n = UInt8.ofNat d.length :: d := by
    unfold num
    rw [HD.out, digs_zero, List.nil_append]
   have HF := Lib.hid hfin
   clear hfin
   have hconv : ∀ W : World, (∀ o, W.cell? ⟨w.heap.size, o, none⟩ = (numCells k d)[o]?) → (convert 130 9 (.slice (some ⟨w.heap.size, k, none⟩) (8 - k) (8 - k))).run Tryz.prog W = .ok (.string ⟨List.toArray d⟩) W := fun W hW =>
    conv_str _ 5 _ Tryz.underlying130 Tryz.underlying5 Tryz.underlying9 _ _ _ _ d (by omega) (fun i hi => by rw [hW]; exact numCells_tail k d i (by omega))
   have hk8 : (k : Int) ≤ 8 := by omega
   have hcat : ¬ 9223372036854775807 < 1 + d.length := by omega
   have hu8 : UInt8.ofNat (8 - k) = UInt8.ofNat d.length := by congr 1; omega
   by_cases h8 : k = 8
   ·subst h8
    have hd0 : d = [] := List.length_eq_zero_iff.1 (by omega)
    subst hd0
    clear hconv
    go_wp2_with fail
    go_region
    all_goals go_wp2_with fail
    all_goals go_ret
    all_goals exact ⟨by rw [HF.out]; rfl, by (repeat (first | exact Below.refl _ _ | assumption | apply Below.drew | apply below_drewN | apply Below.allocS | (refine Below.setCell ?_ (by simp <;> omega) _) | (refine Below.alloc ?_ (by simp <;> omega) _) | (refine Below.trans ?_ (Below.mono (by assumption) (by simp <;> omega)))))⟩
   ·have h8n : ¬ 8 = k := by omega
    go_wp2_with fail
    go_region
    all_goals go_wp2_with fail
    all_goals go_ret
    all_goals exact ⟨by rw [HF.out]; rfl, by (repeat (first | exact Below.refl _ _ | assumption | apply Below.drew | apply below_drewN | apply Below.allocS | (refine Below.setCell ?_ (by simp <;> omega) _) | (refine Below.alloc ?_ (by simp <;> omega) _) | (refine Below.trans ?_ (Below.mono (by assumption) (by simp <;> omega)))))⟩
theorem num_len (n : Nat) : (num n).length ≤ 9 := by
 have : ∀ f m, (digs f m).length ≤ f := by
  intro f
  induction f with
  | zero => intro m; simp [digs]
  | succ f ih =>
   intro m
   unfold digs
   split
   ·simp
   ·have := ih (m / 256); simp; omega
 have := this 8 n
 simp [num]; omega
theorem ctext_any (s : Bs) (hs : s.length < 9223372036854775000) (w : World) :
  Calls Tryz.prog 46 #[.string ⟨List.toArray s⟩] w fun e w' => e = .returned (.string ⟨List.toArray (text s)⟩) ∧ Below w.heap.size w w' := by
 have hl := num_len s.length
 have hcat : ¬ 9223372036854775807 < (num s.length).length + s.length := by omega
 go_enter Tryz.func46, Tryz.ntmps46
 go_wp2_with fail
 refine (cnum_any s.length (by omega) _).mono ?_
 rintro e w1 ⟨rfl, hb⟩
 go_wp2_with fail
 go_ret
 exact ⟨rfl, hb⟩
theorem cNum_any (n : Nat) (hn : n < 9223372036854775808) (w : World) :
  Calls Tryz.prog 44 #[.int .i64 n] w fun e w' => e = .returned (.tuple #[.string ⟨List.toArray (num n)⟩, .int .i64 0]) ∧ Below w.heap.size w w' := by
 go_enter Tryz.func44, Tryz.ntmps44
 go_wp2_with fail
 refine (cnum_any n hn _).mono ?_
 rintro e w1 ⟨rfl, hb⟩
 go_wp2_with fail
 go_ret2
 exact ⟨rfl, hb⟩
end Go.Proofs.YthkpmlfaddlieaaGreatDoor
namespace Go.Proofs.YthkpmlfaddlieaaGreatDoor
open Go.RowKit Pl
theorem flat_len (l : List Bs) (h : all32 l = true) : l.flatten.length = 32 * l.length := by
 induction l with
 | nil => rfl
 | cons a r ih =>
  simp [all32] at h ih ⊢
  rw [ih h.2, h.1]; omega
end Go.Proofs.YthkpmlfaddlieaaGreatDoor
namespace Go.Proofs.YthkpmlfaddlieaaGreatDoor
open Go.RowKit Pl
theorem ka_upd (kid : Nat → Bs) (k : Nat) (hk : k < 16) (x : Bs) : (ka kid).set k (.string ⟨List.toArray x⟩) = ka (upd kid k x) := by
 unfold ka kidL
 apply List.ext_getElem (by simp)
 intro i h1 h2
 simp [List.getElem_set, upd]
 by_cases h : k = i
 ·subst h; simp
 ·rw [if_neg h, if_neg (fun e => h e.symm)]
theorem nd_setk (kind : Int) (path val : Bs) (kid : Nat → Bs) (k : Nat) (hk : k < 16) (x : Bs) : (nd kind path val kid).toArray.setIfInBounds (3 + k) (.string ⟨List.toArray x⟩) = (nd kind path val (upd kid k x)).toArray := by
 apply Array.ext'
 rw [Array.toList_setIfInBounds]
 show List.set _ _ _ = _
 rw [Nat.add_comm]
 simp only [nd, List.set_cons_succ, ka_upd kid k hk x]
theorem nd_set2 (kind : Int) (path val : Bs) (kid : Nat → Bs) (x : Bs) : (nd kind path val kid).toArray.setIfInBounds 2 (.string ⟨List.toArray x⟩) = (nd kind path x kid).toArray := rfl
end Go.Proofs.YthkpmlfaddlieaaGreatDoor
