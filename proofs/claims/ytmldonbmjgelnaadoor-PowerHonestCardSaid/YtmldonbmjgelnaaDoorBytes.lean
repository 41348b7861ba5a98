/- Slices of bytes that a call itself made: make, append, string(..). -/
import Derived.Test.YtmldonbmjgelnaaDoorRows
import Derived.Test.YtmldonbmjgelnaaDoorKit
import Derived.Deep.AppendLies
import Derived.Deep.RegionLaw
import Derived.Laws.BytesArg
set_option linter.unusedSimpArgs false
set_option linter.unusedVariables false
namespace Go.Proofs.YtmldonbmjgelnaaDoor
open Go.RowKit

theorem infoU8 : (Tryd.prog.info? 5).map (fun i => (i.zero, i.size, i.bytes)) = some (some (.int .u8 0), 1, 1) := by kernel_rfl

def bv (l : List UInt8) : List Value := l.map fun c => Value.int .u8 (c.toNat : Int)
/-- v is nil, or a slice of a block from base on, with these bytes. -/
def BRow (w : World) (base : Nat) (v : Value) (l : List UInt8) : Prop := w.ownsRow base 5 1 v l.length (bv l)

theorem bv_len (l : List UInt8) : (bv l).length = l.length := by simp [bv]
theorem BRow.nil (w : World) (base : Nat) : BRow w base (.slice none 0 0) [] := ⟨rfl, .inl ⟨rfl, rfl⟩⟩
theorem BRow.cells {w : World} {base : Nat} {v : Value} {l : List UInt8} (h : BRow w base v l) :
    (v = .slice none 0 0 ∧ l = []) ∨ ∃ g cap, v = .slice (some ⟨g, 0, none⟩) l.length cap ∧ base ≤ g ∧ g < w.heap.size ∧ l.length ≤ cap ∧ cap ≤ maxLen ∧ (∀ i, i < l.length → w.cell? ⟨g, i, none⟩ = some (.int .u8 ((l.getD i 0).toNat : Int))) ∧ ∀ o, w.frozen? ⟨g, o, none⟩ = false := by
  rcases h.2 with ⟨h1, h2⟩ | ⟨g, cap, cur, hv, hb, hg, hn, hm, hc, ht⟩
  · exact .inl ⟨h1, List.length_eq_zero_iff.1 h2⟩
  · refine .inr ⟨g, cap, hv, hb, ?_, hn, hm, fun i hi => ?_, fun o => ?_⟩
    · rcases Nat.lt_or_ge g w.heap.size with hlt | hge
      · exact hlt
      · rw [Array.getElem?_eq_none hge] at hg; cases hg
    · have h1 : cur[i]? = (cur.toList.take (l.length * 1))[i]? := by
        rw [List.getElem?_take, if_pos (by omega)]; simp
      have h2 : w.cell? ⟨g, i, none⟩ = cur[i]? := by simp [World.cell?, hg]
      rw [h2, h1, ht]
      simp [bv, List.getD, List.getElem?_eq_getElem hi]
    · simp [World.frozen?, hg]

theorem grown_below {w w' : World} {base : Nat} {row : Option Nat} (hg : w.grownBy w' row) (hb : base ≤ w.heap.size) (hr : ∀ k, row = some k → base ≤ k) : Below base w w' :=
  (Below.refl base w).grown hg hb hr
theorem BRow.own {w : World} {base : Nat} {v : Value} {l : List UInt8} (h : BRow w base v l) : ∀ k, v.ownBlock = some k → base ≤ k := by
  intro k hk
  rcases h.cells with ⟨rfl, _⟩ | ⟨g, cap, rfl, hb, _⟩
  · cases hk
  · cases hk; exact hb

theorem BRow.make (w : World) (base c : Nat) (hc : c ≤ 281474976710656) (hbase : base ≤ w.heap.size) :
    ∃ w', (Instr.makeSlice 71 (.int .i64 0) (.int .i64 (c : Int))).run Tryd.prog w = .ok (.slice (some ⟨w.heap.size, 0, none⟩) 0 c) w' ∧
      BRow w' base (.slice (some ⟨w.heap.size, 0, none⟩) 0 c) [] ∧ Below base w w' := by
  obtain ⟨i0, hi, hz0, hz1, hz2⟩ := info_parts infoU8
  obtain ⟨w', h1, h2, h3⟩ := run_make_own (P := Tryd.prog) w base 71 5 i0 (.int .u8 0) 1 Tryd.underlying71 hi hz0 hz1 .i64 .i64 c (by rw [hz2]; omega) (by unfold maxLen; omega) hbase
  exact ⟨w', h1, h2, grown_below h3 hbase (fun k hk => by cases hk)⟩

theorem BRow.conv {w : World} {base : Nat} {v : Value} {l : List UInt8} (h : BRow w base v l) : (convert 71 9 v).run Tryd.prog w = .ok (.string ⟨List.toArray (l)⟩) w := by
  rcases h.cells with ⟨rfl, rfl⟩ | ⟨g, cap, rfl, hb, hlt, hn, hm, hc, hf⟩
  · exact run_convert_bytes_nil w 71 5 Tryd.underlying71 Tryd.underlying5 0 0 9 Tryd.underlying9
  · exact conv_str 71 5 9 Tryd.underlying71 Tryd.underlying5 Tryd.underlying9 g 0 l.length cap l rfl (fun i hi => by simpa using hc i hi)

theorem BRow.kept {w w' : World} {base : Nat} {v : Value} {l : List UInt8} (h : BRow w base v l) (hb : ∀ k, v.ownBlock = some k → w'.heap[k]? = w.heap[k]?) : BRow w' base v l := by
  refine ⟨h.1, h.2.imp id ?_⟩
  rintro ⟨g, cap, cur, hv, h1, h2, h3⟩
  subst hv
  exact ⟨g, cap, cur, rfl, h1, (hb g rfl).trans h2, h3⟩
theorem BRow.alloc {w : World} {base : Nat} {v : Value} {l : List UInt8} (h : BRow w base v l) (o : Obj) : BRow (w.alloc o) base v l := by
  refine h.kept (fun k hk => Below.heap_alloc _ _ _ ?_)
  rcases h.cells with ⟨rfl, rfl⟩ | ⟨g, cap, rfl, _, hlt, _⟩
  · cases hk
  · cases hk; exact hlt
theorem BRow.drew {w : World} {base : Nat} {v : Value} {l : List UInt8} (h : BRow w base v l) : BRow w.drew base v l := h

/-- The cells of a slice of bytes that is appended. -/
def BSrc (w : World) (g o : Nat) (l : List UInt8) : Prop := ∀ i, i < l.length → w.cell? ⟨g, o + i, none⟩ = some (.int .u8 ((l.getD i 0).toNat : Int))

theorem bsrc1 (w : World) (x : UInt8) (a : Int) (t : TypeId) (ha : a = (x.toNat : Int)) : BSrc (w.alloc (.cells #[.int .u8 a] t)) w.heap.size 0 [x] := by
  intro i hi
  have : i = 0 := by simp at hi; omega
  subst this; subst ha
  simp
theorem bsrc2 (w : World) (x y : UInt8) (a b : Int) (t : TypeId) (ha : a = (x.toNat : Int)) (hb : b = (y.toNat : Int)) : BSrc (w.alloc (.cells #[.int .u8 a, .int .u8 b] t)) w.heap.size 0 [x, y] := by
  intro i hi
  subst ha; subst hb
  match i, hi with
  | 0, _ => simp
  | 1, _ => simp
theorem BSrc.drew {w : World} {g o : Nat} {l : List UInt8} (h : BSrc w g o l) : BSrc w.drew g o l := h
theorem bsrc_news {w : World} {g o : Nat} {l : List UInt8} (h : BSrc w g o l) : ∀ j u, (bv l)[j]? = some u → w.cell? ((⟨g, o, none⟩ : Addr).add j) = some u := by
  intro j u hj
  have hjl : j < l.length := by
    rcases Nat.lt_or_ge j l.length with hlt | hge
    · exact hlt
    · rw [List.getElem?_eq_none (by rw [bv_len]; exact hge)] at hj; cases hj
  have hadd : (⟨g, o, none⟩ : Addr).add j = ⟨g, o + j, none⟩ := by unfold Addr.add; split <;> simp_all
  rw [hadd, h j hjl]
  simp [bv, List.getElem?_eq_getElem hjl] at hj
  simp [List.getD, List.getElem?_eq_getElem hjl, hj]

theorem bone (l : List UInt8) : ∀ u ∈ bv l, u.oneCell' = true := by
  intro u hu
  simp [bv] at hu
  obtain ⟨c, _, rfl⟩ := hu
  rfl

section
variable {ops : Array Oper} {o : Oper} {a : Act} {w : World} {Q : Exit → Act → World → Prop}

theorem wp_appB {K : Act → World → Prop} (s x : Operand)
    (ho : o.op = .call { callee := .builtin .append, args := #[s, x], argTypes := #[71, 71] })
    (base : Nat) (v : Value) (l : List UInt8) (hs : a.eval s = v) (hown : BRow w base v l)
    (g off m c : Nat) (news : List UInt8) (hx : a.eval x = .slice (some ⟨g, off, none⟩) m c) (hm : news.length = m) (hsrc : BSrc w g off news)
    (hlen : l.length + m ≤ 140737488355328) (hbase : base ≤ w.heap.size)
    (h : ∀ v' w', BRow w' base v' (l ++ news) → Below base w w' → K (a.put o.dst v') w') : o.wp Tryd.prog a w K Q := by
  obtain ⟨i0, hi, hz0, hz1, hz2⟩ := info_parts infoU8
  refine wp_append_own w s x 71 ho base 5 i0 (.int .u8 0) 1 1 Tryd.underlying71 hi hz0 hz1 hz2 rfl (by decide) v l.length (bv l) hs hown ⟨g, off, none⟩ m c (bv news) hx (by rw [bv_len, hm]; omega) (bsrc_news hsrc) (bone news)
    (by unfold maxLen; omega) (by omega) hbase (fun v' w' h2 h3 _ => h v' w' ?_ (grown_below h3 hbase hown.own))
  unfold BRow
  rw [List.length_append, hm, show bv (l ++ news) = bv l ++ bv news from by simp [bv]]
  exact h2

theorem wpList_appB {rest : List Oper} (hgd : o.guard = none) (s x : Operand)
    (ho : o.op = .call { callee := .builtin .append, args := #[s, x], argTypes := #[71, 71] })
    (base : Nat) (v : Value) (l : List UInt8) (hs : a.eval s = v) (hown : BRow w base v l)
    (g off m c : Nat) (news : List UInt8) (hx : a.eval x = .slice (some ⟨g, off, none⟩) m c) (hm : news.length = m) (hsrc : BSrc w g off news)
    (hlen : l.length + m ≤ 140737488355328) (hbase : base ≤ w.heap.size)
    (h : ∀ v' w', BRow w' base v' (l ++ news) → Below base w w' → wpList Tryd.prog ops Q rest (a.put o.dst v') w') : wpList Tryd.prog ops Q (o :: rest) a w :=
  wpList_plain hgd fun _ hK => wp_appB s x ho base v l hs hown g off m c news hx hm hsrc hlen hbase fun v' w' h2 h3 => hK _ _ (h v' w' h2 h3)

theorem step_appB {K : Act → World → Prop} {E : Prop} (hgd : o.guard = none) (s x : Operand)
    (ho : o.op = .call { callee := .builtin .append, args := #[s, x], argTypes := #[71, 71] })
    (base : Nat) (v : Value) (l : List UInt8) (hs : a.eval s = v) (hown : BRow w base v l)
    (g off m c : Nat) (news : List UInt8) (hx : a.eval x = .slice (some ⟨g, off, none⟩) m c) (hm : news.length = m) (hsrc : BSrc w g off news)
    (hlen : l.length + m ≤ 140737488355328) (hbase : base ≤ w.heap.size)
    (h : ∀ v' w', BRow w' base v' (l ++ news) → Below base w w' → K (a.put o.dst v') w') :
    if Region.wanted o (yielded ops a.tmps) = true then Oper.wp Tryd.prog o a w K Q else E := by
  have hw : Region.wanted o (yielded ops a.tmps) = true := by simp [Region.wanted, hgd]
  rw [if_pos hw]
  exact wp_appB s x ho base v l hs hown g off m c news hx hm hsrc hlen hbase h
end
end Go.Proofs.YtmldonbmjgelnaaDoor
