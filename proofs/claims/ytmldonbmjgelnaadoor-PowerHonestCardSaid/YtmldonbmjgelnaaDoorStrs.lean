/- Slices of texts that a call itself made: append. -/
import Derived.Test.YtmldonbmjgelnaaDoorRows
import Derived.Test.YtmldonbmjgelnaaDoorBytes
set_option linter.unusedSimpArgs false
set_option linter.unusedVariables false
namespace Go.Proofs.YtmldonbmjgelnaaDoor
open Go.RowKit

theorem infoStr : (Tryd.prog.info? 9).map (fun i => (i.zero, i.size, i.bytes)) = some (some (.string ⟨#[]⟩), 1, 16) := by kernel_rfl

def sv (l : List (List UInt8)) : List Value := l.map fun c => Value.string ⟨List.toArray c⟩
/-- v is nil, or a slice of a block from base on, with these bytes. -/
def SRow (w : World) (base : Nat) (v : Value) (l : List (List UInt8)) : Prop := w.ownsRow base 9 1 v l.length (sv l)

theorem sv_len (l : List (List UInt8)) : (sv l).length = l.length := by simp [sv]
theorem SRow.nil (w : World) (base : Nat) : SRow w base (.slice none 0 0) [] := ⟨rfl, .inl ⟨rfl, rfl⟩⟩
theorem SRow.cells {w : World} {base : Nat} {v : Value} {l : List (List UInt8)} (h : SRow w base v l) :
    (v = .slice none 0 0 ∧ l = []) ∨ ∃ g cap, v = .slice (some ⟨g, 0, none⟩) l.length cap ∧ base ≤ g ∧ g < w.heap.size ∧ l.length ≤ cap ∧ cap ≤ maxLen ∧ (∀ i, i < l.length → w.cell? ⟨g, i, none⟩ = some (.string ⟨List.toArray (l.getD i [])⟩)) ∧ ∀ o, w.frozen? ⟨g, o, none⟩ = false := by
  rcases h.2 with ⟨h1, h2⟩ | ⟨g, cap, cur, hv, hb, hg, hn, hm, hc, ht⟩
  · exact .inl ⟨h1, List.length_eq_zero_iff.1 h2⟩
  · refine .inr ⟨g, cap, hv, hb, ?_, hn, hm, fun i hi => ?_, fun o => ?_⟩
    · rcases Nat.lt_or_ge g w.heap.size with hlt | hge
      · exact hlt
      · rw [Array.getElem?_eq_none hge] at hg; cases hg
    · have h1 : cur[i]? = (cur.toList.take (l.length * 1))[i]? := by
        rw [List.getElem?_take, if_pos (by omega)]; simp
      have h2 : w.cell? ⟨g, i, none⟩ = cur[i]? := by simp [World.cell?, hg]
      rw [h2, h1, ht]
      simp [sv, List.getD, List.getElem?_eq_getElem hi]
    · simp [World.frozen?, hg]

theorem SRow.form {w : World} {base : Nat} {v : Value} {l : List (List UInt8)} (h : SRow w base v l) : ∃ (a : Option Addr) (cap : Nat), v = .slice a l.length cap := by
  rcases h.cells with ⟨rfl, rfl⟩ | ⟨g, cap, rfl, _⟩
  · exact ⟨none, 0, rfl⟩
  · exact ⟨_, cap, rfl⟩
theorem SRow.own {w : World} {base : Nat} {v : Value} {l : List (List UInt8)} (h : SRow w base v l) : ∀ k, v.ownBlock = some k → base ≤ k := by
  intro k hk
  rcases h.cells with ⟨rfl, _⟩ | ⟨g, cap, rfl, hb, _⟩
  · cases hk
  · cases hk; exact hb

theorem SRow.kept {w w' : World} {base : Nat} {v : Value} {l : List (List UInt8)} (h : SRow w base v l) (hb : ∀ k, v.ownBlock = some k → w'.heap[k]? = w.heap[k]?) : SRow w' base v l := by
  refine ⟨h.1, h.2.imp id ?_⟩
  rintro ⟨g, cap, cur, hv, h1, h2, h3⟩
  subst hv
  exact ⟨g, cap, cur, rfl, h1, (hb g rfl).trans h2, h3⟩
theorem SRow.alloc {w : World} {base : Nat} {v : Value} {l : List (List UInt8)} (h : SRow w base v l) (o : Obj) : SRow (w.alloc o) base v l := by
  refine h.kept (fun k hk => Below.heap_alloc _ _ _ ?_)
  rcases h.cells with ⟨rfl, rfl⟩ | ⟨g, cap, rfl, _, hlt, _⟩
  · cases hk
  · cases hk; exact hlt
theorem SRow.drew {w : World} {base : Nat} {v : Value} {l : List (List UInt8)} (h : SRow w base v l) : SRow w.drew base v l := h

/-- The cells of a slice of bytes that is appended. -/
def SSrc (w : World) (g o : Nat) (l : List (List UInt8)) : Prop := ∀ i, i < l.length → w.cell? ⟨g, o + i, none⟩ = some (.string ⟨List.toArray (l.getD i [])⟩)

theorem ssrc1 (w : World) (x : List UInt8) (t : TypeId) : SSrc (w.alloc (.cells #[.string ⟨List.toArray (x)⟩] t)) w.heap.size 0 [x] := by
  intro i hi
  have : i = 0 := by simp at hi; omega
  subst this
  simp
theorem SSrc.drew {w : World} {g o : Nat} {l : List (List UInt8)} (h : SSrc w g o l) : SSrc w.drew g o l := h
theorem ssrc_news {w : World} {g o : Nat} {l : List (List UInt8)} (h : SSrc w g o l) : ∀ j u, (sv l)[j]? = some u → w.cell? ((⟨g, o, none⟩ : Addr).add j) = some u := by
  intro j u hj
  have hjl : j < l.length := by
    rcases Nat.lt_or_ge j l.length with hlt | hge
    · exact hlt
    · rw [List.getElem?_eq_none (by rw [sv_len]; exact hge)] at hj; cases hj
  have hadd : (⟨g, o, none⟩ : Addr).add j = ⟨g, o + j, none⟩ := by unfold Addr.add; split <;> simp_all
  rw [hadd, h j hjl]
  simp [sv, List.getElem?_eq_getElem hjl] at hj
  simp [List.getD, List.getElem?_eq_getElem hjl, hj]

theorem sone (l : List (List UInt8)) : ∀ u ∈ sv l, u.oneCell' = true := by
  intro u hu
  simp [sv] at hu
  obtain ⟨c, _, rfl⟩ := hu
  rfl

section
variable {ops : Array Oper} {o : Oper} {a : Act} {w : World} {Q : Exit → Act → World → Prop}

theorem wp_appS {K : Act → World → Prop} (s x : Operand)
    (ho : o.op = .call { callee := .builtin .append, args := #[s, x], argTypes := #[35, 35] })
    (base : Nat) (v : Value) (l : List (List UInt8)) (hs : a.eval s = v) (hown : SRow w base v l)
    (g off m c : Nat) (news : List (List UInt8)) (hx : a.eval x = .slice (some ⟨g, off, none⟩) m c) (hm : news.length = m) (hsrc : SSrc w g off news)
    (hlen : l.length + m ≤ 8796093022208) (hbase : base ≤ w.heap.size)
    (h : ∀ v' w', SRow w' base v' (l ++ news) → Below base w w' → K (a.put o.dst v') w') : o.wp Tryd.prog a w K Q := by
  obtain ⟨i0, hi, hz0, hz1, hz2⟩ := info_parts infoStr
  refine wp_append_own w s x 35 ho base 9 i0 (.string ⟨#[]⟩) 1 16 Tryd.underlying35 hi hz0 hz1 hz2 rfl (by decide) v l.length (sv l) hs hown ⟨g, off, none⟩ m c (sv news) hx (by rw [sv_len, hm]; omega) (ssrc_news hsrc) (sone news)
    (by unfold maxLen; omega) (by omega) hbase (fun v' w' h2 h3 _ => h v' w' ?_ (grown_below h3 hbase hown.own))
  unfold SRow
  rw [List.length_append, hm, show sv (l ++ news) = sv l ++ sv news from by simp [sv]]
  exact h2

theorem wpList_appS {rest : List Oper} (hgd : o.guard = none) (s x : Operand)
    (ho : o.op = .call { callee := .builtin .append, args := #[s, x], argTypes := #[35, 35] })
    (base : Nat) (v : Value) (l : List (List UInt8)) (hs : a.eval s = v) (hown : SRow w base v l)
    (g off m c : Nat) (news : List (List UInt8)) (hx : a.eval x = .slice (some ⟨g, off, none⟩) m c) (hm : news.length = m) (hsrc : SSrc w g off news)
    (hlen : l.length + m ≤ 8796093022208) (hbase : base ≤ w.heap.size)
    (h : ∀ v' w', SRow w' base v' (l ++ news) → Below base w w' → wpList Tryd.prog ops Q rest (a.put o.dst v') w') : wpList Tryd.prog ops Q (o :: rest) a w :=
  wpList_plain hgd fun _ hK => wp_appS s x ho base v l hs hown g off m c news hx hm hsrc hlen hbase fun v' w' h2 h3 => hK _ _ (h v' w' h2 h3)

theorem step_appS {K : Act → World → Prop} {E : Prop} (hgd : o.guard = none) (s x : Operand)
    (ho : o.op = .call { callee := .builtin .append, args := #[s, x], argTypes := #[35, 35] })
    (base : Nat) (v : Value) (l : List (List UInt8)) (hs : a.eval s = v) (hown : SRow w base v l)
    (g off m c : Nat) (news : List (List UInt8)) (hx : a.eval x = .slice (some ⟨g, off, none⟩) m c) (hm : news.length = m) (hsrc : SSrc w g off news)
    (hlen : l.length + m ≤ 8796093022208) (hbase : base ≤ w.heap.size)
    (h : ∀ v' w', SRow w' base v' (l ++ news) → Below base w w' → K (a.put o.dst v') w') :
    if Region.wanted o (yielded ops a.tmps) = true then Oper.wp Tryd.prog o a w K Q else E := by
  have hw : Region.wanted o (yielded ops a.tmps) = true := by simp [Region.wanted, hgd]
  rw [if_pos hw]
  exact wp_appS s x ho base v l hs hown g off m c news hx hm hsrc hlen hbase h
end
end Go.Proofs.YtmldonbmjgelnaaDoor
