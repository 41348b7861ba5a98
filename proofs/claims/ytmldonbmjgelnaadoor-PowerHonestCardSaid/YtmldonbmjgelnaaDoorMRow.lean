/- Slices of members that a call itself made: append, spoil; lists held against one another. -/
import Derived.Test.YtmldonbmjgelnaaDoorMembers
set_option linter.unusedSimpArgs false
set_option linter.unusedVariables false
namespace Go.Proofs.YtmldonbmjgelnaaDoor
open Go.RowKit Pl

theorem infoMem : (Tryd.prog.info? 63).map (fun i => (i.zero, i.size, i.bytes)) = some (some (.agg #[.string ⟨#[]⟩, .int .i64 0]), 2, 24) := by kernel_rfl

def mv : List (Bs × Int) → List Value
  | [] => []
  | x :: r => .string ⟨List.toArray (x.1)⟩ :: .int .i64 (x.2) :: mv r
theorem mv_len (l : List (Bs × Int)) : (mv l).length = l.length * 2 := by
  induction l with
  | nil => rfl
  | cons x r ih => simp only [mv, List.length_cons, ih]; omega
theorem mv_app (a b : List (Bs × Int)) : mv (a ++ b) = mv a ++ mv b := by
  induction a with
  | nil => rfl
  | cons x r ih => simp [mv, ih]
theorem mv_at : ∀ (l : List (Bs × Int)) (i : Nat), i < l.length → (mv l)[i * 2]? = some (.string ⟨List.toArray ((l.getD i ([], 0)).1)⟩) ∧ (mv l)[i * 2 + 1]? = some (.int .i64 ((l.getD i ([], 0)).2))
  | x :: r, 0, _ => ⟨rfl, rfl⟩
  | x :: r, i + 1, hi => by
    have h := mv_at r i (by simpa using hi)
    rw [show (i + 1) * 2 = i * 2 + 1 + 1 from by omega]
    simpa [mv] using h
theorem mone : ∀ (l : List (Bs × Int)), ∀ u ∈ mv l, u.oneCell' = true
  | [], u, h => by simp [mv] at h
  | x :: r, u, h => by
    simp only [mv, List.mem_cons] at h
    rcases h with rfl | rfl | h
    · rfl
    · rfl
    · exact mone r u h

/-- v is nil, or a slice of a block from base on, with these members. -/
def MRow (w : World) (base : Nat) (v : Value) (l : List (Bs × Int)) : Prop := w.ownsRow base 63 2 v l.length (mv l)
theorem MRow.nil (w : World) (base : Nat) : MRow w base (.slice none 0 0) [] := ⟨rfl, .inl ⟨rfl, rfl⟩⟩
theorem MRow.cells {w : World} {base : Nat} {v : Value} {l : List (Bs × Int)} (h : MRow w base v l) :
    (v = .slice none 0 0 ∧ l = []) ∨ ∃ g cap, v = .slice (some ⟨g, 0, none⟩) l.length cap ∧ base ≤ g ∧ g < w.heap.size ∧ l.length ≤ cap ∧ cap ≤ maxLen ∧ MSrc w g 0 l ∧ ∀ o, w.frozen? ⟨g, o, none⟩ = false := by
  rcases h.2 with ⟨h1, h2⟩ | ⟨g, cap, cur, hv, hb, hg, hn, hm, hc, ht⟩
  · exact .inl ⟨h1, List.length_eq_zero_iff.1 h2⟩
  · refine .inr ⟨g, cap, hv, hb, ?_, hn, hm, fun i hi => ?_, fun o => ?_⟩
    · rcases Nat.lt_or_ge g w.heap.size with hlt | hge
      · exact hlt
      · rw [Array.getElem?_eq_none hge] at hg; cases hg
    · have h1 : ∀ j, j < l.length * 2 → w.cell? ⟨g, 0 + j, none⟩ = (mv l)[j]? := by
        intro j hj
        rw [← ht, List.getElem?_take, if_pos hj]
        simp [World.cell?, hg]
      obtain ⟨h2, h3⟩ := mv_at l i hi
      exact ⟨(h1 (i * 2) (by omega)).trans h2, (h1 (i * 2 + 1) (by omega)).trans h3⟩
    · simp [World.frozen?, hg]
theorem MRow.form {w : World} {base : Nat} {v : Value} {l : List (Bs × Int)} (h : MRow w base v l) : ∃ (a : Option Addr) (cap : Nat), v = .slice a l.length cap := by
  rcases h.cells with ⟨rfl, rfl⟩ | ⟨g, cap, rfl, _⟩
  · exact ⟨none, 0, rfl⟩
  · exact ⟨_, cap, rfl⟩
theorem MRow.own {w : World} {base : Nat} {v : Value} {l : List (Bs × Int)} (h : MRow w base v l) : ∀ k, v.ownBlock = some k → base ≤ k := by
  intro k hk
  rcases h.cells with ⟨rfl, _⟩ | ⟨g, cap, rfl, hb, _⟩
  · cases hk
  · cases hk; exact hb
theorem MRow.ms {w : World} {base : Nat} {v : Value} {l : List (Bs × Int)} (h : MRow w base v l) : MS w v l := by
  rcases h.cells with ⟨rfl, rfl⟩ | ⟨g, cap, h1, h2, h3, h4, h5, h6, h7⟩
  · exact ⟨none, 0, rfl, Nat.le_refl _, by unfold maxLen; omega, fun h => absurd rfl h⟩
  · exact ⟨_, cap, h1, h4, h5, fun _ => ⟨g, 0, rfl, h3, h6⟩⟩
theorem MRow.kept {w w' : World} {base : Nat} {v : Value} {l : List (Bs × Int)} (h : MRow w base v l) (hb : ∀ k, v.ownBlock = some k → w'.heap[k]? = w.heap[k]?) : MRow w' base v l := by
  refine ⟨h.1, h.2.imp id ?_⟩
  rintro ⟨g, cap, cur, hv, h1, h2, h3⟩
  subst hv
  exact ⟨g, cap, cur, rfl, h1, (hb g rfl).trans h2, h3⟩
theorem MRow.keep {W w : World} {b : Nat} {v : Value} {l : List (Bs × Int)} (h : MRow W b v l) (hb : Below W.heap.size W w) : MRow w b v l := by
  refine h.kept (fun k hk => hb.block k ?_)
  rcases h.cells with ⟨rfl, _⟩ | ⟨g, cap, rfl, _, hg, _⟩
  · cases hk
  · cases hk; exact hg

theorem msrc1 (w : World) (n : Bs) (p : Int) (t : TypeId) : MSrc (w.alloc (.cells #[.string ⟨List.toArray (n)⟩, .int .i64 (p)] t)) w.heap.size 0 [(n, p)] := by
  intro i hi
  have : i = 0 := by simp at hi; omega
  subst this
  exact ⟨by simp, by simp⟩
theorem msrc_news {w : World} {g o : Nat} {l : List (Bs × Int)} (h : MSrc w g o l) : ∀ j u, (mv l)[j]? = some u → w.cell? ((⟨g, o, none⟩ : Addr).add j) = some u := by
  intro j u hj
  have hjl : j < l.length * 2 := by
    rcases Nat.lt_or_ge j (l.length * 2) with hlt | hge
    · exact hlt
    · rw [List.getElem?_eq_none (by rw [mv_len]; exact hge)] at hj; cases hj
  have hadd : (⟨g, o, none⟩ : Addr).add j = ⟨g, o + j, none⟩ := by unfold Addr.add; split <;> simp_all
  rw [hadd]
  obtain ⟨i, hi | hi⟩ : ∃ i, j = i * 2 ∨ j = i * 2 + 1 := ⟨j / 2, by omega⟩
  · subst hi
    exact (h i (by omega)).1.trans (((mv_at l i (by omega)).1).symm.trans hj)
  · subst hi
    have := (h i (by omega)).2
    rw [Nat.add_assoc] at this
    exact this.trans (((mv_at l i (by omega)).2).symm.trans hj)

section
variable {ops : Array Oper} {o : Oper} {a : Act} {w : World} {Q : Exit → Act → World → Prop}

theorem wp_appM {K : Act → World → Prop} (s x : Operand)
    (ho : o.op = .call { callee := .builtin .append, args := #[s, x], argTypes := #[40, 40] })
    (base : Nat) (v : Value) (l : List (Bs × Int)) (hs : a.eval s = v) (hown : MRow w base v l)
    (g off m c : Nat) (news : List (Bs × Int)) (hx : a.eval x = .slice (some ⟨g, off, none⟩) m c) (hm : news.length = m) (hsrc : MSrc w g off news)
    (hlen : l.length + m ≤ 1099511627000) (hbase : base ≤ w.heap.size)
    (h : ∀ v' w', MRow w' base v' (l ++ news) → Below base w w' → K (a.put o.dst v') w') : o.wp Tryd.prog a w K Q := by
  obtain ⟨i0, hi, hz0, hz1, hz2⟩ := info_parts infoMem
  refine wp_append_own w s x 40 ho base 63 i0 (.agg #[.string ⟨#[]⟩, .int .i64 0]) 2 24 Tryd.underlying40 hi hz0 hz1 hz2 rfl (by decide) v l.length (mv l) hs hown ⟨g, off, none⟩ m c (mv news) hx (by rw [mv_len, hm]) (msrc_news hsrc) (mone news)
    (by unfold maxLen; omega) (by omega) hbase (fun v' w' h2 h3 _ => h v' w' ?_ (grown_below h3 hbase hown.own))
  unfold MRow
  rw [List.length_append, hm, mv_app]
  exact h2
theorem step_appM {K : Act → World → Prop} {E : Prop} (hgd : o.guard = none) (s x : Operand)
    (ho : o.op = .call { callee := .builtin .append, args := #[s, x], argTypes := #[40, 40] })
    (base : Nat) (v : Value) (l : List (Bs × Int)) (hs : a.eval s = v) (hown : MRow w base v l)
    (g off m c : Nat) (news : List (Bs × Int)) (hx : a.eval x = .slice (some ⟨g, off, none⟩) m c) (hm : news.length = m) (hsrc : MSrc w g off news)
    (hlen : l.length + m ≤ 1099511627000) (hbase : base ≤ w.heap.size)
    (h : ∀ v' w', MRow w' base v' (l ++ news) → Below base w w' → K (a.put o.dst v') w') :
    if Region.wanted o (yielded ops a.tmps) = true then Oper.wp Tryd.prog o a w K Q else E := by
  have hw : Region.wanted o (yielded ops a.tmps) = true := by simp [Region.wanted, hgd]
  rw [if_pos hw]
  exact wp_appM s x ho base v l hs hown g off m c news hx hm hsrc hlen hbase h
theorem wpList_appM {rest : List Oper} (hgd : o.guard = none) (s x : Operand)
    (ho : o.op = .call { callee := .builtin .append, args := #[s, x], argTypes := #[40, 40] })
    (base : Nat) (v : Value) (l : List (Bs × Int)) (hs : a.eval s = v) (hown : MRow w base v l)
    (g off m c : Nat) (news : List (Bs × Int)) (hx : a.eval x = .slice (some ⟨g, off, none⟩) m c) (hm : news.length = m) (hsrc : MSrc w g off news)
    (hlen : l.length + m ≤ 1099511627000) (hbase : base ≤ w.heap.size)
    (h : ∀ v' w', MRow w' base v' (l ++ news) → Below base w w' → wpList Tryd.prog ops Q rest (a.put o.dst v') w') : wpList Tryd.prog ops Q (o :: rest) a w :=
  wpList_plain hgd fun _ hK => wp_appM s x ho base v l hs hown g off m c news hx hm hsrc hlen hbase fun v' w' h2 h3 => hK _ _ (h v' w' h2 h3)
end

end Go.Proofs.YtmldonbmjgelnaaDoor
