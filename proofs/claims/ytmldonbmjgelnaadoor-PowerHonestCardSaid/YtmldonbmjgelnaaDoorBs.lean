/- Slices of bytes that are read: wherever they lie, nil too; appended to own ones. -/
import Derived.Test.YtmldonbmjgelnaaDoorBytes
import Derived.Test.YtmldonbmjgelnaaDoorKit2
import Derived.Lib.AppendStr
import Derived.Laws.AppendOwnNone
set_option linter.unusedSimpArgs false
set_option linter.unusedVariables false
namespace Go.Proofs.YtmldonbmjgelnaaDoor
open Go.RowKit

/-- v reads as these bytes. -/
def BS (w : World) (v : Value) (l : List UInt8) : Prop :=
  (v = .slice none 0 0 ∧ l = []) ∨ ∃ g off cap, v = .slice (some ⟨g, off, none⟩) l.length cap ∧ l.length ≤ cap ∧ cap ≤ maxLen ∧ g < w.heap.size ∧ BSrc w g off l
theorem BRow.bs {w : World} {base : Nat} {v : Value} {l : List UInt8} (h : BRow w base v l) : BS w v l := by
  rcases h.cells with h | ⟨g, cap, h1, h2, h3, h4, h5, h6, h7⟩
  · exact .inl h
  · exact .inr ⟨g, 0, cap, h1, h4, h5, h3, fun i hi => by rw [Nat.zero_add]; exact h6 i hi⟩
theorem BS.keep {W w : World} {v : Value} {l : List UInt8} (h : BS W v l) (hb : Below W.heap.size W w) : BS w v l := by
  rcases h with h | ⟨g, off, cap, h1, h2, h3, h4, h5⟩
  · exact .inl h
  · exact .inr ⟨g, off, cap, h1, h2, h3, Nat.lt_of_lt_of_le h4 hb.size, fun i hi => (hb.cell (p := ⟨g, off + i, none⟩) h4).trans (h5 i hi)⟩
theorem BRow.mono {w : World} {b b' : Nat} {v : Value} {l : List UInt8} (h : BRow w b v l) (hb : b' ≤ b) : BRow w b' v l := by
  refine ⟨h.1, h.2.imp id ?_⟩
  rintro ⟨g, cap, cur, hv, h1, h2⟩
  exact ⟨g, cap, cur, hv, Nat.le_trans hb h1, h2⟩
theorem BRow.keep {W w : World} {b : Nat} {v : Value} {l : List UInt8} (h : BRow W b v l) (hb : Below W.heap.size W w) : BRow w b v l := by
  refine h.kept (fun k hk => hb.block k ?_)
  rcases h.cells with ⟨rfl, _⟩ | ⟨g, cap, rfl, _, hg, _⟩
  · cases hk
  · cases hk; exact hg
/-- A slice of bytes, cut behind its first k. -/
theorem BS.len {w : World} {v : Value} {l : List UInt8} (h : BS w v l) : ∃ a c, v = .slice a l.length c := by
  rcases h with ⟨rfl, rfl⟩ | ⟨g, off, cap, rfl, _⟩
  · exact ⟨none, 0, rfl⟩
  · exact ⟨_, cap, rfl⟩

section
variable {ops : Array Oper} {o : Oper} {a : Act} {w : World} {Q : Exit → Act → World → Prop}
/-- append(v, x...) of bytes, v own, x any. -/
theorem wp_appBS {K : Act → World → Prop} (s x : Operand)
    (ho : o.op = .call { callee := .builtin .append, args := #[s, x], argTypes := #[71, 71] })
    (base : Nat) (v : Value) (l : List UInt8) (hs : a.eval s = v) (hown : BRow w base v l)
    (u : Value) (news : List UInt8) (hx : a.eval x = u) (hsrc : BS w u news)
    (hlen : l.length + news.length ≤ 140737488355328) (hbase : base ≤ w.heap.size)
    (h : ∀ v' w', BRow w' base v' (l ++ news) → w.grownBy w' v.ownBlock → K (a.put o.dst v') w') : o.wp Tryd.prog a w K Q := by
  obtain ⟨i0, hi, hz0, hz1, hz2⟩ := info_parts infoU8
  rcases hsrc with ⟨rfl, rfl⟩ | ⟨g, off, cap, rfl, h1, h2, h3, h4⟩
  · obtain ⟨v', w', hr, h2, h3⟩ : ∃ v' w', (Builtin.append_ #[71, 71] o.type #[v, .slice none 0 0]).run Tryd.prog w = .ok v' w' ∧ BRow w' base v' l ∧ w.grownBy w' v.ownBlock := by
      rcases hown.cells with ⟨rfl, rfl⟩ | ⟨g, cap, rfl, q1, q2, q3, q4, q5, q6⟩
      · refine ⟨.slice none 0 0, w, ?_, BRow.nil _ _, ⟨rfl, rfl, rfl, Nat.le_refl _, fun _ _ _ => rfl⟩⟩
        simp [Builtin.append_, run_underlying Tryd.underlying71, sizeOf, typeInfo, hi, hz1, Builtin.lenOf, Builtin.firstCells]
      · refine ⟨.slice (some ⟨g, 0, none⟩) l.length cap, w, ?_, hown, ⟨rfl, rfl, rfl, Nat.le_refl _, fun _ _ _ => rfl⟩⟩
        simp [Builtin.append_, run_underlying Tryd.underlying71, sizeOf, typeInfo, hi, hz1, Builtin.lenOf, Builtin.firstCells, q3, storeCells]
    unfold Oper.wp execOp
    simp only [ho, resolve, invoke, builtin, Sem.run_bind, Sem.run_pure, Result.andThen_ok, List.map_toArray, List.map_cons, List.map_nil, hs, hx, hr]
    exact h v' w' (by rw [List.append_nil]; exact h2) h3
  · refine wp_append_own w s x 71 ho base 5 i0 (.int .u8 0) 1 1 Tryd.underlying71 hi hz0 hz1 hz2 rfl (by decide) v l.length (bv l) hs hown ⟨g, off, none⟩ news.length cap (bv news) hx (by rw [bv_len]; omega) (bsrc_news h4) (bone news)
      (by unfold maxLen; omega) (by omega) hbase (fun v' w' h2 h3 _ => h v' w' ?_ h3)
    unfold BRow
    rw [List.length_append, show bv (l ++ news) = bv l ++ bv news from by simp [bv]]
    exact h2
theorem wpList_appBS {rest : List Oper} (hgd : o.guard = none) (s x : Operand)
    (ho : o.op = .call { callee := .builtin .append, args := #[s, x], argTypes := #[71, 71] })
    (base : Nat) (v : Value) (l : List UInt8) (hs : a.eval s = v) (hown : BRow w base v l)
    (u : Value) (news : List UInt8) (hx : a.eval x = u) (hsrc : BS w u news)
    (hlen : l.length + news.length ≤ 140737488355328) (hbase : base ≤ w.heap.size)
    (h : ∀ v' w', BRow w' base v' (l ++ news) → w.grownBy w' v.ownBlock → wpList Tryd.prog ops Q rest (a.put o.dst v') w') : wpList Tryd.prog ops Q (o :: rest) a w :=
  wpList_plain hgd fun _ hK => wp_appBS s x ho base v l hs hown u news hx hsrc hlen hbase fun v' w' h2 h3 => hK _ _ (h v' w' h2 h3)
theorem step_appBS {K : Act → World → Prop} {E : Prop} (hgd : o.guard = none) (s x : Operand)
    (ho : o.op = .call { callee := .builtin .append, args := #[s, x], argTypes := #[71, 71] })
    (base : Nat) (v : Value) (l : List UInt8) (hs : a.eval s = v) (hown : BRow w base v l)
    (u : Value) (news : List UInt8) (hx : a.eval x = u) (hsrc : BS w u news)
    (hlen : l.length + news.length ≤ 140737488355328) (hbase : base ≤ w.heap.size)
    (h : ∀ v' w', BRow w' base v' (l ++ news) → w.grownBy w' v.ownBlock → K (a.put o.dst v') w') :
    if Region.wanted o (yielded ops a.tmps) = true then Oper.wp Tryd.prog o a w K Q else E := by
  have hw : Region.wanted o (yielded ops a.tmps) = true := by simp [Region.wanted, hgd]
  rw [if_pos hw]
  exact wp_appBS s x ho base v l hs hown u news hx hsrc hlen hbase h
/-- append(v, s...) of a text's bytes. -/
theorem wp_appBT {K : Act → World → Prop} (s x : Operand)
    (ho : o.op = .call { callee := .builtin .append, args := #[s, x], argTypes := #[71, 9] })
    (base : Nat) (v : Value) (l : List UInt8) (hs : a.eval s = v) (hown : BRow w base v l)
    (news : List UInt8) (hx : a.eval x = .string ⟨List.toArray (news)⟩)
    (hlen : l.length + news.length ≤ 140737488355328) (hbase : base ≤ w.heap.size)
    (h : ∀ v' w', BRow w' base v' (l ++ news) → w.grownBy w' v.ownBlock → K (a.put o.dst v') w') : o.wp Tryd.prog a w K Q := by
  obtain ⟨i0, hi, hz0, hz1, hz2⟩ := info_parts infoU8
  have hsz : (⟨news.toArray⟩ : ByteArray).size = news.length := by simp [ByteArray.size]
  obtain ⟨v', w', hr, h2, h3, _⟩ := Lib.run_append_own_string (P := Tryd.prog) w base 71 9 o.type 5 i0 Tryd.underlying71 Tryd.underlying9 hi hz0 hz1 hz2 v l.length (bv l) hown ⟨news.toArray⟩ (by rw [hsz]; unfold maxLen; omega) (by rw [hsz]; omega) hbase
  unfold Oper.wp execOp
  simp only [ho, resolve, invoke, builtin, Sem.run_bind, Sem.run_pure, Result.andThen_ok, List.map_toArray, List.map_cons, List.map_nil, hs, hx, hr]
  refine h v' w' ?_ h3
  unfold BRow
  rw [List.length_append, show bv (l ++ news) = bv l ++ bv news from by simp [bv]]
  rw [hsz] at h2
  exact h2
theorem wpList_appBT {rest : List Oper} (hgd : o.guard = none) (s x : Operand)
    (ho : o.op = .call { callee := .builtin .append, args := #[s, x], argTypes := #[71, 9] })
    (base : Nat) (v : Value) (l : List UInt8) (hs : a.eval s = v) (hown : BRow w base v l)
    (news : List UInt8) (hx : a.eval x = .string ⟨List.toArray (news)⟩)
    (hlen : l.length + news.length ≤ 140737488355328) (hbase : base ≤ w.heap.size)
    (h : ∀ v' w', BRow w' base v' (l ++ news) → w.grownBy w' v.ownBlock → wpList Tryd.prog ops Q rest (a.put o.dst v') w') : wpList Tryd.prog ops Q (o :: rest) a w :=
  wpList_plain hgd fun _ hK => wp_appBT s x ho base v l hs hown news hx hlen hbase fun v' w' h2 h3 => hK _ _ (h v' w' h2 h3)
theorem step_appBT {K : Act → World → Prop} {E : Prop} (hgd : o.guard = none) (s x : Operand)
    (ho : o.op = .call { callee := .builtin .append, args := #[s, x], argTypes := #[71, 9] })
    (base : Nat) (v : Value) (l : List UInt8) (hs : a.eval s = v) (hown : BRow w base v l)
    (news : List UInt8) (hx : a.eval x = .string ⟨List.toArray (news)⟩)
    (hlen : l.length + news.length ≤ 140737488355328) (hbase : base ≤ w.heap.size)
    (h : ∀ v' w', BRow w' base v' (l ++ news) → w.grownBy w' v.ownBlock → K (a.put o.dst v') w') :
    if Region.wanted o (yielded ops a.tmps) = true then Oper.wp Tryd.prog o a w K Q else E := by
  have hw : Region.wanted o (yielded ops a.tmps) = true := by simp [Region.wanted, hgd]
  rw [if_pos hw]
  exact wp_appBT s x ho base v l hs hown news hx hlen hbase h
end

theorem grown_nil {w w' : World} (hg : w.grownBy w' none) : Below w.heap.size w w' := grown_below hg (Nat.le_refl _) (fun k hk => by cases hk)
theorem grown_mod {w w' : World} {row : Option Nat} (hg : w.grownBy w' row) : Mod row.toList w w' :=
  ⟨hg.os, hg.tape, hg.output, hg.size, fun k hk hn => hg.block k hk (fun e => hn (by rw [← e]; simp))⟩
theorem ownBlock_lt {w : World} {base : Nat} {v : Value} {l : List UInt8} (h : BRow w base v l) : ∀ k, v.ownBlock = some k → base ≤ k ∧ k < w.heap.size := by
  intro k hk
  rcases h.cells with ⟨rfl, _⟩ | ⟨g, cap, rfl, hb, hg, _⟩
  · cases hk
  · cases hk; exact ⟨hb, hg⟩
end Go.Proofs.YtmldonbmjgelnaaDoor
