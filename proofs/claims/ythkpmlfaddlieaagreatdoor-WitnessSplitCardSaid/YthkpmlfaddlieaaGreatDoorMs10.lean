/- Item, Ledg, AppI, Spot, LessR. -/
import Derived.Deep.Upon
import Derived.Test.YthkpmlfaddlieaaGreatDoorMs9
set_option linter.unnecessarySimpa false
set_option linter.unusedSimpArgs false
set_option linter.unusedVariables false
set_option maxRecDepth 100000
set_option maxHeartbeats 32000000
namespace Go.Proofs.YthkpmlfaddlieaaGreatDoor
open Go.RowKit Pl
def ISrc (w : World) (g o : Nat) (l : List It) : Prop := ∀ i, i < l.length → w.cell? ⟨g, o + i * 2, none⟩ = some (.string ⟨List.toArray ((l.getD i ([], [])).1)⟩) ∧ w.cell? ⟨g, o + i * 2 + 1, none⟩ = some (.string ⟨List.toArray ((l.getD i ([], [])).2)⟩)
def IL (w : World) (v : Value) (l : List It) : Prop :=
 ∃ a cap, v = .slice a l.length cap ∧ l.length ≤ cap ∧ cap ≤ maxLen ∧ (l ≠ [] → ∃ g off, a = some ⟨g, off, none⟩ ∧ g < w.heap.size ∧ ISrc w g off l)
theorem IL.keep {W w : World} {v : Value} {l : List It} (h : IL W v l) (hb : Below W.heap.size W w) : IL w v l := by
 obtain ⟨a, cap, h1, h2, h3, h4⟩ := h
 refine ⟨a, cap, h1, h2, h3, fun hl => ?_⟩
 obtain ⟨g, off, e, hg, hc⟩ := h4 hl
 exact ⟨g, off, e, Nat.lt_of_lt_of_le hg hb.size, fun i hi => ⟨(hb.cell (p := ⟨g, off + i * 2, none⟩) hg).trans (hc i hi).1, (hb.cell (p := ⟨g, off + i * 2 + 1, none⟩) hg).trans (hc i hi).2⟩⟩
theorem IL.form {w : World} {v : Value} {l : List It} (h : IL w v l) : ∃ a c, v = .slice a l.length c := by
 obtain ⟨a, cap, h1, _⟩ := h
 exact ⟨a, cap, h1⟩
theorem IL.small {w : World} {v : Value} {l : List It} (h : IL w v l) : l.length ≤ 9223372036854775807 := by
 obtain ⟨a, cap, h1, h2, h3, _⟩ := h
 unfold maxLen at h3; omega
theorem IL.at {w : World} {a : Option Addr} {c : Nat} {l : List It} (h : IL w (.slice a l.length c) l) (i : Nat) (hi : i < l.length) :
  ∃ g off, a = some ⟨g, off, none⟩ ∧ g < w.heap.size ∧ w.cell? ⟨g, off + i * 2, none⟩ = some (.string ⟨List.toArray ((l.getD i ([], [])).1)⟩) ∧ w.cell? ⟨g, off + i * 2 + 1, none⟩ = some (.string ⟨List.toArray ((l.getD i ([], [])).2)⟩) := by
 obtain ⟨a', cap, h1, _, _, h5⟩ := h
 injection h1 with h1 _ _
 obtain ⟨g, off, e, hg, hc⟩ := h5 (by intro e; rw [e] at hi; simp at hi)
 exact ⟨g, off, h1.trans e, hg, (hc i hi).1, (hc i hi).2⟩
namespace Pl
theorem takeI (l : List It) (i : Nat) (hi : i < l.length) : l.take (i + 1) = l.take i ++ [l.getD i ([], [])] := by
 rw [List.take_add_one, List.getElem?_eq_getElem hi, List.getD_eq_getElem?_getD, List.getElem?_eq_getElem hi]
 rfl
end Pl
theorem infoIt : (Tryz.prog.info? 203).map (fun i => (i.zero, i.size, i.bytes)) = some (some (.agg #[.string ⟨#[]⟩, .string ⟨#[]⟩]), 2, 32) := by kernel_rfl
def iv : List It → List Value
 | [] => []
 | x :: r => .string ⟨List.toArray x.1⟩ :: .string ⟨List.toArray x.2⟩ :: iv r
theorem iv_len (l : List It) : (iv l).length = l.length * 2 := by
 induction l with
 | nil => rfl
 | cons x r ih => simp only [iv, List.length_cons, ih]; omega
theorem iv_app (a b : List It) : iv (a ++ b) = iv a ++ iv b := by
 induction a with
 | nil => rfl
 | cons x r ih => simp [iv, ih]
theorem iv_at : ∀ (l : List It) (i : Nat), i < l.length → (iv l)[i * 2]? = some (.string ⟨List.toArray ((l.getD i ([], [])).1)⟩) ∧ (iv l)[i * 2 + 1]? = some (.string ⟨List.toArray ((l.getD i ([], [])).2)⟩)
 | x :: r, 0, _ => ⟨rfl, rfl⟩
 | x :: r, i + 1, hi => by
  have h := iv_at r i (by simpa using hi)
  rw [show (i + 1) * 2 = i * 2 + 1 + 1 from by omega]
  simpa [iv] using h
theorem ione : ∀ (l : List It), ∀ u ∈ iv l, u.oneCell' = true
 | [], u, h => by simp [iv] at h
 | x :: r, u, h => by
  simp only [iv, List.mem_cons] at h
  rcases h with rfl | rfl | h
  ·rfl
  ·rfl
  ·exact ione r u h
def IRow (w : World) (base : Nat) (v : Value) (l : List It) : Prop := w.ownsRow base 203 2 v l.length (iv l)
theorem IRow.nil (w : World) (base : Nat) : IRow w base (.slice none 0 0) [] := ⟨rfl, .inl ⟨rfl, rfl⟩⟩
theorem IRow.cells {w : World} {base : Nat} {v : Value} {l : List It} (h : IRow w base v l) :
  (v = .slice none 0 0 ∧ l = []) ∨ ∃ g cap, v = .slice (some ⟨g, 0, none⟩) l.length cap ∧ base ≤ g ∧ g < w.heap.size ∧ l.length ≤ cap ∧ cap ≤ maxLen ∧ ISrc w g 0 l ∧ ∀ o, w.frozen? ⟨g, o, none⟩ = false := by
 rcases h.2 with ⟨h1, h2⟩ | ⟨g, cap, cur, hv, hb, hg, hn, hm, hc, ht⟩
 ·exact .inl ⟨h1, List.length_eq_zero_iff.1 h2⟩
 ·refine .inr ⟨g, cap, hv, hb, ?_, hn, hm, fun i hi => ?_, fun o => ?_⟩
  ·rcases Nat.lt_or_ge g w.heap.size with hlt | hge
   ·exact hlt
   ·rw [Array.getElem?_eq_none hge] at hg; cases hg
  ·have h1 : ∀ j, j < l.length * 2 → w.cell? ⟨g, 0 + j, none⟩ = (iv l)[j]? := by
    intro j hj
    rw [← ht, List.getElem?_take, if_pos hj]
    simp [World.cell?, hg]
   obtain ⟨h2, h3⟩ := iv_at l i hi
   exact ⟨(h1 (i * 2) (by omega)).trans h2, (h1 (i * 2 + 1) (by omega)).trans h3⟩
  ·simp [World.frozen?, hg]
theorem IRow.form {w : World} {base : Nat} {v : Value} {l : List It} (h : IRow w base v l) : ∃ (a : Option Addr) (cap : Nat), v = .slice a l.length cap := by
 rcases h.cells with ⟨rfl, rfl⟩ | ⟨g, cap, rfl, _⟩
 ·exact ⟨none, 0, rfl⟩
 ·exact ⟨_, cap, rfl⟩
theorem IRow.own {w : World} {base : Nat} {v : Value} {l : List It} (h : IRow w base v l) : ∀ k, v.ownBlock = some k → base ≤ k := by
 intro k hk
 rcases h.cells with ⟨rfl, _⟩ | ⟨g, cap, rfl, hb, _⟩
 ·cases hk
 ·cases hk; exact hb
theorem IRow.il {w : World} {base : Nat} {v : Value} {l : List It} (h : IRow w base v l) : IL w v l := by
 rcases h.cells with ⟨rfl, rfl⟩ | ⟨g, cap, h1, h2, h3, h4, h5, h6, h7⟩
 ·exact ⟨none, 0, rfl, Nat.le_refl _, by unfold maxLen; omega, fun h => absurd rfl h⟩
 ·exact ⟨_, cap, h1, h4, h5, fun _ => ⟨g, 0, rfl, h3, h6⟩⟩
theorem IRow.kept {w w' : World} {base : Nat} {v : Value} {l : List It} (h : IRow w base v l) (hb : ∀ k, v.ownBlock = some k → w'.heap[k]? = w.heap[k]?) : IRow w' base v l := by
 refine ⟨h.1, h.2.imp id ?_⟩
 rintro ⟨g, cap, cur, hv, h1, h2, h3⟩
 subst hv
 exact ⟨g, cap, cur, rfl, h1, (hb g rfl).trans h2, h3⟩
theorem IRow.keep {W w : World} {b : Nat} {v : Value} {l : List It} (h : IRow W b v l) (hb : Below W.heap.size W w) : IRow w b v l := by
 refine h.kept (fun k hk => hb.block k ?_)
 rcases h.cells with ⟨rfl, _⟩ | ⟨g, cap, rfl, _, hg, _⟩
 ·cases hk
 ·cases hk; exact hg
theorem isrc1 (w : World) (n p : Bs) (t : TypeId) : ISrc (w.alloc (.cells #[.string ⟨n.toArray⟩, .string ⟨p.toArray⟩] t)) w.heap.size 0 [(n, p)] := by
 intro i hi
 have : i = 0 := by simp at hi; omega
 subst this
 exact ⟨by simp, by simp⟩
theorem isrc_news {w : World} {g o : Nat} {l : List It} (h : ISrc w g o l) : ∀ j u, (iv l)[j]? = some u → w.cell? ((⟨g, o, none⟩ : Addr).add j) = some u := by
 intro j u hj
 have hjl : j < l.length * 2 := by
  rcases Nat.lt_or_ge j (l.length * 2) with hlt | hge
  ·exact hlt
  ·rw [List.getElem?_eq_none (by rw [iv_len]; exact hge)] at hj; cases hj
 have hadd : (⟨g, o, none⟩ : Addr).add j = ⟨g, o + j, none⟩ := by unfold Addr.add; split <;> simp_all
 rw [hadd]
 obtain ⟨i, hi | hi⟩ : ∃ i, j = i * 2 ∨ j = i * 2 + 1 := ⟨j / 2, by omega⟩
 ·subst hi
  exact (h i (by omega)).1.trans (((iv_at l i (by omega)).1).symm.trans hj)
 ·subst hi
  have := (h i (by omega)).2
  rw [Nat.add_assoc] at this
  exact this.trans (((iv_at l i (by omega)).2).symm.trans hj)
section
variable {ops : Array Oper} {o : Oper} {a : Act} {w : World} {Q : Exit → Act → World → Prop}
theorem wp_appI {K : Act → World → Prop} (s x : Operand)
  (ho : o.op = .call { callee := .builtin .append, args := #[s, x], argTypes := #[38, 38] })
  (base : Nat) (v : Value) (l : List It) (hs : a.eval s = v) (hown : IRow w base v l)
  (g off m c : Nat) (news : List It) (hx : a.eval x = .slice (some ⟨g, off, none⟩) m c) (hm : news.length = m) (hsrc : ISrc w g off news)
  (hlen : l.length + m ≤ 1099511627000) (hbase : base ≤ w.heap.size)
  (h : ∀ v' w', IRow w' base v' (l ++ news) → Below base w w' → K (a.put o.dst v') w') : o.wp Tryz.prog a w K Q := by
 obtain ⟨i0, hi, hz0, hz1, hz2⟩ := info_parts infoIt
 refine wp_append_own w s x 38 ho base 203 i0 (.agg #[.string ⟨#[]⟩, .string ⟨#[]⟩]) 2 32 Tryz.underlying38 hi hz0 hz1 hz2 rfl (by decide) v l.length (iv l) hs hown ⟨g, off, none⟩ m c (iv news) hx (by rw [iv_len, hm]) (isrc_news hsrc) (ione news)
  (by unfold maxLen; omega) (by omega) hbase (fun v' w' h2 h3 _ => h v' w' ?_ (grown_below h3 hbase hown.own))
 unfold IRow
 rw [List.length_append, hm, iv_app]
 exact h2
theorem step_appI {K : Act → World → Prop} {E : Prop} (hgd : o.guard = none) (s x : Operand)
  (ho : o.op = .call { callee := .builtin .append, args := #[s, x], argTypes := #[38, 38] })
  (base : Nat) (v : Value) (l : List It) (hs : a.eval s = v) (hown : IRow w base v l)
  (g off m c : Nat) (news : List It) (hx : a.eval x = .slice (some ⟨g, off, none⟩) m c) (hm : news.length = m) (hsrc : ISrc w g off news)
  (hlen : l.length + m ≤ 1099511627000) (hbase : base ≤ w.heap.size)
  (h : ∀ v' w', IRow w' base v' (l ++ news) → Below base w w' → K (a.put o.dst v') w') :
  if Region.wanted o (yielded ops a.tmps) = true then Oper.wp Tryz.prog o a w K Q else E := by
 have hw : Region.wanted o (yielded ops a.tmps) = true := by simp [Region.wanted, hgd]
 rw [if_pos hw]
 exact wp_appI s x ho base v l hs hown g off m c news hx hm hsrc hlen hbase h
theorem wpList_appI {rest : List Oper} (hgd : o.guard = none) (s x : Operand)
  (ho : o.op = .call { callee := .builtin .append, args := #[s, x], argTypes := #[38, 38] })
  (base : Nat) (v : Value) (l : List It) (hs : a.eval s = v) (hown : IRow w base v l)
  (g off m c : Nat) (news : List It) (hx : a.eval x = .slice (some ⟨g, off, none⟩) m c) (hm : news.length = m) (hsrc : ISrc w g off news)
  (hlen : l.length + m ≤ 1099511627000) (hbase : base ≤ w.heap.size)
  (h : ∀ v' w', IRow w' base v' (l ++ news) → Below base w w' → wpList Tryz.prog ops Q rest (a.put o.dst v') w') : wpList Tryz.prog ops Q (o :: rest) a w :=
 wpList_plain hgd fun _ hK => wp_appI s x ho base v l hs hown g off m c news hx hm hsrc hlen hbase fun v' w' h2 h3 => hK _ _ (h v' w' h2 h3)
end
end Go.Proofs.YthkpmlfaddlieaaGreatDoor
namespace Go.Proofs.YthkpmlfaddlieaaGreatDoor
open Go.RowKit Go.Shelf Pl
structure Ent where
 head : Hd
 sum : Bs
 items : List It
 set : List (Bs × Int)
 next : List (Bs × Int)
structure EntX where
 e : Ent
 sk : Value
 it : Value
 st : Value
 nx : Value
def ecs (x : Ent) (sk it st nx : Value) : List Value :=
 [.int .i64 x.head.height, .int .i64 x.head.epoch, .int .i64 x.head.view, .bool x.head.last, .string ⟨List.toArray x.head.parent⟩, .string ⟨List.toArray x.head.state⟩, .string ⟨List.toArray x.head.receipts⟩, .string ⟨List.toArray x.head.txs⟩, .string ⟨List.toArray x.head.members⟩, .string ⟨List.toArray x.head.next⟩, sk, .string ⟨List.toArray x.sum⟩, .slice none 0 0, .slice none 0 0, it, st, nx]
def ecsX (y : EntX) : List Value := ecs y.e y.sk y.it y.st y.nx
def nilE : Value := .agg (ecs ⟨hdZ, [], [], [], []⟩ (.slice none 0 0) (.slice none 0 0) (.slice none 0 0) (.slice none 0 0)).toArray
theorem row_ent : RowT Tryz.prog 52 17 := RowT.mk' Tryz.underlying52 rfl (by kernel_rfl)
theorem infoEnt : (Tryz.prog.info? 52).map (fun i => (i.zero, i.size, i.bytes)) = some (some nilE, 17, 288) := by kernel_rfl
theorem ecsX_len (y : EntX) : (ecsX y).length = 17 := rfl
theorem ecsX_all : ∀ (cs : List EntX), (cs.flatMap ecsX).length = cs.length * 17
 | [] => rfl
 | y :: r => by rw [List.flatMap_cons, List.length_append, ecsX_len, ecsX_all r, List.length_cons]; omega
theorem ecsX_at : ∀ (cs : List EntX) (i j : Nat) (y : EntX), cs[i]? = some y → j < 17 → (cs.flatMap ecsX)[i * 17 + j]? = (ecsX y)[j]?
 | [], i, j, y, h, _ => by simp at h
 | x :: r, 0, j, y, h, hj => by
  simp only [List.getElem?_cons_zero, Option.some.injEq] at h
  subst h
  rw [List.flatMap_cons, Nat.zero_mul, Nat.zero_add, List.getElem?_append_left (by rw [ecsX_len]; exact hj)]
 | x :: r, i + 1, j, y, h, hj => by
  rw [List.getElem?_cons_succ] at h
  rw [List.flatMap_cons, List.getElem?_append_right (by rw [ecsX_len]; omega), ecsX_len, show (i + 1) * 17 + j - 17 = i * 17 + j from by omega]
  exact ecsX_at r i j y h hj
def EntAt (w : World) (y : EntX) : Prop := SS w y.sk y.e.head.skips ∧ IL w y.it y.e.items ∧ MS w y.st y.e.set ∧ MS w y.nx y.e.next
theorem EntAt.keep {W w : World} {y : EntX} (h : EntAt W y) (hb : Below W.heap.size W w) : EntAt w y := ⟨h.1.keep hb, h.2.1.keep hb, h.2.2.1.keep hb, h.2.2.2.keep hb⟩
theorem EntAt.one {w : World} {y : EntX} (h : EntAt w y) : ∀ u ∈ ecsX y, u.oneCell' = true := by
 obtain ⟨⟨e, sk, it, st, nx⟩, rfl⟩ : ∃ z, z = y := ⟨y, rfl⟩
 obtain ⟨h1, h2, h3, h4⟩ := h
 obtain ⟨a1, c1, r1⟩ := h1.form
 obtain ⟨a2, c2, r2⟩ := h2.form
 obtain ⟨a3, c3, r3⟩ := h3.form
 obtain ⟨a4, c4, r4⟩ := h4.form
 simp only at r1 r2 r3 r4
 subst r1 r2 r3 r4
 intro u hu
 simp only [ecsX, ecs, List.mem_cons, List.not_mem_nil, or_false] at hu
 rcases hu with rfl | rfl | rfl | rfl | rfl | rfl | rfl | rfl | rfl | rfl | rfl | rfl | rfl | rfl | rfl | rfl | rfl <;> rfl
def EL (w : World) (v : Value) (E : List Ent) : Prop :=
 ∃ cs : List EntX, cs.map (·.e) = E ∧ (∀ y ∈ cs, EntAt w y) ∧ ∃ a cap, v = .slice a E.length cap ∧ E.length ≤ cap ∧ cap ≤ maxLen ∧ (E ≠ [] → ∃ g off, a = some ⟨g, off, none⟩ ∧ g < w.heap.size ∧ w.rangeAt g off (cs.flatMap ecsX))
theorem EL.keep {W w : World} {v : Value} {E : List Ent} (h : EL W v E) (hb : Below W.heap.size W w) : EL w v E := by
 obtain ⟨cs, h1, h2, a, cap, h3, h4, h5, h6⟩ := h
 refine ⟨cs, h1, fun y hy => (h2 y hy).keep hb, a, cap, h3, h4, h5, fun hn => ?_⟩
 obtain ⟨g, off, e, hg, hr⟩ := h6 hn
 exact ⟨g, off, e, Nat.lt_of_lt_of_le hg hb.size, rg_keep hr hg hb⟩
theorem EL.form {w : World} {v : Value} {E : List Ent} (h : EL w v E) : ∃ a c, v = .slice a E.length c := by
 obtain ⟨cs, h1, h2, a, cap, h3, h4⟩ := h
 exact ⟨a, cap, h3⟩
theorem EL.at {w : World} {a : Option Addr} {c : Nat} {E : List Ent} (h : EL w (.slice a E.length c) E) (i : Nat) (x : Ent) (hi : E[i]? = some x) :
  ∃ g off sk it st nx, a = some ⟨g, off, none⟩ ∧ g < w.heap.size ∧ w.rangeAt g (off + i * 17) (ecs x sk it st nx) ∧ EntAt w ⟨x, sk, it, st, nx⟩ := by
 obtain ⟨cs, h1, h2, a2, cap, h3, h4, h5, h6⟩ := h
 injection h3 with e1 _ _
 subst e1
 obtain ⟨g, off, e, hg, hr⟩ := h6 (by intro e; subst e; simp at hi)
 rw [← h1, List.getElem?_map] at hi
 obtain ⟨y, hy, rfl⟩ := Option.map_eq_some_iff.1 hi
 refine ⟨g, off, y.sk, y.it, y.st, y.nx, e, hg, rg_sub hr (i * 17) (fun j u hj => ?_), h2 y (List.mem_of_getElem? hy)⟩
 have hj17 : j < 17 := by have := (List.getElem?_eq_some_iff.1 hj).1; simpa [ecs] using this
 rw [ecsX_at cs i j y hy hj17]
 exact hj
section
variable {ops : Array Oper} {o : Oper} {rest : List Oper} {a : Act} {w : World} {Q : Exit → Act → World → Prop}
theorem wp_appGm {K : Act → World → Prop} (s x : Operand) (T e : TypeId) (z : Value) (sz by0 : Nat) (hT : Tryz.prog.underlying T = some (.slice e))
  (hinfo : (Tryz.prog.info? e).map (fun i => (i.zero, i.size, i.bytes)) = some (some z, sz, by0)) (hz : z.cells.size = sz) (hsz : 0 < sz) (hby : by0 ≤ 1000)
  (ho : o.op = .call { callee := .builtin .append, args := #[s, x], argTypes := #[T, T] })
  (base n : Nat) (v : Value) (xs us : List Value) (hs : a.eval s = v) (hown : w.ownsRow base e sz v n xs) (q off m c : Nat) (hus : us.length = m * sz)
  (hx : a.eval x = .slice (some ⟨q, off, none⟩) m c) (hq : w.rangeAt q off us) (hu : ∀ u ∈ us, u.oneCell' = true)
  (hlen : n + m ≤ 1000000) (hbase : base ≤ w.heap.size)
  (h : ∀ v' w', w'.ownsRow base e sz v' (n + m) (xs ++ us) → w.grownBy w' v.ownBlock → (v'.ownBlock = v.ownBlock ∨ v'.ownBlock = some w.heap.size) → K (a.put o.dst v') w') : o.wp Tryz.prog a w K Q := by
 obtain ⟨i0, hi, hz0, hz1, hz2⟩ := info_parts hinfo
 obtain ⟨v', w', hr, k2, k3, _, k5⟩ := run_append_own_at (P := Tryz.prog) w base T o.type e i0 z sz by0 hT hi hz0 hz1 hz2 hz hsz v n xs hown ⟨q, off, none⟩ m c us (by simpa using hus)
  (fun j y hj => by have := hq j y hj; rw [Addr.add_lit]; exact this) hu (by unfold maxLen; omega)
  (by have : (n + m) * by0 ≤ (n + m) * 1000 := Nat.mul_le_mul_left _ hby; omega) hbase
 unfold Oper.wp execOp
 simp only [ho, resolve, invoke, builtin, Sem.run_bind, Sem.run_pure, Result.andThen_ok, List.map_toArray, List.map_cons, List.map_nil, hs, hx, hr]
 exact h v' w' k2 k3 k5
theorem wpList_appGm (hgd : o.guard = none) (s x : Operand) (T e : TypeId) (z : Value) (sz by0 : Nat) (hT : Tryz.prog.underlying T = some (.slice e))
  (hinfo : (Tryz.prog.info? e).map (fun i => (i.zero, i.size, i.bytes)) = some (some z, sz, by0)) (hz : z.cells.size = sz) (hsz : 0 < sz) (hby : by0 ≤ 1000)
  (ho : o.op = .call { callee := .builtin .append, args := #[s, x], argTypes := #[T, T] })
  (base n : Nat) (v : Value) (xs us : List Value) (hs : a.eval s = v) (hown : w.ownsRow base e sz v n xs) (q off m c : Nat) (hus : us.length = m * sz)
  (hx : a.eval x = .slice (some ⟨q, off, none⟩) m c) (hq : w.rangeAt q off us) (hu : ∀ u ∈ us, u.oneCell' = true)
  (hlen : n + m ≤ 1000000) (hbase : base ≤ w.heap.size)
  (h : ∀ v' w', w'.ownsRow base e sz v' (n + m) (xs ++ us) → w.grownBy w' v.ownBlock → (v'.ownBlock = v.ownBlock ∨ v'.ownBlock = some w.heap.size) → wpList Tryz.prog ops Q rest (a.put o.dst v') w') : wpList Tryz.prog ops Q (o :: rest) a w :=
 wpList_plain hgd fun _ hK => wp_appGm s x T e z sz by0 hT hinfo hz hsz hby ho base n v xs us hs hown q off m c hus hx hq hu hlen hbase fun v' w' h2 h3 h4 => hK _ _ (h v' w' h2 h3 h4)
end
theorem EL.of_row {w : World} {base : Nat} {v : Value} {cs : List EntX} (hr : w.ownsRow base 52 17 v cs.length (cs.flatMap ecsX)) (h : ∀ y ∈ cs, EntAt w y) : EL w v (cs.map (·.e)) := by
 refine ⟨cs, rfl, h, ?_⟩
 rw [List.length_map]
 rcases row_openO hr with ⟨e, h0⟩ | ⟨g, cap, e, k1, k2, k3, k4, k5, k6⟩
 ·have : cs = [] := List.length_eq_zero_iff.1 h0
  subst this
  exact ⟨none, 0, e, Nat.le_refl _, by unfold maxLen; omega, fun h => absurd rfl h⟩
 ·refine ⟨_, cap, e, k3, k4, fun _ => ⟨g, 0, rfl, k2, fun j u hj => ?_⟩⟩
  have hjl := (List.getElem?_eq_some_iff.1 hj).1
  rw [ecsX_all] at hjl
  rw [Nat.zero_add, k5 j hjl]
  exact hj
end Go.Proofs.YthkpmlfaddlieaaGreatDoor
namespace Go.Proofs.YthkpmlfaddlieaaGreatDoor
open Go.RowKit Pl
section
variable {ops : Array Oper} {o : Oper} {rest : List Oper} {a : Act} {w : World} {Q : Exit → Act → World → Prop}
theorem wp_appII {K : Act → World → Prop} (s x : Operand)
  (ho : o.op = .call { callee := .builtin .append, args := #[s, x], argTypes := #[38, 38] })
  (base : Nat) (v : Value) (l : List It) (hs : a.eval s = v) (hown : IRow w base v l)
  (u : Value) (news : List It) (hx : a.eval x = u) (hsrc : IL w u news)
  (hlen : l.length + news.length ≤ 1099511627000) (hbase : base ≤ w.heap.size)
  (h : ∀ v' w', IRow w' base v' (l ++ news) → Below base w w' → K (a.put o.dst v') w') : o.wp Tryz.prog a w K Q := by
 obtain ⟨au, cu, hu, h1, h2, h3⟩ := hsrc
 by_cases hn : news = []
 ·subst hn
  obtain ⟨i0, hi, hz0, hz1, hz2⟩ := info_parts infoIt
  obtain ⟨va, vc, hv⟩ := hown.form
  have hle : l.length ≤ vc := by
   rcases hown.cells with ⟨e, e2⟩ | ⟨g, cap, e, _, _, h4, _⟩
   ·subst e2; simp
   ·rw [hv] at e; injection e with _ _ e; subst e; exact h4
  have hS : Src Tryz.prog i0.size 38 u 0 [] w := by
   subst hu
   cases au with
   | none => exact Src.ofNil w Tryz.underlying38 cu
   | some ad => exact Src.ofSlice w Tryz.underlying38 ad 0 cu [] (by simp) (fun j u h => by simp at h) (fun _ h => by cases h)
  have hr := run_append_nothing (P := Tryz.prog) w 38 38 o.type 203 i0 Tryz.underlying38 hi va l.length vc hle u hS
  unfold Oper.wp execOp
  simp only [ho, resolve, invoke, builtin, Sem.run_bind, Sem.run_pure, Result.andThen_ok, List.map_toArray, List.map_cons, List.map_nil, hs, hx, hv, hr]
  exact h _ w (by rw [List.append_nil, ← hv]; exact hown) (Below.refl _ _)
 ·obtain ⟨g, off, rfl, hg, hc⟩ := h3 hn
  exact wp_appI s x ho base v l hs hown g off news.length cu news (hx.trans hu) rfl hc hlen hbase h
theorem wpList_appII (hgd : o.guard = none) (s x : Operand)
  (ho : o.op = .call { callee := .builtin .append, args := #[s, x], argTypes := #[38, 38] })
  (base : Nat) (v : Value) (l : List It) (hs : a.eval s = v) (hown : IRow w base v l)
  (u : Value) (news : List It) (hx : a.eval x = u) (hsrc : IL w u news)
  (hlen : l.length + news.length ≤ 1099511627000) (hbase : base ≤ w.heap.size)
  (h : ∀ v' w', IRow w' base v' (l ++ news) → Below base w w' → wpList Tryz.prog ops Q rest (a.put o.dst v') w') : wpList Tryz.prog ops Q (o :: rest) a w :=
 wpList_plain hgd fun _ hK => wp_appII s x ho base v l hs hown u news hx hsrc hlen hbase fun v' w' h2 h3 => hK _ _ (h v' w' h2 h3)
end
theorem getD_takeI (l : List It) (k i : Nat) (hi : i < k) : (l.take k).getD i ([], []) = l.getD i ([], []) := by
 simp [List.getD_eq_getElem?_getD, List.getElem?_take, hi]
theorem getD_dropI (l : List It) (k i : Nat) : (l.drop k).getD i ([], []) = l.getD (k + i) ([], []) := by
 simp [List.getD_eq_getElem?_getD]
theorem IL.upto {w : World} {a : Option Addr} {c : Nat} {l : List It} (h : IL w (.slice a l.length c) l) (k : Nat) (hk : k ≤ l.length) : IL w (.slice a k c) (l.take k) := by
 obtain ⟨a', cap, h1, h2, h3, h5⟩ := h
 injection h1 with e1 _ e3
 subst e1 e3
 have hl : (l.take k).length = k := by simp; omega
 refine ⟨a, c, by rw [hl], by omega, h3, fun hn => ?_⟩
 obtain ⟨g, off, e, hg, hc⟩ := h5 (by intro e; rw [e] at hn; simp at hn)
 exact ⟨g, off, e, hg, fun i hi => by rw [getD_takeI _ _ _ (by omega)]; exact hc i (by omega)⟩
end Go.Proofs.YthkpmlfaddlieaaGreatDoor
namespace Go.Proofs.YthkpmlfaddlieaaGreatDoor
open Go.RowKit Go.Shelf Pl
def spcs (x : Spt) : List Value := .string ⟨List.toArray x.place⟩ :: .string ⟨List.toArray ((enc x.kind x.path x.val x.kid))⟩ :: .string ⟨List.toArray x.sum⟩ :: nd x.kind x.path x.val x.kid
theorem spcs_len (x : Spt) : (spcs x).length = 22 := by simp [spcs, nd_len]
theorem spcs_all : ∀ l : List Spt, (l.flatMap spcs).length = l.length * 22
 | [] => rfl
 | x :: r => by rw [List.flatMap_cons, List.length_append, spcs_len, spcs_all r, List.length_cons]; omega
theorem nd_one (kind : Int) (path val : Bs) (kid : Nat → Bs) : ∀ u ∈ nd kind path val kid, u.oneCell' = true := by
 intro u hu
 simp only [nd, ka, List.mem_cons, List.mem_map] at hu
 rcases hu with rfl | rfl | rfl | ⟨s, _, rfl⟩ <;> rfl
theorem spcs_one (x : Spt) : ∀ u ∈ spcs x, u.oneCell' = true := by
 intro u hu
 rcases List.mem_cons.1 hu with rfl | hu
 ·rfl
 rcases List.mem_cons.1 hu with rfl | hu
 ·rfl
 rcases List.mem_cons.1 hu with rfl | hu
 ·rfl
 exact nd_one _ _ _ _ u hu
def nilSp : Value := .agg (.string ⟨List.toArray []⟩ :: .string ⟨List.toArray []⟩ :: .string ⟨List.toArray []⟩ :: nd 0 [] [] noK).toArray
theorem infoSp : (Tryz.prog.info? 175).map (fun i => (i.zero, i.size, i.bytes)) = some (some nilSp, 22, 344) := by kernel_rfl
theorem row_node : RowT Tryz.prog 173 19 := RowT.mk' Tryz.underlying173 rfl (by kernel_rfl)
def SpL (w : World) (v : Value) (l : List Spt) : Prop :=
 ∃ a cap, v = .slice a l.length cap ∧ l.length ≤ cap ∧ cap ≤ maxLen ∧ (l ≠ [] → ∃ g off, a = some ⟨g, off, none⟩ ∧ g < w.heap.size ∧ w.rangeAt g off (l.flatMap spcs))
theorem SpL.keep {W w : World} {v : Value} {l : List Spt} (h : SpL W v l) (hb : Below W.heap.size W w) : SpL w v l := by
 obtain ⟨a, cap, h3, h4, h5, h6⟩ := h
 refine ⟨a, cap, h3, h4, h5, fun hn => ?_⟩
 obtain ⟨g, off, e, hg, hr⟩ := h6 hn
 exact ⟨g, off, e, Nat.lt_of_lt_of_le hg hb.size, rg_keep hr hg hb⟩
theorem SpL.nil (w : World) : SpL w (.slice none 0 0) [] := ⟨none, 0, rfl, Nat.le_refl _, by unfold maxLen; omega, fun h => absurd rfl h⟩
theorem SpL.form {w : World} {v : Value} {l : List Spt} (h : SpL w v l) : ∃ a c, v = .slice a l.length c := by
 obtain ⟨a, cap, h3, _⟩ := h; exact ⟨a, cap, h3⟩
theorem SpL.head {w : World} {a : Option Addr} {n c : Nat} {l : List Spt} (h : SpL w (.slice a n c) l) (hl : l ≠ []) : ∃ g off, a = some ⟨g, off, none⟩ ∧ g < w.heap.size ∧ w.cell? ⟨g, off + 2, none⟩ = some (.string ⟨List.toArray ((headS l))⟩) := by
 obtain ⟨a2, cap, h3, h4, h5, h6⟩ := h
 injection h3 with e1 _ _
 subst e1
 obtain ⟨g, off, e, hg, hr⟩ := h6 hl
 rcases l with _ | ⟨x, r⟩
 ·exact absurd rfl hl
 ·exact ⟨g, off, e, hg, hr 2 _ (by simp [spcs, headS])⟩
def SpRow (w : World) (base : Nat) (v : Value) (l : List Spt) : Prop := w.ownsRow base 175 22 v l.length (l.flatMap spcs)
theorem SpRow.nil (w : World) (base : Nat) : SpRow w base (.slice none 0 0) [] := ⟨rfl, .inl ⟨rfl, rfl⟩⟩
theorem SpRow.sp {w : World} {base : Nat} {v : Value} {l : List Spt} (h : SpRow w base v l) : SpL w v l := by
 rcases row_openO h with ⟨e, h0⟩ | ⟨g, cap, e, k1, k2, k3, k4, k5, k6⟩
 ·have : l = [] := List.length_eq_zero_iff.1 h0
  subst this; subst e
  exact SpL.nil w
 ·refine ⟨_, cap, e, k3, k4, fun _ => ⟨g, 0, rfl, k2, fun j u hj => ?_⟩⟩
  have hjl := (List.getElem?_eq_some_iff.1 hj).1
  rw [spcs_all] at hjl
  rw [Nat.zero_add, k5 j hjl]
  exact hj
theorem SpRow.own {w : World} {base : Nat} {v : Value} {l : List Spt} (h : SpRow w base v l) : ∀ k, v.ownBlock = some k → base ≤ k := by
 intro k hk
 rcases row_openO h with ⟨rfl, _⟩ | ⟨g, cap, rfl, k1, _⟩
 ·cases hk
 ·cases hk; exact k1
theorem SpRow.low {w : World} {b c : Nat} {v : Value} {l : List Spt} (h : SpRow w b v l) (hb : c ≤ b) : SpRow w c v l := by
 refine ⟨h.1, h.2.imp id ?_⟩
 rintro ⟨g, cap, cur, hv, h1, h2⟩
 exact ⟨g, cap, cur, hv, Nat.le_trans hb h1, h2⟩
theorem SpRow.mod {W w : World} {b : Nat} {v : Value} {l : List Spt} (h : SpRow W b v l) {m : List Nat} (hm : Mod m W w) (hn : ∀ k ∈ m, k < b) : SpRow w b v l := by
 refine ⟨h.1, h.2.imp id ?_⟩
 rintro ⟨g, cap, cur, hv, h1, h2, h3⟩
 subst hv
 have hg : g < W.heap.size := by
  rcases Nat.lt_or_ge g W.heap.size with hlt | hge
  ·exact hlt
  ·rw [Array.getElem?_eq_none hge] at h2; cases h2
 exact ⟨g, cap, cur, rfl, h1, (hm.block g hg (fun hx => by have := hn g hx; omega)).trans h2, h3⟩
theorem SpRow.keep {W w : World} {b : Nat} {v : Value} {l : List Spt} (h : SpRow W b v l) (hb : Below W.heap.size W w) : SpRow w b v l := by
 refine ⟨h.1, h.2.imp id ?_⟩
 rintro ⟨g, cap, cur, hv, h1, h2, h3⟩
 subst hv
 have hg : g < W.heap.size := by
  rcases Nat.lt_or_ge g W.heap.size with hlt | hge
  ·exact hlt
  ·rw [Array.getElem?_eq_none hge] at h2; cases h2
 exact ⟨g, cap, cur, rfl, h1, (hb.block g hg).trans h2, h3⟩
section
variable {ops : Array Oper} {o : Oper} {rest : List Oper} {a : Act} {w : World} {Q : Exit → Act → World → Prop}
theorem wp_appSp {K : Act → World → Prop} (s x : Operand)
  (ho : o.op = .call { callee := .builtin .append, args := #[s, x], argTypes := #[169, 169] })
  (base : Nat) (v : Value) (l : List Spt) (hs : a.eval s = v) (hown : SpRow w base v l)
  (u : Value) (news : List Spt) (hx : a.eval x = u) (hsrc : SpL w u news)
  (hlen : l.length + news.length ≤ 1000000) (hbase : base ≤ w.heap.size)
  (h : ∀ v' w', SpRow w' base v' (l ++ news) → Below base w w' → K (a.put o.dst v') w') : o.wp Tryz.prog a w K Q := by
 obtain ⟨au, cu, hu, h1, h2, h3⟩ := hsrc
 by_cases hn : news = []
 ·subst hn
  obtain ⟨i0, hi, hz0, hz1, hz2⟩ := info_parts infoSp
  obtain ⟨va, vc, hv, hle⟩ : ∃ va vc, v = .slice va l.length vc ∧ l.length ≤ vc := by
   rcases row_openO hown with ⟨e, h0⟩ | ⟨g, cap, e, k1, k2, k3, k4, k5, k6⟩
   ·exact ⟨none, 0, by rw [h0]; exact e, by omega⟩
   ·exact ⟨_, cap, e, k3⟩
  have hS : Src Tryz.prog i0.size 169 u 0 [] w := by
   subst hu
   cases au with
   | none => exact Src.ofNil w Tryz.underlying169 cu
   | some ad => exact Src.ofSlice w Tryz.underlying169 ad 0 cu [] (by simp) (fun j u h => by simp at h) (fun _ h => by cases h)
  have hr := run_append_nothing (P := Tryz.prog) w 169 169 o.type 175 i0 Tryz.underlying169 hi va l.length vc hle u hS
  unfold Oper.wp execOp
  simp only [ho, resolve, invoke, builtin, Sem.run_bind, Sem.run_pure, Result.andThen_ok, List.map_toArray, List.map_cons, List.map_nil, hs, hx, hv, hr]
  exact h _ w (by rw [List.append_nil, ← hv]; exact hown) (Below.refl _ _)
 ·obtain ⟨g, off, rfl, hg, hc⟩ := h3 hn
  refine wp_appGm s x 169 175 nilSp 22 344 Tryz.underlying169 infoSp rfl (by decide) (by decide) ho base l.length v (l.flatMap spcs) (news.flatMap spcs) hs hown g off news.length cu (spcs_all news) (hx.trans hu) hc
   (fun u hu => by rw [List.mem_flatMap] at hu; obtain ⟨y, _, hu⟩ := hu; exact spcs_one y u hu) hlen hbase (fun v' w' k1 k2 _ => h v' w' ?_ (grown_below k2 hbase hown.own))
  unfold SpRow
  rw [List.length_append, List.flatMap_append]
  exact k1
theorem wpList_appSp (hgd : o.guard = none) (s x : Operand)
  (ho : o.op = .call { callee := .builtin .append, args := #[s, x], argTypes := #[169, 169] })
  (base : Nat) (v : Value) (l : List Spt) (hs : a.eval s = v) (hown : SpRow w base v l)
  (u : Value) (news : List Spt) (hx : a.eval x = u) (hsrc : SpL w u news)
  (hlen : l.length + news.length ≤ 1000000) (hbase : base ≤ w.heap.size)
  (h : ∀ v' w', SpRow w' base v' (l ++ news) → Below base w w' → wpList Tryz.prog ops Q rest (a.put o.dst v') w') : wpList Tryz.prog ops Q (o :: rest) a w :=
 wpList_plain hgd fun _ hK => wp_appSp s x ho base v l hs hown u news hx hsrc hlen hbase fun v' w' h2 h3 => hK _ _ (h v' w' h2 h3)
end
theorem sp_one {w : World} {b : Nat} (x : Spt) (h : Blk w b (spcs x).toArray) : SpL w (.slice (some ⟨b, 0, none⟩) 1 1) [x] :=
 ⟨_, 1, rfl, Nat.le_refl _, by unfold maxLen; omega, fun _ => ⟨b, 0, rfl, h.lt, by
  have := h.range
  simpa [List.flatMap_cons] using this⟩⟩
def SpotO (W : World) (l : List Spt) (e : Ending) (w' : World) : Prop := ∃ u, e = .returned u ∧ SpRow w' W.heap.size u l ∧ Below W.heap.size W w'
theorem spot_any (place : Bs) (kind : Int) (path val : Bs) (kid : Nat → Bs) (hf : fineR kind path val kid = true) (hp : path.length ≤ 1000) (v : Value) (l : List Spt) (hl : l.length ≤ 900000) (w : World) (hv : SpL w v l) :
  Calls Tryz.prog 156 #[.string ⟨place.toArray⟩, .agg (nd kind path val kid).toArray, v] w (SpotO w (⟨place, kind, path, val, kid⟩ :: l)) := by
 have B0 := Blk.new w (nd kind path val kid).toArray 173
 have hb0 : Below w.heap.size w (w.alloc (.cells (nd kind path val kid).toArray 173)) := Below.allocS (Below.refl _ _) _
 have q1 := fun (X : World) => writ_any kind path val kid hf X
 have q2 := fun (X : World) => rdigest_any kind path val kid hp X
 have hs : spcs ⟨place, kind, path, val, kid⟩ = .string ⟨place.toArray⟩ :: .string ⟨List.toArray ((enc kind path val kid))⟩ :: .string ⟨List.toArray ((dgP kind path val kid))⟩ :: nd kind path val kid := rfl
 generalize ht : enc kind path val kid = tx at *
 generalize hd : dgP kind path val kid = dg at *
 have HS := Lib.hid hs
 have hv1 := hv.keep hb0
 clear hs ht hd hf hp hv
 go_enter Tryz.func156, Tryz.ntmps156
 go_wp2_with fail
 have hwl : w.heap.size < (w.alloc (.cells (nd kind path val kid).toArray 173)).heap.size := by simp
 generalize w.alloc (.cells (nd kind path val kid).toArray 173) = W at *
 refine wpH_start (by kernel_rfl) (fun hS => ?_)
 (refine hP 0 ?_ ⟨some 8, .move (.tmp 7), 169, "", #[], none⟩ hS ?_ ?_; rotate_left; focus (intro w; go_simp; try with_reducible rfl))
 try simp only [pna, pnb, pnc, pnd, pne]
 (refine hP 1 ?_ ⟨some 9, .move (.tmp 0), 9, "", #[], none⟩ hS ?_ ?_; rotate_left; focus (intro w; go_simp; try with_reducible rfl))
 try simp only [pna, pnb, pnc, pnd, pne]
 refine wpH_row row_node 2 (oi := ⟨some 10,.load 173 (.tmp 4),173,"ref.go:100",#[],none⟩) rfl (by kernel_rfl) (by kernel_rfl) (by kernel_rfl) (by rfl) hS (vs := nd kind path val kid) (fun _ _ _ h => h) (.tmp 4) rfl rfl (nd_len _ _ _ _) (fun w' hb2 => B0.keep hb2) ?_
 try simp only [pna, pnb, pnc, pnd, pne]
 refine wpH_row row_node 4 (oi := ⟨some 12,.load 173 (.tmp 4),173,"ref.go:100",#[],none⟩) rfl (by kernel_rfl) (by kernel_rfl) (by kernel_rfl) (by rfl) hS (vs := nd kind path val kid) (fun _ _ _ h => h) (.tmp 4) rfl rfl (nd_len _ _ _ _) (fun w' hb2 => B0.keep hb2) ?_
 try simp only [pna, pnb, pnc, pnd, pne]
 refine wpH_row row_node 6 (oi := ⟨some 14,.load 173 (.tmp 4),173,"ref.go:100",#[],none⟩) rfl (by kernel_rfl) (by kernel_rfl) (by kernel_rfl) (by rfl) hS (vs := nd kind path val kid) (fun _ _ _ h => h) (.tmp 4) rfl rfl (nd_len _ _ _ _) (fun w' hb2 => B0.keep hb2) ?_
 try simp only [pna, pnb, pnc, pnd, pne]
 refine wpH_call 3 (oi := ⟨some 11,.call { callee := .value (.func 170), args := #[.tmp 10], argTypes := #[173] },9,"ref.go:100",#[⟨2,.data⟩],none⟩) rfl (by kernel_rfl) (by rfl) (q1 _) ?_ ?_
 ·(go_simp; try rfl)
 rintro e w' ⟨rfl, hbx⟩
 refine ⟨_, rfl, hS.trans (hbx.mono hS.size), ?_⟩
 replace hS := hS.trans (hbx.mono hS.size)
 try simp only [pna, pnb, pnc, pnd, pne]
 refine wpH_call 5 (oi := ⟨some 13,.call { callee := .value (.func 171), args := #[.tmp 12], argTypes := #[173] },9,"ref.go:100",#[⟨4,.data⟩, ⟨3,.chain⟩],none⟩) rfl (by kernel_rfl) (by rfl) (q2 _) ?_ ?_
 ·(go_simp; try rfl)
 rintro e w' ⟨rfl, hbx⟩
 refine ⟨_, rfl, hS.trans (hbx.mono hS.size), ?_⟩
 replace hS := hS.trans (hbx.mono hS.size)
 try simp only [pna, pnb, pnc, pnd, pne]
 refine wpH_load 7 (.agg (spcs ⟨place, kind, path, val, kid⟩).toArray) (oi := ⟨some 15,.build 175 #[(0, .tmp 9), (1, .tmp 11), (2, .tmp 13), (3, .tmp 14)],175,"ref.go:100",#[⟨1,.data⟩, ⟨3,.data⟩, ⟨5,.data⟩, ⟨6,.data⟩],none⟩) rfl (by kernel_rfl) (by kernel_rfl) (by kernel_rfl) (by rfl) hS (fun _ _ _ h => h) (fun w' hb2 => (by rw [HS.out]; kernel_rfl)) ?_
 try simp only [pna, pnb, pnc, pnd, pne]
 refine wpH_op 8 (oi := ⟨some 16,.buildSlice 169 1 #[(0, .tmp 15)],169,"ref.go:100",#[⟨7,.data⟩],none⟩) rfl (by kernel_rfl) (by rfl) ?_
 refine wp_newK 175 (spcs ⟨place, kind, path, val, kid⟩).toArray (fun k => .slice (some ⟨k, 0, none⟩) 1 1) (fun W2 => (by kernel_rfl)) ?_
 intro k3 w3 hk3 hh3 hl3 hb3
 refine ⟨hS.trans (hb3.mono hS.size), ?_⟩
 replace hS := hS.trans (hb3.mono hS.size)
 try simp only [pna, pnb, pnc, pnd, pne]
 refine wpH_op 9 (oi := ⟨some 17,.call { callee := .builtin Builtin.append, args := #[.tmp 8, .tmp 16], argTypes := #[169, 169] },169,"ref.go:100",#[⟨0,.data⟩, ⟨8,.data⟩, ⟨5,.chain⟩],none⟩) rfl (by kernel_rfl) (by rfl) ?_
 refine wp_appSp (.tmp 8) (.tmp 16) rfl W.heap.size (.slice none 0 0) [] rfl (SpRow.nil _ _) _ [⟨place, kind, path, val, kid⟩] rfl (sp_one _ (Blk.of_heap hh3 hl3)) (by simp) hS.size ?_
 intro v5 w5 hr5 hb5
 refine ⟨hS.trans hb5, ?_⟩
 replace hS := hS.trans hb5
 try simp only [pna, pnb, pnc, pnd, pne]
 (refine hP 10 ?_ ⟨some 7, .assign (.tmp 17), 169, "", #[], none⟩ hS ?_ ?_; rotate_left; focus (intro w; go_simp; try with_reducible rfl))
 try simp only [pna, pnb, pnc, pnd, pne]
 refine wpAnyH_done (by kernel_rfl) ?_ _
 rw [List.nil_append] at hr5
 clear hh3 hl3 hk3 hb3 hbx B0 HS q1 q2
 go_wp2_with (first
 | (at_builtin; refine wpList_appSp rfl (.tmp 18) (.tmp 19) rfl w.heap.size _ [⟨place, kind, path, val, kid⟩] rfl (hr5.low (Nat.le_of_lt hwl)) _ l rfl (hv1.keep hS) (by simp; omega) (by have := hS.size; omega) ?_; intro v6 w6 hr6 hb6)
 | fail)
 go_ret
 exact ⟨v6, rfl, hr6, (hb0.trans (hS.mono (Nat.le_of_lt hwl))).trans hb6⟩
end Go.Proofs.YthkpmlfaddlieaaGreatDoor
namespace Go.Proofs.YthkpmlfaddlieaaGreatDoor
open Go.RowKit Pl
namespace Pl
theorem common_eqR : ∀ (k : Nat) (a b : Bs), a.take k = b.take k → k ≤ a.length → k ≤ b.length → (∀ (h1 : k < a.length) (h2 : k < b.length), a[k] ≠ b[k]) → common a b = k
 | 0, [], b, _, _, _, _ => by simp [common]
 | 0, x :: r, [], _, _, _, _ => by simp [common]
 | 0, x :: r, y :: s, _, _, _, h => by
  have := h (by simp) (by simp)
  simp at this
  simp [common, this]
 | k + 1, [], b, _, h, _, _ => by simp at h
 | k + 1, x :: r, [], _, _, h, _ => by simp at h
 | k + 1, x :: r, y :: s, h1, h2, h3, h4 => by
  simp at h1 h2 h3
  obtain ⟨rfl, h1⟩ := h1
  have := common_eqR k r s h1 h2 h3 (fun a b => by
   have := h4 (by simp; omega) (by simp; omega)
   simpa using this)
  simp [common, this]
end Pl
theorem rcommon_any (a b : Bs) (ha : a.length ≤ 9223372036854775806) (hb : b.length ≤ 9223372036854775806) (w : World) :
  Calls Tryz.prog 157 #[.string ⟨a.toArray⟩, .string ⟨b.toArray⟩] w fun e w' => e = .returned (.int .i64 ((common a b : Nat))) ∧ ∃ n, w' = w.drewN n := by
 generalize hc : common a b = c
 have HC := Lib.hid hc
 clear hc
 go_enter Tryz.func157, Tryz.ntmps157
 go_wp2_with fail
 go_loopw [5] (fun s5 wr => ∃ k : Nat, s5 = .int .i64 k ∧ k ≤ a.length ∧ k ≤ b.length ∧ Hid (a.take k = b.take k) ∧ ∃ n, wr = w.drewN n) (fun s5 _ => a.length - (intOf s5).toNat)
 case atStart => exact ⟨0, rfl, by omega, by omega, Lib.hid (by simp), 0, rfl⟩
 case round =>
  obtain ⟨k, rfl, hka, hkb, HT, nq, rfl⟩ := hrel
  by_cases h1 : k < a.length
  ·have d1 : decide ((k : Int) < (a.length : Int)) = true := by simp; omega
   by_cases h2 : k < b.length
   ·have d2 : decide ((k : Int) < (b.length : Int)) = true := by simp; omega
    have i1 : (k : Int) < (a.length : Int) := by omega
    have i2 : (k : Int) < (b.length : Int) := by omega
    have hx := a[k].toNat_lt
    have hy := b[k].toNat_lt
    have HS : Hid (a.take (k + 1) = b.take (k + 1) ↔ a[k] = b[k]) := Lib.hid (by
     rw [List.take_succ_eq_append_getElem h1, List.take_succ_eq_append_getElem h2, HT.out, List.append_cancel_left_eq]
     simp)
    by_cases h3 : a[k] = b[k]
    ·have HT2 := Lib.hid (HS.out.2 h3)
     have e3 : ((a[k].toNat : Int) == (b[k].toNat : Int)) = true := by rw [h3]; simp
     clear h3 HS
     go_wp2_with fail
     go_quiet (fail)
     go_wp2_with fail
     exact ⟨⟨k + 1, by go_num, by omega, by omega, HT2, _, rfl⟩, by simp [intOf]; omega⟩
    ·have e3 : ((a[k].toNat : Int) == (b[k].toNat : Int)) = false := by
      rw [beq_eq_false_iff_ne]
      intro e
      exact h3 (UInt8.toNat_inj.1 (by omega))
     have HZ : Hid (c = k) := Lib.hid (by rw [← HC.out]; exact common_eqR k a b HT.out hka hkb (fun _ _ => h3))
     clear h3 HS
     go_wp2_with fail
     go_quiet (fail)
     go_wp2_with fail
     go_ret
     exact ⟨by rw [HZ.out]; rfl, _, World.drewN_drewN _ _ _⟩
   ·have d2 : decide ((k : Int) < (b.length : Int)) = false := by simp; omega
    have HZ : Hid (c = k) := Lib.hid (by rw [← HC.out]; exact common_eqR k a b HT.out hka hkb (fun _ h => absurd h h2))
    go_wp2_with fail
    go_quiet (fail)
    go_wp2_with fail
    go_ret
    exact ⟨by rw [HZ.out]; rfl, _, World.drewN_drewN _ _ _⟩
  ·have d1 : decide ((k : Int) < (a.length : Int)) = false := by simp; omega
   have HZ : Hid (c = k) := Lib.hid (by rw [← HC.out]; exact common_eqR k a b HT.out hka hkb (fun h => absurd h h1))
   go_wp2_with fail
   go_quiet (fail)
   go_wp2_with fail
   go_ret
   exact ⟨by rw [HZ.out]; rfl, _, World.drewN_drewN _ _ _⟩
namespace Pl
theorem less_take (c : Nat) (l : List It) (i : Nat) (hi : i < l.length) : lessI c (l.take (i + 1)) = lessI c (l.take i) ++ [((l.getD i ([], [])).1.drop c, (l.getD i ([], [])).2)] := by
 unfold lessI
 rw [takeI l i hi, List.map_append]
 rfl
end Pl
def IRowO (W : World) (l : List It) (e : Ending) (w' : World) : Prop := ∃ u, e = .returned u ∧ IRow w' W.heap.size u l ∧ Below W.heap.size W w'
theorem rless_any (v : Value) (l : List It) (c : Nat) (hc : ∀ i, i < l.length → c ≤ ((l.getD i ([], [])).1).length) (hb : ∀ i, i < l.length → ((l.getD i ([], [])).1).length ≤ 1000) (hl : l.length ≤ 1000000) (w : World) (hv : IL w v l) :
  Calls Tryz.prog 158 #[v, .int .i64 c] w (IRowO w (lessI c l)) := by
 obtain ⟨va, vc, rfl⟩ := hv.form
 have HV := Lib.hid hv
 have HC := Lib.hid hc
 have HB := Lib.hid hb
 clear hv hc hb
 go_enter Tryz.func158, Tryz.ntmps158
 go_wp2_with fail
 go_loopw [5, 6] (fun s5 s6 wr => ∃ i : Nat, s6 = .int .i64 i ∧ i ≤ l.length ∧ Hid (IRow wr w.heap.size s5 (lessI c (l.take i))) ∧ Below w.heap.size w wr) (fun _ s6 _ => l.length - (intOf s6).toNat)
 case atStart => exact ⟨0, rfl, Nat.zero_le _, Lib.hid (by simpa [lessI] using IRow.nil _ _), Below.refl _ _⟩
 case round =>
  obtain ⟨i, rfl, hi, HR, hb⟩ := hrel
  rename_i wr
  by_cases hlt : i < l.length
  ·have i1 : decide ((i : Int) < (l.length : Int)) = true := by simp; omega
   have i2 : (i : Int) < (l.length : Int) := by omega
   obtain ⟨g, off, e1, hg, c1, c2⟩ := (HV.out.keep hb).at i hlt
   have hcl := HC.out i hlt
   have hbl := HB.out i hlt
   have HT := Lib.hid (less_take c l i hlt)
   have HLL : Hid ((lessI c (l.take i)).length = i) := Lib.hid (by rw [less_len, List.length_take]; omega)
   generalize l.getD i ([], []) = x at *
   obtain ⟨xk, xv⟩ := x
   simp only at c1 c2 hcl hbl HT
   subst e1
   have hci : (c : Int) ≤ (xk.length : Int) := by omega
   rw [show xk.drop c = (xk.drop c).take (xk.length - c) from (List.take_of_length_le (by rw [List.length_drop]; omega)).symm] at HT
   go_wp2_with fail
   go_region_law (refine step_appI rfl (.tmp 13) (.tmp 27) rfl w.heap.size _ (lessI c (l.take i)) rfl (HR.out.keep (Below.allocS (Below.refl _ _) _).drew) wr.heap.size 0 1 1 [((xk.drop c).take (xk.length - c), xv)] rfl rfl (isrc1 wr ((xk.drop c).take (xk.length - c)) xv 203) (by rw [HLL.out]; omega) (by have := hb.size; simp; omega) ?_; rintro v' w2 hB2 hb2)
   all_goals go_wp2_with fail
   all_goals exact ⟨⟨i + 1, by go_num, by omega, Lib.hid (by rw [HT.out]; exact hB2), (Below.allocS hb _).drew.trans hb2⟩, by simp [intOf] <;> omega⟩
  ·have e1 : i = l.length := by omega
   subst e1
   have i1 : decide ((l.length : Int) < (l.length : Int)) = false := by simp
   have HA' : Hid (lessI c (l.take l.length) = lessI c l) := Lib.hid (by rw [List.take_length])
   go_wp2_with fail
   go_ret
   exact ⟨_, rfl, by rw [← HA'.out]; exact HR.out, hb⟩
end Go.Proofs.YthkpmlfaddlieaaGreatDoor
