/- Members, MRow, OfP, Num, ShaP, Sha. -/
import Derived.Maps.Views
import Derived.Test.YtbnjhfkmdejeaaaDoorRows
import Derived.Test.YtbnjhfkmdejeaaaDoorChecked
import Derived.Deep.MidRow
import Derived.Test.YtbnjhfkmdejeaaaDoorMg1
import Derived.Test.YtbnjhfkmdejeaaaDoorMg2
set_option linter.unnecessarySimpa false

/- Sets of validators: lists of members that are read; may a set be? -/
set_option linter.unusedSimpArgs false
set_option linter.unusedVariables false
namespace Go.Proofs.YtbnjhfkmdejeaaaDoor
open Go.RowKit Pl

theorem Below.nm {B : Nat} {a w : World} (_ : Below B a w) : ∃ w' : World, w' = w := ⟨w, rfl⟩
/-- The order of texts. -/
def leS (a b : Bs) : Bool := Op.bytesLess a b || a == b
@[go_sem high] theorem leq_S (t : TypeId) (a b : Bs) : binOp .leq t (.string ⟨List.toArray (a)⟩) (.string ⟨List.toArray (b)⟩) = pure (.bool (leS a b)) := by
  rw [binOp_string_leq]
  unfold leS
  rw [Lib.toList_data, Lib.toList_data]

/-- The cells of a list of members. -/
def MSrc (w : World) (g o : Nat) (l : List (Bs × Int)) : Prop := ∀ i, i < l.length → w.cell? ⟨g, o + i * 2, none⟩ = some (.string ⟨List.toArray ((l.getD i ([], 0)).1)⟩) ∧ w.cell? ⟨g, o + i * 2 + 1, none⟩ = some (.int .i64 ((l.getD i ([], 0)).2))
/-- v reads as these members. -/
def MS (w : World) (v : Value) (l : List (Bs × Int)) : Prop :=
  ∃ a cap, v = .slice a l.length cap ∧ l.length ≤ cap ∧ cap ≤ maxLen ∧ (l ≠ [] → ∃ g off, a = some ⟨g, off, none⟩ ∧ g < w.heap.size ∧ MSrc w g off l)
theorem MS.keep {W w : World} {v : Value} {l : List (Bs × Int)} (h : MS W v l) (hb : Below W.heap.size W w) : MS w v l := by
  obtain ⟨a, cap, h1, h2, h3, h4⟩ := h
  refine ⟨a, cap, h1, h2, h3, fun hl => ?_⟩
  obtain ⟨g, off, e, hg, hc⟩ := h4 hl
  exact ⟨g, off, e, Nat.lt_of_lt_of_le hg hb.size, fun i hi => ⟨(hb.cell (p := ⟨g, off + i * 2, none⟩) hg).trans (hc i hi).1, (hb.cell (p := ⟨g, off + i * 2 + 1, none⟩) hg).trans (hc i hi).2⟩⟩
theorem MS.form {w : World} {v : Value} {l : List (Bs × Int)} (h : MS w v l) : ∃ a c, v = .slice a l.length c := by
  obtain ⟨a, cap, h1, _⟩ := h
  exact ⟨a, cap, h1⟩
theorem MS.small {w : World} {v : Value} {l : List (Bs × Int)} (h : MS w v l) : l.length ≤ 9223372036854775807 := by
  obtain ⟨a, cap, h1, h2, h3, _⟩ := h
  unfold maxLen at h3; omega
theorem MS.at {w : World} {a : Option Addr} {c : Nat} {l : List (Bs × Int)} (h : MS w (.slice a l.length c) l) (i : Nat) (hi : i < l.length) :
    ∃ g off, a = some ⟨g, off, none⟩ ∧ g < w.heap.size ∧ w.cell? ⟨g, off + i * 2, none⟩ = some (.string ⟨List.toArray ((l.getD i ([], 0)).1)⟩) ∧ w.cell? ⟨g, off + i * 2 + 1, none⟩ = some (.int .i64 ((l.getD i ([], 0)).2)) := by
  obtain ⟨a', cap, h1, _, _, h5⟩ := h
  injection h1 with h1 _ _
  obtain ⟨g, off, e, hg, hc⟩ := h5 (by intro e; rw [e] at hi; simp at hi)
  exact ⟨g, off, h1.trans e, hg, (hc i hi).1, (hc i hi).2⟩

namespace Pl
/-- May the members be, behind one of this name? -/
def okM : Bs → List (Bs × Int) → Bool
  | _, [] => true
  | z, (n, p) :: r => !(decide ((6 : Int) < (n.length : Int)) || leS n z || decide (p < 1) || decide (1000 < p)) && okM n r
def chkM (l : List (Bs × Int)) : Bool := decide (l.length ≠ 0) && decide (l.length ≤ 7) && okM [] l
def setI (b : Bool) : Int := if b then 0 else 50
/-- The name of the one ahead. -/
def lastN (l : List (Bs × Int)) : Nat → Bs
  | 0 => []
  | i + 1 => (l.getD i ([], 0)).1
theorem drop_getD (l : List (Bs × Int)) (i : Nat) (hi : i < l.length) : l.drop i = l.getD i ([], 0) :: l.drop (i + 1) := by
  rw [List.drop_eq_getElem_cons hi, List.getD_eq_getElem?_getD, List.getElem?_eq_getElem hi]
  rfl
end Pl

set_option maxRecDepth 100000 in
set_option maxHeartbeats 2000000 in
theorem mcheck_any (v : Value) (l : List (Bs × Int)) (w : World) (hv : MS w v l) :
    Calls Tryd.prog 58 #[v] w fun e w' => e = .returned (.int .i64 (setI (chkM l))) ∧ Below w.heap.size w w' := by
  generalize hr : setI (chkM l) = r
  have HR := Lib.hid hr
  clear hr
  obtain ⟨a, c, rfl⟩ := hv.form
  have hm := hv.small
  have HV := Lib.hid hv
  by_cases h0 : l.length = 0
  · rw [h0]
    clear HV hv
    go_enter Tryd.func58, Tryd.ntmps58
    go_wp2_with fail
    all_goals (go_ret; refine ⟨?_, Below.refl _ _⟩; rw [← HR.out]; simp [chkM, h0, setI])
  · by_cases h7 : 7 < l.length
    · have hd : decide ((7 : Int) < (l.length : Int)) = true := by simp; omega
      have hd0 : ((l.length : Int) == 0) = false := by rw [beq_eq_false_iff_ne]; omega
      clear HV hv
      go_enter Tryd.func58, Tryd.ntmps58
      go_wp2_with fail
      all_goals (go_ret; refine ⟨?_, Below.refl _ _⟩; rw [← HR.out]; have : ¬ l.length ≤ 7 := (by omega); simp [chkM, this, setI])
    · have hd : decide ((7 : Int) < (l.length : Int)) = false := by simp; omega
      have hd0 : ((l.length : Int) == 0) = false := by rw [beq_eq_false_iff_ne]; omega
      have HR2 : Hid (setI (okM [] l) = r) := Lib.hid (by rw [← HR.out]; have : l.length ≤ 7 := (by omega); simp [chkM, this, h0])
      clear HR hv h0
      go_enter Tryd.func58, Tryd.ntmps58
      go_wp2_with fail
      go_loopw [3, 16] (fun s3 s16 wr => ∃ i : Nat, i ≤ l.length ∧ s16 = .int .i64 i ∧ s3 = .string ⟨List.toArray (lastN l i)⟩ ∧ Hid (setI (okM (lastN l i) (l.drop i)) = r) ∧ Below w.heap.size w wr) (fun _ s16 _ => l.length - (intOf s16).toNat)
      case atStart => exact ⟨0, by omega, rfl, rfl, HR2, Below.refl _ _⟩
      case round =>
        obtain ⟨i, hi, rfl, rfl, HI, hb⟩ := hrel
        obtain ⟨wq, h⟩ := Below.nm hb
        subst h
        by_cases hlt : i < l.length
        · obtain ⟨g, off, rfl, hg, c1, c2⟩ := (HV.out.keep hb).at i hlt
          have hi2 := HI.out
          rw [drop_getD l i hlt] at hi2
          have hnx : lastN l (i + 1) = (l.getD i ([], 0)).1 := rfl
          generalize hx : l.getD i ([], 0) = x at *
          obtain ⟨n, p⟩ := x
          simp only at c1 c2 hnx
          unfold okM at hi2
          generalize lastN l i = z at *
          go_wp2_with fail
          all_goals first
            | (refine ⟨⟨i + 1, by omega, by go_num, by rw [hnx], Lib.hid ?_, Below.allocS hb _⟩, by simp [intOf]; omega⟩
               rw [hnx, ← hi2]
               simp_all [setI])
            | (go_ret; refine ⟨?_, Below.allocS hb _⟩; rw [← hi2]; simp_all [setI] <;> (rw [if_neg (by omega)] at hi2; exact hi2))
        · obtain rfl : i = l.length := by omega
          go_wp2_with fail
          all_goals (go_ret; refine ⟨?_, hb⟩; rw [← HI.out]; simp [okM, setI])

end Go.Proofs.YtbnjhfkmdejeaaaDoor

/- Slices of members that a call itself made: append, spoil; lists held against one another. -/
set_option linter.unusedSimpArgs false
set_option linter.unusedVariables false
namespace Go.Proofs.YtbnjhfkmdejeaaaDoor
open Go.RowKit Pl

theorem infoMem : (Tryd.prog.info? 77).map (fun i => (i.zero, i.size, i.bytes)) = some (some (.agg #[.string ⟨#[]⟩, .int .i64 0]), 2, 24) := by kernel_rfl

def mv : List (Bs × Int) → List Value
  | [] => []
  | x :: r => .string ⟨List.toArray (x.1)⟩ :: .int .i64 (x.2) :: mv r
theorem mv_len (l : List (Bs × Int)) : (mv l).length = l.length * 2 := by
  induction l with
  | nil => rfl
  | cons x r ih => simp only [mv, List.length_cons, ih]; omega
theorem mv_app (a b : List (Bs × Int)) : mv (a ++ b) = mv a ++ mv b := by
  induction a with
  | nil => rfl
  | cons x r ih => simp [mv, ih]
theorem mv_at : ∀ (l : List (Bs × Int)) (i : Nat), i < l.length → (mv l)[i * 2]? = some (.string ⟨List.toArray ((l.getD i ([], 0)).1)⟩) ∧ (mv l)[i * 2 + 1]? = some (.int .i64 ((l.getD i ([], 0)).2))
  | x :: r, 0, _ => ⟨rfl, rfl⟩
  | x :: r, i + 1, hi => by
    have h := mv_at r i (by simpa using hi)
    rw [show (i + 1) * 2 = i * 2 + 1 + 1 from by omega]
    simpa [mv] using h
theorem mone : ∀ (l : List (Bs × Int)), ∀ u ∈ mv l, u.oneCell' = true
  | [], u, h => by simp [mv] at h
  | x :: r, u, h => by
    simp only [mv, List.mem_cons] at h
    rcases h with rfl | rfl | h
    · rfl
    · rfl
    · exact mone r u h

/-- v is nil, or a slice of a block from base on, with these members. -/
def MRow (w : World) (base : Nat) (v : Value) (l : List (Bs × Int)) : Prop := w.ownsRow base 77 2 v l.length (mv l)
theorem MRow.nil (w : World) (base : Nat) : MRow w base (.slice none 0 0) [] := ⟨rfl, .inl ⟨rfl, rfl⟩⟩
theorem MRow.cells {w : World} {base : Nat} {v : Value} {l : List (Bs × Int)} (h : MRow w base v l) :
    (v = .slice none 0 0 ∧ l = []) ∨ ∃ g cap, v = .slice (some ⟨g, 0, none⟩) l.length cap ∧ base ≤ g ∧ g < w.heap.size ∧ l.length ≤ cap ∧ cap ≤ maxLen ∧ MSrc w g 0 l ∧ ∀ o, w.frozen? ⟨g, o, none⟩ = false := by
  rcases h.2 with ⟨h1, h2⟩ | ⟨g, cap, cur, hv, hb, hg, hn, hm, hc, ht⟩
  · exact .inl ⟨h1, List.length_eq_zero_iff.1 h2⟩
  · refine .inr ⟨g, cap, hv, hb, ?_, hn, hm, fun i hi => ?_, fun o => ?_⟩
    · rcases Nat.lt_or_ge g w.heap.size with hlt | hge
      · exact hlt
      · rw [Array.getElem?_eq_none hge] at hg; cases hg
    · have h1 : ∀ j, j < l.length * 2 → w.cell? ⟨g, 0 + j, none⟩ = (mv l)[j]? := by
        intro j hj
        rw [← ht, List.getElem?_take, if_pos hj]
        simp [World.cell?, hg]
      obtain ⟨h2, h3⟩ := mv_at l i hi
      exact ⟨(h1 (i * 2) (by omega)).trans h2, (h1 (i * 2 + 1) (by omega)).trans h3⟩
    · simp [World.frozen?, hg]
theorem MRow.form {w : World} {base : Nat} {v : Value} {l : List (Bs × Int)} (h : MRow w base v l) : ∃ (a : Option Addr) (cap : Nat), v = .slice a l.length cap := by
  rcases h.cells with ⟨rfl, rfl⟩ | ⟨g, cap, rfl, _⟩
  · exact ⟨none, 0, rfl⟩
  · exact ⟨_, cap, rfl⟩
theorem MRow.own {w : World} {base : Nat} {v : Value} {l : List (Bs × Int)} (h : MRow w base v l) : ∀ k, v.ownBlock = some k → base ≤ k := by
  intro k hk
  rcases h.cells with ⟨rfl, _⟩ | ⟨g, cap, rfl, hb, _⟩
  · cases hk
  · cases hk; exact hb
theorem MRow.ms {w : World} {base : Nat} {v : Value} {l : List (Bs × Int)} (h : MRow w base v l) : MS w v l := by
  rcases h.cells with ⟨rfl, rfl⟩ | ⟨g, cap, h1, h2, h3, h4, h5, h6, h7⟩
  · exact ⟨none, 0, rfl, Nat.le_refl _, by unfold maxLen; omega, fun h => absurd rfl h⟩
  · exact ⟨_, cap, h1, h4, h5, fun _ => ⟨g, 0, rfl, h3, h6⟩⟩
theorem MRow.kept {w w' : World} {base : Nat} {v : Value} {l : List (Bs × Int)} (h : MRow w base v l) (hb : ∀ k, v.ownBlock = some k → w'.heap[k]? = w.heap[k]?) : MRow w' base v l := by
  refine ⟨h.1, h.2.imp id ?_⟩
  rintro ⟨g, cap, cur, hv, h1, h2, h3⟩
  subst hv
  exact ⟨g, cap, cur, rfl, h1, (hb g rfl).trans h2, h3⟩
theorem MRow.keep {W w : World} {b : Nat} {v : Value} {l : List (Bs × Int)} (h : MRow W b v l) (hb : Below W.heap.size W w) : MRow w b v l := by
  refine h.kept (fun k hk => hb.block k ?_)
  rcases h.cells with ⟨rfl, _⟩ | ⟨g, cap, rfl, _, hg, _⟩
  · cases hk
  · cases hk; exact hg

theorem msrc1 (w : World) (n : Bs) (p : Int) (t : TypeId) : MSrc (w.alloc (.cells #[.string ⟨List.toArray (n)⟩, .int .i64 (p)] t)) w.heap.size 0 [(n, p)] := by
  intro i hi
  have : i = 0 := by simp at hi; omega
  subst this
  exact ⟨by simp, by simp⟩
theorem msrc_news {w : World} {g o : Nat} {l : List (Bs × Int)} (h : MSrc w g o l) : ∀ j u, (mv l)[j]? = some u → w.cell? ((⟨g, o, none⟩ : Addr).add j) = some u := by
  intro j u hj
  have hjl : j < l.length * 2 := by
    rcases Nat.lt_or_ge j (l.length * 2) with hlt | hge
    · exact hlt
    · rw [List.getElem?_eq_none (by rw [mv_len]; exact hge)] at hj; cases hj
  have hadd : (⟨g, o, none⟩ : Addr).add j = ⟨g, o + j, none⟩ := by unfold Addr.add; split <;> simp_all
  rw [hadd]
  obtain ⟨i, hi | hi⟩ : ∃ i, j = i * 2 ∨ j = i * 2 + 1 := ⟨j / 2, by omega⟩
  · subst hi
    exact (h i (by omega)).1.trans (((mv_at l i (by omega)).1).symm.trans hj)
  · subst hi
    have := (h i (by omega)).2
    rw [Nat.add_assoc] at this
    exact this.trans (((mv_at l i (by omega)).2).symm.trans hj)

section
variable {ops : Array Oper} {o : Oper} {a : Act} {w : World} {Q : Exit → Act → World → Prop}

theorem wp_appM {K : Act → World → Prop} (s x : Operand)
    (ho : o.op = .call { callee := .builtin .append, args := #[s, x], argTypes := #[22, 22] })
    (base : Nat) (v : Value) (l : List (Bs × Int)) (hs : a.eval s = v) (hown : MRow w base v l)
    (g off m c : Nat) (news : List (Bs × Int)) (hx : a.eval x = .slice (some ⟨g, off, none⟩) m c) (hm : news.length = m) (hsrc : MSrc w g off news)
    (hlen : l.length + m ≤ 1099511627000) (hbase : base ≤ w.heap.size)
    (h : ∀ v' w', MRow w' base v' (l ++ news) → Below base w w' → K (a.put o.dst v') w') : o.wp Tryd.prog a w K Q := by
  obtain ⟨i0, hi, hz0, hz1, hz2⟩ := info_parts infoMem
  refine wp_append_own w s x 22 ho base 77 i0 (.agg #[.string ⟨#[]⟩, .int .i64 0]) 2 24 Tryd.underlying22 hi hz0 hz1 hz2 rfl (by decide) v l.length (mv l) hs hown ⟨g, off, none⟩ m c (mv news) hx (by rw [mv_len, hm]) (msrc_news hsrc) (mone news)
    (by unfold maxLen; omega) (by omega) hbase (fun v' w' h2 h3 _ => h v' w' ?_ (grown_below h3 hbase hown.own))
  unfold MRow
  rw [List.length_append, hm, mv_app]
  exact h2
theorem step_appM {K : Act → World → Prop} {E : Prop} (hgd : o.guard = none) (s x : Operand)
    (ho : o.op = .call { callee := .builtin .append, args := #[s, x], argTypes := #[22, 22] })
    (base : Nat) (v : Value) (l : List (Bs × Int)) (hs : a.eval s = v) (hown : MRow w base v l)
    (g off m c : Nat) (news : List (Bs × Int)) (hx : a.eval x = .slice (some ⟨g, off, none⟩) m c) (hm : news.length = m) (hsrc : MSrc w g off news)
    (hlen : l.length + m ≤ 1099511627000) (hbase : base ≤ w.heap.size)
    (h : ∀ v' w', MRow w' base v' (l ++ news) → Below base w w' → K (a.put o.dst v') w') :
    if Region.wanted o (yielded ops a.tmps) = true then Oper.wp Tryd.prog o a w K Q else E := by
  have hw : Region.wanted o (yielded ops a.tmps) = true := by simp [Region.wanted, hgd]
  rw [if_pos hw]
  exact wp_appM s x ho base v l hs hown g off m c news hx hm hsrc hlen hbase h
theorem wpList_appM {rest : List Oper} (hgd : o.guard = none) (s x : Operand)
    (ho : o.op = .call { callee := .builtin .append, args := #[s, x], argTypes := #[22, 22] })
    (base : Nat) (v : Value) (l : List (Bs × Int)) (hs : a.eval s = v) (hown : MRow w base v l)
    (g off m c : Nat) (news : List (Bs × Int)) (hx : a.eval x = .slice (some ⟨g, off, none⟩) m c) (hm : news.length = m) (hsrc : MSrc w g off news)
    (hlen : l.length + m ≤ 1099511627000) (hbase : base ≤ w.heap.size)
    (h : ∀ v' w', MRow w' base v' (l ++ news) → Below base w w' → wpList Tryd.prog ops Q rest (a.put o.dst v') w') : wpList Tryd.prog ops Q (o :: rest) a w :=
  wpList_plain hgd fun _ hK => wp_appM s x ho base v l hs hown g off m c news hx hm hsrc hlen hbase fun v' w' h2 h3 => hK _ _ (h v' w' h2 h3)
end

end Go.Proofs.YtbnjhfkmdejeaaaDoor

/- Plain: how often names were counted in a map. -/
set_option linter.unusedVariables false
namespace Go.Proofs.YtbnjhfkmdejeaaaDoor
open Go.Maps
namespace Pl

/-- The map behind these names, the last first. -/
def cntD : List Bs → DataW Unit
  | [] => .map []
  | n :: r => (cntD r).put (.string n) (.lit (.int .i64 (((r.count n + 1 : Nat)) : Int)))
theorem cntD_map : ∀ r, IsMap (cntD r)
  | [] => ⟨[], rfl⟩
  | n :: r => by
    obtain ⟨es, h⟩ := cntD_map r
    unfold cntD
    rw [h]
    exact ⟨_, rfl⟩
theorem cntD_at : ∀ (r : List Bs) (n : Bs), (cntD r).atKey (.string n) (.lit (.int .i64 0)) = .lit (.int .i64 ((r.count n : Nat) : Int))
  | [], n => rfl
  | x :: r, n => by
    unfold cntD
    by_cases h : n = x
    · subst h
      rw [atKey_put_same (cntD_map r) (by first | trivial | exact rfl | simp [WideAt.IsKeyLit])]
      simp
    · rw [atKey_put_other (by intro e; injection e with e; exact h e), cntD_at r n]
      rw [List.count_cons_of_ne (fun e => h e.symm)]

end Pl
end Go.Proofs.YtbnjhfkmdejeaaaDoor

/- Walks of layer 2: numbers and texts as bytes. -/
set_option linter.unusedSimpArgs false
set_option linter.unusedVariables false
namespace Go.Proofs.YtbnjhfkmdejeaaaDoor
open Go.RowKit Pl

/-- The eight cells: zeros, and the bytes so far. -/
def numCells (k : Nat) (d : Bs) : Array Value := ((List.replicate k 0 ++ d).map fun c : UInt8 => Value.int .u8 (c.toNat : Int)).toArray

theorem numCells_get (k : Nat) (d : Bs) (hk : 0 < k) : (numCells k d)[k - 1]? = some (.int .u8 0) := by
  have : ((List.replicate k (0 : UInt8) ++ d).map fun c : UInt8 => Value.int .u8 (c.toNat : Int))[k - 1]? = some (.int .u8 0) := by
    rw [List.getElem?_map, List.getElem?_append_left (by simp; omega), List.getElem?_replicate, if_pos (by omega)]
    rfl
  simpa [numCells] using this
theorem numCells_set (k : Nat) (d : Bs) (hk : 0 < k) (c : UInt8) : (numCells k d).setIfInBounds (k - 1) (.int .u8 (c.toNat : Int)) = numCells (k - 1) (c :: d) := by
  obtain ⟨j, rfl⟩ : ∃ j, k = j + 1 := ⟨k - 1, by omega⟩
  unfold numCells
  apply Array.ext'
  simp only [Array.toList_setIfInBounds, Nat.add_sub_cancel]
  rw [List.replicate_succ', List.append_assoc, List.map_append, List.map_append]
  rw [List.set_append_right _ _ (by simp)]
  simp
theorem numCells_tail (k : Nat) (d : Bs) (i : Nat) (hi : i < d.length) : (numCells k d)[k + i]? = some (.int .u8 ((d.getD i 0).toNat : Int)) := by
  have : ((List.replicate k (0 : UInt8) ++ d).map fun c : UInt8 => Value.int .u8 (c.toNat : Int))[k + i]? = some (.int .u8 ((d.getD i 0).toNat : Int)) := by
    rw [List.getElem?_map, List.getElem?_append_right (by simp)]
    simp [List.getD, List.getElem?_eq_getElem hi]
  simpa [numCells] using this


theorem num_len (n : Nat) : (num n).length ≤ 9 := by
  have : ∀ f m, (digs f m).length ≤ f := by
    intro f
    induction f with
    | zero => intro m; simp [digs]
    | succ f ih =>
      intro m
      unfold digs
      split
      · simp
      · have := ih (m / 256); simp; omega
  have := this 8 n
  simp [num]; omega



end Go.Proofs.YtbnjhfkmdejeaaaDoor

/- Layer 3: the words of a block and of a text, as plain functions. -/
set_option linter.unusedSimpArgs false
set_option linter.unusedVariables false
namespace Go.Proofs.YtbnjhfkmdejeaaaDoor
open Go.RowKit

abbrev W32 (x : Int) : Prop := 0 ≤ x ∧ x < 4294967296
def rotI (x n : Int) : Int := bits .or .u32 (x / 2 ^ n.toNat) (x * 2 ^ (32 - n).toNat % 4294967296)
theorem u32_wrap_bd (x : Int) : W32 (IntKind.u32.wrap x) := by
  rw [IntKind.wrap_u32']
  exact ⟨Int.emod_nonneg _ (by omega), Int.emod_lt_of_pos _ (by omega)⟩
theorem bits_bd (op : BinOp) (a b : Int) : W32 (bits op .u32 a b) := by
  unfold bits
  split <;> exact u32_wrap_bd _
theorem rotI_bd (x n : Int) : W32 (rotI x n) := bits_bd _ _ _

/-- An array of words, of bytes. -/
def arr (n : Nat) (f : Nat → Int) : List Value := (List.range n).map fun i => .int .u32 (f i)
def arb (n : Nat) (f : Nat → Int) : List Value := (List.range n).map fun i => .int .u8 (f i)
def updI (f : Nat → Int) (k : Nat) (x : Int) : Nat → Int := fun i => if i = k then x else f i
@[go_sem, simp] theorem arr_len (n : Nat) (f : Nat → Int) : (arr n f).length = n := by simp [arr]
@[go_sem, simp] theorem arb_len (n : Nat) (f : Nat → Int) : (arb n f).length = n := by simp [arb]
theorem arr_at (n : Nat) (f : Nat → Int) (i : Nat) (h : i < n) : (arr n f).toArray[i]? = some (.int .u32 (f i)) := by simp [arr, h]
theorem arb_at (n : Nat) (f : Nat → Int) (i : Nat) (h : i < n) : (arb n f).toArray[i]? = some (.int .u8 (f i)) := by simp [arb, h]
theorem arr_set (n : Nat) (f : Nat → Int) (k : Nat) (x : Int) : (arr n f).toArray.setIfInBounds k (.int .u32 x) = (arr n (updI f k x)).toArray := by
  apply Array.ext'
  rw [Array.toList_setIfInBounds]
  simp only [arr]
  apply List.ext_getElem (by simp)
  intro i h1 h2
  simp [List.getElem_set, updI]
  by_cases h : k = i
  · subst h; simp
  · rw [if_neg h, if_neg (fun e => h e.symm)]
theorem arb_set (n : Nat) (f : Nat → Int) (k : Nat) (x : Int) : (arb n f).toArray.setIfInBounds k (.int .u8 x) = (arb n (updI f k x)).toArray := by
  apply Array.ext'
  rw [Array.toList_setIfInBounds]
  simp only [arb]
  apply List.ext_getElem (by simp)
  intro i h1 h2
  simp [List.getElem_set, updI]
  by_cases h : k = i
  · subst h; simp
  · rw [if_neg h, if_neg (fun e => h e.symm)]
theorem arr_ext {n : Nat} {f g : Nat → Int} (h : ∀ i, i < n → f i = g i) : arr n f = arr n g := by
  unfold arr
  apply List.map_congr_left
  intro i hi
  rw [h i (by simpa using hi)]
theorem arr_one (n : Nat) (f : Nat → Int) : ∀ v ∈ arr n f, v.oneCell' = true := by
  intro v hv
  simp [arr] at hv
  obtain ⟨i, _, rfl⟩ := hv
  rfl
theorem arb_one (n : Nat) (f : Nat → Int) : ∀ v ∈ arb n f, v.oneCell' = true := by
  intro v hv
  simp [arb] at hv
  obtain ⟨i, _, rfl⟩ := hv
  rfl

theorem ofInt32_nat (a : Nat) (ha : a < 4294967296) : (BitVec.ofInt 32 (a : Int)).toNat = a := by
  rw [BitVec.toNat_ofInt]; omega
theorem u32_or_nat' (a b : Nat) (ha : a < 4294967296) (hb : b < 4294967296) : bits .or .u32 (a : Int) (b : Int) = ((a ||| b : Nat) : Int) := by
  have hx : a ||| b < 2 ^ 32 := Nat.or_lt_two_pow (by omega) (by omega)
  show IntKind.u32.wrap ((BitVec.ofInt 32 (a : Int) ||| BitVec.ofInt 32 (b : Int)).toNat : Int) = _
  rw [BitVec.toNat_or, ofInt32_nat a ha, ofInt32_nat b hb, IntKind.wrap_u32']
  omega
theorem u32_or_sum (a b i P : Nat) (hP : 2 ^ i = P) (hb : b < P) (h : a * P + b < 4294967296) : bits .or .u32 ((a * P : Nat) : Int) (b : Int) = ((a * P + b : Nat) : Int) := by
  subst hP
  rw [u32_or_nat' _ _ (by omega) (by omega), Nat.mul_comm a, Nat.two_pow_add_eq_or_of_lt hb a]
set_option maxRecDepth 100000 in
theorem or4 (a b c d : Int) (ha : 0 ≤ a ∧ a < 256) (hb : 0 ≤ b ∧ b < 256) (hc : 0 ≤ c ∧ c < 256) (hd : 0 ≤ d ∧ d < 256) :
    bits .or .u32 (bits .or .u32 (bits .or .u32 (a * 16777216) (b * 65536)) (c * 256)) d = a * 16777216 + b * 65536 + c * 256 + d := by
  obtain ⟨a, rfl⟩ := Int.eq_ofNat_of_zero_le ha.1
  obtain ⟨b, rfl⟩ := Int.eq_ofNat_of_zero_le hb.1
  obtain ⟨c, rfl⟩ := Int.eq_ofNat_of_zero_le hc.1
  obtain ⟨d, rfl⟩ := Int.eq_ofNat_of_zero_le hd.1
  have e1 := u32_or_sum a (b * 65536) 24 16777216 (by decide) (by omega) (by omega)
  have e2 := u32_or_sum (a * 256 + b) (c * 256) 16 65536 (by decide) (by omega) (by omega)
  have e3 := u32_or_sum (a * 65536 + b * 256 + c) d 8 256 (by decide) (by omega) (by omega)
  have c1 : ((a : Int) * 16777216) = ((a * 16777216 : Nat) : Int) := by omega
  have c2 : ((b : Int) * 65536) = ((b * 65536 : Nat) : Int) := by omega
  have c3 : ((a * 16777216 + b * 65536 : Nat) : Int) = (((a * 256 + b) * 65536 : Nat) : Int) := by omega
  have c4 : ((c : Int) * 256) = ((c * 256 : Nat) : Int) := by omega
  have c5 : (((a * 256 + b) * 65536 + c * 256 : Nat) : Int) = (((a * 65536 + b * 256 + c) * 256 : Nat) : Int) := by simp only [Nat.add_mul, Nat.mul_assoc, Nat.reduceMul]
  rw [c1, c2, e1, c3, c4, e2, c5, e3]
  simp only [Nat.add_mul, Nat.mul_assoc, Nat.reduceMul, Int.natCast_add, Int.natCast_mul]

/-- The word of four bytes. -/
def word4 (b : Nat → Int) (i : Nat) : Int := b (4 * i) * 16777216 + b (4 * i + 1) * 65536 + b (4 * i + 2) * 256 + b (4 * i + 3)
def sg0 (x : Int) : Int := bits .xor .u32 (bits .xor .u32 (rotI x 7) (rotI x 18)) (x / 8)
def sg1 (y : Int) : Int := bits .xor .u32 (bits .xor .u32 (rotI y 17) (rotI y 19)) (y / 1024)
def add32 (a b : Int) : Int := (a + b) % 4294967296
/-- The words of a block. -/
def sch (b : Nat → Int) (i : Nat) : Int :=
  if h : i < 16 then word4 b i
  else (sch b (i - 16) + sg0 (sch b (i - 15)) + sch b (i - 7) + sg1 (sch b (i - 2))) % 4294967296
termination_by i
decreasing_by all_goals omega
def bS1 (e : Int) : Int := bits .xor .u32 (bits .xor .u32 (rotI e 6) (rotI e 11)) (rotI e 25)
def bS0 (a : Int) : Int := bits .xor .u32 (bits .xor .u32 (rotI a 2) (rotI a 13)) (rotI a 22)
theorem add32_bd (a b : Int) : W32 (add32 a b) := ⟨Int.emod_nonneg _ (by omega), Int.emod_lt_of_pos _ (by omega)⟩
theorem sch_bd (b : Nat → Int) (hb : ∀ i, i < 64 → 0 ≤ b i ∧ b i < 256) (i : Nat) : W32 (sch b i) := by
  rw [sch]
  split
  · rename_i h
    have h0 := hb (4 * i) (by omega)
    have h1 := hb (4 * i + 1) (by omega)
    have h2 := hb (4 * i + 2) (by omega)
    have h3 := hb (4 * i + 3) (by omega)
    unfold word4 W32
    omega
  · exact ⟨Int.emod_nonneg _ (by omega), Int.emod_lt_of_pos _ (by omega)⟩

end Go.Proofs.YtbnjhfkmdejeaaaDoor

/- Walks of layer 3: turned words, the words of a block. -/
set_option linter.unusedSimpArgs false
set_option linter.unusedVariables false
namespace Go.Proofs.YtbnjhfkmdejeaaaDoor
open Go.RowKit

set_option maxHeartbeats 400000 in
theorem rot_any (x : Int) (n : Int) (hx : 0 ≤ x) (hx2 : x < 4294967296) (hn : 0 ≤ n) (hn2 : n ≤ 32) (w : World) :
    Calls Tryd.prog 140 #[.int .u32 x, .int .u64 n] w fun e w' => e = .returned (.int .u32 (rotI x n)) ∧ w = w' := by
  go_enter Tryd.func140, Tryd.ntmps140
  go_wp2_with fail
  go_ret
  exact ⟨rfl, rfl⟩
set_option maxHeartbeats 400000 in
theorem turned_any (x : Int) (n : Int) (hx : 0 ≤ x) (hx2 : x < 4294967296) (hn : 0 ≤ n) (hn2 : n ≤ 32) (w : World) :
    Calls Tryd.prog 121 #[.int .u32 x, .int .i64 n] w fun e w' => e = .returned (.int .u32 (rotI x n)) ∧ w = w' := by
  go_enter Tryd.func121, Tryd.ntmps121
  go_wp2_with fail
  go_ret
  exact ⟨rfl, rfl⟩

theorem rot_st (x : Int) (n : Int) (hx : 0 ≤ x) (hx2 : x < 4294967296) (hn : 0 ≤ n) (hn2 : n ≤ 32) (w : World) :
    Calls Tryd.prog 140 #[.int .u32 x, .int .u64 n] w fun e w' => e = .returned (.int .u32 (rotI x n)) ∧ w' = w :=
  (rot_any x n hx hx2 hn hn2 w).mono fun _ _ ⟨h, h2⟩ => ⟨h, h2.symm⟩

theorem row64w : RowT Tryd.prog 187 64 := RowT.mk' Tryd.underlying187 rfl (by kernel_rfl)
theorem row64b : RowT Tryd.prog 136 64 := RowT.mk' Tryd.underlying136 rfl (by kernel_rfl)
theorem row8w : RowT Tryd.prog 134 8 := RowT.mk' Tryd.underlying134 rfl (by kernel_rfl)
theorem row16w : RowT Tryd.prog 166 16 := RowT.mk' Tryd.underlying166 rfl (by kernel_rfl)

theorem zero64w : (arr 64 fun _ => 0).toArray = #[Value.int .u32 0, Value.int .u32 0, Value.int .u32 0, Value.int .u32 0, Value.int .u32 0, Value.int .u32 0, Value.int .u32 0, Value.int .u32 0, Value.int .u32 0, Value.int .u32 0, Value.int .u32 0, Value.int .u32 0, Value.int .u32 0, Value.int .u32 0, Value.int .u32 0, Value.int .u32 0, Value.int .u32 0, Value.int .u32 0, Value.int .u32 0, Value.int .u32 0, Value.int .u32 0, Value.int .u32 0, Value.int .u32 0, Value.int .u32 0, Value.int .u32 0, Value.int .u32 0, Value.int .u32 0, Value.int .u32 0, Value.int .u32 0, Value.int .u32 0, Value.int .u32 0, Value.int .u32 0, Value.int .u32 0, Value.int .u32 0, Value.int .u32 0, Value.int .u32 0, Value.int .u32 0, Value.int .u32 0, Value.int .u32 0, Value.int .u32 0, Value.int .u32 0, Value.int .u32 0, Value.int .u32 0, Value.int .u32 0, Value.int .u32 0, Value.int .u32 0, Value.int .u32 0, Value.int .u32 0, Value.int .u32 0, Value.int .u32 0, Value.int .u32 0, Value.int .u32 0, Value.int .u32 0, Value.int .u32 0, Value.int .u32 0, Value.int .u32 0, Value.int .u32 0, Value.int .u32 0, Value.int .u32 0, Value.int .u32 0, Value.int .u32 0, Value.int .u32 0, Value.int .u32 0, Value.int .u32 0] := rfl
def schTo (b : Nat → Int) (k : Nat) : Nat → Int := fun i => if i < k then sch b i else 0
theorem schTo_succ (b : Nat → Int) (k : Nat) : updI (schTo b k) k (sch b k) = schTo b (k + 1) := by
  funext i
  unfold updI schTo
  by_cases h : i = k
  · subst h; rw [if_pos rfl, if_pos (by omega)]
  · rw [if_neg h]
    by_cases h2 : i < k
    · rw [if_pos h2, if_pos (by omega)]
    · rw [if_neg h2, if_neg (by omega)]

set_option maxRecDepth 100000 in
set_option maxHeartbeats 1000000 in
theorem spread_any (b : Nat → Int) (hb : ∀ i, i < 64 → 0 ≤ b i ∧ b i < 256) (w : World) :
    Calls Tryd.prog 139 #[.agg (arb 64 b).toArray] w fun e w' => e = .returned (.agg (arr 64 (sch b)).toArray) ∧ Below w.heap.size w w' := by
  have HB := Lib.hid hb
  have HSB := Lib.hid (sch_bd b hb)
  clear hb
  go_enter Tryd.func139, Tryd.ntmps139
  go_wp2_with fail
  go_loopw [8] (fun s8 wr => ∃ k : Nat, k ≤ 16 ∧ s8 = .int .i64 k ∧ Blk wr w.heap.size (arb 64 b).toArray ∧ Blk wr (w.heap.size + 1) (arr 64 fun _ => 0).toArray ∧ Blk wr (w.heap.size + 1 + 1) (arr 64 (schTo b k)).toArray ∧ Below w.heap.size w wr) (fun s8 _ => 16 - (intOf s8).toNat)
  case atStart =>
    rw [zero64w]
    exact ⟨0, by omega, rfl, ((Blk.new w _ _).alloc _).alloc _, (Blk.new' (by simp)).alloc _, by rw [show schTo b 0 = fun _ => 0 from by funext i; simp [schTo], zero64w]; exact Blk.new' (by simp), by (repeat (first | exact Below.refl _ _ | assumption | apply Below.drew | apply below_drewN | apply Below.allocS | (refine Below.setCell ?_ (by simp <;> omega) _) | (refine Below.alloc ?_ (by simp <;> omega) _) | (refine Below.trans ?_ (Below.mono (by assumption) (by simp <;> omega)))))⟩
  case round =>
    obtain ⟨k, hk, rfl, B, Z, W, hb⟩ := hrel
    rename_i wr
    by_cases hlt : k < 16
    · have b0 := HB.out (4 * k) (by omega)
      have b1 := HB.out (4 * k + 1) (by omega)
      have b2 := HB.out (4 * k + 2) (by omega)
      have b3 := HB.out (4 * k + 3) (by omega)
      have c0 := B.cell (4 * k)
      rw [arb_at 64 b _ (by omega)] at c0
      have c1 := B.cell (4 * k + 1)
      rw [arb_at 64 b _ (by omega)] at c1
      have c2 := B.cell (4 * k + 2)
      rw [arb_at 64 b _ (by omega)] at c2
      have c3 := B.cell (4 * k + 3)
      rw [arb_at 64 b _ (by omega)] at c3
      have d0 := W.cell k
      rw [arr_at 64 _ _ (by omega)] at d0
      have d1 := W.froz
      have t0 : (4 * (k : Int)).toNat = 4 * k := by omega
      have t1 : (4 * (k : Int) + 1).toNat = 4 * k + 1 := by omega
      have t2 : (4 * (k : Int) + 2).toNat = 4 * k + 2 := by omega
      have t3 : (4 * (k : Int) + 3).toNat = 4 * k + 3 := by omega
      have i0 : IntKind.i64.wrap (4 * (k : Int)) = 4 * (k : Int) := by rw [IntKind.wrap_i64]; omega
      have i1 : IntKind.i64.wrap (4 * (k : Int) + 1) = 4 * (k : Int) + 1 := by rw [IntKind.wrap_i64]; omega
      have i2 : IntKind.i64.wrap (4 * (k : Int) + 2) = 4 * (k : Int) + 2 := by rw [IntKind.wrap_i64]; omega
      have i3 : IntKind.i64.wrap (4 * (k : Int) + 3) = 4 * (k : Int) + 3 := by rw [IntKind.wrap_i64]; omega
      generalize hx0 : b (4 * k) = x0 at *
      generalize hx1 : b (4 * k + 1) = x1 at *
      generalize hx2 : b (4 * k + 2) = x2 at *
      generalize hx3 : b (4 * k + 3) = x3 at *
      have HX0 := Lib.hid hx0
      have HX1 := Lib.hid hx1
      have HX2 := Lib.hid hx2
      have HX3 := Lib.hid hx3
      clear hx0 hx1 hx2 hx3
      go_wp2_with fail
      go_region
      go_wp2_with fail
      have hw4 : bits .or .u32 (bits .or .u32 (bits .or .u32 (x0 * 16777216) (x1 * 65536)) (x2 * 256)) x3 = sch b k := by
        rw [or4 x0 x1 x2 x3 (by omega) (by omega) (by omega) (by omega), sch, dif_pos hlt, word4, HX0.out, HX1.out, HX2.out, HX3.out]
      have W1 := (W.set k (.int .u32 (sch b k))).drew
      rw [arr_set, schTo_succ] at W1
      rw [hw4]
      exact ⟨⟨k + 1, by omega, by go_num, (B.other (by simp <;> omega) _).drew, (Z.other (by simp <;> omega) _).drew, W1, (hb.setCell (by simp <;> omega) _).drew⟩, by simp [intOf]; omega⟩
    · have hke : k = 16 := by omega
      subst hke
      rw [show ((16 : Nat) : Int) = 16 from rfl]
      go_wp2_with fail
      go_loopw [5] (fun s5 wr => ∃ k : Nat, 16 ≤ k ∧ k ≤ 64 ∧ s5 = .int .i64 k ∧ Blk wr (w.heap.size + 1) (arr 64 fun _ => 0).toArray ∧ Blk wr (w.heap.size + 1 + 1) (arr 64 (schTo b k)).toArray ∧ Below w.heap.size w wr) (fun s5 _ => 64 - (intOf s5).toNat)
      case atStart => exact ⟨16, by omega, by omega, rfl, Z, W, hb⟩
      case round =>
        clear Z W hb B
        obtain ⟨k, hk0, hk, rfl, Z, W, hb⟩ := hrel
        rename_i wq
        by_cases hlt : k < 64
        · have f0 : schTo b k (k - 16) = sch b (k - 16) := if_pos (by omega)
          have f1 : schTo b k (k - 15) = sch b (k - 15) := if_pos (by omega)
          have f2 : schTo b k (k - 7) = sch b (k - 7) := if_pos (by omega)
          have f3 : schTo b k (k - 2) = sch b (k - 2) := if_pos (by omega)
          have c0 := W.cell (k - 16)
          rw [arr_at 64 _ _ (by omega), f0] at c0
          have c1 := W.cell (k - 15)
          rw [arr_at 64 _ _ (by omega), f1] at c1
          have c2 := W.cell (k - 7)
          rw [arr_at 64 _ _ (by omega), f2] at c2
          have c3 := W.cell (k - 2)
          rw [arr_at 64 _ _ (by omega), f3] at c3
          have d0 := W.cell k
          rw [arr_at 64 _ _ (by omega)] at d0
          have d1 := W.froz
          have HS : Hid (sch b k = (sch b (k - 16) + sg0 (sch b (k - 15)) + sch b (k - 7) + sg1 (sch b (k - 2))) % 4294967296) := Lib.hid (by rw [sch, dif_neg (by omega)])
          obtain ⟨p0, p0'⟩ := HSB.out (k - 16)
          obtain ⟨p1, p1'⟩ := HSB.out (k - 15)
          obtain ⟨p2, p2'⟩ := HSB.out (k - 7)
          obtain ⟨p3, p3'⟩ := HSB.out (k - 2)
          have t0 : ((k : Int) - 16).toNat = k - 16 := by omega
          have t1 : ((k : Int) - 15).toNat = k - 15 := by omega
          have t2 : ((k : Int) - 7).toNat = k - 7 := by omega
          have t3 : ((k : Int) - 2).toNat = k - 2 := by omega
          have i0 : IntKind.i64.wrap ((k : Int) - 16) = (k : Int) - 16 := by rw [IntKind.wrap_i64]; omega
          have i1 : IntKind.i64.wrap ((k : Int) - 15) = (k : Int) - 15 := by rw [IntKind.wrap_i64]; omega
          have i2 : IntKind.i64.wrap ((k : Int) - 7) = (k : Int) - 7 := by rw [IntKind.wrap_i64]; omega
          have i3 : IntKind.i64.wrap ((k : Int) - 2) = (k : Int) - 2 := by rw [IntKind.wrap_i64]; omega
          have G0 := Lib.hid f0
          have G2 := Lib.hid f2
          clear f0 f1 f2 f3
          generalize sch b (k - 16) = x0 at *
          generalize sch b (k - 15) = x1 at *
          generalize sch b (k - 7) = x2 at *
          generalize sch b (k - 2) = x3 at *
          go_wp2_with fail
          go_quiet (fail)
          go_wp2_with fail
          refine wp_tail 29 (by kernel_rfl) (by kernel_rfl) ?_
          intro w2 hw2
          have W2 : Blk w2 (w.heap.size + 1 + 1) (arr 64 (schTo b k)).toArray := by rw [hw2]; exact (W.drewN _).drew
          have Z2 : Blk w2 (w.heap.size + 1) (arr 64 fun _ => 0).toArray := by rw [hw2]; exact (Z.drewN _).drew
          have hb2 : Below w.heap.size w w2 := by rw [hw2]; exact (below_drewN hb _).drew
          clear hw2 W Z hb c0 c1 c2 c3 d0 d1
          have c0 := W2.cell (k - 16)
          rw [arr_at 64 _ _ (by omega), G0.out] at c0
          have c2 := W2.cell (k - 7)
          rw [arr_at 64 _ _ (by omega), G2.out] at c2
          have d0 := W2.cell k
          rw [arr_at 64 _ _ (by omega)] at d0
          have d1 := W2.froz
          simp only [List.take_succ_cons, List.take_zero, List.drop_succ_cons, List.drop_zero]
          have q0 : (16 : Int) ≤ (k : Int) := by omega
          have q1 : (k : Int) - 16 < 64 := by omega
          have q2 : (7 : Int) ≤ (k : Int) := by omega
          have q3 : (k : Int) - 7 < 64 := by omega
          have q4 : (k : Int) < 64 := by omega
          repeat (first | still_step | still_call (rot_st _ _ (by omega) (by omega) (by omega) (by omega) _))
          refine wpStill_nil ?_
          go_wp2_with fail
          have W3 := W2.set k (.int .u32 (sch b k))
          rw [arr_set, schTo_succ] at W3
          rw [HS.out] at W3
          exact ⟨⟨k + 1, by omega, by omega, by go_num, Z2.other (by simp <;> omega) _, W3, hb2.setCell (by simp <;> omega) _⟩, by simp [intOf]; omega⟩
        · have hke : k = 64 := by omega
          subst hke
          have hse : arr 64 (schTo b 64) = arr 64 (sch b) := arr_ext (fun i hi => if_pos hi)
          rw [hse] at W
          rw [zero64w] at Z
          go_wp2_with (first
            | (refine wpList_rowLoad row64w rfl (.tmp 3) rfl rfl (arr_len 64 _) W ?_)
            | (refine wpList_rowStore row64w rfl rfl (.tmp 2) (.tmp 84) rfl rfl rfl (arr_len 64 _) (arr_one 64 _) (by simp) Z ?_; intro w3 Z3 m3))
          refine bodyPost_ret (results_cell1 rfl _ _ _ _ rfl (row_loadVar row64w _ (arr_len 64 _) Z3)) rfl ?_
          exact ⟨rfl, Below.mod hb m3 (by have := hb.size; omega) (by simp)⟩
end Go.Proofs.YtbnjhfkmdejeaaaDoor
