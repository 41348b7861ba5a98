/- Members, MVal, IntV, Ints, Links, Shelf6, Flag, HeadC. -/
import Derived.WalkMore
import Derived.ScopeJumps
import Derived.Test.YthkpmlfaddlieaaGreatDoorProg
import Derived.Shelf.SlicesE.IndexFunc
import Derived.Test.YthkpmlfaddlieaaGreatDoorMw8
set_option linter.unnecessarySimpa false
set_option linter.unusedSimpArgs false
set_option linter.unusedVariables false
set_option maxRecDepth 100000
set_option maxHeartbeats 32000000
namespace Go.Proofs.YthkpmlfaddlieaaGreatDoor
open Go.RowKit Pl
theorem Below.nm {B : Nat} {a w : World} (_ : Below B a w) : ∃ w' : World, w' = w := ⟨w, rfl⟩
def leS (a b : Bs) : Bool := Op.bytesLess a b || a == b
@[go_sem high] theorem leq_S (t : TypeId) (a b : Bs) : binOp .leq t (.string ⟨List.toArray a⟩) (.string ⟨List.toArray b⟩) = pure (.bool (leS a b)) := by
 rw [binOp_string_leq]
 unfold leS
 rw [Lib.toList_data, Lib.toList_data]
def MSrc (w : World) (g o : Nat) (l : List (Bs × Int)) : Prop := ∀ i, i < l.length → w.cell? ⟨g, o + i * 2, none⟩ = some (.string ⟨List.toArray ((l.getD i ([], 0)).1)⟩) ∧ w.cell? ⟨g, o + i * 2 + 1, none⟩ = some (.int .i64 ((l.getD i ([], 0)).2))
def MS (w : World) (v : Value) (l : List (Bs × Int)) : Prop :=
 ∃ a cap, v = .slice a l.length cap ∧ l.length ≤ cap ∧ cap ≤ maxLen ∧ (l ≠ [] → ∃ g off, a = some ⟨g, off, none⟩ ∧ g < w.heap.size ∧ MSrc w g off l)
theorem MS.keep {W w : World} {v : Value} {l : List (Bs × Int)} (h : MS W v l) (hb : Below W.heap.size W w) : MS w v l := by
 obtain ⟨a, cap, h1, h2, h3, h4⟩ := h
 refine ⟨a, cap, h1, h2, h3, fun hl => ?_⟩
 obtain ⟨g, off, e, hg, hc⟩ := h4 hl
 exact ⟨g, off, e, Nat.lt_of_lt_of_le hg hb.size, fun i hi => ⟨(hb.cell (p := ⟨g, off + i * 2, none⟩) hg).trans (hc i hi).1, (hb.cell (p := ⟨g, off + i * 2 + 1, none⟩) hg).trans (hc i hi).2⟩⟩
theorem MS.form {w : World} {v : Value} {l : List (Bs × Int)} (h : MS w v l) : ∃ a c, v = .slice a l.length c := by
 obtain ⟨a, cap, h1, _⟩ := h
 exact ⟨a, cap, h1⟩
theorem MS.small {w : World} {v : Value} {l : List (Bs × Int)} (h : MS w v l) : l.length ≤ 9223372036854775807 := by
 obtain ⟨a, cap, h1, h2, h3, _⟩ := h
 unfold maxLen at h3; omega
theorem MS.at {w : World} {a : Option Addr} {c : Nat} {l : List (Bs × Int)} (h : MS w (.slice a l.length c) l) (i : Nat) (hi : i < l.length) :
  ∃ g off, a = some ⟨g, off, none⟩ ∧ g < w.heap.size ∧ w.cell? ⟨g, off + i * 2, none⟩ = some (.string ⟨List.toArray ((l.getD i ([], 0)).1)⟩) ∧ w.cell? ⟨g, off + i * 2 + 1, none⟩ = some (.int .i64 ((l.getD i ([], 0)).2)) := by
 obtain ⟨a', cap, h1, _, _, h5⟩ := h
 injection h1 with h1 _ _
 obtain ⟨g, off, e, hg, hc⟩ := h5 (by intro e; rw [e] at hi; simp at hi)
 exact ⟨g, off, h1.trans e, hg, (hc i hi).1, (hc i hi).2⟩
namespace Pl
def okM : Bs → List (Bs × Int) → Bool
 | _, [] => true
 | z, (n, p) :: r => !(decide ((6 : Int) < (n.length : Int)) || leS n z || decide (p < 1) || decide (1000 < p)) && okM n r
def chkM (l : List (Bs × Int)) : Bool := decide (l.length ≠ 0) && decide (l.length ≤ 7) && okM [] l
def setI (b : Bool) : Int := if b then 0 else 50
def lastN (l : List (Bs × Int)) : Nat → Bs
 | 0 => []
 | i + 1 => (l.getD i ([], 0)).1
theorem drop_getD (l : List (Bs × Int)) (i : Nat) (hi : i < l.length) : l.drop i = l.getD i ([], 0) :: l.drop (i + 1) := by
 rw [List.drop_eq_getElem_cons hi, List.getD_eq_getElem?_getD, List.getElem?_eq_getElem hi]
 rfl
theorem okM_at : ∀ (l : List (Bs × Int)) (z : Bs), okM z l = true → ∀ i, i < l.length → (l.getD i ([], 0)).1.length ≤ 6 ∧ 1 ≤ (l.getD i ([], 0)).2 ∧ (l.getD i ([], 0)).2 ≤ 1000
 | (n, p) :: r, z, h, i, hi => by
  simp only [okM, Bool.and_eq_true, Bool.not_eq_true', Bool.or_eq_false_iff, decide_eq_false_iff_not] at h
  obtain ⟨⟨⟨⟨h1, h2⟩, h3⟩, h4⟩, h5⟩ := h
  match i with
  | 0 => exact ⟨by simp; omega, by simp; omega, by simp; omega⟩
  | j + 1 => exact okM_at r n h5 j (by simpa using hi)
theorem take_getD (l : List (Bs × Int)) (i : Nat) (hi : i < l.length) : l.take (i + 1) = l.take i ++ [l.getD i ([], 0)] := by
 rw [List.take_add_one, List.getElem?_eq_getElem hi, List.getD_eq_getElem?_getD, List.getElem?_eq_getElem hi]
 rfl
def okS : Bs → List Bs → Bool
 | _, [] => true
 | z, n :: r => !(leS n z || decide ((6 : Int) < (n.length : Int))) && okS n r
theorem dropS (l : List Bs) (i : Nat) (hi : i < l.length) : l.drop i = l.getD i [] :: l.drop (i + 1) := by
 rw [List.drop_eq_getElem_cons hi, List.getD_eq_getElem?_getD, List.getElem?_eq_getElem hi]
 rfl
end Pl
theorem mcheck_any (v : Value) (l : List (Bs × Int)) (w : World) (hv : MS w v l) :
  Calls Tryz.prog 36 #[v] w fun e w' => e = .returned (.int .i64 (setI (chkM l))) ∧ Below w.heap.size w w' := by
 generalize hr : setI (chkM l) = r
 have HR := Lib.hid hr
 clear hr
 obtain ⟨a, c, rfl⟩ := hv.form
 have hm := hv.small
 have HV := Lib.hid hv
 by_cases h0 : l.length = 0
 ·rw [h0]
  clear HV hv
  go_enter Tryz.func36, Tryz.ntmps36
  go_wp2_with fail
  all_goals (go_ret; refine ⟨?_, Below.refl _ _⟩; rw [← HR.out]; simp [chkM, h0, setI])
 ·by_cases h7 : 7 < l.length
  ·have hd : decide ((7 : Int) < (l.length : Int)) = true := by simp; omega
   have hd0 : ((l.length : Int) == 0) = false := by rw [beq_eq_false_iff_ne]; omega
   clear HV hv
   go_enter Tryz.func36, Tryz.ntmps36
   go_wp2_with fail
   all_goals (go_ret; refine ⟨?_, Below.refl _ _⟩; rw [← HR.out]; have : ¬ l.length ≤ 7 := (by omega); simp [chkM, this, setI])
  ·have hd : decide ((7 : Int) < (l.length : Int)) = false := by simp; omega
   have hd0 : ((l.length : Int) == 0) = false := by rw [beq_eq_false_iff_ne]; omega
   have HR2 : Hid (setI (okM [] l) = r) := Lib.hid (by rw [← HR.out]; have : l.length ≤ 7 := (by omega); simp [chkM, this, h0])
   clear HR hv h0
   go_enter Tryz.func36, Tryz.ntmps36
   go_wp2_with fail
   go_loopw [3, 16] (fun s3 s16 wr => ∃ i : Nat, i ≤ l.length ∧ s16 = .int .i64 i ∧ s3 = .string ⟨List.toArray (lastN l i)⟩ ∧ Hid (setI (okM (lastN l i) (l.drop i)) = r) ∧ Below w.heap.size w wr) (fun _ s16 _ => l.length - (intOf s16).toNat)
   case atStart => exact ⟨0, by omega, rfl, rfl, HR2, Below.refl _ _⟩
   case round =>
    obtain ⟨i, hi, rfl, rfl, HI, hb⟩ := hrel
    obtain ⟨wq, h⟩ := Below.nm hb
    subst h
    by_cases hlt : i < l.length
    ·obtain ⟨g, off, rfl, hg, c1, c2⟩ := (HV.out.keep hb).at i hlt
     have hi2 := HI.out
     rw [drop_getD l i hlt] at hi2
     have hnx : lastN l (i + 1) = (l.getD i ([], 0)).1 := rfl
     generalize hx : l.getD i ([], 0) = x at *
     obtain ⟨n, p⟩ := x
     simp only at c1 c2 hnx
     unfold okM at hi2
     generalize lastN l i = z at *
     go_wp2_with fail
     all_goals first
      | (refine ⟨⟨i + 1, by omega, by go_num, by rw [hnx], Lib.hid ?_, Below.allocS hb _⟩, by simp [intOf]; omega⟩
         rw [hnx, ← hi2]
         simp_all [setI])
      | (go_ret; refine ⟨?_, Below.allocS hb _⟩; rw [← hi2]; simp_all [setI] <;> (rw [if_neg (by omega)] at hi2; exact hi2))
    ·obtain rfl : i = l.length := by omega
     go_wp2_with fail
     all_goals (go_ret; refine ⟨?_, hb⟩; rw [← HI.out]; simp [okM, setI])
end Go.Proofs.YthkpmlfaddlieaaGreatDoor
namespace Go.Proofs.YthkpmlfaddlieaaGreatDoor
open Go.ChangeShapes Go.WideShapes Go.ChangeAt Go.RowKit Pl
theorem cell_lt {W : World} {g o : Nat} {x : Value} (h : W.cell? ⟨g, o, none⟩ = some x) : g < W.heap.size := by
 rcases Nat.lt_or_ge g W.heap.size with hlt | hge
 ·exact hlt
 ·unfold World.cell? at h
  rw [Array.getElem?_eq_none hge] at h
  simp at h
theorem ms_val {W : World} {v : Value} (h : Sh.Val W (.slice 2 (.pair .str (.pair (.int .i64) .unit))) v) : ∃ l : List (Bs × Int), MS W v l := by
 rcases (show _ ∨ _ from h) with h | ⟨a, len, cap, hv, hlc, hcm, hel⟩
 ·obtain rfl : v = .slice none 0 0 := by simpa using h
  exact ⟨[], none, 0, rfl, Nat.le_refl _, by unfold maxLen; omega, fun h => absurd rfl h⟩
 ·obtain rfl : v = .slice (some a) len cap := by simpa using hv
  rcases Nat.eq_zero_or_pos len with h0 | hpos
  ·subst h0
   exact ⟨[], some a, cap, rfl, hlc, hcm, fun h => absurd rfl h⟩
  ·obtain ⟨hs, hc⟩ := slice_cells (by decide) hpos hel
   have hf : ∀ i, ∃ x : Bs × Int, i < len → W.cell? ⟨a.block, a.off + i * 2, none⟩ = some (.string ⟨List.toArray x.1⟩) ∧ W.cell? ⟨a.block, a.off + i * 2 + 1, none⟩ = some (.int .i64 x.2) := by
    intro i
    by_cases hi : i < len
    ·obtain ⟨cs, ⟨x, y, rfl, ⟨s, rfl, _⟩, z, u, rfl, ⟨n, rfl, _⟩, hu⟩, _, hj⟩ := hc i hi
     have h0 := hj 0 (by decide)
     have h1 := hj 1 (by decide)
     refine ⟨(s.data.toList, n), fun _ => ⟨?_, ?_⟩⟩
     ·rw [← str_list s]
      simpa using h0
     ·simpa using h1
    ·exact ⟨([], 0), fun h => absurd h hi⟩
   obtain ⟨f, hf⟩ := Classical.axiomOfChoice hf
   obtain ⟨b, off, sp⟩ := a
   simp only at hs
   subst hs
   refine ⟨(List.range len).map f, some ⟨b, off, none⟩, cap, by simp, by simpa using hlc, hcm, fun _ => ⟨b, off, rfl, cell_lt (hf 0 hpos).1, fun i hi => ?_⟩⟩
   have hi' : i < len := by simpa using hi
   have hg : ((List.range len).map f).getD i ([], 0) = f i := by simp [List.getD, hi']
   rw [hg]
   exact hf i hi'
theorem ss_val {W : World} {v : Value} (h : Sh.Val W (.slice 1 .str) v) : ∃ l : List Bs, SS W v l ∧ ∀ i, i < l.length → (l.getD i []).length ≤ maxLen := by
 rcases (show _ ∨ _ from h) with h | ⟨a, len, cap, hv, hlc, hcm, hel⟩
 ·obtain rfl : v = .slice none 0 0 := by simpa using h
  exact ⟨[], SS.nil W, fun i hi => by simp at hi⟩
 ·obtain rfl : v = .slice (some a) len cap := by simpa using hv
  rcases Nat.eq_zero_or_pos len with h0 | hpos
  ·subst h0
   exact ⟨[], ⟨some a, cap, rfl, hlc, hcm, fun h => absurd rfl h⟩, fun i hi => by simp at hi⟩
  ·obtain ⟨hs, hc⟩ := slice_cells (by decide) hpos hel
   have hf : ∀ i, ∃ x : Bs, i < len → W.cell? ⟨a.block, a.off + i, none⟩ = some (.string ⟨List.toArray x⟩) ∧ x.length ≤ maxLen := by
    intro i
    by_cases hi : i < len
    ·obtain ⟨cs, ⟨s, rfl, hsl⟩, _, hj⟩ := hc i hi
     have h0 := hj 0 (by decide)
     refine ⟨s.data.toList, fun _ => ⟨?_, by rw [Array.length_toList]; exact hsl⟩⟩
     rw [← str_list s]
     simpa using h0
    ·exact ⟨[], fun h => absurd h hi⟩
   obtain ⟨f, hf⟩ := Classical.axiomOfChoice hf
   obtain ⟨b, off, sp⟩ := a
   simp only at hs
   subst hs
   have hg : ∀ i, i < len → ((List.range len).map f).getD i [] = f i := fun i hi => by simp [List.getD, hi]
   refine ⟨(List.range len).map f, ⟨some ⟨b, off, none⟩, cap, by simp, by simpa using hlc, hcm, fun _ => ⟨b, off, rfl, cell_lt (hf 0 hpos).1, fun i hi => ?_⟩⟩, fun i hi => ?_⟩
   ·have hi' : i < len := by simpa using hi
    rw [hg i hi']
    exact (hf i hi').1
   ·have hi' : i < len := by simpa using hi
    rw [hg i hi']
    exact (hf i hi').2
end Go.Proofs.YthkpmlfaddlieaaGreatDoor
namespace Go.Proofs.YthkpmlfaddlieaaGreatDoor
open Go.ChangeShapes Go.WideShapes Go.ChangeAt Go.RowKit Pl
def ZSrcI (w : World) (g o : Nat) (l : List Int) : Prop := ∀ i, i < l.length → w.cell? ⟨g, o + i, none⟩ = some (.int .i64 (l.getD i 0))
def IS (w : World) (v : Value) (l : List Int) : Prop :=
 ∃ a cap, v = .slice a l.length cap ∧ l.length ≤ cap ∧ cap ≤ maxLen ∧ (l ≠ [] → ∃ g off, a = some ⟨g, off, none⟩ ∧ g < w.heap.size ∧ ZSrcI w g off l)
theorem IS.at' {w : World} {a : Option Addr} {c : Nat} {l : List Int} (h : IS w (.slice a l.length c) l) (i : Nat) (hi : i < l.length) :
  ∃ g off, a = some ⟨g, off, none⟩ ∧ g < w.heap.size ∧ w.cell? ⟨g, off + i, none⟩ = some (.int .i64 (l.getD i 0)) := by
 obtain ⟨a', cap, h1, _, _, h5⟩ := h
 injection h1 with h1 _ _
 obtain ⟨g, off, e, hg, hc⟩ := h5 (by intro e; rw [e] at hi; simp at hi)
 exact ⟨g, off, h1.trans e, hg, hc i hi⟩
end Go.Proofs.YthkpmlfaddlieaaGreatDoor
namespace Go.Proofs.YthkpmlfaddlieaaGreatDoor
open Go.RowKit
theorem infoZ : (Tryz.prog.info? 3).map (fun i => (i.zero, i.size, i.bytes)) = some (some (.int .i64 0), 1, 8) := by kernel_rfl
def zv (l : List Int) : List Value := l.map fun c => Value.int .i64 c
def ZRow (w : World) (base : Nat) (v : Value) (l : List Int) : Prop := w.ownsRow base 3 1 v l.length (zv l)
theorem zv_len (l : List Int) : (zv l).length = l.length := by simp [zv]
theorem ZRow.nil (w : World) (base : Nat) : ZRow w base (.slice none 0 0) [] := ⟨rfl, .inl ⟨rfl, rfl⟩⟩
theorem ZRow.cells {w : World} {base : Nat} {v : Value} {l : List Int} (h : ZRow w base v l) :
  (v = .slice none 0 0 ∧ l = []) ∨ ∃ g cap, v = .slice (some ⟨g, 0, none⟩) l.length cap ∧ base ≤ g ∧ g < w.heap.size ∧ l.length ≤ cap ∧ cap ≤ maxLen ∧ (∀ i, i < l.length → w.cell? ⟨g, i, none⟩ = some (.int .i64 (l.getD i 0))) ∧ ∀ o, w.frozen? ⟨g, o, none⟩ = false := by
 rcases h.2 with ⟨h1, h2⟩ | ⟨g, cap, cur, hv, hb, hg, hn, hm, hc, ht⟩
 ·exact .inl ⟨h1, List.length_eq_zero_iff.1 h2⟩
 ·refine .inr ⟨g, cap, hv, hb, ?_, hn, hm, fun i hi => ?_, fun o => ?_⟩
  ·rcases Nat.lt_or_ge g w.heap.size with hlt | hge
   ·exact hlt
   ·rw [Array.getElem?_eq_none hge] at hg; cases hg
  ·have h1 : cur[i]? = (cur.toList.take (l.length * 1))[i]? := by
    rw [List.getElem?_take, if_pos (by omega)]; simp
   have h2 : w.cell? ⟨g, i, none⟩ = cur[i]? := by simp [World.cell?, hg]
   rw [h2, h1, ht]
   simp [zv, List.getD, List.getElem?_eq_getElem hi]
  ·simp [World.frozen?, hg]
theorem ZRow.form {w : World} {base : Nat} {v : Value} {l : List Int} (h : ZRow w base v l) : ∃ (a : Option Addr) (cap : Nat), v = .slice a l.length cap := by
 rcases h.cells with ⟨rfl, rfl⟩ | ⟨g, cap, rfl, _⟩
 ·exact ⟨none, 0, rfl⟩
 ·exact ⟨_, cap, rfl⟩
theorem ZRow.own {w : World} {base : Nat} {v : Value} {l : List Int} (h : ZRow w base v l) : ∀ k, v.ownBlock = some k → base ≤ k := by
 intro k hk
 rcases h.cells with ⟨rfl, _⟩ | ⟨g, cap, rfl, hb, _⟩
 ·cases hk
 ·cases hk; exact hb
theorem ZRow.kept {w w' : World} {base : Nat} {v : Value} {l : List Int} (h : ZRow w base v l) (hb : ∀ k, v.ownBlock = some k → w'.heap[k]? = w.heap[k]?) : ZRow w' base v l := by
 refine ⟨h.1, h.2.imp id ?_⟩
 rintro ⟨g, cap, cur, hv, h1, h2, h3⟩
 subst hv
 exact ⟨g, cap, cur, rfl, h1, (hb g rfl).trans h2, h3⟩
theorem ZRow.alloc {w : World} {base : Nat} {v : Value} {l : List Int} (h : ZRow w base v l) (o : Obj) : ZRow (w.alloc o) base v l := by
 refine h.kept (fun k hk => Below.heap_alloc _ _ _ ?_)
 rcases h.cells with ⟨rfl, rfl⟩ | ⟨g, cap, rfl, _, hlt, _⟩
 ·cases hk
 ·cases hk; exact hlt
theorem zsrc1 (w : World) (x : Int) (t : TypeId) : ZSrcI (w.alloc (.cells #[.int .i64 x] t)) w.heap.size 0 [x] := by
 intro i hi
 have : i = 0 := by simp at hi; omega
 subst this
 simp
theorem zsrc_news {w : World} {g o : Nat} {l : List Int} (h : ZSrcI w g o l) : ∀ j u, (zv l)[j]? = some u → w.cell? ((⟨g, o, none⟩ : Addr).add j) = some u := by
 intro j u hj
 have hjl : j < l.length := by
  rcases Nat.lt_or_ge j l.length with hlt | hge
  ·exact hlt
  ·rw [List.getElem?_eq_none (by rw [zv_len]; exact hge)] at hj; cases hj
 have hadd : (⟨g, o, none⟩ : Addr).add j = ⟨g, o + j, none⟩ := by unfold Addr.add; split <;> simp_all
 rw [hadd, h j hjl]
 simp [zv, List.getElem?_eq_getElem hjl] at hj
 simp [List.getD, List.getElem?_eq_getElem hjl, hj]
theorem zone (l : List Int) : ∀ u ∈ zv l, u.oneCell' = true := by
 intro u hu
 simp [zv] at hu
 obtain ⟨c, _, rfl⟩ := hu
 rfl
theorem ZRow.is {w : World} {base : Nat} {v : Value} {l : List Int} (h : ZRow w base v l) : IS w v l := by
 rcases h.cells with ⟨rfl, rfl⟩ | ⟨g, cap, h1, h2, h3, h4, h5, h6, h7⟩
 ·exact ⟨none, 0, rfl, Nat.le_refl _, by unfold maxLen; omega, fun h => absurd rfl h⟩
 ·exact ⟨_, cap, h1, h4, h5, fun _ => ⟨g, 0, rfl, h3, fun i hi => by rw [Nat.zero_add]; exact h6 i hi⟩⟩
section
variable {ops : Array Oper} {o : Oper} {a : Act} {w : World} {Q : Exit → Act → World → Prop}
theorem wp_appZ {K : Act → World → Prop} (s x : Operand)
  (ho : o.op = .call { callee := .builtin .append, args := #[s, x], argTypes := #[111, 111] })
  (base : Nat) (v : Value) (l : List Int) (hs : a.eval s = v) (hown : ZRow w base v l)
  (g off m c : Nat) (news : List Int) (hx : a.eval x = .slice (some ⟨g, off, none⟩) m c) (hm : news.length = m) (hsrc : ZSrcI w g off news)
  (hlen : l.length + m ≤ 8796093022208) (hbase : base ≤ w.heap.size)
  (h : ∀ v' w', ZRow w' base v' (l ++ news) → Below base w w' → K (a.put o.dst v') w') : o.wp Tryz.prog a w K Q := by
 obtain ⟨i0, hi, hz0, hz1, hz2⟩ := info_parts infoZ
 refine wp_append_own w s x 111 ho base 3 i0 (.int .i64 0) 1 8 Tryz.underlying111 hi hz0 hz1 hz2 rfl (by decide) v l.length (zv l) hs hown ⟨g, off, none⟩ m c (zv news) hx (by rw [zv_len, hm]; omega) (zsrc_news hsrc) (zone news)
  (by unfold maxLen; omega) (by omega) hbase (fun v' w' h2 h3 _ => h v' w' ?_ (grown_below h3 hbase hown.own))
 unfold ZRow
 rw [List.length_append, hm, show zv (l ++ news) = zv l ++ zv news from by simp [zv]]
 exact h2
theorem wpList_appZ {rest : List Oper} (hgd : o.guard = none) (s x : Operand)
  (ho : o.op = .call { callee := .builtin .append, args := #[s, x], argTypes := #[111, 111] })
  (base : Nat) (v : Value) (l : List Int) (hs : a.eval s = v) (hown : ZRow w base v l)
  (g off m c : Nat) (news : List Int) (hx : a.eval x = .slice (some ⟨g, off, none⟩) m c) (hm : news.length = m) (hsrc : ZSrcI w g off news)
  (hlen : l.length + m ≤ 8796093022208) (hbase : base ≤ w.heap.size)
  (h : ∀ v' w', ZRow w' base v' (l ++ news) → Below base w w' → wpList Tryz.prog ops Q rest (a.put o.dst v') w') : wpList Tryz.prog ops Q (o :: rest) a w :=
 wpList_plain hgd fun _ hK => wp_appZ s x ho base v l hs hown g off m c news hx hm hsrc hlen hbase fun v' w' h2 h3 => hK _ _ (h v' w' h2 h3)
end
end Go.Proofs.YthkpmlfaddlieaaGreatDoor
namespace Go.Proofs.YthkpmlfaddlieaaGreatDoor
open Go.RowKit Pl
theorem links_any (h : Int) (w : World) :
  Calls Tryz.prog 86 #[.int .i64 h] w fun e w' => ∃ v, e = .returned v ∧ ZRow w' w.heap.size v (linksF h) ∧ Below w.heap.size w w' := by
 by_cases h1 : h < 1
 ·have d1 : decide (h < 1) = true := by simpa using h1
  rw [linksF_out (.inl h1)]
  clear h1
  go_enter Tryz.func86, Tryz.ntmps86
  go_wp2_with fail
  try go_step3
  try go_wp2_with fail
  rw [Exit.noGoto_ret]
  go_ret
  exact ⟨_, rfl, ZRow.nil _ _, Below.refl _ _⟩
 ·have d1 : decide (h < 1) = false := by simpa using h1
  by_cases h2 : 1048576 < h
  ·have d2 : decide (1048576 < h) = true := by simpa using h2
   rw [linksF_out (.inr h2)]
   clear h1 h2
   go_enter Tryz.func86, Tryz.ntmps86
   go_wp2_with fail
   try go_step3
   try go_wp2_with fail
   rw [Exit.noGoto_ret]
   go_ret
   exact ⟨_, rfl, ZRow.nil _ _, Below.refl _ _⟩
  ·have d2 : decide (1048576 < h) = false := by simpa using h2
   obtain ⟨n, rfl⟩ : ∃ n : Nat, h = n := ⟨h.toNat, by omega⟩
   rw [linksF_in (by omega) (by omega)]
   rw [show ((n : Int)).toNat = n from rfl]
   go_enter Tryz.func86, Tryz.ntmps86
   go_wp2_with fail
   refine wp_scope_jumps 0 (fun a' w' => ∃ (k : Nat) (v u5 u6 u7 u8 u9 u10 u11 u12 u13 u14 u15 u16 u17 u18 u19 u20 u21 u22 u23 : Value), a' = { tmps := #[.int .i64 n, undef, .slice none 0 0, v, .int .i64 ((2 ^ (k + 1) : Nat)), u5, u6, u7, u8, u9, u10, u11, u12, u13, u14, u15, u16, u17, u18, u19, u20, u21, u22, u23], defers := [] } ∧ k ≤ 20 ∧ ZRow w' w.heap.size v (linksTo n k) ∧ Below w.heap.size w w') (fun a' _ => 2000000 - (intOf (a'.tmps.getD 4 undef)).toNat) rfl ?_ ?_
   ·go_wp2_with fail
    go_step3
    have hr := ZRow.nil w w.heap.size
    by_cases hm : n % 2 = 0
    ·have hn2 : 2 ≤ n := by omega
     have e1 : (n : Int).tmod 2 = 0 := by rw [Int.tmod_eq_emod_of_nonneg (by omega)]; omega
     have w1 : IntKind.i64.wrap ((n : Int) - 2) = (n : Int) - 2 := by rw [IntKind.wrap_i64]; omega
     have HL1 : Hid (linksTo n (0 + 1) = [(n : Int) - 2]) := Lib.hid (linksTo_yes (k := 0) hm)
     clear hm
     go_wp2_with (first
      | (at_builtin; refine wpList_appZ rfl (.tmp 15) (.tmp 19) rfl w.heap.size _ [] rfl (hr.alloc _) _ 0 1 1 [(n : Int) - 2] rfl rfl (zsrc1 _ _ _) (by simp) (by simp) ?_; rintro v2 w2' hS2 hb2)
      | fail)
     go_step3
     have hb3 : Below w.heap.size w w2' := (Below.allocS (Below.refl _ _) _).trans hb2
     exact ⟨rfl, 0 + 1, v2, _, _, _, _, _, _, _, _, _, _, _, _, _, _, _, _, _, _, _, rfl, by omega, by rw [HL1.out]; exact hS2, hb3⟩
    ·have e1 : (n : Int).tmod 2 ≠ 0 := by rw [Int.tmod_eq_emod_of_nonneg (by omega)]; omega
     have HE : Hid (linksTo n 20 = []) := Lib.hid (links_stop (k := 0) hm 20)
     go_wp2_with fail
     simp only [Exit.jump]
     go_ret
     exact ⟨_, rfl, by rw [HE.out]; exact ZRow.nil _ _, Below.refl _ _⟩
   ·rintro a' w' ⟨k, v, u5, u6, u7, u8, u9, u10, u11, u12, u13, u14, u15, u16, u17, u18, u19, u20, u21, u22, u23, rfl, hk, hr, hb⟩
    have hp0 := Nat.pow_pos (n := k + 1) (show 0 < 2 by omega)
    have hpw : (2 : Nat) ^ (k + 1 + 1) = 2 ^ (k + 1) * 2 := Nat.pow_succ _ _
    have hp21 : (2 : Nat) ^ (k + 1) ≤ 2 ^ 21 := Nat.pow_le_pow_right (by omega) (by omega)
    have HLY := Lib.hid (fun h => linksTo_yes (h := n) (k := k) h)
    have HST := Lib.hid (fun (h : n % 2 ^ (k + 1) ≠ 0) => links_stop h (20 - k))
    have HLL := Lib.hid (links_len n k)
    have HK : Hid (n % 2 ^ (k + 1) = 0 → k + 1 ≤ 20) := Lib.hid (fun h0 => by
     rcases Nat.lt_or_ge k 20 with h | h
     ·exact h
     ·have h3 : (2 : Nat) ^ 21 ≤ 2 ^ (k + 1) := Nat.pow_le_pow_right (by omega) (by omega)
      have h4 := Nat.le_of_dvd (by omega) (Nat.dvd_of_mod_eq_zero h0)
      omega)
    obtain ⟨va, vc, rfl⟩ := hr.form
    have HR := Lib.hid hr
    clear hr
    generalize hsp : (2 : Nat) ^ (k + 1) = s at *
    generalize hs2 : (2 : Nat) ^ (k + 1 + 1) = s2 at *
    have HS2 := Lib.hid hs2
    have HSP := Lib.hid hsp
    clear hs2 hsp
    have e1 : (n : Int).tmod (s : Int) = ((n % s : Nat) : Int) := by rw [Int.ofNat_tmod]
    have e0 : (s : Int) ≠ 0 := by omega
    by_cases hm : n % s = 0
    ·have hsn : s ≤ n := Nat.le_of_dvd (by omega) (Nat.dvd_of_mod_eq_zero hm)
     rw [hm] at e1
     have HK2 := Lib.hid (HK.out hm)
     have HL2 := Lib.hid (HLY.out hm)
     have w1 : IntKind.i64.wrap ((n : Int) - (s : Int)) = (n : Int) - (s : Int) := by rw [IntKind.wrap_i64]; omega
     have w2 : IntKind.i64.wrap ((s : Int) * 2) = (s : Int) * 2 := by rw [IntKind.wrap_i64]; omega
     clear HK HLY HST hm
     generalize linksTo n k = L at *
     go_wp2_with (first
      | (at_builtin; refine wpList_appZ rfl (.tmp 15) (.tmp 19) rfl w.heap.size _ L rfl (HR.out.alloc _) _ 0 1 1 [(n : Int) - (s : Int)] rfl rfl (zsrc1 _ _ _) (by have := HLL.out; omega) (by have := hb.size; simp; omega) ?_; rintro v2 w2' hS2 hb2)
      | fail)
     go_step3
     have hb3 : Below w.heap.size w w2' := (Below.allocS hb _).trans hb2
     refine ⟨rfl, ⟨k + 1, v2, _, _, _, _, _, _, _, _, _, _, _, _, _, _, _, _, _, _, _, by rw [HS2.out, hpw]; rfl, HK2.out, by rw [HL2.out]; exact hS2, hb3⟩, ?_⟩
     simp [intOf]
     omega
    ·have e2 : ((n % s : Nat) : Int) ≠ 0 := by omega
     have HE : Hid (linksTo n 20 = linksTo n k) := Lib.hid (by rw [← HST.out hm, show k + (20 - k) = 20 from by omega])
     go_wp2_with fail
     simp only [Exit.jump]
     go_ret
     exact ⟨_, rfl, by rw [HE.out]; exact HR.out, hb⟩
end Go.Proofs.YthkpmlfaddlieaaGreatDoor
namespace Go.Proofs.YthkpmlfaddlieaaGreatDoor
open Go.Shelf
def laysCont_ren : Go.Shelf.Ren := ⟨fun | 8 => 110 | 6 => 137 | n => n, fun | 22 => 24 | 23 => 9 | 25 => 165 | 4 => 4 | 3 => 3 | 0 => 0 | n => n, fun | n => n⟩
theorem laysCont : Go.Proofs.SlLaysH.n8 Tryz.prog laysCont_ren := {
 mixed := by kernel_rfl
 f6 := ⟨Tryz.f137.name, by decide, Tryz.func137.trans (congrArg some (by kernel_rfl))⟩
 f8 := ⟨Tryz.f110.name, by decide, Tryz.func110.trans (congrArg some (by kernel_rfl))⟩
 t0 := Tryz.underlying0
 a0 := Tryz.isAgg0
 z0 := Tryz.sizeOf0
 v0 := Tryz.zeroValue0
 t3 := Tryz.underlying3
 a3 := Tryz.isAgg3
 z3 := Tryz.sizeOf3
 v3 := Tryz.zeroValue3
 t4 := Tryz.underlying4
 a4 := Tryz.isAgg4
 z4 := Tryz.sizeOf4
 v4 := Tryz.zeroValue4
 t22 := Tryz.underlying24
 a22 := Tryz.isAgg24
 z22 := Tryz.sizeOf24
 v22 := Tryz.zeroValue24
 a23 := Tryz.isAgg9
 z23 := Tryz.sizeOf9
 t25 := Tryz.underlying165
 a25 := Tryz.isAgg165
 z25 := Tryz.sizeOf165
 v25 := Tryz.zeroValue165 }
end Go.Proofs.YthkpmlfaddlieaaGreatDoor
namespace Go.Proofs.YthkpmlfaddlieaaGreatDoor
open Go.RowKit Pl
theorem cflag_any (b : Bool) (w : World) : Calls Tryz.prog 45 #[.bool b] w fun e w' => e = .returned (.string ⟨List.toArray (flagB b)⟩) ∧ Below w.heap.size w w' := by
 cases b
 ·go_enter Tryz.func45, Tryz.ntmps45
  go_wp2_with fail
  all_goals (go_ret; exact ⟨rfl, Below.refl _ _⟩)
 ·go_enter Tryz.func45, Tryz.ntmps45
  go_wp2_with fail
  all_goals (go_ret; exact ⟨rfl, Below.refl _ _⟩)
end Go.Proofs.YthkpmlfaddlieaaGreatDoor
namespace Go.Proofs.YthkpmlfaddlieaaGreatDoor
open Go.RowKit Go.Shelf Pl
theorem hd_sum (s : Bs) (w : World) : Calls Tryz.prog 108 #[.string ⟨List.toArray s⟩] w fun e w' => e = .returned (.bool (decide (s.length = 32))) ∧ w' = w := by
 by_cases h : s.length = 32
 ·have h1 : decide (s.length = 32) = true := by simpa using h
  have h2 : ((s.length : Int) == 32) = true := by simp; omega
  have h3 : decide ((s.length : Int) = 32) = true := by simp; omega
  rw [h1]
  clear h1
  go_enter Tryz.func108, Tryz.ntmps108
  go_wp2_with fail
  go_ret
  exact ⟨by first | rfl | (exact ret_bool (by simp; omega)), rfl⟩
 ·have h1 : decide (s.length = 32) = false := by simpa using h
  have h2 : ((s.length : Int) == 32) = false := by simp; omega
  have h3 : decide ((s.length : Int) = 32) = false := by simp; omega
  rw [h1]
  clear h1
  go_enter Tryz.func108, Tryz.ntmps108
  go_wp2_with fail
  go_ret
  exact ⟨by first | rfl | (exact ret_bool (by simp; omega)), rfl⟩
theorem hd_maybe (s : Bs) (w : World) : Calls Tryz.prog 111 #[.string ⟨List.toArray s⟩] w fun e w' => e = .returned (.bool (may32 s)) ∧ w' = w := by
 have hs := fun W => hd_sum s W
 unfold may32
 by_cases h : s = []
 ·subst h
  go_enter Tryz.func111, Tryz.ntmps111
  go_wp2_with fail
  go_ret
  exact ⟨rfl, rfl⟩
 ·have h1 : decide (s = []) = false := by simpa using h
  have h2 : s.isEmpty = false := by simpa using h
  have h3 : (s == []) = false := by simpa using h
  rw [h1, Bool.false_or]
  clear h1 h
  generalize decide (s.length = 32) = x at *
  go_enter Tryz.func111, Tryz.ntmps111
  go_wp2_with fail
  refine (hs _).mono ?_
  rintro e w1 ⟨rfl, rfl⟩
  go_wp2_with fail
  go_ret
  exact ⟨rfl, rfl⟩
theorem hd_in (n most : Int) (w : World) : Calls Tryz.prog 107 #[.int .i64 n, .int .i64 most] w fun e w' => e = .returned (.bool (inH n most)) ∧ w' = w := by
 unfold inH
 by_cases h : 0 ≤ n
 ·have h1 : decide (0 ≤ n) = true := by simpa using h
  rw [h1, Bool.true_and]
  clear h
  by_cases h2 : n ≤ most
  ·have h3 : decide (n ≤ most) = true := by simpa using h2
   rw [h3]
   clear h2
   go_enter Tryz.func107, Tryz.ntmps107
   go_wp2_with fail
   go_ret
   exact ⟨rfl, rfl⟩
  ·have h3 : decide (n ≤ most) = false := by simpa using h2
   rw [h3]
   clear h2
   go_enter Tryz.func107, Tryz.ntmps107
   go_wp2_with fail
   go_ret
   exact ⟨rfl, rfl⟩
 ·have h1 : decide (0 ≤ n) = false := by simpa using h
  rw [h1, Bool.false_and]
  clear h
  go_enter Tryz.func107, Tryz.ntmps107
  go_wp2_with fail
  go_ret
  exact ⟨rfl, rfl⟩
theorem hd_numbers (a1 a2 a3 : Int) (lb : Bool) (pa st rc tx me ne : Bs) (sk : Value) (w : World) :
  Calls Tryz.prog 72 #[.agg #[.int .i64 a1, .int .i64 a2, .int .i64 a3, .bool lb, .string ⟨List.toArray pa⟩, .string ⟨List.toArray st⟩, .string ⟨List.toArray rc⟩, .string ⟨List.toArray tx⟩, .string ⟨List.toArray me⟩, .string ⟨List.toArray ne⟩, sk]] w fun e w' => e = .returned (.bool (inH a1 1048576 && inH a2 1048576 && inH a3 1048576)) ∧ Below w.heap.size w w' := by
 have hb0 : Below w.heap.size w (w.alloc (.cells #[.int .i64 a1, .int .i64 a2, .int .i64 a3, .bool lb, .string ⟨List.toArray pa⟩, .string ⟨List.toArray st⟩, .string ⟨List.toArray rc⟩, .string ⟨List.toArray tx⟩, .string ⟨List.toArray me⟩, .string ⟨List.toArray ne⟩, sk] 48)) := Below.allocS (Below.refl _ _) _
 have B0 : Blk (w.alloc (.cells #[.int .i64 a1, .int .i64 a2, .int .i64 a3, .bool lb, .string ⟨List.toArray pa⟩, .string ⟨List.toArray st⟩, .string ⟨List.toArray rc⟩, .string ⟨List.toArray tx⟩, .string ⟨List.toArray me⟩, .string ⟨List.toArray ne⟩, sk] 48)) w.heap.size #[.int .i64 a1, .int .i64 a2, .int .i64 a3, .bool lb, .string ⟨List.toArray pa⟩, .string ⟨List.toArray st⟩, .string ⟨List.toArray rc⟩, .string ⟨List.toArray tx⟩, .string ⟨List.toArray me⟩, .string ⟨List.toArray ne⟩, sk] := Blk.new _ _ _
 obtain ⟨b1, b2, b3⟩ := id B0
 have q1 := fun W => hd_in a1 1048576 W
 have q2 := fun W => hd_in a2 1048576 W
 have q3 := fun W => hd_in a3 1048576 W
 generalize inH a1 1048576 = x1 at *
 generalize inH a2 1048576 = x2 at *
 generalize inH a3 1048576 = x3 at *
 clear B0
 cases x1
 ·go_enter Tryz.func72, Tryz.ntmps72
  go_wp2_with fail
  refine (q1 _).mono ?_
  rintro e w1 ⟨rfl, rfl⟩
  go_wp2_with fail
  go_ret
  exact ⟨rfl, hb0⟩
 ·cases x2
  ·go_enter Tryz.func72, Tryz.ntmps72
   go_wp2_with fail
   refine (q1 _).mono ?_
   rintro e w1 ⟨rfl, rfl⟩
   go_wp2_with fail
   refine (q2 _).mono ?_
   rintro e w1 ⟨rfl, rfl⟩
   go_wp2_with fail
   go_ret
   exact ⟨rfl, hb0⟩
  ·go_enter Tryz.func72, Tryz.ntmps72
   go_wp2_with fail
   refine (q1 _).mono ?_
   rintro e w1 ⟨rfl, rfl⟩
   go_wp2_with fail
   refine (q2 _).mono ?_
   rintro e w1 ⟨rfl, rfl⟩
   go_wp2_with fail
   refine (q3 _).mono ?_
   rintro e w1 ⟨rfl, rfl⟩
   go_wp2_with fail
   go_ret
   exact ⟨rfl, hb0⟩
theorem hd_first (a1 a2 a3 : Int) (lb : Bool) (pa st rc tx me ne : Bs) (K : List Bs) (sk : Value) (w : World) :
  Calls Tryz.prog 73 #[.agg #[.int .i64 a1, .int .i64 a2, .int .i64 a3, .bool lb, .string ⟨List.toArray pa⟩, .string ⟨List.toArray st⟩, .string ⟨List.toArray rc⟩, .string ⟨List.toArray tx⟩, .string ⟨List.toArray me⟩, .string ⟨List.toArray ne⟩, sk]] w fun e w' => e = .returned (.bool (firstH ⟨a1, a2, a3, lb, pa, st, rc, tx, me, ne, K⟩)) ∧ Below w.heap.size w w' := by
 have hb0 : Below w.heap.size w (w.alloc (.cells #[.int .i64 a1, .int .i64 a2, .int .i64 a3, .bool lb, .string ⟨List.toArray pa⟩, .string ⟨List.toArray st⟩, .string ⟨List.toArray rc⟩, .string ⟨List.toArray tx⟩, .string ⟨List.toArray me⟩, .string ⟨List.toArray ne⟩, sk] 48)) := Below.allocS (Below.refl _ _) _
 have B0 : Blk (w.alloc (.cells #[.int .i64 a1, .int .i64 a2, .int .i64 a3, .bool lb, .string ⟨List.toArray pa⟩, .string ⟨List.toArray st⟩, .string ⟨List.toArray rc⟩, .string ⟨List.toArray tx⟩, .string ⟨List.toArray me⟩, .string ⟨List.toArray ne⟩, sk] 48)) w.heap.size #[.int .i64 a1, .int .i64 a2, .int .i64 a3, .bool lb, .string ⟨List.toArray pa⟩, .string ⟨List.toArray st⟩, .string ⟨List.toArray rc⟩, .string ⟨List.toArray tx⟩, .string ⟨List.toArray me⟩, .string ⟨List.toArray ne⟩, sk] := Blk.new _ _ _
 obtain ⟨b1, b2, b3⟩ := id B0
 clear B0
 unfold firstH
 simp only
 by_cases h1 : 0 < a1
 ·have q1 := fun W => hd_sum pa W
  have d1 : decide (0 < a1) = true := by simpa using h1
  rw [if_pos h1]
  clear h1
  generalize decide (pa.length = 32) = x1 at *
  go_enter Tryz.func73, Tryz.ntmps73
  go_wp2_with fail
  refine (q1 _).mono ?_
  rintro e w1 ⟨rfl, rfl⟩
  go_wp2_with fail
  go_ret
  exact ⟨rfl, hb0⟩
 ·have d1 : decide (0 < a1) = false := by simpa using h1
  rw [if_neg h1]
  clear h1
  by_cases h2 : pa = []
  ·subst h2
   by_cases h3 : a2 = 0
   ·subst h3
    by_cases h4 : a3 = 0
    ·subst h4
     simp only [decide_true, Bool.true_and]
     go_enter Tryz.func73, Tryz.ntmps73
     go_wp2_with fail
     go_ret
     exact ⟨rfl, hb0⟩
    ·have e1 : (a3 == 0) = false := by simpa using h4
     have e2 : decide (a3 = 0) = false := by simpa using h4
     rw [e2, Bool.and_false, Bool.false_and]
     clear h4
     go_enter Tryz.func73, Tryz.ntmps73
     go_wp2_with fail
     go_ret
     exact ⟨rfl, hb0⟩
   ·have e1 : (a2 == 0) = false := by simpa using h3
    have e2 : decide (a2 = 0) = false := by simpa using h3
    rw [e2, Bool.and_false, Bool.false_and, Bool.false_and]
    clear h3
    go_enter Tryz.func73, Tryz.ntmps73
    go_wp2_with fail
    go_ret
    exact ⟨rfl, hb0⟩
  ·have e1 : decide (pa = []) = false := by simpa using h2
   have e2 : pa.isEmpty = false := by simpa using h2
   have e3 : (pa == []) = false := by simpa using h2
   rw [e1, Bool.false_and, Bool.false_and, Bool.false_and]
   clear h2
   go_enter Tryz.func73, Tryz.ntmps73
   go_wp2_with fail
   go_ret
   exact ⟨rfl, hb0⟩
def oddS (l : List Bs) : Bool := l.any (fun s => !decide (s.length = 32))
theorem odd_all (l : List Bs) : (!oddS l) = l.all (fun s => decide (s.length = 32)) := by
 unfold oddS
 rw [List.not_any_eq_all_not]
 simp
theorem hd_odd (s : Bs) (w : World) : Calls Tryz.prog 109 #[.string ⟨List.toArray s⟩] w fun e w' => e = .returned (.bool (!decide (s.length = 32))) ∧ w' = w := by
 have q1 := fun W => hd_sum s W
 generalize decide (s.length = 32) = x at *
 go_enter Tryz.func109, Tryz.ntmps109
 go_wp2_with fail
 refine (q1 _).mono ?_
 rintro e w1 ⟨rfl, rfl⟩
 go_wp2_with fail
 go_ret
 exact ⟨rfl, rfl⟩
theorem contains_any (v : Value) (l : List Bs) (w : World) (hv : SS w v l) :
  Calls Tryz.prog 110 #[v, .func (.func 109) #[] #[]] w fun e w' => e = .returned (.bool (oddS l)) ∧ ∃ q, w' = w.drewN q := by
 obtain ⟨a, cap, rfl, h1, h2, h3⟩ := hv
 by_cases hl : l = []
 ·subst hl
  refine (AnyE.slices_ContainsFunc_empty laysCont a cap _ w).mono ?_
  rintro e w' ⟨rfl, rfl⟩
  exact ⟨rfl, 0, rfl⟩
 ·obtain ⟨g, off, rfl, hg, hc⟩ := h3 hl
  have := AnyE.slices_ContainsFunc laysCont (fun s : Bs => .string ⟨List.toArray s⟩) (fun s => !decide (s.length = 32)) 109 #[] (enters_of (Tryz.func109) (by decide) rfl) g off l.length cap l w (fun W x _ => (hd_odd x W).mono (fun e w' ⟨h, h'⟩ => ⟨h, 0, h'⟩)) (Nat.le_refl _) (by unfold maxLen at h2; omega) (fun j hj => by
   rw [hc j hj]
   simp [List.getD, hj])
  rw [List.take_length] at this
  exact this
end Go.Proofs.YthkpmlfaddlieaaGreatDoor
