/- Range, Wk11, ScBeh, Laid. -/
import Derived.Maps.OwnIn
import Derived.RegionIn
import Derived.Shelf.RegionOpen
import Derived.Test.YtdaihimdkgmboaaDoorRows
import Derived.ProofKit
import Derived.LaidMore
import Derived.Stop.Joined
import Derived.Test.YtdaihimdkgmboaaDoorMg2
import Derived.Test.YtdaihimdkgmboaaDoorMg5
import Derived.Test.YtdaihimdkgmboaaDoorMg12
set_option linter.unnecessarySimpa false

/- Walks of layer 11: a page of a range. -/
set_option linter.unusedSimpArgs false
set_option linter.unusedVariables false
namespace Go.Proofs.YtdaihimdkgmboaaDoor
open Go.RowKit Go.Shelf Pl

attribute [local go_sem] Oper.semAt_some

theorem wpListIn_appI {F : Fence} {nF : Nat} {ops : Array Oper} {rest : List Oper} {o : Oper} {a : Act} {w : World} {Q : Exit → Act → World → Prop} (hgd : o.guard = none) (s x : Operand)
    (ho : o.op = .call { callee := .builtin .append, args := #[s, x], argTypes := #[25, 25] })
    (base : Nat) (v : Value) (l : List It) (hs : a.eval s = v) (hown : IRow w base v l)
    (g off m c : Nat) (news : List It) (hx : a.eval x = .slice (some ⟨g, off, none⟩) m c) (hm : news.length = m) (hsrc : ISrc w g off news)
    (hlen : l.length + m ≤ 1099511627000) (hbase : base ≤ w.heap.size)
    (h : ∀ v' w', IRow w' base v' (l ++ news) → w.grownBy w' v.ownBlock → (v'.ownBlock = v.ownBlock ∨ v'.ownBlock = some w.heap.size) → wpListIn F nF Tryd.prog ops Q rest (a.put o.dst v') w') : wpListIn F nF Tryd.prog ops Q (o :: rest) a w := by
  obtain ⟨i0, hi, hz0, hz1, hz2⟩ := info_parts infoIt
  refine wpListIn_append_own_at w hgd s x 25 ho base 44 i0 (.agg #[.string ⟨#[]⟩, .string ⟨#[]⟩]) 2 32 Tryd.underlying25 hi hz0 hz1 hz2 rfl (by decide) v l.length (iv l) hs hown ⟨g, off, none⟩ m c (iv news) hx (by rw [iv_len, hm]) (isrc_news hsrc) (ione news)
    (by unfold maxLen; omega) (by omega) hbase (fun v' w' h2 h3 _ h5 => h v' w' ?_ h3 h5)
  unfold IRow
  rw [List.length_append, hm, iv_app]
  exact h2

/-- Where a page says that it goes on. -/
def nextP (l : List It) (mo : Nat) : Bs := if l.length ≤ mo then [] else behP (l.getD (mo - 1) ([], [])).1

/-- The body's own blocks: the results' cells, and the row of the items. -/
def ownR (b : Nat) (W : World) : List Nat := [b + 1, b + 2, b + 3] ++ ((W.cell? ⟨b + 1, 0, none⟩).bind (·.ownBlock)).toList
theorem ownR_eq {b : Nat} {W W' : World} (h : W'.cell? ⟨b + 1, 0, none⟩ = W.cell? ⟨b + 1, 0, none⟩) : ownR b W' = ownR b W := by
  unfold ownR; rw [h]
theorem ownR_at {b : Nat} {W : World} {v : Value} (h : W.cell? ⟨b + 1, 0, none⟩ = some v) : ownR b W = [b + 1, b + 2, b + 3] ++ v.ownBlock.toList := by
  unfold ownR; rw [h]; rfl

theorem three_post (w W w5 : World) (mo : Nat) (pre : List It) (va : Option Addr) (vc : Nat) (key key0 : Bs) (hfull : pre.length = mo)
    (bV : Boxed W (w.heap.size + 1) 25 (.slice va pre.length vc)) (hrow : W.ownsRow w.heap.size 44 2 (.slice va pre.length vc) pre.length (iv pre))
    (bN : Boxed W (w.heap.size + 1 + 1) 9 (.string ⟨List.toArray (key0)⟩)) (bE : Boxed W (w.heap.size + 1 + 1 + 1) 27 (.int .i64 (0))) (hB : Below w.heap.size w W) (hb5 : Below W.drew.heap.size W.drew w5) :
    KeepsOthers W (((w5.setCell ⟨w.heap.size + 1, 0, none⟩ (.slice va mo vc)).setCell ⟨w.heap.size + 1 + 1, 0, none⟩ (.string ⟨List.toArray (key)⟩)).setCell ⟨w.heap.size + 1 + 1 + 1, 0, none⟩ (.int .i64 (0))) ∧ Boxed (((w5.setCell ⟨w.heap.size + 1, 0, none⟩ (.slice va mo vc)).setCell ⟨w.heap.size + 1 + 1, 0, none⟩ (.string ⟨List.toArray (key)⟩)).setCell ⟨w.heap.size + 1 + 1 + 1, 0, none⟩ (.int .i64 (0))) (w.heap.size + 1) 25 (.slice va mo vc) ∧ (((w5.setCell ⟨w.heap.size + 1, 0, none⟩ (.slice va mo vc)).setCell ⟨w.heap.size + 1 + 1, 0, none⟩ (.string ⟨List.toArray (key)⟩)).setCell ⟨w.heap.size + 1 + 1 + 1, 0, none⟩ (.int .i64 (0))).ownsRow w.heap.size 44 2 (.slice va mo vc) (pre.length) (iv pre) ∧
    Boxed (((w5.setCell ⟨w.heap.size + 1, 0, none⟩ (.slice va mo vc)).setCell ⟨w.heap.size + 1 + 1, 0, none⟩ (.string ⟨List.toArray (key)⟩)).setCell ⟨w.heap.size + 1 + 1 + 1, 0, none⟩ (.int .i64 (0))) (w.heap.size + 1 + 1) 9 (.string ⟨List.toArray (key)⟩) ∧ Boxed (((w5.setCell ⟨w.heap.size + 1, 0, none⟩ (.slice va mo vc)).setCell ⟨w.heap.size + 1 + 1, 0, none⟩ (.string ⟨List.toArray (key)⟩)).setCell ⟨w.heap.size + 1 + 1 + 1, 0, none⟩ (.int .i64 (0))) (w.heap.size + 1 + 1 + 1) 27 (.int .i64 (0)) ∧ Below w.heap.size w (((w5.setCell ⟨w.heap.size + 1, 0, none⟩ (.slice va mo vc)).setCell ⟨w.heap.size + 1 + 1, 0, none⟩ (.string ⟨List.toArray (key)⟩)).setCell ⟨w.heap.size + 1 + 1 + 1, 0, none⟩ (.int .i64 (0))) := by
  subst hfull
  have hb : Below W.heap.size W w5 := (Below.refl _ _).drew.trans hb5
  have hg := grown_of hb
  have bV5 := bV.kept hg (by simp)
  have bN5 := bN.kept hg (by simp)
  have bE5 := bE.kept hg (by simp)
  have r5 : w5.ownsRow w.heap.size 44 2 (.slice va pre.length vc) pre.length (iv pre) := (show IRow W w.heap.size _ pre from hrow).keep hb
  have bV6 := bV5.set (.slice va pre.length vc)
  have bN6 := bN5.other (B' := w.heap.size + 1) (by omega) (.slice va pre.length vc)
  have bE6 := bE5.other (B' := w.heap.size + 1) (by omega) (.slice va pre.length vc)
  have r6 := r5.kept (grownBy_setCell' w5 (w.heap.size + 1) (.slice va pre.length vc)) (.inr (bV5.not_row (by decide) r5).symm)
  have k6 : KeepsOthers W (w5.setCell ⟨w.heap.size + 1, 0, none⟩ (.slice va pre.length vc)) := (KeepsOthers.of_grownBy hg (fun j o e => by cases e)).trans (KeepsOthers.setCell _ _ _)
  have b6 : Below w.heap.size w (w5.setCell ⟨w.heap.size + 1, 0, none⟩ (.slice va pre.length vc)) := (hB.trans (hb.mono hB.size)).setCell (p := ⟨w.heap.size + 1, 0, none⟩) (by simp) _
  generalize w5.setCell ⟨w.heap.size + 1, 0, none⟩ (.slice va pre.length vc) = w6 at *
  have bV7 := bV6.other (B' := w.heap.size + 1 + 1) (by omega) (.string ⟨List.toArray (key)⟩)
  have bN7 := bN6.set (.string ⟨List.toArray (key)⟩)
  have bE7 := bE6.other (B' := w.heap.size + 1 + 1) (by omega) (.string ⟨List.toArray (key)⟩)
  have r7 := r6.kept (grownBy_setCell' w6 (w.heap.size + 1 + 1) (.string ⟨List.toArray (key)⟩)) (.inr (bN6.not_row (by decide) r6).symm)
  have k7 := k6.trans (KeepsOthers.setCell w6 ⟨w.heap.size + 1 + 1, 0, none⟩ (.string ⟨List.toArray (key)⟩))
  have b7 := b6.setCell (p := ⟨w.heap.size + 1 + 1, 0, none⟩) (by simp; omega) (.string ⟨List.toArray (key)⟩)
  generalize w6.setCell ⟨w.heap.size + 1 + 1, 0, none⟩ (.string ⟨List.toArray (key)⟩) = w7 at *
  have bV8 := bV7.other (B' := w.heap.size + 1 + 1 + 1) (by omega) (.int .i64 (0))
  have bN8 := bN7.other (B' := w.heap.size + 1 + 1 + 1) (by omega) (.int .i64 (0))
  have bE8 := bE7.set (.int .i64 (0))
  have r8 := r7.kept (grownBy_setCell' w7 (w.heap.size + 1 + 1 + 1) (.int .i64 (0))) (.inr (bE7.not_row (by decide) r7).symm)
  have k8 := k7.trans (KeepsOthers.setCell w7 ⟨w.heap.size + 1 + 1 + 1, 0, none⟩ (.int .i64 (0)))
  have b8 := b7.setCell (p := ⟨w.heap.size + 1 + 1 + 1, 0, none⟩) (by simp; omega) (.int .i64 (0))
  exact ⟨k8, bV8, r8, bN8, bE8, b8⟩

theorem full_post (B : Nat) (x : It) (w W w5 : World) (mo : Nat) (pre : List It) (va : Option Addr) (vc : Nat) (key key0 : Bs) (hfull : pre.length = mo)
    (bV : Boxed W (w.heap.size + 1) 25 (.slice va pre.length vc)) (hrow : W.ownsRow w.heap.size 44 2 (.slice va pre.length vc) pre.length (iv pre))
    (bN : Boxed W (w.heap.size + 1 + 1) 9 (.string ⟨List.toArray (key0)⟩)) (bE : Boxed W (w.heap.size + 1 + 1 + 1) 27 (.int .i64 (0))) (hB : Below w.heap.size w W) (hb5 : Below W.drew.heap.size W.drew w5) (hkey : key = behP (pre.getD (mo - 1) ([], [])).1) :
    KeepsFrom B W (((w5.setCell ⟨w.heap.size + 1, 0, none⟩ (.slice va mo vc)).setCell ⟨w.heap.size + 1 + 1, 0, none⟩ (.string ⟨List.toArray (key)⟩)).setCell ⟨w.heap.size + 1 + 1 + 1, 0, none⟩ (.int .i64 (0))) ∧
    (Code.ret = .ret ∧ ∃ (pre' : List It) (x' : It), pre ++ [x] = pre' ++ [x'] ∧ pre'.length = mo ∧
      (∃ v, Boxed (((w5.setCell ⟨w.heap.size + 1, 0, none⟩ (.slice va mo vc)).setCell ⟨w.heap.size + 1 + 1, 0, none⟩ (.string ⟨List.toArray (key)⟩)).setCell ⟨w.heap.size + 1 + 1 + 1, 0, none⟩ (.int .i64 (0))) (w.heap.size + 1) 25 v ∧ (((w5.setCell ⟨w.heap.size + 1, 0, none⟩ (.slice va mo vc)).setCell ⟨w.heap.size + 1 + 1, 0, none⟩ (.string ⟨List.toArray (key)⟩)).setCell ⟨w.heap.size + 1 + 1 + 1, 0, none⟩ (.int .i64 (0))).ownsRow w.heap.size 44 2 v (pre'.length) (iv pre') ∧ True) ∧
      (Boxed (((w5.setCell ⟨w.heap.size + 1, 0, none⟩ (.slice va mo vc)).setCell ⟨w.heap.size + 1 + 1, 0, none⟩ (.string ⟨List.toArray (key)⟩)).setCell ⟨w.heap.size + 1 + 1 + 1, 0, none⟩ (.int .i64 (0))) (w.heap.size + 1 + 1) 9 (.string ⟨List.toArray (behP (pre'.getD (mo - 1) ([], [])).1)⟩) ∧ Boxed (((w5.setCell ⟨w.heap.size + 1, 0, none⟩ (.slice va mo vc)).setCell ⟨w.heap.size + 1 + 1, 0, none⟩ (.string ⟨List.toArray (key)⟩)).setCell ⟨w.heap.size + 1 + 1 + 1, 0, none⟩ (.int .i64 (0))) (w.heap.size + 1 + 1 + 1) 27 (.int .i64 (0))) ∧
      Below w.heap.size w (((w5.setCell ⟨w.heap.size + 1, 0, none⟩ (.slice va mo vc)).setCell ⟨w.heap.size + 1 + 1, 0, none⟩ (.string ⟨List.toArray (key)⟩)).setCell ⟨w.heap.size + 1 + 1 + 1, 0, none⟩ (.int .i64 (0)))) := by
  obtain ⟨k8, bV8, r8, bN8, bE8, b8⟩ := three_post w W w5 mo pre va vc key key0 hfull bV hrow bN bE hB hb5
  exact ⟨k8.from _, rfl, pre, x, rfl, hfull, ⟨_, bV8, r8, trivial⟩, ⟨by rw [← hkey]; exact bN8, bE8⟩, b8⟩

set_option maxRecDepth 100000 in
set_option maxHeartbeats 8000000 in
theorem range_yes (pt : Nat) (t : Tr) (L : List It) (hR : RepT t L) (hL : L.length ≤ 100000) (f e : Bs) (mo : Nat) (hm1 : 1 ≤ mo) (hm2 : mo ≤ 16) (w : World) (hT : TAt w pt t) :
    Calls Tryd.prog 13 #[.pointer (some ⟨pt, 0, none⟩), .string ⟨List.toArray (f)⟩, .string ⟨List.toArray (e)⟩, .int .i64 (mo)] w fun e' w' => ∃ v, e' = .returned (.tuple #[v, .string ⟨List.toArray (nextP (wI f e L) mo)⟩, .int .i64 (0)]) ∧ IRow w' w.heap.size v ((wI f e L).take mo) ∧ Below w.heap.size w w' := by
  have d1 : decide ((mo : Int) < 1) = false := by simp only [decide_eq_false_iff_not]; omega
  have d2 : decide ((16 : Int) < (mo : Int)) = false := by simp only [decide_eq_false_iff_not]; omega
  refine (callsIn_wide (n := 3)).1 ?_
  refine callsIn_of_wp_marks Tryd.func13 rfl trivial ?_ rfl
  simp only [Tryd.ntmps13, List.size_toArray, List.length_cons, List.length_nil, Nat.reduceAdd, Nat.reduceSub, Array.replicate_succ, Array.replicate_zero, List.push_toArray, List.append_toArray, List.nil_append, List.cons_append]
  gi_wp2_with (refine ⟨trivial, ?_⟩; gi_at_call 31; refine (callsIn_wide.2 (swithin_any pt f e _)).mono ?_; rintro e1 w1 ⟨rfl, rfl⟩)
  have X0 := ((((((Boxed.new w 3 (.int .i64 (mo))).alloc (.cells #[.slice none 0 0] 25)).alloc (.cells #[.string ⟨List.toArray ([])⟩] 9)).alloc (.cells #[.int .i64 (0)] 27)).alloc (.cells #[.pointer (some ⟨pt, 0, none⟩)] 30)).alloc (.cells #[.string ⟨List.toArray (f)⟩] 9)).alloc (.cells #[.string ⟨List.toArray (e)⟩] 9)
  have X1 := (((((Boxed.new (w.alloc (.cells #[.int .i64 (mo)] 3)) 25 (.slice none 0 0)).alloc (.cells #[.string ⟨List.toArray ([])⟩] 9)).alloc (.cells #[.int .i64 (0)] 27)).alloc (.cells #[.pointer (some ⟨pt, 0, none⟩)] 30)).alloc (.cells #[.string ⟨List.toArray (f)⟩] 9)).alloc (.cells #[.string ⟨List.toArray (e)⟩] 9)
  rw [World.size_alloc] at X1
  have X2 := ((((Boxed.new ((w.alloc (.cells #[.int .i64 (mo)] 3)).alloc (.cells #[.slice none 0 0] 25)) 9 (.string ⟨List.toArray ([])⟩)).alloc (.cells #[.int .i64 (0)] 27)).alloc (.cells #[.pointer (some ⟨pt, 0, none⟩)] 30)).alloc (.cells #[.string ⟨List.toArray (f)⟩] 9)).alloc (.cells #[.string ⟨List.toArray (e)⟩] 9)
  rw [World.size_alloc, World.size_alloc] at X2
  have X3 := (((Boxed.new (((w.alloc (.cells #[.int .i64 (mo)] 3)).alloc (.cells #[.slice none 0 0] 25)).alloc (.cells #[.string ⟨List.toArray ([])⟩] 9)) 27 (.int .i64 (0))).alloc (.cells #[.pointer (some ⟨pt, 0, none⟩)] 30)).alloc (.cells #[.string ⟨List.toArray (f)⟩] 9)).alloc (.cells #[.string ⟨List.toArray (e)⟩] 9)
  rw [World.size_alloc, World.size_alloc, World.size_alloc] at X3
  have X4 := ((Boxed.new ((((w.alloc (.cells #[.int .i64 (mo)] 3)).alloc (.cells #[.slice none 0 0] 25)).alloc (.cells #[.string ⟨List.toArray ([])⟩] 9)).alloc (.cells #[.int .i64 (0)] 27)) 30 (.pointer (some ⟨pt, 0, none⟩))).alloc (.cells #[.string ⟨List.toArray (f)⟩] 9)).alloc (.cells #[.string ⟨List.toArray (e)⟩] 9)
  rw [World.size_alloc, World.size_alloc, World.size_alloc, World.size_alloc] at X4
  have X5 := (Boxed.new (((((w.alloc (.cells #[.int .i64 (mo)] 3)).alloc (.cells #[.slice none 0 0] 25)).alloc (.cells #[.string ⟨List.toArray ([])⟩] 9)).alloc (.cells #[.int .i64 (0)] 27)).alloc (.cells #[.pointer (some ⟨pt, 0, none⟩)] 30)) 9 (.string ⟨List.toArray (f)⟩)).alloc (.cells #[.string ⟨List.toArray (e)⟩] 9)
  rw [World.size_alloc, World.size_alloc, World.size_alloc, World.size_alloc, World.size_alloc] at X5
  have X6 := Boxed.new ((((((w.alloc (.cells #[.int .i64 (mo)] 3)).alloc (.cells #[.slice none 0 0] 25)).alloc (.cells #[.string ⟨List.toArray ([])⟩] 9)).alloc (.cells #[.int .i64 (0)] 27)).alloc (.cells #[.pointer (some ⟨pt, 0, none⟩)] 30)).alloc (.cells #[.string ⟨List.toArray (f)⟩] 9)) 9 (.string ⟨List.toArray (e)⟩)
  rw [World.size_alloc, World.size_alloc, World.size_alloc, World.size_alloc, World.size_alloc, World.size_alloc] at X6
  have hsz : (((((((w.alloc (.cells #[.int .i64 (mo)] 3)).alloc (.cells #[.slice none 0 0] 25)).alloc (.cells #[.string ⟨List.toArray ([])⟩] 9)).alloc (.cells #[.int .i64 (0)] 27)).alloc (.cells #[.pointer (some ⟨pt, 0, none⟩)] 30)).alloc (.cells #[.string ⟨List.toArray (f)⟩] 9)).alloc (.cells #[.string ⟨List.toArray (e)⟩] 9)).heap.size = w.heap.size + 7 := by rw [World.size_alloc, World.size_alloc, World.size_alloc, World.size_alloc, World.size_alloc, World.size_alloc, World.size_alloc]
  have hb0 : Below w.heap.size w (((((((w.alloc (.cells #[.int .i64 (mo)] 3)).alloc (.cells #[.slice none 0 0] 25)).alloc (.cells #[.string ⟨List.toArray ([])⟩] 9)).alloc (.cells #[.int .i64 (0)] 27)).alloc (.cells #[.pointer (some ⟨pt, 0, none⟩)] 30)).alloc (.cells #[.string ⟨List.toArray (f)⟩] 9)).alloc (.cells #[.string ⟨List.toArray (e)⟩] 9)) := Below.allocS (Below.allocS (Below.allocS (Below.allocS (Below.allocS (Below.allocS (Below.allocS (Below.refl _ _) _) _) _) _) _) _) _
  generalize (((((((w.alloc (.cells #[.int .i64 (mo)] 3)).alloc (.cells #[.slice none 0 0] 25)).alloc (.cells #[.string ⟨List.toArray ([])⟩] 9)).alloc (.cells #[.int .i64 (0)] 27)).alloc (.cells #[.pointer (some ⟨pt, 0, none⟩)] 30)).alloc (.cells #[.string ⟨List.toArray (f)⟩] 9)).alloc (.cells #[.string ⟨List.toArray (e)⟩] 9)) = W0 at *
  have o0 : ownR w.heap.size W0 = [w.heap.size + 1, w.heap.size + 2, w.heap.size + 3] := ownR_at X1.cell
  have hkO : ∀ (W : World) (l : Nat) (o o' : Obj), W0.heap.size ≤ l → W.heap[l]? = some o → o.isCells = false → o.isWalk = false → KpO (ownR w.heap.size) W (W.putObj l o') := fun W l o o' hl ho hc _ =>
    KpO.put o' (ownR_eq (World.cell?_of_block (World.putObj_heap_other (fun e => by simp at e; omega)))) ho hc
  refine wpIn_rangeFunc_ownH rfl (by omega) (gf := 64) (lb := #[.pointer (some ⟨(w.heap.size + 1 + 1 + 1 + 1), 0, none⟩), .pointer (some ⟨(w.heap.size + 1 + 1 + 1 + 1 + 1), 0, none⟩), .pointer (some ⟨(w.heap.size + 1 + 1 + 1 + 1 + 1 + 1), 0, none⟩)]) rfl trivial (enters_of Tryd.func64 (by kernel_rfl) rfl)
    (within_stops 2 (by omega) (ownR w.heap.size) W0.heap.size (fun W W' hb => ownR_eq (hb.cell (p := ⟨w.heap.size + 1, 0, none⟩) (by simp; omega))) _ _ _ pt t L hR hL f e W0 (Nat.le_refl _) (by rw [o0]; intro k hk; simp at hk; omega) X4.cell X5.cell X6.cell (by rw [o0]; simp <;> omega) (by rw [o0]; simp <;> omega) (hT.keep hb0))
    KpO.trans hkO (Below.refl _ _) (fun _ => rfl)
    (fun pre W => ((∃ v, Boxed W (w.heap.size + 1) 25 v ∧ W.ownsRow w.heap.size 44 2 v (pre.length) (iv pre) ∧ True) ∧ (Boxed W (w.heap.size + 1 + 1) 9 (.string ⟨List.toArray ([])⟩) ∧ Boxed W (w.heap.size + 1 + 1 + 1) 27 (.int .i64 (0)) ∧ Boxed W w.heap.size 3 (.int .i64 (mo)))) ∧ (pre.length ≤ mo ∧ Below w.heap.size w W))
    (fun c s W => c = .ret ∧ ∃ pre x, s = pre ++ [x] ∧ pre.length = mo ∧ (∃ v, Boxed W (w.heap.size + 1) 25 v ∧ W.ownsRow w.heap.size 44 2 v (pre.length) (iv pre) ∧ True) ∧ (Boxed W (w.heap.size + 1 + 1) 9 (.string ⟨List.toArray (behP (pre.getD (mo - 1) ([], [])).1)⟩) ∧ Boxed W (w.heap.size + 1 + 1 + 1) 27 (.int .i64 (0))) ∧ Below w.heap.size w W)
    (OwnFrom.and (Own.from (fun s A B row hs hg hr => ⟨holdsRow_own w.heap.size (w.heap.size + 1) 25 44 2 (fun pre : List It => pre.length) iv (fun _ _ => True) s A B row hs.1 hg hr, boxed_own _ _ (fun _ => _) s A B row hs.2.1 hg hr, boxed_own _ _ (fun _ => _) s A B row hs.2.2.1 hg hr, boxed_own _ _ (fun _ => _) s A B row hs.2.2.2 hg hr⟩) _) (fun s A B row hs hg hr => ⟨hs.1, ownFrom_below (β := List It) (Nat.le_refl _) (by omega) s A B row hs.2 hg hr⟩))
    (fun c s A B row hs hg hr => by
      obtain ⟨e1, pre, x, e2, e3, h4, ⟨h5, h6⟩, h7⟩ := hs
      have hr' := fun r e => (hr r e).2
      exact ⟨e1, pre, x, e2, e3, holdsRow_own w.heap.size (w.heap.size + 1) 25 44 2 (fun pre : List It => pre.length) iv (fun _ _ => True) pre A B row h4 hg hr', ⟨boxed_own _ _ (fun _ => _) pre A B row h5 hg hr', boxed_own _ _ (fun _ => _) pre A B row h6 hg hr'⟩, ownFrom_below (β := List It) (Nat.le_refl _) (by omega) pre A B row h7 hg hr⟩)
    ⟨⟨⟨_, X1, World.ownsRow_nil _ _ _ _, trivial⟩, X2, X3, X0⟩, Nat.zero_le _, hb0⟩
    (fun x a' W => ∃ Bx, w.heap.size + 4 ≤ Bx ∧ W.heap[Bx]? = some (.cells #[.string ⟨List.toArray (x.1)⟩, .string ⟨List.toArray (x.2)⟩] 44 (0, 0)) ∧ a' = { tmps := #[.pointer (some ⟨pt, 0, none⟩), .string ⟨List.toArray (f)⟩, .string ⟨List.toArray (e)⟩, .int .i64 (mo), undef, undef, undef, .pointer (some ⟨w.heap.size, 0, none⟩), .pointer (some ⟨(w.heap.size + 1), 0, none⟩), .pointer (some ⟨(w.heap.size + 1 + 1), 0, none⟩), .pointer (some ⟨(w.heap.size + 1 + 1 + 1), 0, none⟩), .pointer (some ⟨Bx, 0, none⟩), .int .i64 (mo), .bool false, .bool false, .int .i64 (mo), .bool false, .bool false, .pointer (some ⟨pt, 0, none⟩), .string ⟨List.toArray (f)⟩, .string ⟨List.toArray (e)⟩, .func (.func 64) #[] #[.pointer (some ⟨(w.heap.size + 1 + 1 + 1 + 1), 0, none⟩), .pointer (some ⟨(w.heap.size + 1 + 1 + 1 + 1 + 1), 0, none⟩), .pointer (some ⟨(w.heap.size + 1 + 1 + 1 + 1 + 1 + 1), 0, none⟩)], .agg #[.string ⟨List.toArray (x.1)⟩, .string ⟨List.toArray (x.2)⟩], undef, undef, undef, undef, undef, undef, undef, undef, undef, undef, undef, undef, undef, undef, undef, undef, undef], defers := [] })
    (fun x a' _ X Y row hs hg hr => by
      obtain ⟨Bx, h1, h2, h3⟩ := hs
      exact ⟨Bx, h1, (grownBy_keeps_cells hg (fun r e => (hr r e).2) h2 rfl).trans h2, h3⟩)
    ?assign ?body ?done ?stop
  case assign =>
    rintro l pre x W K ⟨⟨⟨v, bV, hrow, _⟩, bN, bE, bM⟩, hpl, hB⟩ hK
    have hsB := hB.size
    have h7 : w.heap.size + 4 ≤ W.heap.size := by have := bE.lt; omega
    gi_wp2
    exact hK _ _ ((KeepsOthers.alloc _ _).from _) (KpO.grown (by simp) (fun k hk _ => Below.heap_alloc _ _ _ hk) (fun k hk => .inl (by rwa [ownR_eq (World.cell?_alloc_past _ _ _ bV.lt)] at hk)))
      ⟨⟨⟨v, bV.alloc _, hrow.alloc _, trivial⟩, bN.alloc _, bE.alloc _, bM.alloc _⟩, hpl, hB.alloc hsB _⟩ ⟨W.heap.size, h7, World.alloc_heap_new W _, rfl⟩
  case body =>
    rintro l pre x a' W hl ⟨r, hr⟩ ⟨⟨⟨v, bV, hrow, _⟩, bN, bE, bM⟩, hpl, hB⟩ ⟨Bx, hBx, bX, rfl⟩ hlt
    have cX0 : W.cell? ⟨Bx, 0, none⟩ = some (.string ⟨List.toArray (x.1)⟩) := by simp [World.cell?, bX]
    have cX1 : W.cell? ⟨Bx, 1, none⟩ = some (.string ⟨List.toArray (x.2)⟩) := by simp [World.cell?, bX]
    have cV := bV.cell
    have cM := bM.cell
    have hIR : IRow W w.heap.size v pre := hrow
    obtain ⟨va, vc, rfl⟩ := hIR.form
    have hsB := hB.size
    have howW := ownR_at (b := w.heap.size) cV
    by_cases hfull : pre.length = mo
    · have heq : ((pre.length : Int) == (mo : Int)) = true := by rw [beq_iff_eq]; omega
      obtain ⟨g, off, e1, hg, c1, c1'⟩ := hIR.il.at (mo - 1) (by omega)
      have hmn : ((mo : Int) - 1).toNat = mo - 1 := by omega
      have hm0 : (0 : Int) ≤ (mo : Int) - 1 ∧ (mo : Int) - 1 < (pre.length : Int) := by omega
      have hm01 : (1 : Int) ≤ (mo : Int) := by omega
      have hm02 : (mo : Int) - 1 < (pre.length : Int) := by omega
      have hw1 : IntKind.i64.wrap ((mo : Int) - 1) = (mo : Int) - 1 := by rw [IntKind.wrap_i64]; omega
      subst e1
      have cN := bN.cell
      have fN := bN.frozen
      have cE := bE.cell
      have fE := bE.frozen
      have fV := bV.frozen
      have l1 := bV.lt
      have l2 := bN.lt
      have l3 := bE.lt
      have l4 := bM.lt
      have hmx : Tryd.prog.follows .mixedOrders = true := by kernel_rfl
      have hd : 1 ≤ 3 - 1 - 1 := by omega
      have HIR := Lib.hid hIR
      have HOW := Lib.hid howW
      clear hIR howW
      gi_wp2
      gi_region_with_o (refine ⟨trivial, ?_⟩; gi_at_call 9; refine (CallsIn.inRound l (callsIn_wide.2 (sbehind_any _ _))).mono ?_; rintro e5 w5 ⟨rfl, hb5⟩; have k1 := keepC hb5 (show World.cell? _ ⟨w.heap.size + 1, 0, none⟩ = _ from cV); have k2 := keepC hb5 (show World.cell? _ ⟨w.heap.size + 1 + 1, 0, none⟩ = _ from cN); have k3 := keepC hb5 (show World.cell? _ ⟨w.heap.size + 1 + 1 + 1, 0, none⟩ = _ from cE); have f1 := keepF hb5 l1 (show World.frozen? _ ⟨w.heap.size + 1, 0, none⟩ = _ from fV); have f2 := keepF hb5 l2 (show World.frozen? _ ⟨w.heap.size + 1 + 1, 0, none⟩ = _ from fN); have f3 := keepF hb5 l3 (show World.frozen? _ ⟨w.heap.size + 1 + 1 + 1, 0, none⟩ = _ from fE))
      all_goals gi_wp2
      all_goals exact full_post W0.heap.size x w W w5 mo pre _ vc _ _ hfull bV hrow bN bE hB hb5 (by rw [List.getD_eq_getElem?_getD])
    · have hne : ((pre.length : Int) == (mo : Int)) = false := by rw [beq_eq_false_iff_ne]; omega
      have HOW := Lib.hid howW
      clear hIR howW
      gi_wp2_with (gi_at_builtin; refine wpListIn_appI rfl (.tmp 35) (.tmp 37) rfl w.heap.size _ pre rfl (show IRow _ _ _ _ from hrow.alloc _) W.heap.size 0 1 1 [x] rfl rfl (isrc1 W x.1 x.2 _) (by omega) (by simp; omega) ?_; intro v' w1 hown' hgrow hat; obtain ⟨g', cap', rfl⟩ := ownsRow_succ (by have h := hown'; unfold IRow at h; rw [List.length_append] at h; exact h); obtain ⟨hv1, hv2, hr2, hk2, hb2⟩ := bV.appended (by decide) hrow hsB (by omega) hown' hgrow; have hc1 := hv1.cell; have hf1 := hv1.frozen)
      refine ⟨hk2.from _, KpO.grown hk2.size ?_ ?_, ⟨⟨⟨_, hv2, hr2, trivial⟩, ?_, ?_, ?_⟩, by rw [List.length_append]; simp; omega, hB.trans hb2⟩⟩
      · intro k hk hn
        rw [HOW.out] at hn
        simp only [List.mem_append, not_or, Option.mem_toList] at hn
        refine (Below.heap_setCell _ _ _ _ (by have := hn.1; simp at this; show k ≠ w.heap.size + 1; omega)).trans ((hgrow.block k (by simp; omega) (fun e => hn.2 e.symm)).trans (Below.heap_alloc _ _ _ hk))
      · intro k hk
        rw [ownR_at (b := w.heap.size) hv2.cell] at hk
        rw [HOW.out]
        rcases List.mem_append.1 hk with h | h
        · exact .inl (List.mem_append.2 (.inl h))
        · rw [Option.mem_toList] at h
          rcases hat with h2 | h2
          · rw [h] at h2
            exact .inl (List.mem_append.2 (.inr (by rw [Option.mem_toList]; exact h2.symm)))
          · rw [h] at h2
            right
            injection h2 with h2
            simp at h2; omega
      · exact ((bN.alloc _).kept hgrow (bN.not_row (by decide) hrow)).other (by omega) _
      · exact ((bE.alloc _).kept hgrow (bE.not_row (by decide) hrow)).other (by omega) _
      · exact ((bM.alloc _).kept hgrow (bM.not_row (by decide) hrow)).other (by omega) _
  case done =>
    rintro D ys W hD rfl ⟨⟨⟨v, bV, hrow, _⟩, bN, bE, bM⟩, hpl, hB⟩ hK
    have hIR : IRow W w.heap.size v (wI f e L) := hrow
    obtain ⟨va, vc, rfl⟩ := hIR.form
    have cV := bV.cell
    have cN := bN.cell
    have cE := bE.cell
    have fV := bV.frozen
    have fN := bN.frozen
    have fE := bE.frozen
    obtain ⟨kf, vf, rf, nf, ef, bf⟩ := three_post w W W _ (wI f e L) va vc [] [] rfl bV hrow bN bE hB ⟨rfl, rfl, rfl, Nat.le_refl _, fun _ _ => rfl⟩
    gi_wp2
    have hKf := kf.same D _ hK rfl
    refine ⟨by simp, .inl ⟨_, _, rfl, run_takeDeferred hKf, ?_⟩⟩
    have c1 := cell_kept vf.cell (grownBy_putObj' _ D (.deferred none)) (fun r e => by cases e; exact ⟨_, hKf, rfl⟩)
    have c2 := cell_kept nf.cell (grownBy_putObj' _ D (.deferred none)) (fun r e => by cases e; exact ⟨_, hKf, rfl⟩)
    have c3 := cell_kept ef.cell (grownBy_putObj' _ D (.deferred none)) (fun r e => by cases e; exact ⟨_, hKf, rfl⟩)
    refine ⟨.tuple #[.slice va (wI f e L).length vc, .string ⟨List.toArray ([])⟩, .int .i64 (0)], by simp [results, Tryd.f13, go_sem, c1, c2, c3], .slice va (wI f e L).length vc, by rw [show nextP (wI f e L) mo = [] from if_pos hpl], ?_, ?_⟩
    · rw [List.take_of_length_le hpl]
      exact ownsRow_putObj rf _ hKf rfl
    · exact bf.trans (belowK_b (w := w) (Nat.le_refl _) _ D _ _ (by omega) hKf rfl rfl)
  case stop =>
    rintro D c s W hD hpre ⟨rfl, pre, x, rfl, hpl, ⟨v, bV, hrow, _⟩, ⟨bN, bE⟩, hB⟩ hK
    obtain ⟨rr, hrr⟩ := hpre
    have hIR : IRow W w.heap.size v pre := hrow
    obtain ⟨va, vc, rfl⟩ := hIR.form
    gi_wp2
    refine ⟨by simp, .inl ⟨_, _, rfl, run_takeDeferred hK, ?_⟩⟩
    have c1 := cell_kept bV.cell (grownBy_putObj' _ D (.deferred none)) (fun r e => by cases e; exact ⟨_, hK, rfl⟩)
    have c2 := cell_kept bN.cell (grownBy_putObj' _ D (.deferred none)) (fun r e => by cases e; exact ⟨_, hK, rfl⟩)
    have c3 := cell_kept bE.cell (grownBy_putObj' _ D (.deferred none)) (fun r e => by cases e; exact ⟨_, hK, rfl⟩)
    have hlen : ¬ (wI f e L).length ≤ mo := by rw [← hrr]; simp; omega
    have htk : (wI f e L).take mo = pre := by rw [← hrr, List.append_assoc, ← hpl, List.take_left]
    have hgd : (wI f e L).getD (mo - 1) ([], []) = pre.getD (mo - 1) ([], []) := by
      rw [← hrr, List.append_assoc]
      simp only [List.getD_eq_getElem?_getD]
      rw [List.getElem?_append_left (by omega)]
    have HL := Lib.hid hlen
    have HT := Lib.hid htk
    have HG := Lib.hid hgd
    clear hgd htk hlen hrr
    refine ⟨.tuple #[.slice va pre.length vc, .string ⟨List.toArray (behP (pre.getD (mo - 1) ([], [])).1)⟩, .int .i64 (0)], by simp [results, Tryd.f13, go_sem, c1, c2, c3], .slice va pre.length vc, by rw [show nextP (wI f e L) mo = behP (pre.getD (mo - 1) ([], [])).1 from by unfold nextP; rw [if_neg HL.out, HG.out]], ?_, ?_⟩
    · rw [HT.out]; exact ownsRow_putObj hrow _ hK rfl
    · exact hB.trans (belowK_b (w := w) (Nat.le_refl _) W D _ _ (by omega) hK rfl rfl)
end Go.Proofs.YtdaihimdkgmboaaDoor

/- The example of the chapter on ranges. -/
set_option linter.unusedSimpArgs false
set_option linter.unusedVariables false
namespace Go.Proofs.YtdaihimdkgmboaaDoor
open Go.RowKit Pl

def exL : List It := [([97], [49]), ([98], [50]), ([99], [51])]
theorem ex_of : ofI [] exL = (exL, 0) := by decide
theorem ex_wI : wI [98] [] exL = [([98], [50]), ([99], [51])] := by decide
theorem ex_beh : behP [97, 98, 99, 100, 101, 102, 103, 255] = [97, 98, 99, 100, 101, 102, 104] := by decide
theorem ex_il (w : World) : IL (w.alloc (.cells #[.string ⟨List.toArray ([97])⟩, .string ⟨List.toArray ([49])⟩, .string ⟨List.toArray ([98])⟩, .string ⟨List.toArray ([50])⟩, .string ⟨List.toArray ([99])⟩, .string ⟨List.toArray ([51])⟩] 44)) (.slice (some ⟨w.heap.size, 0, none⟩) 3 3) exL := by
  have hB := Blk.new w #[.string ⟨List.toArray ([97])⟩, .string ⟨List.toArray ([49])⟩, .string ⟨List.toArray ([98])⟩, .string ⟨List.toArray ([50])⟩, .string ⟨List.toArray ([99])⟩, .string ⟨List.toArray ([51])⟩] 44
  refine ⟨_, 3, rfl, Nat.le_refl _, by unfold maxLen; omega, fun _ => ⟨w.heap.size, 0, rfl, hB.lt, fun i hi => ?_⟩⟩
  have : i = 0 ∨ i = 1 ∨ i = 2 := by simp [exL] at hi; omega
  rcases this with rfl | rfl | rfl
  · exact ⟨hB.cell 0, hB.cell 1⟩
  · exact ⟨hB.cell 2, hB.cell 3⟩
  · exact ⟨hB.cell 4, hB.cell 5⟩

set_option maxRecDepth 100000 in
set_option maxHeartbeats 4000000 in
theorem works11_any (w : World) (hk : KT w) : Calls Tryd.prog 8 #[] w fun e w' => e = .returned (.bool true) ∧ Below w.heap.size w w' := by
  have hb0 : Below w.heap.size w (w.alloc (.cells #[.string ⟨List.toArray ([97])⟩, .string ⟨List.toArray ([49])⟩, .string ⟨List.toArray ([98])⟩, .string ⟨List.toArray ([50])⟩, .string ⟨List.toArray ([99])⟩, .string ⟨List.toArray ([51])⟩] 44)) := Below.allocS (Below.refl _ _) _
  have HOF := Lib.hid (tof_any (.slice (some ⟨w.heap.size, 0, none⟩) 3 3) exL (by intro x hx; simp [exL] at hx; rcases hx with rfl | rfl | rfl <;> simp) _ (hk.keep hb0) (ex_il w))
  have HBH := Lib.hid (fun W => sbehind_any [97, 98, 99, 100, 101, 102, 103, 255] W)
  rw [ex_beh] at HBH
  go_enter Tryd.func8, Tryd.ntmps8
  go_wp2_with fail
  refine HOF.out.mono ?_
  rintro e w1 ⟨hb1, h1 | h1⟩
  · obtain ⟨_, pt, t, rfl, hT, hR⟩ := h1
    rw [ex_of] at hR
    have HRG := Lib.hid (range_yes pt t exL hR (by decide) [98] [] 1 (by omega) (by omega) w1 hT)
    rw [ex_wI] at HRG
    rw [show nextP [([98], [50]), ([99], [51])] 1 = [98, 0] from by decide] at HRG
    have hb01 := hb0.trans (hb1.mono hb0.size)
    clear hT hR hb1 hb0
    go_wp2_with fail
    refine HRG.out.mono ?_
    rintro e w2 ⟨v, rfl, hr2, hb2⟩
    have hr2' : IRow w2 w1.heap.size v [([98], [50])] := hr2
    have hil := hr2'.il
    obtain ⟨va, vc, rfl⟩ := hr2'.form
    obtain ⟨g, off, rfl, hg, c1, c2⟩ := hil.at 0 (by simp)
    have c1' : w2.cell? ⟨g, off, none⟩ = some (.string ⟨List.toArray ([98])⟩) := c1
    clear hr2 hr2' hil c1 c2
    go_wp2_with fail
    refine (HBH.out _).mono ?_
    rintro e w3 ⟨rfl, hb3⟩
    go_wp2_with fail
    go_ret
    exact ⟨rfl, (hb01.trans (hb2.mono hb01.size)).trans (hb3.mono (hb01.trans (hb2.mono hb01.size)).size)⟩
  · exact absurd (by rw [ex_of]) h1.1
end Go.Proofs.YtdaihimdkgmboaaDoor

/- The least key above a key: the walk of ScanBehind. -/
set_option linter.unusedSimpArgs false
set_option linter.unusedVariables false
namespace Go.Proofs.YtdaihimdkgmboaaDoor
open Go.RowKit Pl

set_option maxRecDepth 100000 in
set_option maxHeartbeats 4000000 in
theorem scanbehind_any (a b : Bs) (w : World) (hk : KT w) : Calls Tryd.prog 3 #[.string ⟨List.toArray (a)⟩, .string ⟨List.toArray (b)⟩] w fun e w' => e = .returned (.bool true) ∧ Below w.heap.size w w' := by
  have HW := Lib.hid (works11_any w hk)
  have HB := Lib.hid (fun W => sbehind_any a W)
  by_cases h1 : 8 < a.length
  · have d1 : decide ((8 : Int) < (a.length : Int)) = true := by simp only [decide_eq_true_eq]; omega
    have d2 : decide ((a.length : Int) ≤ 8) = false := by simp only [decide_eq_false_iff_not]; omega
    rw [show behP a = [] from by unfold behP; rw [if_pos h1]] at HB
    clear h1
    go_enter Tryd.func3, Tryd.ntmps3
    go_wp2_with fail
    refine HW.out.mono ?_
    rintro e w1 ⟨rfl, hb1⟩
    go_wp2_with fail
    refine (HB.out _).mono ?_
    rintro e w2 ⟨rfl, hb2⟩
    go_wp2_with fail
    go_ret
    exact ⟨rfl, hb1.trans (hb2.mono hb1.size)⟩
  · have d1 : decide ((8 : Int) < (a.length : Int)) = false := by simp only [decide_eq_false_iff_not]; omega
    have d2 : decide ((a.length : Int) ≤ 8) = true := by simp only [decide_eq_true_eq]; omega
    by_cases h2 : 8 < b.length
    · have d3 : decide ((8 : Int) < (b.length : Int)) = true := by simp only [decide_eq_true_eq]; omega
      clear h1 h2
      go_enter Tryd.func3, Tryd.ntmps3
      go_wp2_with fail
      refine HW.out.mono ?_
      rintro e w1 ⟨rfl, hb1⟩
      go_wp2_with fail
      go_ret
      exact ⟨rfl, hb1⟩
    · have d3 : decide ((8 : Int) < (b.length : Int)) = false := by simp only [decide_eq_false_iff_not]; omega
      obtain ⟨l1, l2⟩ := behP_law a b (by omega) (by omega)
      by_cases h3 : behP a = []
      · have h4 := l1 h3
        have e4 : decide (a < b) = false := by simpa using h4
        rw [h3] at HB
        clear h1 h2 h3 l1 l2 h4
        go_enter Tryd.func3, Tryd.ntmps3
        go_wp2_with fail
        refine HW.out.mono ?_
        rintro e w1 ⟨rfl, hb1⟩
        go_wp2_with fail
        refine (HB.out _).mono ?_
        rintro e w2 ⟨rfl, hb2⟩
        go_wp2_with fail
        go_ret
        exact ⟨rfl, hb1.trans (hb2.mono hb1.size)⟩
      · obtain ⟨m1, m2, m3⟩ := l2 h3
        have e0 : (behP a).isEmpty = false := by simpa using h3
        have e1 : decide (a < behP a) = true := by simpa using m1
        have e2 : decide (((behP a).length : Int) ≤ 8) = true := by simp only [decide_eq_true_eq]; omega
        have e3 : ∃ z : Bool, decide (a < b) = z ∧ decide (b < behP a) = !z := by
          by_cases h : a < b
          · exact ⟨true, by simpa using h, by simpa using m3.1 h⟩
          · exact ⟨false, by simpa using h, by simpa using fun h2 => h (m3.2 h2)⟩
        obtain ⟨z, e3, e4⟩ := e3
        clear h1 h2 h3 l1 l2 m1 m2 m3
        generalize behP a = nx at *
        go_enter Tryd.func3, Tryd.ntmps3
        go_wp2_with fail
        refine HW.out.mono ?_
        rintro e w1 ⟨rfl, hb1⟩
        go_wp2_with fail
        refine (HB.out _).mono ?_
        rintro e w2 ⟨rfl, hb2⟩
        go_wp2_with fail
        go_ret
        exact ⟨rfl, hb1.trans (hb2.mono hb1.size)⟩
end Go.Proofs.YtdaihimdkgmboaaDoor

/- The table of constants that the card lists lies where the walks ask for it; a world that has it. -/
set_option linter.unusedSimpArgs false
set_option linter.unusedVariables false
namespace Go.Proofs.YtdaihimdkgmboaaDoor
open Go.ChangeShapes Go.WideShapes Go.ChangeAt Go.RowKit

theorem gK : Tryd.prog.globalNamed "pharos/sha.k" = some 1 := by kernel_rfl
theorem tK : (Tryd.prog.globals[1]?).map (·.type) = some 207 := by kernel_rfl
theorem laid_eq {H : Type} : (Rows.laid_pharos_sha_k : DataW H) = .agg (kList.map fun n => .lit (.int .u32 n)) := rfl
theorem c1K : Tryd.prog.cellsOf 179 = 1 := by kernel_rfl

theorem kt_of_laid {W : World} (h : laidMetH Tryd.prog [("pharos/sha.k", Rows.laid_pharos_sha_k)] W) : KT W := by
  rw [MakeChecks.laidMetH_plain _ _ _ (by kernel_rfl)] at h
  obtain ⟨ps, ⟨g0, t0, cs0, f0, p0, q0, hg0, ht0, hv0, hd0, hrest⟩, _, _⟩ := h
  obtain rfl := Option.some.inj (gK.symm.trans hg0)
  obtain rfl := Option.some.inj (tK.symm.trans ht0)
  rw [laid_eq] at hd0
  obtain ⟨xs, m1, _, hx1, hl, hlen, hel⟩ := DataW.trod_array Tryd.underlying207 hd0
  rw [c1K] at hel
  simp only [Prod.mk.injEq, DataW.agg.injEq] at hx1
  have hcell : ∀ i, i < 64 → W.cell? ⟨1, i, none⟩ = some (.int .u32 (kc i)) := by
    intro i hi
    have h3 := hel i (by omega)
    have hxi : i < xs.length := by omega
    rw [List.getElem?_eq_getElem hxi] at h3
    obtain ⟨n, e1, e2, _⟩ := DataW.trod_int Tryd.underlying179 h3
    have h4 := congrArg (fun l => l[i]?) hx1.1
    simp only [List.getElem?_map, List.getElem?_eq_getElem hxi, Option.map_some] at h4
    rw [e2, List.getElem?_eq_getElem (show i < kList.length from hi)] at h4
    simp at h4
    have hv := World.var?_cell hg0 hv0 i
    rw [Nat.mul_one] at e1
    have h5 := congrArg (fun l => l[0]?) e1
    simp at h5
    have hlt : i < kList.length := hi
    rw [hv, h5, show kc i = n from by rw [← h4]; simp [kc, List.getD, hlt]]
  refine ⟨hcell, ?_⟩
  rcases Nat.lt_or_ge 1 W.heap.size with hlt | hge
  · exact hlt
  · have := hcell 0 (by omega)
    simp [World.cell?, Array.getElem?_eq_none hge] at this

theorem laid_door (os : Os) (args : Array Value) : laidMetH Tryd.prog [("pharos/sha.k", Rows.laid_pharos_sha_k)] ((World.doorLaid Tryd.prog 14 os).forCall (fun _ _ => 0) ⟨#[], args, []⟩).memory :=
  laidMetH_of_parts3 (fuel := 8) (laidMet_of_run' 8 (by kernel_rfl) (by kernel_rfl)) (by kernel_rfl) (by kernel_rfl)

end Go.Proofs.YtdaihimdkgmboaaDoor
