/- AccP, TrustP, TrustC, Shelf5, OwnT. -/
import Derived.Shelf.SlicesE.Clone
import Derived.Test.YthkpmlfaddlieaaGreatDoorMs20
set_option linter.unnecessarySimpa false
set_option linter.unusedSimpArgs false
set_option linter.unusedVariables false
set_option maxRecDepth 100000
set_option maxHeartbeats 32000000
namespace Go.Proofs.YthkpmlfaddlieaaGreatDoor
open Go.RowKit Go.Shelf Pl
theorem hcs_cells {w : World} {b : Nat} {h : Hd} {sk : Value} (B : Blk w b (hcs h sk).toArray) :
  w.cell? ⟨b, 0, none⟩ = some (.int .i64 h.height) ∧ w.cell? ⟨b, 1, none⟩ = some (.int .i64 h.epoch) ∧ w.cell? ⟨b, 3, none⟩ = some (.bool h.last) ∧ w.cell? ⟨b, 8, none⟩ = some (.string ⟨List.toArray h.members⟩) ∧ w.cell? ⟨b, 9, none⟩ = some (.string ⟨List.toArray h.next⟩) ∧ w.cell? ⟨b, 10, none⟩ = some sk :=
 ⟨B.cell 0, B.cell 1, B.cell 3, B.cell 8, B.cell 9, B.cell 10⟩
def behP (h : Hd) : Int := if h.last then h.epoch + 1 else h.epoch
theorem beh_any (h : Hd) (ka : Option Addr) (n kc : Nat) (w : World) (he : 0 ≤ h.epoch ∧ h.epoch ≤ 1048576) :
  Calls Tryz.prog 84 #[.agg (hcs h (.slice ka n kc)).toArray] w fun e w' => e = .returned (.int .i64 (behP h)) ∧ Below w.heap.size w w' := by
 have B0 : Blk (w.alloc (.cells (hcs h (.slice ka n kc)).toArray 48)) w.heap.size (hcs h (.slice ka n kc)).toArray := Blk.new _ _ _
 have hb0 : Below w.heap.size w (w.alloc (.cells (hcs h (.slice ka n kc)).toArray 48)) := Below.allocS (Below.refl _ _) _
 obtain ⟨_, c1, c3, _⟩ := hcs_cells B0
 have hw : IntKind.i64.wrap (h.epoch + 1) = h.epoch + 1 := by rw [IntKind.wrap_i64]; omega
 cases hl : h.last
 ·have HR : Hid (behP h = h.epoch) := Lib.hid (by unfold behP; rw [hl]; rfl)
  rw [hl] at c3
  go_enter Tryz.func84, Tryz.ntmps84
  go_wp2_with fail
  all_goals (go_ret; exact ⟨by rw [HR.out]; rfl, hb0⟩)
 ·have HR : Hid (behP h = h.epoch + 1) := Lib.hid (by unfold behP; rw [hl]; rfl)
  rw [hl] at c3
  go_enter Tryz.func84, Tryz.ntmps84
  go_wp2_with fail
  all_goals (go_ret; exact ⟨by rw [HR.out]; rfl, hb0⟩)
def plP (t h : Hd) : Int := if h.height ≤ t.height then 1 else if h.epoch = behP t ∧ h.members = t.next then 0 else 340
theorem place_any (t h : Hd) (ta ka : Option Addr) (tn tc kn kc : Nat) (w : World) (he : 0 ≤ t.epoch ∧ t.epoch ≤ 1048576) :
  Calls Tryz.prog 50 #[.agg (hcs t (.slice ta tn tc)).toArray, .agg (hcs h (.slice ka kn kc)).toArray] w fun e w' => e = .returned (.int .i64 (plP t h)) ∧ Below w.heap.size w w' := by
 have B2 : Blk ((w.alloc (.cells (hcs t (.slice ta tn tc)).toArray 48)).alloc (.cells (hcs h (.slice ka kn kc)).toArray 48)) w.heap.size (hcs t (.slice ta tn tc)).toArray := (Blk.new _ _ _).alloc _
 have B3 : Blk ((w.alloc (.cells (hcs t (.slice ta tn tc)).toArray 48)).alloc (.cells (hcs h (.slice ka kn kc)).toArray 48)) (w.heap.size + 1) (hcs h (.slice ka kn kc)).toArray := Blk.new' (by simp)
 have hb0 : Below w.heap.size w ((w.alloc (.cells (hcs t (.slice ta tn tc)).toArray 48)).alloc (.cells (hcs h (.slice ka kn kc)).toArray 48)) := Below.allocS (Below.allocS (Below.refl _ _) _) _
 obtain ⟨t0, _, _, _, t9, _⟩ := hcs_cells B2
 obtain ⟨h0, h1, _, h8, _⟩ := hcs_cells B3
 have q1 := fun W => beh_any t ta tn tc W he
 by_cases hh : h.height ≤ t.height
 ·have HR : Hid (plP t h = 1) := Lib.hid (by unfold plP; rw [if_pos hh])
  have g1 : decide (h.height ≤ t.height) = true := by simpa using hh
  clear hh q1
  go_enter Tryz.func50, Tryz.ntmps50
  go_wp2_with fail
  all_goals (go_ret; exact ⟨by rw [HR.out]; rfl, hb0⟩)
 have g1 : decide (h.height ≤ t.height) = false := by simpa using hh
 have HH := Lib.hid hh
 clear hh
 have hbs := hb0.size
 generalize hbp : behP t = bp at *
 have HBP := Lib.hid hbp
 clear hbp
 by_cases he2 : h.epoch = bp
 ·have g2 : (h.epoch != bp) = false := by simpa using he2
  have HE2 := Lib.hid he2
  clear he2
  by_cases hm : h.members = t.next
  ·have HR : Hid (plP t h = 0) := Lib.hid (by unfold plP; rw [if_neg HH.out, if_pos ⟨by rw [HBP.out]; exact HE2.out, hm⟩])
   have g3 : (h.members == t.next) = true := by simpa using hm
   clear hm
   go_enter Tryz.func50, Tryz.ntmps50
   go_upto_region 2 with fail
   refine wpH_start (by kernel_rfl) (fun hS => ?_)
   (refine hP 0 ?_ ⟨some 12, .fieldAddr 48 (.tmp 3) 1, 0, "", #[], none⟩ hS ?_ ?_; rotate_left; focus (intro w; go_simp; try with_reducible rfl))
   try simp only [pna, pnb, pnc, pnd, pne]
   refine wpH_load 1 (.int .i64 h.epoch) (oi := ⟨some 13,.load 3 (.tmp 12),3,"accept.go:37",#[⟨0,.data⟩],none⟩) rfl (by kernel_rfl) (by kernel_rfl) (by kernel_rfl) (by rfl) hS (fun _ _ _ h => h) (fun w' hb2 => (by have c := (B3.keep hb2).cell 1; simp only [hcs, List.getElem?_toArray, List.getElem?_cons_zero, List.getElem?_cons_succ] at c; go_simp; try rfl)) ?_
   try simp only [pna, pnb, pnc, pnd, pne]
   refine wpH_row row_head 2 (oi := ⟨some 14,.load 48 (.tmp 2),48,"accept.go:37",#[],none⟩) rfl (by kernel_rfl) (by kernel_rfl) (by kernel_rfl) (by rfl) hS (vs := hcs t (.slice ta tn tc)) (fun _ _ _ h => h) (.tmp 2) rfl rfl (rfl) (fun w' hb2 => B2.keep hb2) ?_
   try simp only [pna, pnb, pnc, pnd, pne]
   refine wpH_call 3 (oi := ⟨some 15,.call { callee := .value (.func 84), args := #[.tmp 14], argTypes := #[48] },3,"accept.go:37",#[⟨2,.data⟩],none⟩) rfl (by kernel_rfl) (by rfl) (q1 _) ?_ ?_
   ·(go_simp; try rfl)
   rintro e w' ⟨rfl, hbx⟩
   refine ⟨_, rfl, hS.trans (hbx.mono hS.size), ?_⟩
   replace hS := hS.trans (hbx.mono hS.size)
   try simp only [pna, pnb, pnc, pnd, pne]
   (refine hP 4 ?_ ⟨some 16, .binOp .neq 3 (.tmp 13) (.tmp 15) 3, 4, "", #[], none⟩ hS ?_ ?_; rotate_left; focus (intro w; go_simp; try with_reducible rfl))
   try simp only [pna, pnb, pnc, pnd, pne]
   (refine hP 5 ?_ ⟨some 11, .assign (.tmp 16), 4, "", #[], none⟩ hS ?_ ?_; rotate_left; focus (intro w; go_simp; try with_reducible rfl))
   try simp only [pna, pnb, pnc, pnd, pne]
   refine wpAnyH_done (by kernel_rfl) ?_ _
   obtain ⟨w3, hw3⟩ := Below.name hS
   subst hw3
   have hb3 := hb0.trans (hS.mono hb0.size)
   have t9 := (B2.keep hS).cell 9
   have h8 := (B3.keep hS).cell 8
   simp only [hcs, List.getElem?_toArray, List.getElem?_cons_zero, List.getElem?_cons_succ] at t9 h8
   go_wp2_with fail
   all_goals (go_ret; exact ⟨by rw [HR.out]; rfl, hb3⟩)
  ·have HR : Hid (plP t h = 340) := Lib.hid (by unfold plP; rw [if_neg HH.out, if_neg (fun x => hm x.2)])
   have g3 : (h.members == t.next) = false := by simpa using hm
   clear hm
   go_enter Tryz.func50, Tryz.ntmps50
   go_upto_region 2 with fail
   refine wpH_start (by kernel_rfl) (fun hS => ?_)
   (refine hP 0 ?_ ⟨some 12, .fieldAddr 48 (.tmp 3) 1, 0, "", #[], none⟩ hS ?_ ?_; rotate_left; focus (intro w; go_simp; try with_reducible rfl))
   try simp only [pna, pnb, pnc, pnd, pne]
   refine wpH_load 1 (.int .i64 h.epoch) (oi := ⟨some 13,.load 3 (.tmp 12),3,"accept.go:37",#[⟨0,.data⟩],none⟩) rfl (by kernel_rfl) (by kernel_rfl) (by kernel_rfl) (by rfl) hS (fun _ _ _ h => h) (fun w' hb2 => (by have c := (B3.keep hb2).cell 1; simp only [hcs, List.getElem?_toArray, List.getElem?_cons_zero, List.getElem?_cons_succ] at c; go_simp; try rfl)) ?_
   try simp only [pna, pnb, pnc, pnd, pne]
   refine wpH_row row_head 2 (oi := ⟨some 14,.load 48 (.tmp 2),48,"accept.go:37",#[],none⟩) rfl (by kernel_rfl) (by kernel_rfl) (by kernel_rfl) (by rfl) hS (vs := hcs t (.slice ta tn tc)) (fun _ _ _ h => h) (.tmp 2) rfl rfl (rfl) (fun w' hb2 => B2.keep hb2) ?_
   try simp only [pna, pnb, pnc, pnd, pne]
   refine wpH_call 3 (oi := ⟨some 15,.call { callee := .value (.func 84), args := #[.tmp 14], argTypes := #[48] },3,"accept.go:37",#[⟨2,.data⟩],none⟩) rfl (by kernel_rfl) (by rfl) (q1 _) ?_ ?_
   ·(go_simp; try rfl)
   rintro e w' ⟨rfl, hbx⟩
   refine ⟨_, rfl, hS.trans (hbx.mono hS.size), ?_⟩
   replace hS := hS.trans (hbx.mono hS.size)
   try simp only [pna, pnb, pnc, pnd, pne]
   (refine hP 4 ?_ ⟨some 16, .binOp .neq 3 (.tmp 13) (.tmp 15) 3, 4, "", #[], none⟩ hS ?_ ?_; rotate_left; focus (intro w; go_simp; try with_reducible rfl))
   try simp only [pna, pnb, pnc, pnd, pne]
   (refine hP 5 ?_ ⟨some 11, .assign (.tmp 16), 4, "", #[], none⟩ hS ?_ ?_; rotate_left; focus (intro w; go_simp; try with_reducible rfl))
   try simp only [pna, pnb, pnc, pnd, pne]
   refine wpAnyH_done (by kernel_rfl) ?_ _
   obtain ⟨w3, hw3⟩ := Below.name hS
   subst hw3
   have hb3 := hb0.trans (hS.mono hb0.size)
   have t9 := (B2.keep hS).cell 9
   have h8 := (B3.keep hS).cell 8
   simp only [hcs, List.getElem?_toArray, List.getElem?_cons_zero, List.getElem?_cons_succ] at t9 h8
   go_wp2_with fail
   all_goals (go_ret; exact ⟨by rw [HR.out]; rfl, hb3⟩)
 ·have g2 : (h.epoch != bp) = true := by simpa using he2
  have HR : Hid (plP t h = 340) := Lib.hid (by unfold plP; rw [if_neg HH.out, if_neg (fun x => he2 (by rw [← HBP.out]; exact x.1))])
  clear he2
  go_enter Tryz.func50, Tryz.ntmps50
  go_upto_region 2 with fail
  refine wpH_start (by kernel_rfl) (fun hS => ?_)
  (refine hP 0 ?_ ⟨some 12, .fieldAddr 48 (.tmp 3) 1, 0, "", #[], none⟩ hS ?_ ?_; rotate_left; focus (intro w; go_simp; try with_reducible rfl))
  try simp only [pna, pnb, pnc, pnd, pne]
  refine wpH_load 1 (.int .i64 h.epoch) (oi := ⟨some 13,.load 3 (.tmp 12),3,"accept.go:37",#[⟨0,.data⟩],none⟩) rfl (by kernel_rfl) (by kernel_rfl) (by kernel_rfl) (by rfl) hS (fun _ _ _ h => h) (fun w' hb2 => (by have c := (B3.keep hb2).cell 1; simp only [hcs, List.getElem?_toArray, List.getElem?_cons_zero, List.getElem?_cons_succ] at c; go_simp; try rfl)) ?_
  try simp only [pna, pnb, pnc, pnd, pne]
  refine wpH_row row_head 2 (oi := ⟨some 14,.load 48 (.tmp 2),48,"accept.go:37",#[],none⟩) rfl (by kernel_rfl) (by kernel_rfl) (by kernel_rfl) (by rfl) hS (vs := hcs t (.slice ta tn tc)) (fun _ _ _ h => h) (.tmp 2) rfl rfl (rfl) (fun w' hb2 => B2.keep hb2) ?_
  try simp only [pna, pnb, pnc, pnd, pne]
  refine wpH_call 3 (oi := ⟨some 15,.call { callee := .value (.func 84), args := #[.tmp 14], argTypes := #[48] },3,"accept.go:37",#[⟨2,.data⟩],none⟩) rfl (by kernel_rfl) (by rfl) (q1 _) ?_ ?_
  ·(go_simp; try rfl)
  rintro e w' ⟨rfl, hbx⟩
  refine ⟨_, rfl, hS.trans (hbx.mono hS.size), ?_⟩
  replace hS := hS.trans (hbx.mono hS.size)
  try simp only [pna, pnb, pnc, pnd, pne]
  (refine hP 4 ?_ ⟨some 16, .binOp .neq 3 (.tmp 13) (.tmp 15) 3, 4, "", #[], none⟩ hS ?_ ?_; rotate_left; focus (intro w; go_simp; try with_reducible rfl))
  try simp only [pna, pnb, pnc, pnd, pne]
  (refine hP 5 ?_ ⟨some 11, .assign (.tmp 16), 4, "", #[], none⟩ hS ?_ ?_; rotate_left; focus (intro w; go_simp; try with_reducible rfl))
  try simp only [pna, pnb, pnc, pnd, pne]
  refine wpAnyH_done (by kernel_rfl) ?_ _
  obtain ⟨w3, hw3⟩ := Below.name hS
  subst hw3
  have hb3 := hb0.trans (hS.mono hb0.size)
  have t9 := (B2.keep hS).cell 9
  have h8 := (B3.keep hS).cell 8
  simp only [hcs, List.getElem?_toArray, List.getElem?_cons_zero, List.getElem?_cons_succ] at t9 h8
  go_wp2_with fail
  all_goals (go_ret; exact ⟨by rw [HR.out]; rfl, hb3⟩)
end Go.Proofs.YthkpmlfaddlieaaGreatDoor
namespace Go.Proofs.YthkpmlfaddlieaaGreatDoor
open Go.RowKit Pl
namespace Pl
structure Tr where
 head : Hd
 set : List (Bs × Int)
 at_ : Int
def fineT (t : Tr) : Bool := fineH t.head && inH t.at_ 1099511627776 && chkM t.set && decide (dgM t.set = t.head.next)
end Pl
end Go.Proofs.YthkpmlfaddlieaaGreatDoor
namespace Go.Proofs.YthkpmlfaddlieaaGreatDoor
open Go.RowKit Go.Shelf Pl
def codeT (b : Bool) : Int := if b then 0 else 3
theorem tr_check (a1 a2 a3 : Int) (lb : Bool) (pa st rc tx me ne : Bs) (K : List Bs) (sk : Value) (L : List (Bs × Int)) (ms : Value) (ta : Int) (w : World) (hk : SS w sk K) (hl : MS w ms L) (hkt : KT w) :
  Calls Tryz.prog 48 #[.agg #[.int .i64 a1, .int .i64 a2, .int .i64 a3, .bool lb, .string ⟨pa.toArray⟩, .string ⟨st.toArray⟩, .string ⟨rc.toArray⟩, .string ⟨tx.toArray⟩, .string ⟨me.toArray⟩, .string ⟨ne.toArray⟩, sk, ms, .int .i64 ta]] w fun e w' => e = .returned (.int .i64 (codeT (fineT ⟨⟨a1, a2, a3, lb, pa, st, rc, tx, me, ne, K⟩, L, ta⟩))) ∧ Below w.heap.size w w' := by
 have hb0 : Below w.heap.size w (w.alloc (.cells #[.int .i64 a1, .int .i64 a2, .int .i64 a3, .bool lb, .string ⟨pa.toArray⟩, .string ⟨st.toArray⟩, .string ⟨rc.toArray⟩, .string ⟨tx.toArray⟩, .string ⟨me.toArray⟩, .string ⟨ne.toArray⟩, sk, ms, .int .i64 ta] 67)) := Below.allocS (Below.refl _ _) _
 have B0 : Blk (w.alloc (.cells #[.int .i64 a1, .int .i64 a2, .int .i64 a3, .bool lb, .string ⟨pa.toArray⟩, .string ⟨st.toArray⟩, .string ⟨rc.toArray⟩, .string ⟨tx.toArray⟩, .string ⟨me.toArray⟩, .string ⟨ne.toArray⟩, sk, ms, .int .i64 ta] 67)) w.heap.size #[.int .i64 a1, .int .i64 a2, .int .i64 a3, .bool lb, .string ⟨pa.toArray⟩, .string ⟨st.toArray⟩, .string ⟨rc.toArray⟩, .string ⟨tx.toArray⟩, .string ⟨me.toArray⟩, .string ⟨ne.toArray⟩, sk, ms, .int .i64 ta] := Blk.new _ _ _
 have q1 := fun W (hb : Below w.heap.size w W) => hd_check a1 a2 a3 lb pa st rc tx me ne K sk W (hk.keep hb)
 have q2 := fun W (hb : Below w.heap.size w W) => mcheck_any ms L W (hl.keep hb)
 have hF : fineT ⟨⟨a1, a2, a3, lb, pa, st, rc, tx, me, ne, K⟩, L, ta⟩ = (fineH ⟨a1, a2, a3, lb, pa, st, rc, tx, me, ne, K⟩ && inH ta 1099511627776 && chkM L && decide (dgM L = ne)) := rfl
 rw [hF]
 unfold inH
 clear hF
 generalize hr : codeT (fineH ⟨a1, a2, a3, lb, pa, st, rc, tx, me, ne, K⟩ && (decide (0 ≤ ta) && decide (ta ≤ 1099511627776)) && chkM L && decide (dgM L = ne)) = r
 have HR := Lib.hid hr
 clear hr
 cases hf : fineH ⟨a1, a2, a3, lb, pa, st, rc, tx, me, ne, K⟩
 ·rw [hf, show codeH false = 190 from rfl] at q1
  have HF := Lib.hid hf
  clear hf q2
  go_enter Tryz.func48, Tryz.ntmps48
  go_wp2_with fail
  refine wp_held rfl (by kernel_rfl) ?_
  (refine qP ?_ ?_ ?_; rotate_left; focus (intro w; go_simp; try with_reducible rfl))
  try simp only [pna, pnb, pnc, pnd, pne]
  refine wpQ_load (by rfl) (.agg #[.int .i64 a1, .int .i64 a2, .int .i64 a3, .bool lb, .string ⟨pa.toArray⟩, .string ⟨st.toArray⟩, .string ⟨rc.toArray⟩, .string ⟨tx.toArray⟩, .string ⟨me.toArray⟩, .string ⟨ne.toArray⟩, sk]) (fun w hb2 => (by obtain ⟨k1, k2, k3⟩ := id (B0.keep hb2); go_simp; try rfl)) ?_
  try simp only [pna, pnb, pnc, pnd, pne]
  refine wpQ_call (by rfl) _ _ (.int .i64 190) (fun w' hb => (q1 w' (hb0.trans (hb.mono hb0.size))).mono fun _ _ ⟨he, h4⟩ => ⟨he, hb.trans (h4.mono hb.size)⟩) (by intro w; go_simp; try rfl) ?_
  try simp only [pna, pnb, pnc, pnd, pne]
  (refine qP ?_ ?_ ?_; rotate_left; focus (intro w; go_simp; try with_reducible rfl))
  try simp only [pna, pnb, pnc, pnd, pne]
  (refine qP ?_ ?_ ?_; rotate_left; focus (intro w; go_simp; try with_reducible rfl))
  try simp only [pna, pnb, pnc, pnd, pne]
  (first | (refine wpQ_skip (by first | rfl | (go_simp; done) | (go_simp; rfl)) ?_) | (refine qP ?_ ?_ ?_; rotate_left; focus (intro w; go_simp; try with_reducible rfl)))
  try simp only [pna, pnb, pnc, pnd, pne]
  (refine wpQ_skip (by first | rfl | (go_simp; done) | (go_simp; rfl)) ?_)
  try simp only [pna, pnb, pnc, pnd, pne]
  (first | (refine wpQ_skip (by first | rfl | (go_simp; done) | (go_simp; rfl)) ?_) | (refine qP ?_ ?_ ?_; rotate_left; focus (intro w; go_simp; try with_reducible rfl)))
  try simp only [pna, pnb, pnc, pnd, pne]
  (refine qP ?_ ?_ ?_; rotate_left; focus (intro w; go_simp; try with_reducible rfl))
  try simp only [pna, pnb, pnc, pnd, pne]
  (refine qP ?_ ?_ ?_; rotate_left; focus (intro w; go_simp; try with_reducible rfl))
  try simp only [pna, pnb, pnc, pnd, pne]
  (first | (refine wpQ_skip (by first | rfl | (go_simp; done) | (go_simp; rfl)) ?_) | (refine qP ?_ ?_ ?_; rotate_left; focus (intro w; go_simp; try with_reducible rfl)))
  try simp only [pna, pnb, pnc, pnd, pne]
  (refine wpQ_skip (by first | rfl | (go_simp; done) | (go_simp; rfl)) ?_)
  try simp only [pna, pnb, pnc, pnd, pne]
  (first | (refine wpQ_skip (by first | rfl | (go_simp; done) | (go_simp; rfl)) ?_) | (refine qP ?_ ?_ ?_; rotate_left; focus (intro w; go_simp; try with_reducible rfl)))
  try simp only [pna, pnb, pnc, pnd, pne]
  (refine qP ?_ ?_ ?_; rotate_left; focus (intro w; go_simp; try with_reducible rfl))
  try simp only [pna, pnb, pnc, pnd, pne]
  (refine qP ?_ ?_ ?_; rotate_left; focus (intro w; go_simp; try with_reducible rfl))
  try simp only [pna, pnb, pnc, pnd, pne]
  (first | (refine wpQ_skip (by first | rfl | (go_simp; done) | (go_simp; rfl)) ?_) | (refine qP ?_ ?_ ?_; rotate_left; focus (intro w; go_simp; try with_reducible rfl)))
  try simp only [pna, pnb, pnc, pnd, pne]
  (refine wpQ_skip (by first | rfl | (go_simp; done) | (go_simp; rfl)) ?_)
  try simp only [pna, pnb, pnc, pnd, pne]
  (refine wpQ_skip (by first | rfl | (go_simp; done) | (go_simp; rfl)) ?_)
  try simp only [pna, pnb, pnc, pnd, pne]
  (first | (refine wpQ_skip (by first | rfl | (go_simp; done) | (go_simp; rfl)) ?_) | (refine qP ?_ ?_ ?_; rotate_left; focus (intro w; go_simp; try with_reducible rfl)))
  try simp only [pna, pnb, pnc, pnd, pne]
  (refine qP ?_ ?_ ?_; rotate_left; focus (intro w; go_simp; try with_reducible rfl))
  try simp only [pna, pnb, pnc, pnd, pne]
  (refine qP ?_ ?_ ?_; rotate_left; focus (intro w; go_simp; try with_reducible rfl))
  try simp only [pna, pnb, pnc, pnd, pne]
  (first | (refine wpQ_skip (by first | rfl | (go_simp; done) | (go_simp; rfl)) ?_) | (refine qP ?_ ?_ ?_; rotate_left; focus (intro w; go_simp; try with_reducible rfl)))
  try simp only [pna, pnb, pnc, pnd, pne]
  (refine wpQ_skip (by first | rfl | (go_simp; done) | (go_simp; rfl)) ?_)
  try simp only [pna, pnb, pnc, pnd, pne]
  (refine wpQ_skip (by first | rfl | (go_simp; done) | (go_simp; rfl)) ?_)
  try simp only [pna, pnb, pnc, pnd, pne]
  (first | (refine wpQ_skip (by first | rfl | (go_simp; done) | (go_simp; rfl)) ?_) | (refine qP ?_ ?_ ?_; rotate_left; focus (intro w; go_simp; try with_reducible rfl)))
  try simp only [pna, pnb, pnc, pnd, pne]
  (first | (refine wpQ_skip (by first | rfl | (go_simp; done) | (go_simp; rfl)) ?_) | (refine qP ?_ ?_ ?_; rotate_left; focus (intro w; go_simp; try with_reducible rfl)))
  try simp only [pna, pnb, pnc, pnd, pne]
  (refine wpQ_skip (by first | rfl | (go_simp; done) | (go_simp; rfl)) ?_)
  try simp only [pna, pnb, pnc, pnd, pne]
  (first | (refine wpQ_skip (by first | rfl | (go_simp; done) | (go_simp; rfl)) ?_) | (refine qP ?_ ?_ ?_; rotate_left; focus (intro w; go_simp; try with_reducible rfl)))
  try simp only [pna, pnb, pnc, pnd, pne]
  (refine qP ?_ ?_ ?_; rotate_left; focus (intro w; go_simp; try with_reducible rfl))
  try simp only [pna, pnb, pnc, pnd, pne]
  intro wq hS
  go_wp2_with fail
  go_ret
  exact ⟨by rw [← HR.out, HF.out]; rfl, hb0.trans (hS.mono hb0.size)⟩
 ·rw [hf, show codeH true = 0 from rfl] at q1
  have HF := Lib.hid hf
  clear hf
  by_cases h1 : 0 ≤ ta
  case neg =>
   have d1 : decide (ta < 0) = true := by rw [decide_eq_true_iff]; omega
   have HD : Hid (decide (0 ≤ ta) = false) := Lib.hid (by simpa using h1)
   clear h1 q2
   go_enter Tryz.func48, Tryz.ntmps48
   go_wp2_with fail
   refine wp_held rfl (by kernel_rfl) ?_
   (refine qP ?_ ?_ ?_; rotate_left; focus (intro w; go_simp; try with_reducible rfl))
   try simp only [pna, pnb, pnc, pnd, pne]
   refine wpQ_load (by rfl) (.agg #[.int .i64 a1, .int .i64 a2, .int .i64 a3, .bool lb, .string ⟨pa.toArray⟩, .string ⟨st.toArray⟩, .string ⟨rc.toArray⟩, .string ⟨tx.toArray⟩, .string ⟨me.toArray⟩, .string ⟨ne.toArray⟩, sk]) (fun w hb2 => (by obtain ⟨k1, k2, k3⟩ := id (B0.keep hb2); go_simp; try rfl)) ?_
   try simp only [pna, pnb, pnc, pnd, pne]
   refine wpQ_call (by rfl) _ _ (.int .i64 0) (fun w' hb => (q1 w' (hb0.trans (hb.mono hb0.size))).mono fun _ _ ⟨he, h4⟩ => ⟨he, hb.trans (h4.mono hb.size)⟩) (by intro w; go_simp; try rfl) ?_
   try simp only [pna, pnb, pnc, pnd, pne]
   (refine qP ?_ ?_ ?_; rotate_left; focus (intro w; go_simp; try with_reducible rfl))
   try simp only [pna, pnb, pnc, pnd, pne]
   (refine qP ?_ ?_ ?_; rotate_left; focus (intro w; go_simp; try with_reducible rfl))
   try simp only [pna, pnb, pnc, pnd, pne]
   (first | (refine wpQ_skip (by first | rfl | (go_simp; done) | (go_simp; rfl)) ?_) | (refine qP ?_ ?_ ?_; rotate_left; focus (intro w; go_simp; try with_reducible rfl)))
   try simp only [pna, pnb, pnc, pnd, pne]
   refine wpQ_load (by rfl) (.int .i64 ta) (fun w hb2 => (by have c := (B0.keep hb2).cell 12; go_simp; try rfl)) ?_
   try simp only [pna, pnb, pnc, pnd, pne]
   (first | (refine wpQ_skip (by first | rfl | (go_simp; done) | (go_simp; rfl)) ?_) | (refine qP ?_ ?_ ?_; rotate_left; focus (intro w; go_simp; try with_reducible rfl)))
   try simp only [pna, pnb, pnc, pnd, pne]
   (refine qP ?_ ?_ ?_; rotate_left; focus (intro w; go_simp; try with_reducible rfl))
   try simp only [pna, pnb, pnc, pnd, pne]
   (refine qP ?_ ?_ ?_; rotate_left; focus (intro w; go_simp; try with_reducible rfl))
   try simp only [pna, pnb, pnc, pnd, pne]
   (first | (refine wpQ_skip (by first | rfl | (go_simp; done) | (go_simp; rfl)) ?_) | (refine qP ?_ ?_ ?_; rotate_left; focus (intro w; go_simp; try with_reducible rfl)))
   try simp only [pna, pnb, pnc, pnd, pne]
   (refine wpQ_skip (by first | rfl | (go_simp; done) | (go_simp; rfl)) ?_)
   try simp only [pna, pnb, pnc, pnd, pne]
   (first | (refine wpQ_skip (by first | rfl | (go_simp; done) | (go_simp; rfl)) ?_) | (refine qP ?_ ?_ ?_; rotate_left; focus (intro w; go_simp; try with_reducible rfl)))
   try simp only [pna, pnb, pnc, pnd, pne]
   (refine qP ?_ ?_ ?_; rotate_left; focus (intro w; go_simp; try with_reducible rfl))
   try simp only [pna, pnb, pnc, pnd, pne]
   (refine qP ?_ ?_ ?_; rotate_left; focus (intro w; go_simp; try with_reducible rfl))
   try simp only [pna, pnb, pnc, pnd, pne]
   (first | (refine wpQ_skip (by first | rfl | (go_simp; done) | (go_simp; rfl)) ?_) | (refine qP ?_ ?_ ?_; rotate_left; focus (intro w; go_simp; try with_reducible rfl)))
   try simp only [pna, pnb, pnc, pnd, pne]
   (refine wpQ_skip (by first | rfl | (go_simp; done) | (go_simp; rfl)) ?_)
   try simp only [pna, pnb, pnc, pnd, pne]
   (refine wpQ_skip (by first | rfl | (go_simp; done) | (go_simp; rfl)) ?_)
   try simp only [pna, pnb, pnc, pnd, pne]
   (first | (refine wpQ_skip (by first | rfl | (go_simp; done) | (go_simp; rfl)) ?_) | (refine qP ?_ ?_ ?_; rotate_left; focus (intro w; go_simp; try with_reducible rfl)))
   try simp only [pna, pnb, pnc, pnd, pne]
   (refine qP ?_ ?_ ?_; rotate_left; focus (intro w; go_simp; try with_reducible rfl))
   try simp only [pna, pnb, pnc, pnd, pne]
   (refine qP ?_ ?_ ?_; rotate_left; focus (intro w; go_simp; try with_reducible rfl))
   try simp only [pna, pnb, pnc, pnd, pne]
   (first | (refine wpQ_skip (by first | rfl | (go_simp; done) | (go_simp; rfl)) ?_) | (refine qP ?_ ?_ ?_; rotate_left; focus (intro w; go_simp; try with_reducible rfl)))
   try simp only [pna, pnb, pnc, pnd, pne]
   (refine wpQ_skip (by first | rfl | (go_simp; done) | (go_simp; rfl)) ?_)
   try simp only [pna, pnb, pnc, pnd, pne]
   (refine wpQ_skip (by first | rfl | (go_simp; done) | (go_simp; rfl)) ?_)
   try simp only [pna, pnb, pnc, pnd, pne]
   (first | (refine wpQ_skip (by first | rfl | (go_simp; done) | (go_simp; rfl)) ?_) | (refine qP ?_ ?_ ?_; rotate_left; focus (intro w; go_simp; try with_reducible rfl)))
   try simp only [pna, pnb, pnc, pnd, pne]
   (first | (refine wpQ_skip (by first | rfl | (go_simp; done) | (go_simp; rfl)) ?_) | (refine qP ?_ ?_ ?_; rotate_left; focus (intro w; go_simp; try with_reducible rfl)))
   try simp only [pna, pnb, pnc, pnd, pne]
   (refine wpQ_skip (by first | rfl | (go_simp; done) | (go_simp; rfl)) ?_)
   try simp only [pna, pnb, pnc, pnd, pne]
   (first | (refine wpQ_skip (by first | rfl | (go_simp; done) | (go_simp; rfl)) ?_) | (refine qP ?_ ?_ ?_; rotate_left; focus (intro w; go_simp; try with_reducible rfl)))
   try simp only [pna, pnb, pnc, pnd, pne]
   (refine qP ?_ ?_ ?_; rotate_left; focus (intro w; go_simp; try with_reducible rfl))
   try simp only [pna, pnb, pnc, pnd, pne]
   intro wq hS
   go_wp2_with fail
   go_ret
   exact ⟨by rw [← HR.out, HF.out, HD.out]; rfl, hb0.trans (hS.mono hb0.size)⟩
  case pos =>
  have d1 : decide (ta < 0) = false := by rw [decide_eq_false_iff_not]; omega
  have HD : Hid (decide (0 ≤ ta) = true) := Lib.hid (by simpa using h1)
  clear h1
  by_cases h2 : ta ≤ 1099511627776
  case neg =>
   have d2 : decide (1099511627776 < ta) = true := by rw [decide_eq_true_iff]; omega
   have HD2 : Hid (decide (ta ≤ 1099511627776) = false) := Lib.hid (by simpa using h2)
   clear h2 q2
   go_enter Tryz.func48, Tryz.ntmps48
   go_wp2_with fail
   refine wp_held rfl (by kernel_rfl) ?_
   (refine qP ?_ ?_ ?_; rotate_left; focus (intro w; go_simp; try with_reducible rfl))
   try simp only [pna, pnb, pnc, pnd, pne]
   refine wpQ_load (by rfl) (.agg #[.int .i64 a1, .int .i64 a2, .int .i64 a3, .bool lb, .string ⟨pa.toArray⟩, .string ⟨st.toArray⟩, .string ⟨rc.toArray⟩, .string ⟨tx.toArray⟩, .string ⟨me.toArray⟩, .string ⟨ne.toArray⟩, sk]) (fun w hb2 => (by obtain ⟨k1, k2, k3⟩ := id (B0.keep hb2); go_simp; try rfl)) ?_
   try simp only [pna, pnb, pnc, pnd, pne]
   refine wpQ_call (by rfl) _ _ (.int .i64 0) (fun w' hb => (q1 w' (hb0.trans (hb.mono hb0.size))).mono fun _ _ ⟨he, h4⟩ => ⟨he, hb.trans (h4.mono hb.size)⟩) (by intro w; go_simp; try rfl) ?_
   try simp only [pna, pnb, pnc, pnd, pne]
   (refine qP ?_ ?_ ?_; rotate_left; focus (intro w; go_simp; try with_reducible rfl))
   try simp only [pna, pnb, pnc, pnd, pne]
   (refine qP ?_ ?_ ?_; rotate_left; focus (intro w; go_simp; try with_reducible rfl))
   try simp only [pna, pnb, pnc, pnd, pne]
   (first | (refine wpQ_skip (by first | rfl | (go_simp; done) | (go_simp; rfl)) ?_) | (refine qP ?_ ?_ ?_; rotate_left; focus (intro w; go_simp; try with_reducible rfl)))
   try simp only [pna, pnb, pnc, pnd, pne]
   refine wpQ_load (by rfl) (.int .i64 ta) (fun w hb2 => (by have c := (B0.keep hb2).cell 12; go_simp; try rfl)) ?_
   try simp only [pna, pnb, pnc, pnd, pne]
   (first | (refine wpQ_skip (by first | rfl | (go_simp; done) | (go_simp; rfl)) ?_) | (refine qP ?_ ?_ ?_; rotate_left; focus (intro w; go_simp; try with_reducible rfl)))
   try simp only [pna, pnb, pnc, pnd, pne]
   (refine qP ?_ ?_ ?_; rotate_left; focus (intro w; go_simp; try with_reducible rfl))
   try simp only [pna, pnb, pnc, pnd, pne]
   (refine qP ?_ ?_ ?_; rotate_left; focus (intro w; go_simp; try with_reducible rfl))
   try simp only [pna, pnb, pnc, pnd, pne]
   (first | (refine wpQ_skip (by first | rfl | (go_simp; done) | (go_simp; rfl)) ?_) | (refine qP ?_ ?_ ?_; rotate_left; focus (intro w; go_simp; try with_reducible rfl)))
   try simp only [pna, pnb, pnc, pnd, pne]
   refine wpQ_load (by rfl) (.int .i64 ta) (fun w hb2 => (by have c := (B0.keep hb2).cell 12; go_simp; try rfl)) ?_
   try simp only [pna, pnb, pnc, pnd, pne]
   (first | (refine wpQ_skip (by first | rfl | (go_simp; done) | (go_simp; rfl)) ?_) | (refine qP ?_ ?_ ?_; rotate_left; focus (intro w; go_simp; try with_reducible rfl)))
   try simp only [pna, pnb, pnc, pnd, pne]
   (refine qP ?_ ?_ ?_; rotate_left; focus (intro w; go_simp; try with_reducible rfl))
   try simp only [pna, pnb, pnc, pnd, pne]
   (refine qP ?_ ?_ ?_; rotate_left; focus (intro w; go_simp; try with_reducible rfl))
   try simp only [pna, pnb, pnc, pnd, pne]
   (first | (refine wpQ_skip (by first | rfl | (go_simp; done) | (go_simp; rfl)) ?_) | (refine qP ?_ ?_ ?_; rotate_left; focus (intro w; go_simp; try with_reducible rfl)))
   try simp only [pna, pnb, pnc, pnd, pne]
   (refine wpQ_skip (by first | rfl | (go_simp; done) | (go_simp; rfl)) ?_)
   try simp only [pna, pnb, pnc, pnd, pne]
   (refine wpQ_skip (by first | rfl | (go_simp; done) | (go_simp; rfl)) ?_)
   try simp only [pna, pnb, pnc, pnd, pne]
   (first | (refine wpQ_skip (by first | rfl | (go_simp; done) | (go_simp; rfl)) ?_) | (refine qP ?_ ?_ ?_; rotate_left; focus (intro w; go_simp; try with_reducible rfl)))
   try simp only [pna, pnb, pnc, pnd, pne]
   (refine qP ?_ ?_ ?_; rotate_left; focus (intro w; go_simp; try with_reducible rfl))
   try simp only [pna, pnb, pnc, pnd, pne]
   (refine qP ?_ ?_ ?_; rotate_left; focus (intro w; go_simp; try with_reducible rfl))
   try simp only [pna, pnb, pnc, pnd, pne]
   (first | (refine wpQ_skip (by first | rfl | (go_simp; done) | (go_simp; rfl)) ?_) | (refine qP ?_ ?_ ?_; rotate_left; focus (intro w; go_simp; try with_reducible rfl)))
   try simp only [pna, pnb, pnc, pnd, pne]
   (refine wpQ_skip (by first | rfl | (go_simp; done) | (go_simp; rfl)) ?_)
   try simp only [pna, pnb, pnc, pnd, pne]
   (refine wpQ_skip (by first | rfl | (go_simp; done) | (go_simp; rfl)) ?_)
   try simp only [pna, pnb, pnc, pnd, pne]
   (first | (refine wpQ_skip (by first | rfl | (go_simp; done) | (go_simp; rfl)) ?_) | (refine qP ?_ ?_ ?_; rotate_left; focus (intro w; go_simp; try with_reducible rfl)))
   try simp only [pna, pnb, pnc, pnd, pne]
   (first | (refine wpQ_skip (by first | rfl | (go_simp; done) | (go_simp; rfl)) ?_) | (refine qP ?_ ?_ ?_; rotate_left; focus (intro w; go_simp; try with_reducible rfl)))
   try simp only [pna, pnb, pnc, pnd, pne]
   (refine wpQ_skip (by first | rfl | (go_simp; done) | (go_simp; rfl)) ?_)
   try simp only [pna, pnb, pnc, pnd, pne]
   (first | (refine wpQ_skip (by first | rfl | (go_simp; done) | (go_simp; rfl)) ?_) | (refine qP ?_ ?_ ?_; rotate_left; focus (intro w; go_simp; try with_reducible rfl)))
   try simp only [pna, pnb, pnc, pnd, pne]
   (refine qP ?_ ?_ ?_; rotate_left; focus (intro w; go_simp; try with_reducible rfl))
   try simp only [pna, pnb, pnc, pnd, pne]
   intro wq hS
   go_wp2_with fail
   go_ret
   exact ⟨by rw [← HR.out, HF.out, HD.out, HD2.out]; rfl, hb0.trans (hS.mono hb0.size)⟩
  case pos =>
  have d2 : decide (1099511627776 < ta) = false := by rw [decide_eq_false_iff_not]; omega
  have HD2 : Hid (decide (ta ≤ 1099511627776) = true) := Lib.hid (by simpa using h2)
  clear h2
  cases hc : chkM L
  ·rw [hc, show setI false = 50 from rfl] at q2
   have HC := Lib.hid hc
   clear hc
   go_enter Tryz.func48, Tryz.ntmps48
   go_wp2_with fail
   refine wp_held rfl (by kernel_rfl) ?_
   (refine qP ?_ ?_ ?_; rotate_left; focus (intro w; go_simp; try with_reducible rfl))
   try simp only [pna, pnb, pnc, pnd, pne]
   refine wpQ_load (by rfl) (.agg #[.int .i64 a1, .int .i64 a2, .int .i64 a3, .bool lb, .string ⟨pa.toArray⟩, .string ⟨st.toArray⟩, .string ⟨rc.toArray⟩, .string ⟨tx.toArray⟩, .string ⟨me.toArray⟩, .string ⟨ne.toArray⟩, sk]) (fun w hb2 => (by obtain ⟨k1, k2, k3⟩ := id (B0.keep hb2); go_simp; try rfl)) ?_
   try simp only [pna, pnb, pnc, pnd, pne]
   refine wpQ_call (by rfl) _ _ (.int .i64 0) (fun w' hb => (q1 w' (hb0.trans (hb.mono hb0.size))).mono fun _ _ ⟨he, h4⟩ => ⟨he, hb.trans (h4.mono hb.size)⟩) (by intro w; go_simp; try rfl) ?_
   try simp only [pna, pnb, pnc, pnd, pne]
   (refine qP ?_ ?_ ?_; rotate_left; focus (intro w; go_simp; try with_reducible rfl))
   try simp only [pna, pnb, pnc, pnd, pne]
   (refine qP ?_ ?_ ?_; rotate_left; focus (intro w; go_simp; try with_reducible rfl))
   try simp only [pna, pnb, pnc, pnd, pne]
   (first | (refine wpQ_skip (by first | rfl | (go_simp; done) | (go_simp; rfl)) ?_) | (refine qP ?_ ?_ ?_; rotate_left; focus (intro w; go_simp; try with_reducible rfl)))
   try simp only [pna, pnb, pnc, pnd, pne]
   refine wpQ_load (by rfl) (.int .i64 ta) (fun w hb2 => (by have c := (B0.keep hb2).cell 12; go_simp; try rfl)) ?_
   try simp only [pna, pnb, pnc, pnd, pne]
   (first | (refine wpQ_skip (by first | rfl | (go_simp; done) | (go_simp; rfl)) ?_) | (refine qP ?_ ?_ ?_; rotate_left; focus (intro w; go_simp; try with_reducible rfl)))
   try simp only [pna, pnb, pnc, pnd, pne]
   (refine qP ?_ ?_ ?_; rotate_left; focus (intro w; go_simp; try with_reducible rfl))
   try simp only [pna, pnb, pnc, pnd, pne]
   (refine qP ?_ ?_ ?_; rotate_left; focus (intro w; go_simp; try with_reducible rfl))
   try simp only [pna, pnb, pnc, pnd, pne]
   (first | (refine wpQ_skip (by first | rfl | (go_simp; done) | (go_simp; rfl)) ?_) | (refine qP ?_ ?_ ?_; rotate_left; focus (intro w; go_simp; try with_reducible rfl)))
   try simp only [pna, pnb, pnc, pnd, pne]
   refine wpQ_load (by rfl) (.int .i64 ta) (fun w hb2 => (by have c := (B0.keep hb2).cell 12; go_simp; try rfl)) ?_
   try simp only [pna, pnb, pnc, pnd, pne]
   (first | (refine wpQ_skip (by first | rfl | (go_simp; done) | (go_simp; rfl)) ?_) | (refine qP ?_ ?_ ?_; rotate_left; focus (intro w; go_simp; try with_reducible rfl)))
   try simp only [pna, pnb, pnc, pnd, pne]
   (refine qP ?_ ?_ ?_; rotate_left; focus (intro w; go_simp; try with_reducible rfl))
   try simp only [pna, pnb, pnc, pnd, pne]
   (refine qP ?_ ?_ ?_; rotate_left; focus (intro w; go_simp; try with_reducible rfl))
   try simp only [pna, pnb, pnc, pnd, pne]
   (first | (refine wpQ_skip (by first | rfl | (go_simp; done) | (go_simp; rfl)) ?_) | (refine qP ?_ ?_ ?_; rotate_left; focus (intro w; go_simp; try with_reducible rfl)))
   try simp only [pna, pnb, pnc, pnd, pne]
   refine wpQ_load (by rfl) (ms) (fun w hb2 => (by have c := (B0.keep hb2).cell 11; go_simp; try rfl)) ?_
   try simp only [pna, pnb, pnc, pnd, pne]
   refine wpQ_call (by rfl) _ _ (.int .i64 50) (fun w' hb => (q2 w' (hb0.trans (hb.mono hb0.size))).mono fun _ _ ⟨he, h4⟩ => ⟨he, hb.trans (h4.mono hb.size)⟩) (by intro w; go_simp; try rfl) ?_
   try simp only [pna, pnb, pnc, pnd, pne]
   (first | (refine wpQ_skip (by first | rfl | (go_simp; done) | (go_simp; rfl)) ?_) | (refine qP ?_ ?_ ?_; rotate_left; focus (intro w; go_simp; try with_reducible rfl)))
   try simp only [pna, pnb, pnc, pnd, pne]
   (refine qP ?_ ?_ ?_; rotate_left; focus (intro w; go_simp; try with_reducible rfl))
   try simp only [pna, pnb, pnc, pnd, pne]
   (refine qP ?_ ?_ ?_; rotate_left; focus (intro w; go_simp; try with_reducible rfl))
   try simp only [pna, pnb, pnc, pnd, pne]
   (first | (refine wpQ_skip (by first | rfl | (go_simp; done) | (go_simp; rfl)) ?_) | (refine qP ?_ ?_ ?_; rotate_left; focus (intro w; go_simp; try with_reducible rfl)))
   try simp only [pna, pnb, pnc, pnd, pne]
   (refine wpQ_skip (by first | rfl | (go_simp; done) | (go_simp; rfl)) ?_)
   try simp only [pna, pnb, pnc, pnd, pne]
   (refine wpQ_skip (by first | rfl | (go_simp; done) | (go_simp; rfl)) ?_)
   try simp only [pna, pnb, pnc, pnd, pne]
   (first | (refine wpQ_skip (by first | rfl | (go_simp; done) | (go_simp; rfl)) ?_) | (refine qP ?_ ?_ ?_; rotate_left; focus (intro w; go_simp; try with_reducible rfl)))
   try simp only [pna, pnb, pnc, pnd, pne]
   (first | (refine wpQ_skip (by first | rfl | (go_simp; done) | (go_simp; rfl)) ?_) | (refine qP ?_ ?_ ?_; rotate_left; focus (intro w; go_simp; try with_reducible rfl)))
   try simp only [pna, pnb, pnc, pnd, pne]
   (refine wpQ_skip (by first | rfl | (go_simp; done) | (go_simp; rfl)) ?_)
   try simp only [pna, pnb, pnc, pnd, pne]
   (first | (refine wpQ_skip (by first | rfl | (go_simp; done) | (go_simp; rfl)) ?_) | (refine qP ?_ ?_ ?_; rotate_left; focus (intro w; go_simp; try with_reducible rfl)))
   try simp only [pna, pnb, pnc, pnd, pne]
   (refine qP ?_ ?_ ?_; rotate_left; focus (intro w; go_simp; try with_reducible rfl))
   try simp only [pna, pnb, pnc, pnd, pne]
   intro wq hS
   go_wp2_with fail
   go_ret
   exact ⟨by rw [← HR.out, HF.out, HD.out, HD2.out, HC.out]; rfl, hb0.trans (hS.mono hb0.size)⟩
  ·rw [hc, show setI true = 0 from rfl] at q2
   have HC := Lib.hid hc
   clear hc
   have q3 := fun W (hb : Below w.heap.size w W) => mdigest_any ms L W (hl.keep hb) (hkt.keep hb)
   generalize dgM L = D at *
   by_cases he : D = ne
   ·have HE : Hid (decide (D = ne) = true) := Lib.hid (by simpa using he)
    subst he
    go_enter Tryz.func48, Tryz.ntmps48
    go_wp2_with fail
    refine wp_held rfl (by kernel_rfl) ?_
    (refine qP ?_ ?_ ?_; rotate_left; focus (intro w; go_simp; try with_reducible rfl))
    try simp only [pna, pnb, pnc, pnd, pne]
    refine wpQ_load (by rfl) (.agg #[.int .i64 a1, .int .i64 a2, .int .i64 a3, .bool lb, .string ⟨pa.toArray⟩, .string ⟨st.toArray⟩, .string ⟨rc.toArray⟩, .string ⟨tx.toArray⟩, .string ⟨me.toArray⟩, .string ⟨List.toArray D⟩, sk]) (fun w hb2 => (by obtain ⟨k1, k2, k3⟩ := id (B0.keep hb2); go_simp; try rfl)) ?_
    try simp only [pna, pnb, pnc, pnd, pne]
    refine wpQ_call (by rfl) _ _ (.int .i64 0) (fun w' hb => (q1 w' (hb0.trans (hb.mono hb0.size))).mono fun _ _ ⟨he, h4⟩ => ⟨he, hb.trans (h4.mono hb.size)⟩) (by intro w; go_simp; try rfl) ?_
    try simp only [pna, pnb, pnc, pnd, pne]
    (refine qP ?_ ?_ ?_; rotate_left; focus (intro w; go_simp; try with_reducible rfl))
    try simp only [pna, pnb, pnc, pnd, pne]
    (refine qP ?_ ?_ ?_; rotate_left; focus (intro w; go_simp; try with_reducible rfl))
    try simp only [pna, pnb, pnc, pnd, pne]
    (first | (refine wpQ_skip (by first | rfl | (go_simp; done) | (go_simp; rfl)) ?_) | (refine qP ?_ ?_ ?_; rotate_left; focus (intro w; go_simp; try with_reducible rfl)))
    try simp only [pna, pnb, pnc, pnd, pne]
    refine wpQ_load (by rfl) (.int .i64 ta) (fun w hb2 => (by have c := (B0.keep hb2).cell 12; go_simp; try rfl)) ?_
    try simp only [pna, pnb, pnc, pnd, pne]
    (first | (refine wpQ_skip (by first | rfl | (go_simp; done) | (go_simp; rfl)) ?_) | (refine qP ?_ ?_ ?_; rotate_left; focus (intro w; go_simp; try with_reducible rfl)))
    try simp only [pna, pnb, pnc, pnd, pne]
    (refine qP ?_ ?_ ?_; rotate_left; focus (intro w; go_simp; try with_reducible rfl))
    try simp only [pna, pnb, pnc, pnd, pne]
    (refine qP ?_ ?_ ?_; rotate_left; focus (intro w; go_simp; try with_reducible rfl))
    try simp only [pna, pnb, pnc, pnd, pne]
    (first | (refine wpQ_skip (by first | rfl | (go_simp; done) | (go_simp; rfl)) ?_) | (refine qP ?_ ?_ ?_; rotate_left; focus (intro w; go_simp; try with_reducible rfl)))
    try simp only [pna, pnb, pnc, pnd, pne]
    refine wpQ_load (by rfl) (.int .i64 ta) (fun w hb2 => (by have c := (B0.keep hb2).cell 12; go_simp; try rfl)) ?_
    try simp only [pna, pnb, pnc, pnd, pne]
    (first | (refine wpQ_skip (by first | rfl | (go_simp; done) | (go_simp; rfl)) ?_) | (refine qP ?_ ?_ ?_; rotate_left; focus (intro w; go_simp; try with_reducible rfl)))
    try simp only [pna, pnb, pnc, pnd, pne]
    (refine qP ?_ ?_ ?_; rotate_left; focus (intro w; go_simp; try with_reducible rfl))
    try simp only [pna, pnb, pnc, pnd, pne]
    (refine qP ?_ ?_ ?_; rotate_left; focus (intro w; go_simp; try with_reducible rfl))
    try simp only [pna, pnb, pnc, pnd, pne]
    (first | (refine wpQ_skip (by first | rfl | (go_simp; done) | (go_simp; rfl)) ?_) | (refine qP ?_ ?_ ?_; rotate_left; focus (intro w; go_simp; try with_reducible rfl)))
    try simp only [pna, pnb, pnc, pnd, pne]
    refine wpQ_load (by rfl) (ms) (fun w hb2 => (by have c := (B0.keep hb2).cell 11; go_simp; try rfl)) ?_
    try simp only [pna, pnb, pnc, pnd, pne]
    refine wpQ_call (by rfl) _ _ (.int .i64 0) (fun w' hb => (q2 w' (hb0.trans (hb.mono hb0.size))).mono fun _ _ ⟨he, h4⟩ => ⟨he, hb.trans (h4.mono hb.size)⟩) (by intro w; go_simp; try rfl) ?_
    try simp only [pna, pnb, pnc, pnd, pne]
    (first | (refine wpQ_skip (by first | rfl | (go_simp; done) | (go_simp; rfl)) ?_) | (refine qP ?_ ?_ ?_; rotate_left; focus (intro w; go_simp; try with_reducible rfl)))
    try simp only [pna, pnb, pnc, pnd, pne]
    (refine qP ?_ ?_ ?_; rotate_left; focus (intro w; go_simp; try with_reducible rfl))
    try simp only [pna, pnb, pnc, pnd, pne]
    (refine qP ?_ ?_ ?_; rotate_left; focus (intro w; go_simp; try with_reducible rfl))
    try simp only [pna, pnb, pnc, pnd, pne]
    (first | (refine wpQ_skip (by first | rfl | (go_simp; done) | (go_simp; rfl)) ?_) | (refine qP ?_ ?_ ?_; rotate_left; focus (intro w; go_simp; try with_reducible rfl)))
    try simp only [pna, pnb, pnc, pnd, pne]
    refine wpQ_load (by rfl) (ms) (fun w hb2 => (by have c := (B0.keep hb2).cell 11; go_simp; try rfl)) ?_
    try simp only [pna, pnb, pnc, pnd, pne]
    refine wpQ_call (by rfl) _ _ (.string ⟨List.toArray D⟩) (fun w' hb => (q3 w' (hb0.trans (hb.mono hb0.size))).mono fun _ _ ⟨he, h4⟩ => ⟨he, hb.trans (h4.mono hb.size)⟩) (by intro w; go_simp; try rfl) ?_
    try simp only [pna, pnb, pnc, pnd, pne]
    (first | (refine wpQ_skip (by first | rfl | (go_simp; done) | (go_simp; rfl)) ?_) | (refine qP ?_ ?_ ?_; rotate_left; focus (intro w; go_simp; try with_reducible rfl)))
    try simp only [pna, pnb, pnc, pnd, pne]
    (first | (refine wpQ_skip (by first | rfl | (go_simp; done) | (go_simp; rfl)) ?_) | (refine qP ?_ ?_ ?_; rotate_left; focus (intro w; go_simp; try with_reducible rfl)))
    try simp only [pna, pnb, pnc, pnd, pne]
    refine wpQ_load (by rfl) (.string ⟨List.toArray D⟩) (fun w hb2 => (by have c := (B0.keep hb2).cell 9; go_simp; try rfl)) ?_
    try simp only [pna, pnb, pnc, pnd, pne]
    (first | (refine wpQ_skip (by first | rfl | (go_simp; done) | (go_simp; rfl)) ?_) | (refine qP ?_ ?_ ?_; rotate_left; focus (intro w; go_simp; try with_reducible rfl)))
    try simp only [pna, pnb, pnc, pnd, pne]
    (refine qP ?_ ?_ ?_; rotate_left; focus (intro w; go_simp; try with_reducible rfl))
    try simp only [pna, pnb, pnc, pnd, pne]
    intro wq hS
    go_wp2_with fail
    go_ret
    exact ⟨by rw [← HR.out, HF.out, HD.out, HD2.out, HC.out, HE.out]; rfl, hb0.trans (hS.mono hb0.size)⟩
   ·have HE : Hid (decide (D = ne) = false) := Lib.hid (by simpa using he)
    have e1 : (D == ne) = false := by simpa using he
    have e2 : (D != ne) = true := by simpa using he
    have e3 : decide (D = ne) = false := by simpa using he
    clear he
    go_enter Tryz.func48, Tryz.ntmps48
    go_wp2_with fail
    refine wp_held rfl (by kernel_rfl) ?_
    (refine qP ?_ ?_ ?_; rotate_left; focus (intro w; go_simp; try with_reducible rfl))
    try simp only [pna, pnb, pnc, pnd, pne]
    refine wpQ_load (by rfl) (.agg #[.int .i64 a1, .int .i64 a2, .int .i64 a3, .bool lb, .string ⟨pa.toArray⟩, .string ⟨st.toArray⟩, .string ⟨rc.toArray⟩, .string ⟨tx.toArray⟩, .string ⟨me.toArray⟩, .string ⟨ne.toArray⟩, sk]) (fun w hb2 => (by obtain ⟨k1, k2, k3⟩ := id (B0.keep hb2); go_simp; try rfl)) ?_
    try simp only [pna, pnb, pnc, pnd, pne]
    refine wpQ_call (by rfl) _ _ (.int .i64 0) (fun w' hb => (q1 w' (hb0.trans (hb.mono hb0.size))).mono fun _ _ ⟨he, h4⟩ => ⟨he, hb.trans (h4.mono hb.size)⟩) (by intro w; go_simp; try rfl) ?_
    try simp only [pna, pnb, pnc, pnd, pne]
    (refine qP ?_ ?_ ?_; rotate_left; focus (intro w; go_simp; try with_reducible rfl))
    try simp only [pna, pnb, pnc, pnd, pne]
    (refine qP ?_ ?_ ?_; rotate_left; focus (intro w; go_simp; try with_reducible rfl))
    try simp only [pna, pnb, pnc, pnd, pne]
    (first | (refine wpQ_skip (by first | rfl | (go_simp; done) | (go_simp; rfl)) ?_) | (refine qP ?_ ?_ ?_; rotate_left; focus (intro w; go_simp; try with_reducible rfl)))
    try simp only [pna, pnb, pnc, pnd, pne]
    refine wpQ_load (by rfl) (.int .i64 ta) (fun w hb2 => (by have c := (B0.keep hb2).cell 12; go_simp; try rfl)) ?_
    try simp only [pna, pnb, pnc, pnd, pne]
    (first | (refine wpQ_skip (by first | rfl | (go_simp; done) | (go_simp; rfl)) ?_) | (refine qP ?_ ?_ ?_; rotate_left; focus (intro w; go_simp; try with_reducible rfl)))
    try simp only [pna, pnb, pnc, pnd, pne]
    (refine qP ?_ ?_ ?_; rotate_left; focus (intro w; go_simp; try with_reducible rfl))
    try simp only [pna, pnb, pnc, pnd, pne]
    (refine qP ?_ ?_ ?_; rotate_left; focus (intro w; go_simp; try with_reducible rfl))
    try simp only [pna, pnb, pnc, pnd, pne]
    (first | (refine wpQ_skip (by first | rfl | (go_simp; done) | (go_simp; rfl)) ?_) | (refine qP ?_ ?_ ?_; rotate_left; focus (intro w; go_simp; try with_reducible rfl)))
    try simp only [pna, pnb, pnc, pnd, pne]
    refine wpQ_load (by rfl) (.int .i64 ta) (fun w hb2 => (by have c := (B0.keep hb2).cell 12; go_simp; try rfl)) ?_
    try simp only [pna, pnb, pnc, pnd, pne]
    (first | (refine wpQ_skip (by first | rfl | (go_simp; done) | (go_simp; rfl)) ?_) | (refine qP ?_ ?_ ?_; rotate_left; focus (intro w; go_simp; try with_reducible rfl)))
    try simp only [pna, pnb, pnc, pnd, pne]
    (refine qP ?_ ?_ ?_; rotate_left; focus (intro w; go_simp; try with_reducible rfl))
    try simp only [pna, pnb, pnc, pnd, pne]
    (refine qP ?_ ?_ ?_; rotate_left; focus (intro w; go_simp; try with_reducible rfl))
    try simp only [pna, pnb, pnc, pnd, pne]
    (first | (refine wpQ_skip (by first | rfl | (go_simp; done) | (go_simp; rfl)) ?_) | (refine qP ?_ ?_ ?_; rotate_left; focus (intro w; go_simp; try with_reducible rfl)))
    try simp only [pna, pnb, pnc, pnd, pne]
    refine wpQ_load (by rfl) (ms) (fun w hb2 => (by have c := (B0.keep hb2).cell 11; go_simp; try rfl)) ?_
    try simp only [pna, pnb, pnc, pnd, pne]
    refine wpQ_call (by rfl) _ _ (.int .i64 0) (fun w' hb => (q2 w' (hb0.trans (hb.mono hb0.size))).mono fun _ _ ⟨he, h4⟩ => ⟨he, hb.trans (h4.mono hb.size)⟩) (by intro w; go_simp; try rfl) ?_
    try simp only [pna, pnb, pnc, pnd, pne]
    (first | (refine wpQ_skip (by first | rfl | (go_simp; done) | (go_simp; rfl)) ?_) | (refine qP ?_ ?_ ?_; rotate_left; focus (intro w; go_simp; try with_reducible rfl)))
    try simp only [pna, pnb, pnc, pnd, pne]
    (refine qP ?_ ?_ ?_; rotate_left; focus (intro w; go_simp; try with_reducible rfl))
    try simp only [pna, pnb, pnc, pnd, pne]
    (refine qP ?_ ?_ ?_; rotate_left; focus (intro w; go_simp; try with_reducible rfl))
    try simp only [pna, pnb, pnc, pnd, pne]
    (first | (refine wpQ_skip (by first | rfl | (go_simp; done) | (go_simp; rfl)) ?_) | (refine qP ?_ ?_ ?_; rotate_left; focus (intro w; go_simp; try with_reducible rfl)))
    try simp only [pna, pnb, pnc, pnd, pne]
    refine wpQ_load (by rfl) (ms) (fun w hb2 => (by have c := (B0.keep hb2).cell 11; go_simp; try rfl)) ?_
    try simp only [pna, pnb, pnc, pnd, pne]
    refine wpQ_call (by rfl) _ _ (.string ⟨List.toArray D⟩) (fun w' hb => (q3 w' (hb0.trans (hb.mono hb0.size))).mono fun _ _ ⟨he, h4⟩ => ⟨he, hb.trans (h4.mono hb.size)⟩) (by intro w; go_simp; try rfl) ?_
    try simp only [pna, pnb, pnc, pnd, pne]
    (first | (refine wpQ_skip (by first | rfl | (go_simp; done) | (go_simp; rfl)) ?_) | (refine qP ?_ ?_ ?_; rotate_left; focus (intro w; go_simp; try with_reducible rfl)))
    try simp only [pna, pnb, pnc, pnd, pne]
    (first | (refine wpQ_skip (by first | rfl | (go_simp; done) | (go_simp; rfl)) ?_) | (refine qP ?_ ?_ ?_; rotate_left; focus (intro w; go_simp; try with_reducible rfl)))
    try simp only [pna, pnb, pnc, pnd, pne]
    refine wpQ_load (by rfl) (.string ⟨ne.toArray⟩) (fun w hb2 => (by have c := (B0.keep hb2).cell 9; go_simp; try rfl)) ?_
    try simp only [pna, pnb, pnc, pnd, pne]
    (first | (refine wpQ_skip (by first | rfl | (go_simp; done) | (go_simp; rfl)) ?_) | (refine qP ?_ ?_ ?_; rotate_left; focus (intro w; go_simp; try with_reducible rfl)))
    try simp only [pna, pnb, pnc, pnd, pne]
    (refine qP ?_ ?_ ?_; rotate_left; focus (intro w; go_simp; try with_reducible rfl))
    try simp only [pna, pnb, pnc, pnd, pne]
    intro wq hS
    go_wp2_with fail
    go_ret
    exact ⟨by rw [← HR.out, HF.out, HD.out, HD2.out, HC.out, HE.out]; rfl, hb0.trans (hS.mono hb0.size)⟩
end Go.Proofs.YthkpmlfaddlieaaGreatDoor
namespace Go.Proofs.YthkpmlfaddlieaaGreatDoor
open Go.Shelf
def laysCloneS_ren : Go.Shelf.Ren := ⟨fun | 41 => 52 | n => n, fun | 22 => 24 | 23 => 9 | 4 => 4 | n => n, fun | n => n⟩
theorem laysCloneS : Go.Proofs.SlLaysE0.n41 Tryz.prog laysCloneS_ren := {
 mixed := by kernel_rfl
 f41 := ⟨Tryz.f52.name, by decide, Tryz.func52.trans (congrArg some (by kernel_rfl))⟩
 t4 := Tryz.underlying4
 a4 := Tryz.isAgg4
 z4 := Tryz.sizeOf4
 v4 := Tryz.zeroValue4
 t22 := Tryz.underlying24
 a22 := Tryz.isAgg24
 z22 := Tryz.sizeOf24
 v22 := Tryz.zeroValue24 }
def laysCloneM_ren : Go.Shelf.Ren := ⟨fun | 41 => 53 | n => n, fun | 22 => 23 | 23 => 77 | 4 => 4 | n => n, fun | n => n⟩
theorem laysCloneM : Go.Proofs.SlLaysE0.n41 Tryz.prog laysCloneM_ren := {
 mixed := by kernel_rfl
 f41 := ⟨Tryz.f53.name, by decide, Tryz.func53.trans (congrArg some (by kernel_rfl))⟩
 t4 := Tryz.underlying4
 a4 := Tryz.isAgg4
 z4 := Tryz.sizeOf4
 v4 := Tryz.zeroValue4
 t22 := Tryz.underlying23
 a22 := Tryz.isAgg23
 z22 := Tryz.sizeOf23
 v22 := Tryz.zeroValue23 }
end Go.Proofs.YthkpmlfaddlieaaGreatDoor
namespace Go.Proofs.YthkpmlfaddlieaaGreatDoor
open Go.RowKit Go.Shelf Pl
def PlainS (_ : Value) : Prop := True
theorem SRow.emptyW (w : World) (base : Nat) (hb : base ≤ w.heap.size) : SRow (w.alloc (.cells #[] 9)) base (.slice (some ⟨w.heap.size, 0, none⟩) 0 0) [] :=
 ⟨rfl, .inr ⟨w.heap.size, 0, #[], rfl, hb, by simp [World.alloc, -World.alloc_eq], Nat.le_refl _, by unfold maxLen; omega, rfl, rfl⟩⟩
theorem MRow.emptyW (w : World) (base : Nat) (hb : base ≤ w.heap.size) : MRow (w.alloc (.cells #[] 77)) base (.slice (some ⟨w.heap.size, 0, none⟩) 0 0) [] :=
 ⟨rfl, .inr ⟨w.heap.size, 0, #[], rfl, hb, by simp [World.alloc, -World.alloc_eq], Nat.le_refl _, by unfold maxLen; omega, rfl, rfl⟩⟩
section
variable {ops : Array Oper} {o : Oper} {rest : List Oper} {a : Act} {w : World} {Q : Exit → Act → World → Prop}
theorem wpList_appNone (T E : TypeId) {z : Value} {sz by0 : Nat} (hT : Tryz.prog.underlying T = some (.slice E)) (hinfo : (Tryz.prog.info? E).map (fun i => (i.zero, i.size, i.bytes)) = some (some z, sz, by0)) (hgd : o.guard = none) (s x : Operand)
  (ho : o.op = .call { callee := .builtin .append, args := #[s, x], argTypes := #[T, T] })
  (va ad : Addr) (vc c : Nat) (hs : a.eval s = .slice (some va) 0 vc) (hx : a.eval x = .slice (some ad) 0 c)
  (h : wpList Tryz.prog ops Q rest (a.put o.dst (.slice (some va) 0 vc)) w) : wpList Tryz.prog ops Q (o :: rest) a w := by
 obtain ⟨i0, hi, hz0, hz1, hz2⟩ := info_parts hinfo
 have hS : Src Tryz.prog i0.size T (.slice (some ad) 0 c) 0 [] w := Src.ofSlice w hT ad 0 c [] (by simp) (fun j u h => by simp at h) (fun _ h => by cases h)
 have hr := run_append_nothing (P := Tryz.prog) w T T o.type E i0 hT hi (some va) 0 vc (Nat.zero_le _) _ hS
 refine wpList_plain hgd fun K hK => ?_
 unfold Oper.wp execOp
 simp only [ho, resolve, invoke, builtin, Sem.run_bind, Sem.run_pure, Result.andThen_ok, List.map_toArray, List.map_cons, List.map_nil, hs, hx, hr]
 exact hK _ _ h
end
theorem cloneT_odd (g off : Nat) (sp : Option Nat) (c : Nat) (w : World) :
  Calls Tryz.prog 52 #[.slice (some ⟨g, off, sp⟩) 0 c] w fun e w' => ∃ v', e = .returned v' ∧ SRow w' w.heap.size v' [] ∧ Below w.heap.size w w' := by
 have q22 : ∀ (w : World) (a : Option Addr) (n c n' c' : Nat), (binOp .eql 24 (.slice a n c) (.slice none n' c')).run Tryz.prog w = .ok (.bool a.isNone) w := fun w a n c n' c' => Go.Lib.run_eql_slice_nil w _ _ a n c n' c' Tryz.underlying24
 go_enter Tryz.func52, Tryz.ntmps52
 go_wp2_with (first | (at_builtin; refine wpList_appNone 24 9 Tryz.underlying24 infoStr rfl (.tmp 5) (.tmp 6) rfl _ _ _ _ rfl rfl ?_) | fail)
 go_ret
 exact ⟨_, rfl, SRow.emptyW _ _ (Nat.le_refl _), Below.allocS (Below.refl _ _) _⟩
theorem cloneM_odd (g off : Nat) (sp : Option Nat) (c : Nat) (w : World) :
  Calls Tryz.prog 53 #[.slice (some ⟨g, off, sp⟩) 0 c] w fun e w' => ∃ v', e = .returned v' ∧ MRow w' w.heap.size v' [] ∧ Below w.heap.size w w' := by
 have q22 : ∀ (w : World) (a : Option Addr) (n c n' c' : Nat), (binOp .eql 23 (.slice a n c) (.slice none n' c')).run Tryz.prog w = .ok (.bool a.isNone) w := fun w a n c n' c' => Go.Lib.run_eql_slice_nil w _ _ a n c n' c' Tryz.underlying23
 go_enter Tryz.func53, Tryz.ntmps53
 go_wp2_with (first | (at_builtin; refine wpList_appNone 23 77 Tryz.underlying23 infoMem rfl (.tmp 5) (.tmp 6) rfl _ _ _ _ rfl rfl ?_) | fail)
 go_ret
 exact ⟨_, rfl, MRow.emptyW _ _ (Nat.le_refl _), Below.allocS (Below.refl _ _) _⟩
theorem cloneT_any (v : Value) (L : List Bs) (w : World) (h : SS w v L) (hp : PlainS v) (hL : L.length ≤ 1000000) :
  Calls Tryz.prog 52 #[v] w fun e w' => ∃ v', e = .returned v' ∧ SRow w' w.heap.size v' L ∧ Below w.heap.size w w' := by
 obtain ⟨a, cap, rfl, h1, h2, h3⟩ := h
 obtain ⟨i0, hi, hz0, hz1, hz2⟩ := info_parts infoStr
 rcases a with _ | ⟨g, off, _ | sp⟩
 ·obtain rfl : L = [] := by
   apply Classical.byContradiction
   intro hn
   obtain ⟨g, off, e, _⟩ := h3 hn
   cases e
  refine (AnyE.slices_Clone_nil laysCloneS 0 cap w).mono ?_
  rintro e w' ⟨rfl, rfl⟩
  exact ⟨_, rfl, SRow.nil _ _, Below.refl _ _⟩
 ·have h4 : SSrc w g off L := by
   intro i hi
   obtain ⟨g', off', e, _, h⟩ := h3 (by intro e; rw [e] at hi; simp at hi)
   cases e
   exact h i hi
  refine (AnyE.slices_Clone laysCloneS i0 _ 1 16 hi hz0 hz1 hz2 rfl (by decide) Tryz.sizeOf9 g off L.length cap (sv L) w (by rw [sv_len]; omega) (by unfold maxLen; omega) (by omega) (fun j u hj => ?_) (sone L)).mono ?_
  ·have hj2 : j < L.length := by
    have := (List.getElem?_eq_some_iff.1 hj).1
    rw [sv_len] at this; exact this
   rw [h4 j hj2]
   rw [← hj]
   simp [sv, List.getD, List.getElem?_eq_getElem hj2]
  ·rintro e w' ⟨v', rfl, hr, _, hb⟩
   exact ⟨v', rfl, hr, hb⟩
 ·obtain rfl : L = [] := by
   apply Classical.byContradiction
   intro hn
   obtain ⟨g, off, e, _⟩ := h3 hn
   cases e
  exact cloneT_odd _ _ _ _ w
theorem cloneM_any (v : Value) (L : List (Bs × Int)) (w : World) (h : MS w v L) (hp : PlainS v) (hL : L.length ≤ 1000000) :
  Calls Tryz.prog 53 #[v] w fun e w' => ∃ v', e = .returned v' ∧ MRow w' w.heap.size v' L ∧ Below w.heap.size w w' := by
 obtain ⟨a, cap, rfl, h1, h2, h3⟩ := h
 obtain ⟨i0, hi, hz0, hz1, hz2⟩ := info_parts infoMem
 rcases a with _ | ⟨g, off, _ | sp⟩
 ·obtain rfl : L = [] := by
   apply Classical.byContradiction
   intro hn
   obtain ⟨g, off, e, _⟩ := h3 hn
   cases e
  refine (AnyE.slices_Clone_nil laysCloneM 0 cap w).mono ?_
  rintro e w' ⟨rfl, rfl⟩
  exact ⟨_, rfl, MRow.nil _ _, Below.refl _ _⟩
 ·have h4 : MSrc w g off L := by
   intro i hi
   obtain ⟨g', off', e, _, h⟩ := h3 (by intro e; rw [e] at hi; simp at hi)
   cases e
   exact h i hi
  refine (AnyE.slices_Clone laysCloneM i0 _ 2 24 hi hz0 hz1 hz2 rfl (by decide) Tryz.sizeOf77 g off L.length cap (mv L) w (mv_len L) (by unfold maxLen; omega) (by omega) (fun j u hj => ?_) (mone L)).mono ?_
  ·have hj2 : j < L.length * 2 := by
    have := (List.getElem?_eq_some_iff.1 hj).1
    rw [mv_len] at this; exact this
   obtain ⟨i, rfl | rfl⟩ : ∃ i, j = i * 2 ∨ j = i * 2 + 1 := ⟨j / 2, by omega⟩
   ·rw [(h4 i (by omega)).1, ← hj, (mv_at L i (by omega)).1]
   ·rw [show off + (i * 2 + 1) = off + i * 2 + 1 from by omega, (h4 i (by omega)).2, ← hj, (mv_at L i (by omega)).2]
  ·rintro e w' ⟨v', rfl, hr, _, hb⟩
   exact ⟨v', rfl, hr, hb⟩
 ·obtain rfl : L = [] := by
   apply Classical.byContradiction
   intro hn
   obtain ⟨g, off, e, _⟩ := h3 hn
   cases e
  exact cloneM_odd _ _ _ _ w
end Go.Proofs.YthkpmlfaddlieaaGreatDoor
