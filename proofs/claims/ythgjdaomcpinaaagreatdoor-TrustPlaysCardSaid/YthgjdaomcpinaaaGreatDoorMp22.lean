/- TrustC, TrustE. -/
import Derived.Test.YthgjdaomcpinaaaGreatDoorMp21
set_option linter.unnecessarySimpa false
set_option linter.unusedSimpArgs false
set_option linter.unusedVariables false
set_option maxRecDepth 100000
set_option maxHeartbeats 32000000
namespace Go.Proofs.YthgjdaomcpinaaaGreatDoor
open Go.RowKit Go.Shelf Pl
def codeT (b : Bool) : Int := if b then 0 else 3
theorem tr_check (a1 a2 a3 : Int) (lb : Bool) (pa st rc tx me ne : Bs) (K : List Bs) (sk : Value) (L : List (Bs × Int)) (ms : Value) (ta : Int) (w : World) (hk : SS w sk K) (hl : MS w ms L) (hkt : KT w) :
  Calls Tryz.prog 15 #[.agg #[.int .i64 a1, .int .i64 a2, .int .i64 a3, .bool lb, .string ⟨List.toArray pa⟩, .string ⟨List.toArray st⟩, .string ⟨List.toArray rc⟩, .string ⟨List.toArray tx⟩, .string ⟨List.toArray me⟩, .string ⟨List.toArray ne⟩, sk, ms, .int .i64 ta]] w fun e w' => e = .returned (.int .i64 (codeT (fineT ⟨⟨a1, a2, a3, lb, pa, st, rc, tx, me, ne, K⟩, L, ta⟩))) ∧ Below w.heap.size w w' := by
 have hb0 : Below w.heap.size w (w.alloc (.cells #[.int .i64 a1, .int .i64 a2, .int .i64 a3, .bool lb, .string ⟨List.toArray pa⟩, .string ⟨List.toArray st⟩, .string ⟨List.toArray rc⟩, .string ⟨List.toArray tx⟩, .string ⟨List.toArray me⟩, .string ⟨List.toArray ne⟩, sk, ms, .int .i64 ta] 27)) := Below.allocS (Below.refl _ _) _
 have B0 : Blk (w.alloc (.cells #[.int .i64 a1, .int .i64 a2, .int .i64 a3, .bool lb, .string ⟨List.toArray pa⟩, .string ⟨List.toArray st⟩, .string ⟨List.toArray rc⟩, .string ⟨List.toArray tx⟩, .string ⟨List.toArray me⟩, .string ⟨List.toArray ne⟩, sk, ms, .int .i64 ta] 27)) w.heap.size #[.int .i64 a1, .int .i64 a2, .int .i64 a3, .bool lb, .string ⟨List.toArray pa⟩, .string ⟨List.toArray st⟩, .string ⟨List.toArray rc⟩, .string ⟨List.toArray tx⟩, .string ⟨List.toArray me⟩, .string ⟨List.toArray ne⟩, sk, ms, .int .i64 ta] := Blk.new _ _ _
 have q1 := fun W (hb : Below w.heap.size w W) => hd_check a1 a2 a3 lb pa st rc tx me ne K sk W (hk.keep hb)
 have q2 := fun W (hb : Below w.heap.size w W) => mcheck_any ms L W (hl.keep hb)
 have hF : fineT ⟨⟨a1, a2, a3, lb, pa, st, rc, tx, me, ne, K⟩, L, ta⟩ = (fineH ⟨a1, a2, a3, lb, pa, st, rc, tx, me, ne, K⟩ && inH ta 1099511627776 && chkM L && decide (dgM L = ne)) := rfl
 rw [hF]
 unfold inH
 clear hF
 generalize hr : codeT (fineH ⟨a1, a2, a3, lb, pa, st, rc, tx, me, ne, K⟩ && (decide (0 ≤ ta) && decide (ta ≤ 1099511627776)) && chkM L && decide (dgM L = ne)) = r
 have HR := Lib.hid hr
 clear hr
 cases hf : fineH ⟨a1, a2, a3, lb, pa, st, rc, tx, me, ne, K⟩
 ·rw [hf, show codeH false = 190 from rfl] at q1
  have HF := Lib.hid hf
  clear hf q2
  go_enter Tryz.func15, Tryz.ntmps15
  go_wp2_with fail
  refine wp_held rfl (by kernel_rfl) ?_
  (refine qP ?_ ?_ ?_; rotate_left; focus (intro w; go_simp; try with_reducible rfl))
  try simp only [pna, pnb, pnc, pnd, pne]
  refine wpQ_load (by rfl) (.agg #[.int .i64 a1, .int .i64 a2, .int .i64 a3, .bool lb, .string ⟨List.toArray pa⟩, .string ⟨List.toArray st⟩, .string ⟨List.toArray rc⟩, .string ⟨List.toArray tx⟩, .string ⟨List.toArray me⟩, .string ⟨List.toArray ne⟩, sk]) (fun w hb2 => (by obtain ⟨k1, k2, k3⟩ := id (B0.keep hb2); go_simp; try rfl)) ?_
  try simp only [pna, pnb, pnc, pnd, pne]
  refine wpQ_call (by rfl) _ _ (.int .i64 190) (fun w' hb => (q1 w' (hb0.trans (hb.mono hb0.size))).mono fun _ _ ⟨he, h4⟩ => ⟨he, hb.trans (h4.mono hb.size)⟩) (by intro w; go_simp; try rfl) ?_
  try simp only [pna, pnb, pnc, pnd, pne]
  (refine qP ?_ ?_ ?_; rotate_left; focus (intro w; go_simp; try with_reducible rfl))
  try simp only [pna, pnb, pnc, pnd, pne]
  (refine qP ?_ ?_ ?_; rotate_left; focus (intro w; go_simp; try with_reducible rfl))
  try simp only [pna, pnb, pnc, pnd, pne]
  (first | (refine qN ?_) | (refine qP ?_ ?_ ?_; rotate_left; focus (intro w; go_simp; try with_reducible rfl)))
  try simp only [pna, pnb, pnc, pnd, pne]
  (refine qN ?_)
  try simp only [pna, pnb, pnc, pnd, pne]
  (first | (refine qN ?_) | (refine qP ?_ ?_ ?_; rotate_left; focus (intro w; go_simp; try with_reducible rfl)))
  try simp only [pna, pnb, pnc, pnd, pne]
  (refine qP ?_ ?_ ?_; rotate_left; focus (intro w; go_simp; try with_reducible rfl))
  try simp only [pna, pnb, pnc, pnd, pne]
  (refine qP ?_ ?_ ?_; rotate_left; focus (intro w; go_simp; try with_reducible rfl))
  try simp only [pna, pnb, pnc, pnd, pne]
  (first | (refine qN ?_) | (refine qP ?_ ?_ ?_; rotate_left; focus (intro w; go_simp; try with_reducible rfl)))
  try simp only [pna, pnb, pnc, pnd, pne]
  (refine qN ?_)
  try simp only [pna, pnb, pnc, pnd, pne]
  (first | (refine qN ?_) | (refine qP ?_ ?_ ?_; rotate_left; focus (intro w; go_simp; try with_reducible rfl)))
  try simp only [pna, pnb, pnc, pnd, pne]
  (refine qP ?_ ?_ ?_; rotate_left; focus (intro w; go_simp; try with_reducible rfl))
  try simp only [pna, pnb, pnc, pnd, pne]
  (refine qP ?_ ?_ ?_; rotate_left; focus (intro w; go_simp; try with_reducible rfl))
  try simp only [pna, pnb, pnc, pnd, pne]
  (first | (refine qN ?_) | (refine qP ?_ ?_ ?_; rotate_left; focus (intro w; go_simp; try with_reducible rfl)))
  try simp only [pna, pnb, pnc, pnd, pne]
  (refine qN ?_)
  try simp only [pna, pnb, pnc, pnd, pne]
  (refine qN ?_)
  try simp only [pna, pnb, pnc, pnd, pne]
  (first | (refine qN ?_) | (refine qP ?_ ?_ ?_; rotate_left; focus (intro w; go_simp; try with_reducible rfl)))
  try simp only [pna, pnb, pnc, pnd, pne]
  (refine qP ?_ ?_ ?_; rotate_left; focus (intro w; go_simp; try with_reducible rfl))
  try simp only [pna, pnb, pnc, pnd, pne]
  (refine qP ?_ ?_ ?_; rotate_left; focus (intro w; go_simp; try with_reducible rfl))
  try simp only [pna, pnb, pnc, pnd, pne]
  (first | (refine qN ?_) | (refine qP ?_ ?_ ?_; rotate_left; focus (intro w; go_simp; try with_reducible rfl)))
  try simp only [pna, pnb, pnc, pnd, pne]
  (refine qN ?_)
  try simp only [pna, pnb, pnc, pnd, pne]
  (refine qN ?_)
  try simp only [pna, pnb, pnc, pnd, pne]
  (first | (refine qN ?_) | (refine qP ?_ ?_ ?_; rotate_left; focus (intro w; go_simp; try with_reducible rfl)))
  try simp only [pna, pnb, pnc, pnd, pne]
  (first | (refine qN ?_) | (refine qP ?_ ?_ ?_; rotate_left; focus (intro w; go_simp; try with_reducible rfl)))
  try simp only [pna, pnb, pnc, pnd, pne]
  (refine qN ?_)
  try simp only [pna, pnb, pnc, pnd, pne]
  (first | (refine qN ?_) | (refine qP ?_ ?_ ?_; rotate_left; focus (intro w; go_simp; try with_reducible rfl)))
  try simp only [pna, pnb, pnc, pnd, pne]
  (refine qP ?_ ?_ ?_; rotate_left; focus (intro w; go_simp; try with_reducible rfl))
  try simp only [pna, pnb, pnc, pnd, pne]
  intro wq hS
  go_wp2_with fail
  go_ret
  exact ⟨by rw [← HR.out, HF.out]; rfl, hb0.trans (hS.mono hb0.size)⟩
 ·rw [hf, show codeH true = 0 from rfl] at q1
  have HF := Lib.hid hf
  clear hf
  by_cases h1 : 0 ≤ ta
  case neg =>
   have d1 : decide (ta < 0) = true := by rw [decide_eq_true_iff]; omega
   have HD : Hid (decide (0 ≤ ta) = false) := Lib.hid (by simpa using h1)
   clear h1 q2
   go_enter Tryz.func15, Tryz.ntmps15
   go_wp2_with fail
   refine wp_held rfl (by kernel_rfl) ?_
   (refine qP ?_ ?_ ?_; rotate_left; focus (intro w; go_simp; try with_reducible rfl))
   try simp only [pna, pnb, pnc, pnd, pne]
   refine wpQ_load (by rfl) (.agg #[.int .i64 a1, .int .i64 a2, .int .i64 a3, .bool lb, .string ⟨List.toArray pa⟩, .string ⟨List.toArray st⟩, .string ⟨List.toArray rc⟩, .string ⟨List.toArray tx⟩, .string ⟨List.toArray me⟩, .string ⟨List.toArray ne⟩, sk]) (fun w hb2 => (by obtain ⟨k1, k2, k3⟩ := id (B0.keep hb2); go_simp; try rfl)) ?_
   try simp only [pna, pnb, pnc, pnd, pne]
   refine wpQ_call (by rfl) _ _ (.int .i64 0) (fun w' hb => (q1 w' (hb0.trans (hb.mono hb0.size))).mono fun _ _ ⟨he, h4⟩ => ⟨he, hb.trans (h4.mono hb.size)⟩) (by intro w; go_simp; try rfl) ?_
   try simp only [pna, pnb, pnc, pnd, pne]
   (refine qP ?_ ?_ ?_; rotate_left; focus (intro w; go_simp; try with_reducible rfl))
   try simp only [pna, pnb, pnc, pnd, pne]
   (refine qP ?_ ?_ ?_; rotate_left; focus (intro w; go_simp; try with_reducible rfl))
   try simp only [pna, pnb, pnc, pnd, pne]
   (first | (refine qN ?_) | (refine qP ?_ ?_ ?_; rotate_left; focus (intro w; go_simp; try with_reducible rfl)))
   try simp only [pna, pnb, pnc, pnd, pne]
   refine wpQ_load (by rfl) (.int .i64 ta) (fun w hb2 => (by have c := (B0.keep hb2).cell 12; go_simp; try rfl)) ?_
   try simp only [pna, pnb, pnc, pnd, pne]
   (first | (refine qN ?_) | (refine qP ?_ ?_ ?_; rotate_left; focus (intro w; go_simp; try with_reducible rfl)))
   try simp only [pna, pnb, pnc, pnd, pne]
   (refine qP ?_ ?_ ?_; rotate_left; focus (intro w; go_simp; try with_reducible rfl))
   try simp only [pna, pnb, pnc, pnd, pne]
   (refine qP ?_ ?_ ?_; rotate_left; focus (intro w; go_simp; try with_reducible rfl))
   try simp only [pna, pnb, pnc, pnd, pne]
   (first | (refine qN ?_) | (refine qP ?_ ?_ ?_; rotate_left; focus (intro w; go_simp; try with_reducible rfl)))
   try simp only [pna, pnb, pnc, pnd, pne]
   (refine qN ?_)
   try simp only [pna, pnb, pnc, pnd, pne]
   (first | (refine qN ?_) | (refine qP ?_ ?_ ?_; rotate_left; focus (intro w; go_simp; try with_reducible rfl)))
   try simp only [pna, pnb, pnc, pnd, pne]
   (refine qP ?_ ?_ ?_; rotate_left; focus (intro w; go_simp; try with_reducible rfl))
   try simp only [pna, pnb, pnc, pnd, pne]
   (refine qP ?_ ?_ ?_; rotate_left; focus (intro w; go_simp; try with_reducible rfl))
   try simp only [pna, pnb, pnc, pnd, pne]
   (first | (refine qN ?_) | (refine qP ?_ ?_ ?_; rotate_left; focus (intro w; go_simp; try with_reducible rfl)))
   try simp only [pna, pnb, pnc, pnd, pne]
   (refine qN ?_)
   try simp only [pna, pnb, pnc, pnd, pne]
   (refine qN ?_)
   try simp only [pna, pnb, pnc, pnd, pne]
   (first | (refine qN ?_) | (refine qP ?_ ?_ ?_; rotate_left; focus (intro w; go_simp; try with_reducible rfl)))
   try simp only [pna, pnb, pnc, pnd, pne]
   (refine qP ?_ ?_ ?_; rotate_left; focus (intro w; go_simp; try with_reducible rfl))
   try simp only [pna, pnb, pnc, pnd, pne]
   (refine qP ?_ ?_ ?_; rotate_left; focus (intro w; go_simp; try with_reducible rfl))
   try simp only [pna, pnb, pnc, pnd, pne]
   (first | (refine qN ?_) | (refine qP ?_ ?_ ?_; rotate_left; focus (intro w; go_simp; try with_reducible rfl)))
   try simp only [pna, pnb, pnc, pnd, pne]
   (refine qN ?_)
   try simp only [pna, pnb, pnc, pnd, pne]
   (refine qN ?_)
   try simp only [pna, pnb, pnc, pnd, pne]
   (first | (refine qN ?_) | (refine qP ?_ ?_ ?_; rotate_left; focus (intro w; go_simp; try with_reducible rfl)))
   try simp only [pna, pnb, pnc, pnd, pne]
   (first | (refine qN ?_) | (refine qP ?_ ?_ ?_; rotate_left; focus (intro w; go_simp; try with_reducible rfl)))
   try simp only [pna, pnb, pnc, pnd, pne]
   (refine qN ?_)
   try simp only [pna, pnb, pnc, pnd, pne]
   (first | (refine qN ?_) | (refine qP ?_ ?_ ?_; rotate_left; focus (intro w; go_simp; try with_reducible rfl)))
   try simp only [pna, pnb, pnc, pnd, pne]
   (refine qP ?_ ?_ ?_; rotate_left; focus (intro w; go_simp; try with_reducible rfl))
   try simp only [pna, pnb, pnc, pnd, pne]
   intro wq hS
   go_wp2_with fail
   go_ret
   exact ⟨by rw [← HR.out, HF.out, HD.out]; rfl, hb0.trans (hS.mono hb0.size)⟩
  case pos =>
  have d1 : decide (ta < 0) = false := by rw [decide_eq_false_iff_not]; omega
  have HD : Hid (decide (0 ≤ ta) = true) := Lib.hid (by simpa using h1)
  clear h1
  by_cases h2 : ta ≤ 1099511627776
  case neg =>
   have d2 : decide (1099511627776 < ta) = true := by rw [decide_eq_true_iff]; omega
   have HD2 : Hid (decide (ta ≤ 1099511627776) = false) := Lib.hid (by simpa using h2)
   clear h2 q2
   go_enter Tryz.func15, Tryz.ntmps15
   go_wp2_with fail
   refine wp_held rfl (by kernel_rfl) ?_
   (refine qP ?_ ?_ ?_; rotate_left; focus (intro w; go_simp; try with_reducible rfl))
   try simp only [pna, pnb, pnc, pnd, pne]
   refine wpQ_load (by rfl) (.agg #[.int .i64 a1, .int .i64 a2, .int .i64 a3, .bool lb, .string ⟨List.toArray pa⟩, .string ⟨List.toArray st⟩, .string ⟨List.toArray rc⟩, .string ⟨List.toArray tx⟩, .string ⟨List.toArray me⟩, .string ⟨List.toArray ne⟩, sk]) (fun w hb2 => (by obtain ⟨k1, k2, k3⟩ := id (B0.keep hb2); go_simp; try rfl)) ?_
   try simp only [pna, pnb, pnc, pnd, pne]
   refine wpQ_call (by rfl) _ _ (.int .i64 0) (fun w' hb => (q1 w' (hb0.trans (hb.mono hb0.size))).mono fun _ _ ⟨he, h4⟩ => ⟨he, hb.trans (h4.mono hb.size)⟩) (by intro w; go_simp; try rfl) ?_
   try simp only [pna, pnb, pnc, pnd, pne]
   (refine qP ?_ ?_ ?_; rotate_left; focus (intro w; go_simp; try with_reducible rfl))
   try simp only [pna, pnb, pnc, pnd, pne]
   (refine qP ?_ ?_ ?_; rotate_left; focus (intro w; go_simp; try with_reducible rfl))
   try simp only [pna, pnb, pnc, pnd, pne]
   (first | (refine qN ?_) | (refine qP ?_ ?_ ?_; rotate_left; focus (intro w; go_simp; try with_reducible rfl)))
   try simp only [pna, pnb, pnc, pnd, pne]
   refine wpQ_load (by rfl) (.int .i64 ta) (fun w hb2 => (by have c := (B0.keep hb2).cell 12; go_simp; try rfl)) ?_
   try simp only [pna, pnb, pnc, pnd, pne]
   (first | (refine qN ?_) | (refine qP ?_ ?_ ?_; rotate_left; focus (intro w; go_simp; try with_reducible rfl)))
   try simp only [pna, pnb, pnc, pnd, pne]
   (refine qP ?_ ?_ ?_; rotate_left; focus (intro w; go_simp; try with_reducible rfl))
   try simp only [pna, pnb, pnc, pnd, pne]
   (refine qP ?_ ?_ ?_; rotate_left; focus (intro w; go_simp; try with_reducible rfl))
   try simp only [pna, pnb, pnc, pnd, pne]
   (first | (refine qN ?_) | (refine qP ?_ ?_ ?_; rotate_left; focus (intro w; go_simp; try with_reducible rfl)))
   try simp only [pna, pnb, pnc, pnd, pne]
   refine wpQ_load (by rfl) (.int .i64 ta) (fun w hb2 => (by have c := (B0.keep hb2).cell 12; go_simp; try rfl)) ?_
   try simp only [pna, pnb, pnc, pnd, pne]
   (first | (refine qN ?_) | (refine qP ?_ ?_ ?_; rotate_left; focus (intro w; go_simp; try with_reducible rfl)))
   try simp only [pna, pnb, pnc, pnd, pne]
   (refine qP ?_ ?_ ?_; rotate_left; focus (intro w; go_simp; try with_reducible rfl))
   try simp only [pna, pnb, pnc, pnd, pne]
   (refine qP ?_ ?_ ?_; rotate_left; focus (intro w; go_simp; try with_reducible rfl))
   try simp only [pna, pnb, pnc, pnd, pne]
   (first | (refine qN ?_) | (refine qP ?_ ?_ ?_; rotate_left; focus (intro w; go_simp; try with_reducible rfl)))
   try simp only [pna, pnb, pnc, pnd, pne]
   (refine qN ?_)
   try simp only [pna, pnb, pnc, pnd, pne]
   (refine qN ?_)
   try simp only [pna, pnb, pnc, pnd, pne]
   (first | (refine qN ?_) | (refine qP ?_ ?_ ?_; rotate_left; focus (intro w; go_simp; try with_reducible rfl)))
   try simp only [pna, pnb, pnc, pnd, pne]
   (refine qP ?_ ?_ ?_; rotate_left; focus (intro w; go_simp; try with_reducible rfl))
   try simp only [pna, pnb, pnc, pnd, pne]
   (refine qP ?_ ?_ ?_; rotate_left; focus (intro w; go_simp; try with_reducible rfl))
   try simp only [pna, pnb, pnc, pnd, pne]
   (first | (refine qN ?_) | (refine qP ?_ ?_ ?_; rotate_left; focus (intro w; go_simp; try with_reducible rfl)))
   try simp only [pna, pnb, pnc, pnd, pne]
   (refine qN ?_)
   try simp only [pna, pnb, pnc, pnd, pne]
   (refine qN ?_)
   try simp only [pna, pnb, pnc, pnd, pne]
   (first | (refine qN ?_) | (refine qP ?_ ?_ ?_; rotate_left; focus (intro w; go_simp; try with_reducible rfl)))
   try simp only [pna, pnb, pnc, pnd, pne]
   (first | (refine qN ?_) | (refine qP ?_ ?_ ?_; rotate_left; focus (intro w; go_simp; try with_reducible rfl)))
   try simp only [pna, pnb, pnc, pnd, pne]
   (refine qN ?_)
   try simp only [pna, pnb, pnc, pnd, pne]
   (first | (refine qN ?_) | (refine qP ?_ ?_ ?_; rotate_left; focus (intro w; go_simp; try with_reducible rfl)))
   try simp only [pna, pnb, pnc, pnd, pne]
   (refine qP ?_ ?_ ?_; rotate_left; focus (intro w; go_simp; try with_reducible rfl))
   try simp only [pna, pnb, pnc, pnd, pne]
   intro wq hS
   go_wp2_with fail
   go_ret
   exact ⟨by rw [← HR.out, HF.out, HD.out, HD2.out]; rfl, hb0.trans (hS.mono hb0.size)⟩
  case pos =>
  have d2 : decide (1099511627776 < ta) = false := by rw [decide_eq_false_iff_not]; omega
  have HD2 : Hid (decide (ta ≤ 1099511627776) = true) := Lib.hid (by simpa using h2)
  clear h2
  cases hc : chkM L
  ·rw [hc, show setI false = 50 from rfl] at q2
   have HC := Lib.hid hc
   clear hc
   go_enter Tryz.func15, Tryz.ntmps15
   go_wp2_with fail
   refine wp_held rfl (by kernel_rfl) ?_
   (refine qP ?_ ?_ ?_; rotate_left; focus (intro w; go_simp; try with_reducible rfl))
   try simp only [pna, pnb, pnc, pnd, pne]
   refine wpQ_load (by rfl) (.agg #[.int .i64 a1, .int .i64 a2, .int .i64 a3, .bool lb, .string ⟨List.toArray pa⟩, .string ⟨List.toArray st⟩, .string ⟨List.toArray rc⟩, .string ⟨List.toArray tx⟩, .string ⟨List.toArray me⟩, .string ⟨List.toArray ne⟩, sk]) (fun w hb2 => (by obtain ⟨k1, k2, k3⟩ := id (B0.keep hb2); go_simp; try rfl)) ?_
   try simp only [pna, pnb, pnc, pnd, pne]
   refine wpQ_call (by rfl) _ _ (.int .i64 0) (fun w' hb => (q1 w' (hb0.trans (hb.mono hb0.size))).mono fun _ _ ⟨he, h4⟩ => ⟨he, hb.trans (h4.mono hb.size)⟩) (by intro w; go_simp; try rfl) ?_
   try simp only [pna, pnb, pnc, pnd, pne]
   (refine qP ?_ ?_ ?_; rotate_left; focus (intro w; go_simp; try with_reducible rfl))
   try simp only [pna, pnb, pnc, pnd, pne]
   (refine qP ?_ ?_ ?_; rotate_left; focus (intro w; go_simp; try with_reducible rfl))
   try simp only [pna, pnb, pnc, pnd, pne]
   (first | (refine qN ?_) | (refine qP ?_ ?_ ?_; rotate_left; focus (intro w; go_simp; try with_reducible rfl)))
   try simp only [pna, pnb, pnc, pnd, pne]
   refine wpQ_load (by rfl) (.int .i64 ta) (fun w hb2 => (by have c := (B0.keep hb2).cell 12; go_simp; try rfl)) ?_
   try simp only [pna, pnb, pnc, pnd, pne]
   (first | (refine qN ?_) | (refine qP ?_ ?_ ?_; rotate_left; focus (intro w; go_simp; try with_reducible rfl)))
   try simp only [pna, pnb, pnc, pnd, pne]
   (refine qP ?_ ?_ ?_; rotate_left; focus (intro w; go_simp; try with_reducible rfl))
   try simp only [pna, pnb, pnc, pnd, pne]
   (refine qP ?_ ?_ ?_; rotate_left; focus (intro w; go_simp; try with_reducible rfl))
   try simp only [pna, pnb, pnc, pnd, pne]
   (first | (refine qN ?_) | (refine qP ?_ ?_ ?_; rotate_left; focus (intro w; go_simp; try with_reducible rfl)))
   try simp only [pna, pnb, pnc, pnd, pne]
   refine wpQ_load (by rfl) (.int .i64 ta) (fun w hb2 => (by have c := (B0.keep hb2).cell 12; go_simp; try rfl)) ?_
   try simp only [pna, pnb, pnc, pnd, pne]
   (first | (refine qN ?_) | (refine qP ?_ ?_ ?_; rotate_left; focus (intro w; go_simp; try with_reducible rfl)))
   try simp only [pna, pnb, pnc, pnd, pne]
   (refine qP ?_ ?_ ?_; rotate_left; focus (intro w; go_simp; try with_reducible rfl))
   try simp only [pna, pnb, pnc, pnd, pne]
   (refine qP ?_ ?_ ?_; rotate_left; focus (intro w; go_simp; try with_reducible rfl))
   try simp only [pna, pnb, pnc, pnd, pne]
   (first | (refine qN ?_) | (refine qP ?_ ?_ ?_; rotate_left; focus (intro w; go_simp; try with_reducible rfl)))
   try simp only [pna, pnb, pnc, pnd, pne]
   refine wpQ_load (by rfl) (ms) (fun w hb2 => (by have c := (B0.keep hb2).cell 11; go_simp; try rfl)) ?_
   try simp only [pna, pnb, pnc, pnd, pne]
   refine wpQ_call (by rfl) _ _ (.int .i64 50) (fun w' hb => (q2 w' (hb0.trans (hb.mono hb0.size))).mono fun _ _ ⟨he, h4⟩ => ⟨he, hb.trans (h4.mono hb.size)⟩) (by intro w; go_simp; try rfl) ?_
   try simp only [pna, pnb, pnc, pnd, pne]
   (first | (refine qN ?_) | (refine qP ?_ ?_ ?_; rotate_left; focus (intro w; go_simp; try with_reducible rfl)))
   try simp only [pna, pnb, pnc, pnd, pne]
   (refine qP ?_ ?_ ?_; rotate_left; focus (intro w; go_simp; try with_reducible rfl))
   try simp only [pna, pnb, pnc, pnd, pne]
   (refine qP ?_ ?_ ?_; rotate_left; focus (intro w; go_simp; try with_reducible rfl))
   try simp only [pna, pnb, pnc, pnd, pne]
   (first | (refine qN ?_) | (refine qP ?_ ?_ ?_; rotate_left; focus (intro w; go_simp; try with_reducible rfl)))
   try simp only [pna, pnb, pnc, pnd, pne]
   (refine qN ?_)
   try simp only [pna, pnb, pnc, pnd, pne]
   (refine qN ?_)
   try simp only [pna, pnb, pnc, pnd, pne]
   (first | (refine qN ?_) | (refine qP ?_ ?_ ?_; rotate_left; focus (intro w; go_simp; try with_reducible rfl)))
   try simp only [pna, pnb, pnc, pnd, pne]
   (first | (refine qN ?_) | (refine qP ?_ ?_ ?_; rotate_left; focus (intro w; go_simp; try with_reducible rfl)))
   try simp only [pna, pnb, pnc, pnd, pne]
   (refine qN ?_)
   try simp only [pna, pnb, pnc, pnd, pne]
   (first | (refine qN ?_) | (refine qP ?_ ?_ ?_; rotate_left; focus (intro w; go_simp; try with_reducible rfl)))
   try simp only [pna, pnb, pnc, pnd, pne]
   (refine qP ?_ ?_ ?_; rotate_left; focus (intro w; go_simp; try with_reducible rfl))
   try simp only [pna, pnb, pnc, pnd, pne]
   intro wq hS
   go_wp2_with fail
   go_ret
   exact ⟨by rw [← HR.out, HF.out, HD.out, HD2.out, HC.out]; rfl, hb0.trans (hS.mono hb0.size)⟩
  ·rw [hc, show setI true = 0 from rfl] at q2
   have HC := Lib.hid hc
   clear hc
   have q3 := fun W (hb : Below w.heap.size w W) => mdigest_any ms L W (hl.keep hb) (hkt.keep hb)
   generalize dgM L = D at *
   by_cases he : D = ne
   ·have HE : Hid (decide (D = ne) = true) := Lib.hid (by simpa using he)
    subst he
    go_enter Tryz.func15, Tryz.ntmps15
    go_wp2_with fail
    refine wp_held rfl (by kernel_rfl) ?_
    (refine qP ?_ ?_ ?_; rotate_left; focus (intro w; go_simp; try with_reducible rfl))
    try simp only [pna, pnb, pnc, pnd, pne]
    refine wpQ_load (by rfl) (.agg #[.int .i64 a1, .int .i64 a2, .int .i64 a3, .bool lb, .string ⟨List.toArray pa⟩, .string ⟨List.toArray st⟩, .string ⟨List.toArray rc⟩, .string ⟨List.toArray tx⟩, .string ⟨List.toArray me⟩, .string ⟨List.toArray D⟩, sk]) (fun w hb2 => (by obtain ⟨k1, k2, k3⟩ := id (B0.keep hb2); go_simp; try rfl)) ?_
    try simp only [pna, pnb, pnc, pnd, pne]
    refine wpQ_call (by rfl) _ _ (.int .i64 0) (fun w' hb => (q1 w' (hb0.trans (hb.mono hb0.size))).mono fun _ _ ⟨he, h4⟩ => ⟨he, hb.trans (h4.mono hb.size)⟩) (by intro w; go_simp; try rfl) ?_
    try simp only [pna, pnb, pnc, pnd, pne]
    (refine qP ?_ ?_ ?_; rotate_left; focus (intro w; go_simp; try with_reducible rfl))
    try simp only [pna, pnb, pnc, pnd, pne]
    (refine qP ?_ ?_ ?_; rotate_left; focus (intro w; go_simp; try with_reducible rfl))
    try simp only [pna, pnb, pnc, pnd, pne]
    (first | (refine qN ?_) | (refine qP ?_ ?_ ?_; rotate_left; focus (intro w; go_simp; try with_reducible rfl)))
    try simp only [pna, pnb, pnc, pnd, pne]
    refine wpQ_load (by rfl) (.int .i64 ta) (fun w hb2 => (by have c := (B0.keep hb2).cell 12; go_simp; try rfl)) ?_
    try simp only [pna, pnb, pnc, pnd, pne]
    (first | (refine qN ?_) | (refine qP ?_ ?_ ?_; rotate_left; focus (intro w; go_simp; try with_reducible rfl)))
    try simp only [pna, pnb, pnc, pnd, pne]
    (refine qP ?_ ?_ ?_; rotate_left; focus (intro w; go_simp; try with_reducible rfl))
    try simp only [pna, pnb, pnc, pnd, pne]
    (refine qP ?_ ?_ ?_; rotate_left; focus (intro w; go_simp; try with_reducible rfl))
    try simp only [pna, pnb, pnc, pnd, pne]
    (first | (refine qN ?_) | (refine qP ?_ ?_ ?_; rotate_left; focus (intro w; go_simp; try with_reducible rfl)))
    try simp only [pna, pnb, pnc, pnd, pne]
    refine wpQ_load (by rfl) (.int .i64 ta) (fun w hb2 => (by have c := (B0.keep hb2).cell 12; go_simp; try rfl)) ?_
    try simp only [pna, pnb, pnc, pnd, pne]
    (first | (refine qN ?_) | (refine qP ?_ ?_ ?_; rotate_left; focus (intro w; go_simp; try with_reducible rfl)))
    try simp only [pna, pnb, pnc, pnd, pne]
    (refine qP ?_ ?_ ?_; rotate_left; focus (intro w; go_simp; try with_reducible rfl))
    try simp only [pna, pnb, pnc, pnd, pne]
    (refine qP ?_ ?_ ?_; rotate_left; focus (intro w; go_simp; try with_reducible rfl))
    try simp only [pna, pnb, pnc, pnd, pne]
    (first | (refine qN ?_) | (refine qP ?_ ?_ ?_; rotate_left; focus (intro w; go_simp; try with_reducible rfl)))
    try simp only [pna, pnb, pnc, pnd, pne]
    refine wpQ_load (by rfl) (ms) (fun w hb2 => (by have c := (B0.keep hb2).cell 11; go_simp; try rfl)) ?_
    try simp only [pna, pnb, pnc, pnd, pne]
    refine wpQ_call (by rfl) _ _ (.int .i64 0) (fun w' hb => (q2 w' (hb0.trans (hb.mono hb0.size))).mono fun _ _ ⟨he, h4⟩ => ⟨he, hb.trans (h4.mono hb.size)⟩) (by intro w; go_simp; try rfl) ?_
    try simp only [pna, pnb, pnc, pnd, pne]
    (first | (refine qN ?_) | (refine qP ?_ ?_ ?_; rotate_left; focus (intro w; go_simp; try with_reducible rfl)))
    try simp only [pna, pnb, pnc, pnd, pne]
    (refine qP ?_ ?_ ?_; rotate_left; focus (intro w; go_simp; try with_reducible rfl))
    try simp only [pna, pnb, pnc, pnd, pne]
    (refine qP ?_ ?_ ?_; rotate_left; focus (intro w; go_simp; try with_reducible rfl))
    try simp only [pna, pnb, pnc, pnd, pne]
    (first | (refine qN ?_) | (refine qP ?_ ?_ ?_; rotate_left; focus (intro w; go_simp; try with_reducible rfl)))
    try simp only [pna, pnb, pnc, pnd, pne]
    refine wpQ_load (by rfl) (ms) (fun w hb2 => (by have c := (B0.keep hb2).cell 11; go_simp; try rfl)) ?_
    try simp only [pna, pnb, pnc, pnd, pne]
    refine wpQ_call (by rfl) _ _ (.string ⟨List.toArray D⟩) (fun w' hb => (q3 w' (hb0.trans (hb.mono hb0.size))).mono fun _ _ ⟨he, h4⟩ => ⟨he, hb.trans (h4.mono hb.size)⟩) (by intro w; go_simp; try rfl) ?_
    try simp only [pna, pnb, pnc, pnd, pne]
    (first | (refine qN ?_) | (refine qP ?_ ?_ ?_; rotate_left; focus (intro w; go_simp; try with_reducible rfl)))
    try simp only [pna, pnb, pnc, pnd, pne]
    (first | (refine qN ?_) | (refine qP ?_ ?_ ?_; rotate_left; focus (intro w; go_simp; try with_reducible rfl)))
    try simp only [pna, pnb, pnc, pnd, pne]
    refine wpQ_load (by rfl) (.string ⟨List.toArray D⟩) (fun w hb2 => (by have c := (B0.keep hb2).cell 9; go_simp; try rfl)) ?_
    try simp only [pna, pnb, pnc, pnd, pne]
    (first | (refine qN ?_) | (refine qP ?_ ?_ ?_; rotate_left; focus (intro w; go_simp; try with_reducible rfl)))
    try simp only [pna, pnb, pnc, pnd, pne]
    (refine qP ?_ ?_ ?_; rotate_left; focus (intro w; go_simp; try with_reducible rfl))
    try simp only [pna, pnb, pnc, pnd, pne]
    intro wq hS
    go_wp2_with fail
    go_ret
    exact ⟨by rw [← HR.out, HF.out, HD.out, HD2.out, HC.out, HE.out]; rfl, hb0.trans (hS.mono hb0.size)⟩
   ·have HE : Hid (decide (D = ne) = false) := Lib.hid (by simpa using he)
    have e1 : (D == ne) = false := by simpa using he
    have e2 : (D != ne) = true := by simpa using he
    have e3 : decide (D = ne) = false := by simpa using he
    clear he
    go_enter Tryz.func15, Tryz.ntmps15
    go_wp2_with fail
    refine wp_held rfl (by kernel_rfl) ?_
    (refine qP ?_ ?_ ?_; rotate_left; focus (intro w; go_simp; try with_reducible rfl))
    try simp only [pna, pnb, pnc, pnd, pne]
    refine wpQ_load (by rfl) (.agg #[.int .i64 a1, .int .i64 a2, .int .i64 a3, .bool lb, .string ⟨List.toArray pa⟩, .string ⟨List.toArray st⟩, .string ⟨List.toArray rc⟩, .string ⟨List.toArray tx⟩, .string ⟨List.toArray me⟩, .string ⟨List.toArray ne⟩, sk]) (fun w hb2 => (by obtain ⟨k1, k2, k3⟩ := id (B0.keep hb2); go_simp; try rfl)) ?_
    try simp only [pna, pnb, pnc, pnd, pne]
    refine wpQ_call (by rfl) _ _ (.int .i64 0) (fun w' hb => (q1 w' (hb0.trans (hb.mono hb0.size))).mono fun _ _ ⟨he, h4⟩ => ⟨he, hb.trans (h4.mono hb.size)⟩) (by intro w; go_simp; try rfl) ?_
    try simp only [pna, pnb, pnc, pnd, pne]
    (refine qP ?_ ?_ ?_; rotate_left; focus (intro w; go_simp; try with_reducible rfl))
    try simp only [pna, pnb, pnc, pnd, pne]
    (refine qP ?_ ?_ ?_; rotate_left; focus (intro w; go_simp; try with_reducible rfl))
    try simp only [pna, pnb, pnc, pnd, pne]
    (first | (refine qN ?_) | (refine qP ?_ ?_ ?_; rotate_left; focus (intro w; go_simp; try with_reducible rfl)))
    try simp only [pna, pnb, pnc, pnd, pne]
    refine wpQ_load (by rfl) (.int .i64 ta) (fun w hb2 => (by have c := (B0.keep hb2).cell 12; go_simp; try rfl)) ?_
    try simp only [pna, pnb, pnc, pnd, pne]
    (first | (refine qN ?_) | (refine qP ?_ ?_ ?_; rotate_left; focus (intro w; go_simp; try with_reducible rfl)))
    try simp only [pna, pnb, pnc, pnd, pne]
    (refine qP ?_ ?_ ?_; rotate_left; focus (intro w; go_simp; try with_reducible rfl))
    try simp only [pna, pnb, pnc, pnd, pne]
    (refine qP ?_ ?_ ?_; rotate_left; focus (intro w; go_simp; try with_reducible rfl))
    try simp only [pna, pnb, pnc, pnd, pne]
    (first | (refine qN ?_) | (refine qP ?_ ?_ ?_; rotate_left; focus (intro w; go_simp; try with_reducible rfl)))
    try simp only [pna, pnb, pnc, pnd, pne]
    refine wpQ_load (by rfl) (.int .i64 ta) (fun w hb2 => (by have c := (B0.keep hb2).cell 12; go_simp; try rfl)) ?_
    try simp only [pna, pnb, pnc, pnd, pne]
    (first | (refine qN ?_) | (refine qP ?_ ?_ ?_; rotate_left; focus (intro w; go_simp; try with_reducible rfl)))
    try simp only [pna, pnb, pnc, pnd, pne]
    (refine qP ?_ ?_ ?_; rotate_left; focus (intro w; go_simp; try with_reducible rfl))
    try simp only [pna, pnb, pnc, pnd, pne]
    (refine qP ?_ ?_ ?_; rotate_left; focus (intro w; go_simp; try with_reducible rfl))
    try simp only [pna, pnb, pnc, pnd, pne]
    (first | (refine qN ?_) | (refine qP ?_ ?_ ?_; rotate_left; focus (intro w; go_simp; try with_reducible rfl)))
    try simp only [pna, pnb, pnc, pnd, pne]
    refine wpQ_load (by rfl) (ms) (fun w hb2 => (by have c := (B0.keep hb2).cell 11; go_simp; try rfl)) ?_
    try simp only [pna, pnb, pnc, pnd, pne]
    refine wpQ_call (by rfl) _ _ (.int .i64 0) (fun w' hb => (q2 w' (hb0.trans (hb.mono hb0.size))).mono fun _ _ ⟨he, h4⟩ => ⟨he, hb.trans (h4.mono hb.size)⟩) (by intro w; go_simp; try rfl) ?_
    try simp only [pna, pnb, pnc, pnd, pne]
    (first | (refine qN ?_) | (refine qP ?_ ?_ ?_; rotate_left; focus (intro w; go_simp; try with_reducible rfl)))
    try simp only [pna, pnb, pnc, pnd, pne]
    (refine qP ?_ ?_ ?_; rotate_left; focus (intro w; go_simp; try with_reducible rfl))
    try simp only [pna, pnb, pnc, pnd, pne]
    (refine qP ?_ ?_ ?_; rotate_left; focus (intro w; go_simp; try with_reducible rfl))
    try simp only [pna, pnb, pnc, pnd, pne]
    (first | (refine qN ?_) | (refine qP ?_ ?_ ?_; rotate_left; focus (intro w; go_simp; try with_reducible rfl)))
    try simp only [pna, pnb, pnc, pnd, pne]
    refine wpQ_load (by rfl) (ms) (fun w hb2 => (by have c := (B0.keep hb2).cell 11; go_simp; try rfl)) ?_
    try simp only [pna, pnb, pnc, pnd, pne]
    refine wpQ_call (by rfl) _ _ (.string ⟨List.toArray D⟩) (fun w' hb => (q3 w' (hb0.trans (hb.mono hb0.size))).mono fun _ _ ⟨he, h4⟩ => ⟨he, hb.trans (h4.mono hb.size)⟩) (by intro w; go_simp; try rfl) ?_
    try simp only [pna, pnb, pnc, pnd, pne]
    (first | (refine qN ?_) | (refine qP ?_ ?_ ?_; rotate_left; focus (intro w; go_simp; try with_reducible rfl)))
    try simp only [pna, pnb, pnc, pnd, pne]
    (first | (refine qN ?_) | (refine qP ?_ ?_ ?_; rotate_left; focus (intro w; go_simp; try with_reducible rfl)))
    try simp only [pna, pnb, pnc, pnd, pne]
    refine wpQ_load (by rfl) (.string ⟨List.toArray ne⟩) (fun w hb2 => (by have c := (B0.keep hb2).cell 9; go_simp; try rfl)) ?_
    try simp only [pna, pnb, pnc, pnd, pne]
    (first | (refine qN ?_) | (refine qP ?_ ?_ ?_; rotate_left; focus (intro w; go_simp; try with_reducible rfl)))
    try simp only [pna, pnb, pnc, pnd, pne]
    (refine qP ?_ ?_ ?_; rotate_left; focus (intro w; go_simp; try with_reducible rfl))
    try simp only [pna, pnb, pnc, pnd, pne]
    intro wq hS
    go_wp2_with fail
    go_ret
    exact ⟨by rw [← HR.out, HF.out, HD.out, HD2.out, HC.out, HE.out]; rfl, hb0.trans (hS.mono hb0.size)⟩
end Go.Proofs.YthgjdaomcpinaaaGreatDoor
namespace Go.Proofs.YthgjdaomcpinaaaGreatDoor
open Go.RowKit Go.Shelf Pl
def encTR (t : Tr) : Bs × Int := if fineT t then (writT t, 0) else ([], 3)
theorem encTR_yes {t : Tr} (hf : fineT t = true) : encTR t = (writT t, 0) := by unfold encTR; rw [hf]; rfl
theorem encTR_no {t : Tr} (hf : fineT t = false) : encTR t = ([], 3) := by unfold encTR; rw [hf]; rfl
theorem tr_encode (a1 a2 a3 : Int) (lb : Bool) (pa st rc tx me ne : Bs) (K : List Bs) (sk : Value) (L : List (Bs × Int)) (ms : Value) (ta : Int) (w : World) (hk : SS w sk K) (hl : MS w ms L) (hkt : KT w) :
  Calls Tryz.prog 10 #[.agg #[.int .i64 a1, .int .i64 a2, .int .i64 a3, .bool lb, .string ⟨List.toArray pa⟩, .string ⟨List.toArray st⟩, .string ⟨List.toArray rc⟩, .string ⟨List.toArray tx⟩, .string ⟨List.toArray me⟩, .string ⟨List.toArray ne⟩, sk, ms, .int .i64 ta]] w fun e w' => e = .returned (.tuple #[.string ⟨List.toArray ((encTR ⟨⟨a1, a2, a3, lb, pa, st, rc, tx, me, ne, K⟩, L, ta⟩).1)⟩, .int .i64 ((encTR ⟨⟨a1, a2, a3, lb, pa, st, rc, tx, me, ne, K⟩, L, ta⟩).2)]) ∧ Below w.heap.size w w' := by
 have hb0 : Below w.heap.size w (w.alloc (.cells #[.int .i64 a1, .int .i64 a2, .int .i64 a3, .bool lb, .string ⟨List.toArray pa⟩, .string ⟨List.toArray st⟩, .string ⟨List.toArray rc⟩, .string ⟨List.toArray tx⟩, .string ⟨List.toArray me⟩, .string ⟨List.toArray ne⟩, sk, ms, .int .i64 ta] 27)) := Below.allocS (Below.refl _ _) _
 have B0 : Blk (w.alloc (.cells #[.int .i64 a1, .int .i64 a2, .int .i64 a3, .bool lb, .string ⟨List.toArray pa⟩, .string ⟨List.toArray st⟩, .string ⟨List.toArray rc⟩, .string ⟨List.toArray tx⟩, .string ⟨List.toArray me⟩, .string ⟨List.toArray ne⟩, sk, ms, .int .i64 ta] 27)) w.heap.size #[.int .i64 a1, .int .i64 a2, .int .i64 a3, .bool lb, .string ⟨List.toArray pa⟩, .string ⟨List.toArray st⟩, .string ⟨List.toArray rc⟩, .string ⟨List.toArray tx⟩, .string ⟨List.toArray me⟩, .string ⟨List.toArray ne⟩, sk, ms, .int .i64 ta] := Blk.new _ _ _
 have q1 := tr_check a1 a2 a3 lb pa st rc tx me ne K sk L ms ta _ (hk.keep hb0) (hl.keep hb0) (hkt.keep hb0)
 obtain ⟨b1, b2, b3⟩ := id B0
 cases hf : fineT ⟨⟨a1, a2, a3, lb, pa, st, rc, tx, me, ne, K⟩, L, ta⟩
 ·rw [encTR_no hf]
  rw [hf, show codeT false = 3 from rfl] at q1
  clear hf
  go_enter Tryz.func10, Tryz.ntmps10
  go_wp2_with fail
  refine q1.mono ?_
  rintro e w1 ⟨rfl, hb⟩
  have hb1 := hb0.trans (hb.mono hb0.size)
  go_wp2_with fail
  go_ret2
  exact ⟨rfl, hb1⟩
 ·rw [encTR_yes hf]
  rw [hf, show codeT true = 0 from rfl] at q1
  obtain ⟨f1, f2, f3, _⟩ := fineT_parts hf
  simp only at f1 f2 f3
  have hw : writT ⟨⟨a1, a2, a3, lb, pa, st, rc, tx, me, ne, K⟩, L, ta⟩ = text (writH ⟨a1, a2, a3, lb, pa, st, rc, tx, me, ne, K⟩) ++ text (encM L) ++ num ta.toNat := rfl
  have q2 := fun W (hb : Below w.heap.size w W) => hd_encode a1 a2 a3 lb pa st rc tx me ne K sk W (hk.keep hb)
  rw [encHR_yes f1] at q2
  have q3 := fun W (hb : Below w.heap.size w W) => mencode_any ms L W (hl.keep hb)
  rw [show encMR L = (encM L, 0) from by unfold encMR; rw [f3]; rfl] at q3
  have q4 := fun W => cNum_any ta.toNat (by omega) W
  rw [show ((ta.toNat : Nat) : Int) = ta from by omega] at q4
  have l1 := writH_len f1
  have l2 := encM_len L f3
  have l3 := num_len ta.toNat
  clear hf f1 f2 f3
  generalize writT ⟨⟨a1, a2, a3, lb, pa, st, rc, tx, me, ne, K⟩, L, ta⟩ = R at *
  generalize writH ⟨a1, a2, a3, lb, pa, st, rc, tx, me, ne, K⟩ = H at *
  generalize encM L = M at *
  generalize num ta.toNat = N at *
  have q5 := fun W => ctext_any H (by omega) W
  have q6 := fun W => ctext_any M (by omega) W
  have l4 := text_len H
  have l5 := text_len M
  have HW := Lib.hid hw
  clear hw
  generalize text H = TH at *
  generalize text M = TM at *
  have k1 : ¬ 9223372036854775807 < TH.length + TM.length := by omega
  have k2 : ¬ 9223372036854775807 < TH.length + TM.length + N.length := by omega
  simp only at q2 q3
  go_enter Tryz.func10, Tryz.ntmps10
  go_wp2_with fail
  refine q1.mono ?_
  rintro e w1 ⟨rfl, hb⟩
  have hb1 := hb0.trans (hb.mono hb0.size)
  have B1 := B0.keep hb
  clear b1 b2 b3 q1 hb hb0 B0
  obtain ⟨b1, b2, b3⟩ := id B1
  go_wp2_with fail
  refine (q2 _ hb1).mono ?_
  rintro e w2 ⟨rfl, hb⟩
  have hb2 := hb1.trans (hb.mono hb1.size)
  have B2 := B1.keep hb
  clear b1 b2 b3 q2 hb hb1 B1
  obtain ⟨b1, b2, b3⟩ := id B2
  go_wp2_with fail
  refine (q3 _ hb2).mono ?_
  rintro e w3 ⟨rfl, hb⟩
  have hb3 := hb2.trans (hb.mono hb2.size)
  have B3 := B2.keep hb
  clear b1 b2 b3 q3 hb hb2 B2
  obtain ⟨b1, b2, b3⟩ := id B3
  go_wp2_with fail
  refine (q4 _).mono ?_
  rintro e w4 ⟨rfl, hb⟩
  have hb4 := hb3.trans (hb.mono hb3.size)
  clear b1 b2 b3 q4 hb hb3 B3
  go_wp2_with fail
  refine (q5 _).mono ?_
  rintro e w5 ⟨rfl, hb⟩
  have hb5 := hb4.trans (hb.mono hb4.size)
  clear q5 hb hb4
  go_wp2_with fail
  refine (q6 _).mono ?_
  rintro e w6 ⟨rfl, hb⟩
  have hb6 := hb5.trans (hb.mono hb5.size)
  clear q6 hb hb5
  go_wp2_with fail
  go_ret2
  exact ⟨by rw [HW.out]; simp, hb6⟩
end Go.Proofs.YthgjdaomcpinaaaGreatDoor
