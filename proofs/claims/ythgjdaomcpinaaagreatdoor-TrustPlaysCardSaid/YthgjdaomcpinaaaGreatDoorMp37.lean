/- RefTr, RefTW, TAlike. -/
import Derived.Test.YthgjdaomcpinaaaGreatDoorMp36
set_option linter.unnecessarySimpa false
set_option linter.unusedSimpArgs false
set_option linter.unusedVariables false
set_option maxRecDepth 100000
set_option maxHeartbeats 32000000
namespace Go.Proofs.YthgjdaomcpinaaaGreatDoor
open Go.RowKit Go.Shelf Pl
theorem rtfine_any (a1 a2 a3 : Int) (lb : Bool) (pa st rc tx me ne : Bs) (K : List Bs) (sk : Value) (L : List (Bs × Int)) (ms : Value) (ta : Int) (w : World) (hk : SS w sk K) (hl : MS w ms L) :
  Calls Tryz.prog 51 #[.agg #[.int .i64 a1, .int .i64 a2, .int .i64 a3, .bool lb, .string ⟨List.toArray pa⟩, .string ⟨List.toArray st⟩, .string ⟨List.toArray rc⟩, .string ⟨List.toArray tx⟩, .string ⟨List.toArray me⟩, .string ⟨List.toArray ne⟩, sk, ms, .int .i64 ta]] w fun e w' => e = .returned (.bool (fineT ⟨⟨a1, a2, a3, lb, pa, st, rc, tx, me, ne, K⟩, L, ta⟩)) ∧ Below w.heap.size w w' := by
 have hb0 : Below w.heap.size w (w.alloc (.cells #[.int .i64 a1, .int .i64 a2, .int .i64 a3, .bool lb, .string ⟨List.toArray pa⟩, .string ⟨List.toArray st⟩, .string ⟨List.toArray rc⟩, .string ⟨List.toArray tx⟩, .string ⟨List.toArray me⟩, .string ⟨List.toArray ne⟩, sk, ms, .int .i64 ta] 27)) := Below.allocS (Below.refl _ _) _
 have B0 : Blk (w.alloc (.cells #[.int .i64 a1, .int .i64 a2, .int .i64 a3, .bool lb, .string ⟨List.toArray pa⟩, .string ⟨List.toArray st⟩, .string ⟨List.toArray rc⟩, .string ⟨List.toArray tx⟩, .string ⟨List.toArray me⟩, .string ⟨List.toArray ne⟩, sk, ms, .int .i64 ta] 27)) w.heap.size #[.int .i64 a1, .int .i64 a2, .int .i64 a3, .bool lb, .string ⟨List.toArray pa⟩, .string ⟨List.toArray st⟩, .string ⟨List.toArray rc⟩, .string ⟨List.toArray tx⟩, .string ⟨List.toArray me⟩, .string ⟨List.toArray ne⟩, sk, ms, .int .i64 ta] := Blk.new _ _ _
 have q1 := fun W (hb : Below w.heap.size w W) => rhfine_any a1 a2 a3 lb pa st rc tx me ne K sk W (hk.keep hb)
 simp only [fineHR_eq] at q1
 have q2 := fun (W : World) (hb : Below w.heap.size w W) => (rmcheck_any ms L W (hl.keep hb)).mono (R' := fun e w' => e = .returned (.int .i64 (setI (chkM L))) ∧ Below W.heap.size W w') (fun e w' h => ⟨h.1, by obtain ⟨n, rfl⟩ := h.2; exact below_drewN (Below.refl _ _) n⟩)
 have hF : fineT ⟨⟨a1, a2, a3, lb, pa, st, rc, tx, me, ne, K⟩, L, ta⟩ = (fineH ⟨a1, a2, a3, lb, pa, st, rc, tx, me, ne, K⟩ && inH ta 1099511627776 && chkM L && decide (dgM L = ne)) := rfl
 rw [hF]
 unfold inH
 clear hF
 generalize hr : (fineH ⟨a1, a2, a3, lb, pa, st, rc, tx, me, ne, K⟩ && (decide (0 ≤ ta) && decide (ta ≤ 1099511627776)) && chkM L && decide (dgM L = ne)) = r
 have HR := Lib.hid hr
 clear hr
 cases hf : fineH ⟨a1, a2, a3, lb, pa, st, rc, tx, me, ne, K⟩
 ·rw [hf] at q1
  have HF := Lib.hid hf
  clear hf q2
  go_enter Tryz.func51, Tryz.ntmps51
  go_wp2_with fail
  refine wp_held rfl (by kernel_rfl) ?_
  (refine qP ?_ ?_ ?_; rotate_left; focus (intro w; go_simp; try with_reducible rfl))
  try simp only [pna, pnb, pnc, pnd, pne]
  refine wpQ_load (by rfl) (.agg #[.int .i64 a1, .int .i64 a2, .int .i64 a3, .bool lb, .string ⟨List.toArray pa⟩, .string ⟨List.toArray st⟩, .string ⟨List.toArray rc⟩, .string ⟨List.toArray tx⟩, .string ⟨List.toArray me⟩, .string ⟨List.toArray ne⟩, sk]) (fun w hb2 => (by obtain ⟨k1, k2, k3⟩ := id (B0.keep hb2); go_simp; try rfl)) ?_
  try simp only [pna, pnb, pnc, pnd, pne]
  refine wpQ_call (by rfl) _ _ (.bool false) (fun w' hb => (q1 w' (hb0.trans (hb.mono hb0.size))).mono fun _ _ ⟨he, h4⟩ => ⟨he, hb.trans (h4.mono hb.size)⟩) (by intro w; go_simp; try rfl) ?_
  try simp only [pna, pnb, pnc, pnd, pne]
  (refine qP ?_ ?_ ?_; rotate_left; focus (intro w; go_simp; try with_reducible rfl))
  try simp only [pna, pnb, pnc, pnd, pne]
  (first | (refine qN ?_) | (refine qP ?_ ?_ ?_; rotate_left; focus (intro w; go_simp; try with_reducible rfl)))
  try simp only [pna, pnb, pnc, pnd, pne]
  (refine qN ?_)
  try simp only [pna, pnb, pnc, pnd, pne]
  (first | (refine qN ?_) | (refine qP ?_ ?_ ?_; rotate_left; focus (intro w; go_simp; try with_reducible rfl)))
  try simp only [pna, pnb, pnc, pnd, pne]
  (refine qP ?_ ?_ ?_; rotate_left; focus (intro w; go_simp; try with_reducible rfl))
  try simp only [pna, pnb, pnc, pnd, pne]
  (refine qP ?_ ?_ ?_; rotate_left; focus (intro w; go_simp; try with_reducible rfl))
  try simp only [pna, pnb, pnc, pnd, pne]
  (first | (refine qN ?_) | (refine qP ?_ ?_ ?_; rotate_left; focus (intro w; go_simp; try with_reducible rfl)))
  try simp only [pna, pnb, pnc, pnd, pne]
  (refine qN ?_)
  try simp only [pna, pnb, pnc, pnd, pne]
  (first | (refine qN ?_) | (refine qP ?_ ?_ ?_; rotate_left; focus (intro w; go_simp; try with_reducible rfl)))
  try simp only [pna, pnb, pnc, pnd, pne]
  (refine qP ?_ ?_ ?_; rotate_left; focus (intro w; go_simp; try with_reducible rfl))
  try simp only [pna, pnb, pnc, pnd, pne]
  (refine qP ?_ ?_ ?_; rotate_left; focus (intro w; go_simp; try with_reducible rfl))
  try simp only [pna, pnb, pnc, pnd, pne]
  (first | (refine qN ?_) | (refine qP ?_ ?_ ?_; rotate_left; focus (intro w; go_simp; try with_reducible rfl)))
  try simp only [pna, pnb, pnc, pnd, pne]
  (refine qN ?_)
  try simp only [pna, pnb, pnc, pnd, pne]
  (refine qN ?_)
  try simp only [pna, pnb, pnc, pnd, pne]
  (first | (refine qN ?_) | (refine qP ?_ ?_ ?_; rotate_left; focus (intro w; go_simp; try with_reducible rfl)))
  try simp only [pna, pnb, pnc, pnd, pne]
  (refine qP ?_ ?_ ?_; rotate_left; focus (intro w; go_simp; try with_reducible rfl))
  try simp only [pna, pnb, pnc, pnd, pne]
  (refine qP ?_ ?_ ?_; rotate_left; focus (intro w; go_simp; try with_reducible rfl))
  try simp only [pna, pnb, pnc, pnd, pne]
  (first | (refine qN ?_) | (refine qP ?_ ?_ ?_; rotate_left; focus (intro w; go_simp; try with_reducible rfl)))
  try simp only [pna, pnb, pnc, pnd, pne]
  (refine qN ?_)
  try simp only [pna, pnb, pnc, pnd, pne]
  (refine qN ?_)
  try simp only [pna, pnb, pnc, pnd, pne]
  (first | (refine qN ?_) | (refine qP ?_ ?_ ?_; rotate_left; focus (intro w; go_simp; try with_reducible rfl)))
  try simp only [pna, pnb, pnc, pnd, pne]
  (first | (refine qN ?_) | (refine qP ?_ ?_ ?_; rotate_left; focus (intro w; go_simp; try with_reducible rfl)))
  try simp only [pna, pnb, pnc, pnd, pne]
  (refine qN ?_)
  try simp only [pna, pnb, pnc, pnd, pne]
  (first | (refine qN ?_) | (refine qP ?_ ?_ ?_; rotate_left; focus (intro w; go_simp; try with_reducible rfl)))
  try simp only [pna, pnb, pnc, pnd, pne]
  (refine qP ?_ ?_ ?_; rotate_left; focus (intro w; go_simp; try with_reducible rfl))
  try simp only [pna, pnb, pnc, pnd, pne]
  (refine qP ?_ ?_ ?_; rotate_left; focus (intro w; go_simp; try with_reducible rfl))
  try simp only [pna, pnb, pnc, pnd, pne]
  intro wq hS
  go_wp2_with fail
  go_ret
  exact ⟨by rw [← HR.out, HF.out]; rfl, hb0.trans (hS.mono hb0.size)⟩
 ·rw [hf] at q1
  have HF := Lib.hid hf
  clear hf
  by_cases h1 : 0 ≤ ta
  case neg =>
   have d1 : decide (0 ≤ ta) = false := by simpa using h1
   have HD : Hid (decide (0 ≤ ta) = false) := Lib.hid (by simpa using h1)
   clear h1 q2
   go_enter Tryz.func51, Tryz.ntmps51
   go_wp2_with fail
   refine wp_held rfl (by kernel_rfl) ?_
   (refine qP ?_ ?_ ?_; rotate_left; focus (intro w; go_simp; try with_reducible rfl))
   try simp only [pna, pnb, pnc, pnd, pne]
   refine wpQ_load (by rfl) (.agg #[.int .i64 a1, .int .i64 a2, .int .i64 a3, .bool lb, .string ⟨List.toArray pa⟩, .string ⟨List.toArray st⟩, .string ⟨List.toArray rc⟩, .string ⟨List.toArray tx⟩, .string ⟨List.toArray me⟩, .string ⟨List.toArray ne⟩, sk]) (fun w hb2 => (by obtain ⟨k1, k2, k3⟩ := id (B0.keep hb2); go_simp; try rfl)) ?_
   try simp only [pna, pnb, pnc, pnd, pne]
   refine wpQ_call (by rfl) _ _ (.bool true) (fun w' hb => (q1 w' (hb0.trans (hb.mono hb0.size))).mono fun _ _ ⟨he, h4⟩ => ⟨he, hb.trans (h4.mono hb.size)⟩) (by intro w; go_simp; try rfl) ?_
   try simp only [pna, pnb, pnc, pnd, pne]
   (refine qP ?_ ?_ ?_; rotate_left; focus (intro w; go_simp; try with_reducible rfl))
   try simp only [pna, pnb, pnc, pnd, pne]
   (first | (refine qN ?_) | (refine qP ?_ ?_ ?_; rotate_left; focus (intro w; go_simp; try with_reducible rfl)))
   try simp only [pna, pnb, pnc, pnd, pne]
   refine wpQ_load (by rfl) (.int .i64 ta) (fun w hb2 => (by have c := (B0.keep hb2).cell 12; go_simp; try rfl)) ?_
   try simp only [pna, pnb, pnc, pnd, pne]
   (first | (refine qN ?_) | (refine qP ?_ ?_ ?_; rotate_left; focus (intro w; go_simp; try with_reducible rfl)))
   try simp only [pna, pnb, pnc, pnd, pne]
   (refine qP ?_ ?_ ?_; rotate_left; focus (intro w; go_simp; try with_reducible rfl))
   try simp only [pna, pnb, pnc, pnd, pne]
   (refine qP ?_ ?_ ?_; rotate_left; focus (intro w; go_simp; try with_reducible rfl))
   try simp only [pna, pnb, pnc, pnd, pne]
   (first | (refine qN ?_) | (refine qP ?_ ?_ ?_; rotate_left; focus (intro w; go_simp; try with_reducible rfl)))
   try simp only [pna, pnb, pnc, pnd, pne]
   (refine qN ?_)
   try simp only [pna, pnb, pnc, pnd, pne]
   (first | (refine qN ?_) | (refine qP ?_ ?_ ?_; rotate_left; focus (intro w; go_simp; try with_reducible rfl)))
   try simp only [pna, pnb, pnc, pnd, pne]
   (refine qP ?_ ?_ ?_; rotate_left; focus (intro w; go_simp; try with_reducible rfl))
   try simp only [pna, pnb, pnc, pnd, pne]
   (refine qP ?_ ?_ ?_; rotate_left; focus (intro w; go_simp; try with_reducible rfl))
   try simp only [pna, pnb, pnc, pnd, pne]
   (first | (refine qN ?_) | (refine qP ?_ ?_ ?_; rotate_left; focus (intro w; go_simp; try with_reducible rfl)))
   try simp only [pna, pnb, pnc, pnd, pne]
   (refine qN ?_)
   try simp only [pna, pnb, pnc, pnd, pne]
   (refine qN ?_)
   try simp only [pna, pnb, pnc, pnd, pne]
   (first | (refine qN ?_) | (refine qP ?_ ?_ ?_; rotate_left; focus (intro w; go_simp; try with_reducible rfl)))
   try simp only [pna, pnb, pnc, pnd, pne]
   (refine qP ?_ ?_ ?_; rotate_left; focus (intro w; go_simp; try with_reducible rfl))
   try simp only [pna, pnb, pnc, pnd, pne]
   (refine qP ?_ ?_ ?_; rotate_left; focus (intro w; go_simp; try with_reducible rfl))
   try simp only [pna, pnb, pnc, pnd, pne]
   (first | (refine qN ?_) | (refine qP ?_ ?_ ?_; rotate_left; focus (intro w; go_simp; try with_reducible rfl)))
   try simp only [pna, pnb, pnc, pnd, pne]
   (refine qN ?_)
   try simp only [pna, pnb, pnc, pnd, pne]
   (refine qN ?_)
   try simp only [pna, pnb, pnc, pnd, pne]
   (first | (refine qN ?_) | (refine qP ?_ ?_ ?_; rotate_left; focus (intro w; go_simp; try with_reducible rfl)))
   try simp only [pna, pnb, pnc, pnd, pne]
   (first | (refine qN ?_) | (refine qP ?_ ?_ ?_; rotate_left; focus (intro w; go_simp; try with_reducible rfl)))
   try simp only [pna, pnb, pnc, pnd, pne]
   (refine qN ?_)
   try simp only [pna, pnb, pnc, pnd, pne]
   (first | (refine qN ?_) | (refine qP ?_ ?_ ?_; rotate_left; focus (intro w; go_simp; try with_reducible rfl)))
   try simp only [pna, pnb, pnc, pnd, pne]
   (refine qP ?_ ?_ ?_; rotate_left; focus (intro w; go_simp; try with_reducible rfl))
   try simp only [pna, pnb, pnc, pnd, pne]
   (refine qP ?_ ?_ ?_; rotate_left; focus (intro w; go_simp; try with_reducible rfl))
   try simp only [pna, pnb, pnc, pnd, pne]
   intro wq hS
   go_wp2_with fail
   go_ret
   exact ⟨by rw [← HR.out, HF.out, HD.out]; rfl, hb0.trans (hS.mono hb0.size)⟩
  case pos =>
  have d1 : decide (0 ≤ ta) = true := by simpa using h1
  have HD : Hid (decide (0 ≤ ta) = true) := Lib.hid (by simpa using h1)
  clear h1
  by_cases h2 : ta ≤ 1099511627776
  case neg =>
   have d2 : decide (ta ≤ 1099511627776) = false := by simpa using h2
   have HD2 : Hid (decide (ta ≤ 1099511627776) = false) := Lib.hid (by simpa using h2)
   clear h2 q2
   go_enter Tryz.func51, Tryz.ntmps51
   go_wp2_with fail
   refine wp_held rfl (by kernel_rfl) ?_
   (refine qP ?_ ?_ ?_; rotate_left; focus (intro w; go_simp; try with_reducible rfl))
   try simp only [pna, pnb, pnc, pnd, pne]
   refine wpQ_load (by rfl) (.agg #[.int .i64 a1, .int .i64 a2, .int .i64 a3, .bool lb, .string ⟨List.toArray pa⟩, .string ⟨List.toArray st⟩, .string ⟨List.toArray rc⟩, .string ⟨List.toArray tx⟩, .string ⟨List.toArray me⟩, .string ⟨List.toArray ne⟩, sk]) (fun w hb2 => (by obtain ⟨k1, k2, k3⟩ := id (B0.keep hb2); go_simp; try rfl)) ?_
   try simp only [pna, pnb, pnc, pnd, pne]
   refine wpQ_call (by rfl) _ _ (.bool true) (fun w' hb => (q1 w' (hb0.trans (hb.mono hb0.size))).mono fun _ _ ⟨he, h4⟩ => ⟨he, hb.trans (h4.mono hb.size)⟩) (by intro w; go_simp; try rfl) ?_
   try simp only [pna, pnb, pnc, pnd, pne]
   (refine qP ?_ ?_ ?_; rotate_left; focus (intro w; go_simp; try with_reducible rfl))
   try simp only [pna, pnb, pnc, pnd, pne]
   (first | (refine qN ?_) | (refine qP ?_ ?_ ?_; rotate_left; focus (intro w; go_simp; try with_reducible rfl)))
   try simp only [pna, pnb, pnc, pnd, pne]
   refine wpQ_load (by rfl) (.int .i64 ta) (fun w hb2 => (by have c := (B0.keep hb2).cell 12; go_simp; try rfl)) ?_
   try simp only [pna, pnb, pnc, pnd, pne]
   (first | (refine qN ?_) | (refine qP ?_ ?_ ?_; rotate_left; focus (intro w; go_simp; try with_reducible rfl)))
   try simp only [pna, pnb, pnc, pnd, pne]
   (refine qP ?_ ?_ ?_; rotate_left; focus (intro w; go_simp; try with_reducible rfl))
   try simp only [pna, pnb, pnc, pnd, pne]
   (refine qP ?_ ?_ ?_; rotate_left; focus (intro w; go_simp; try with_reducible rfl))
   try simp only [pna, pnb, pnc, pnd, pne]
   (first | (refine qN ?_) | (refine qP ?_ ?_ ?_; rotate_left; focus (intro w; go_simp; try with_reducible rfl)))
   try simp only [pna, pnb, pnc, pnd, pne]
   refine wpQ_load (by rfl) (.int .i64 ta) (fun w hb2 => (by have c := (B0.keep hb2).cell 12; go_simp; try rfl)) ?_
   try simp only [pna, pnb, pnc, pnd, pne]
   (first | (refine qN ?_) | (refine qP ?_ ?_ ?_; rotate_left; focus (intro w; go_simp; try with_reducible rfl)))
   try simp only [pna, pnb, pnc, pnd, pne]
   (refine qP ?_ ?_ ?_; rotate_left; focus (intro w; go_simp; try with_reducible rfl))
   try simp only [pna, pnb, pnc, pnd, pne]
   (refine qP ?_ ?_ ?_; rotate_left; focus (intro w; go_simp; try with_reducible rfl))
   try simp only [pna, pnb, pnc, pnd, pne]
   (first | (refine qN ?_) | (refine qP ?_ ?_ ?_; rotate_left; focus (intro w; go_simp; try with_reducible rfl)))
   try simp only [pna, pnb, pnc, pnd, pne]
   (refine qN ?_)
   try simp only [pna, pnb, pnc, pnd, pne]
   (refine qN ?_)
   try simp only [pna, pnb, pnc, pnd, pne]
   (first | (refine qN ?_) | (refine qP ?_ ?_ ?_; rotate_left; focus (intro w; go_simp; try with_reducible rfl)))
   try simp only [pna, pnb, pnc, pnd, pne]
   (refine qP ?_ ?_ ?_; rotate_left; focus (intro w; go_simp; try with_reducible rfl))
   try simp only [pna, pnb, pnc, pnd, pne]
   (refine qP ?_ ?_ ?_; rotate_left; focus (intro w; go_simp; try with_reducible rfl))
   try simp only [pna, pnb, pnc, pnd, pne]
   (first | (refine qN ?_) | (refine qP ?_ ?_ ?_; rotate_left; focus (intro w; go_simp; try with_reducible rfl)))
   try simp only [pna, pnb, pnc, pnd, pne]
   (refine qN ?_)
   try simp only [pna, pnb, pnc, pnd, pne]
   (refine qN ?_)
   try simp only [pna, pnb, pnc, pnd, pne]
   (first | (refine qN ?_) | (refine qP ?_ ?_ ?_; rotate_left; focus (intro w; go_simp; try with_reducible rfl)))
   try simp only [pna, pnb, pnc, pnd, pne]
   (first | (refine qN ?_) | (refine qP ?_ ?_ ?_; rotate_left; focus (intro w; go_simp; try with_reducible rfl)))
   try simp only [pna, pnb, pnc, pnd, pne]
   (refine qN ?_)
   try simp only [pna, pnb, pnc, pnd, pne]
   (first | (refine qN ?_) | (refine qP ?_ ?_ ?_; rotate_left; focus (intro w; go_simp; try with_reducible rfl)))
   try simp only [pna, pnb, pnc, pnd, pne]
   (refine qP ?_ ?_ ?_; rotate_left; focus (intro w; go_simp; try with_reducible rfl))
   try simp only [pna, pnb, pnc, pnd, pne]
   (refine qP ?_ ?_ ?_; rotate_left; focus (intro w; go_simp; try with_reducible rfl))
   try simp only [pna, pnb, pnc, pnd, pne]
   intro wq hS
   go_wp2_with fail
   go_ret
   exact ⟨by rw [← HR.out, HF.out, HD.out, HD2.out]; rfl, hb0.trans (hS.mono hb0.size)⟩
  case pos =>
  have d2 : decide (ta ≤ 1099511627776) = true := by simpa using h2
  have HD2 : Hid (decide (ta ≤ 1099511627776) = true) := Lib.hid (by simpa using h2)
  clear h2
  cases hc : chkM L
  ·rw [hc, show setI false = 50 from rfl] at q2
   have HC := Lib.hid hc
   clear hc
   go_enter Tryz.func51, Tryz.ntmps51
   go_wp2_with fail
   refine wp_held rfl (by kernel_rfl) ?_
   (refine qP ?_ ?_ ?_; rotate_left; focus (intro w; go_simp; try with_reducible rfl))
   try simp only [pna, pnb, pnc, pnd, pne]
   refine wpQ_load (by rfl) (.agg #[.int .i64 a1, .int .i64 a2, .int .i64 a3, .bool lb, .string ⟨List.toArray pa⟩, .string ⟨List.toArray st⟩, .string ⟨List.toArray rc⟩, .string ⟨List.toArray tx⟩, .string ⟨List.toArray me⟩, .string ⟨List.toArray ne⟩, sk]) (fun w hb2 => (by obtain ⟨k1, k2, k3⟩ := id (B0.keep hb2); go_simp; try rfl)) ?_
   try simp only [pna, pnb, pnc, pnd, pne]
   refine wpQ_call (by rfl) _ _ (.bool true) (fun w' hb => (q1 w' (hb0.trans (hb.mono hb0.size))).mono fun _ _ ⟨he, h4⟩ => ⟨he, hb.trans (h4.mono hb.size)⟩) (by intro w; go_simp; try rfl) ?_
   try simp only [pna, pnb, pnc, pnd, pne]
   (refine qP ?_ ?_ ?_; rotate_left; focus (intro w; go_simp; try with_reducible rfl))
   try simp only [pna, pnb, pnc, pnd, pne]
   (first | (refine qN ?_) | (refine qP ?_ ?_ ?_; rotate_left; focus (intro w; go_simp; try with_reducible rfl)))
   try simp only [pna, pnb, pnc, pnd, pne]
   refine wpQ_load (by rfl) (.int .i64 ta) (fun w hb2 => (by have c := (B0.keep hb2).cell 12; go_simp; try rfl)) ?_
   try simp only [pna, pnb, pnc, pnd, pne]
   (first | (refine qN ?_) | (refine qP ?_ ?_ ?_; rotate_left; focus (intro w; go_simp; try with_reducible rfl)))
   try simp only [pna, pnb, pnc, pnd, pne]
   (refine qP ?_ ?_ ?_; rotate_left; focus (intro w; go_simp; try with_reducible rfl))
   try simp only [pna, pnb, pnc, pnd, pne]
   (refine qP ?_ ?_ ?_; rotate_left; focus (intro w; go_simp; try with_reducible rfl))
   try simp only [pna, pnb, pnc, pnd, pne]
   (first | (refine qN ?_) | (refine qP ?_ ?_ ?_; rotate_left; focus (intro w; go_simp; try with_reducible rfl)))
   try simp only [pna, pnb, pnc, pnd, pne]
   refine wpQ_load (by rfl) (.int .i64 ta) (fun w hb2 => (by have c := (B0.keep hb2).cell 12; go_simp; try rfl)) ?_
   try simp only [pna, pnb, pnc, pnd, pne]
   (first | (refine qN ?_) | (refine qP ?_ ?_ ?_; rotate_left; focus (intro w; go_simp; try with_reducible rfl)))
   try simp only [pna, pnb, pnc, pnd, pne]
   (refine qP ?_ ?_ ?_; rotate_left; focus (intro w; go_simp; try with_reducible rfl))
   try simp only [pna, pnb, pnc, pnd, pne]
   (refine qP ?_ ?_ ?_; rotate_left; focus (intro w; go_simp; try with_reducible rfl))
   try simp only [pna, pnb, pnc, pnd, pne]
   (first | (refine qN ?_) | (refine qP ?_ ?_ ?_; rotate_left; focus (intro w; go_simp; try with_reducible rfl)))
   try simp only [pna, pnb, pnc, pnd, pne]
   refine wpQ_load (by rfl) (ms) (fun w hb2 => (by have c := (B0.keep hb2).cell 11; go_simp; try rfl)) ?_
   try simp only [pna, pnb, pnc, pnd, pne]
   refine wpQ_call (by rfl) _ _ (.int .i64 50) (fun w' hb => (q2 w' (hb0.trans (hb.mono hb0.size))).mono fun _ _ ⟨he, h4⟩ => ⟨he, hb.trans (h4.mono hb.size)⟩) (by intro w; go_simp; try rfl) ?_
   try simp only [pna, pnb, pnc, pnd, pne]
   (first | (refine qN ?_) | (refine qP ?_ ?_ ?_; rotate_left; focus (intro w; go_simp; try with_reducible rfl)))
   try simp only [pna, pnb, pnc, pnd, pne]
   (refine qP ?_ ?_ ?_; rotate_left; focus (intro w; go_simp; try with_reducible rfl))
   try simp only [pna, pnb, pnc, pnd, pne]
   (refine qP ?_ ?_ ?_; rotate_left; focus (intro w; go_simp; try with_reducible rfl))
   try simp only [pna, pnb, pnc, pnd, pne]
   (first | (refine qN ?_) | (refine qP ?_ ?_ ?_; rotate_left; focus (intro w; go_simp; try with_reducible rfl)))
   try simp only [pna, pnb, pnc, pnd, pne]
   (refine qN ?_)
   try simp only [pna, pnb, pnc, pnd, pne]
   (refine qN ?_)
   try simp only [pna, pnb, pnc, pnd, pne]
   (first | (refine qN ?_) | (refine qP ?_ ?_ ?_; rotate_left; focus (intro w; go_simp; try with_reducible rfl)))
   try simp only [pna, pnb, pnc, pnd, pne]
   (first | (refine qN ?_) | (refine qP ?_ ?_ ?_; rotate_left; focus (intro w; go_simp; try with_reducible rfl)))
   try simp only [pna, pnb, pnc, pnd, pne]
   (refine qN ?_)
   try simp only [pna, pnb, pnc, pnd, pne]
   (first | (refine qN ?_) | (refine qP ?_ ?_ ?_; rotate_left; focus (intro w; go_simp; try with_reducible rfl)))
   try simp only [pna, pnb, pnc, pnd, pne]
   (refine qP ?_ ?_ ?_; rotate_left; focus (intro w; go_simp; try with_reducible rfl))
   try simp only [pna, pnb, pnc, pnd, pne]
   (refine qP ?_ ?_ ?_; rotate_left; focus (intro w; go_simp; try with_reducible rfl))
   try simp only [pna, pnb, pnc, pnd, pne]
   intro wq hS
   go_wp2_with fail
   go_ret
   exact ⟨by rw [← HR.out, HF.out, HD.out, HD2.out, HC.out]; rfl, hb0.trans (hS.mono hb0.size)⟩
  ·rw [hc, show setI true = 0 from rfl] at q2
   have HC := Lib.hid hc
   clear hc
   have q3 := fun W (hb : Below w.heap.size w W) => rmdigest_any ms L W (hl.keep hb)
   generalize dgM L = D at *
   by_cases he : D = ne
   ·have HE : Hid (decide (D = ne) = true) := Lib.hid (by simpa using he)
    subst he
    go_enter Tryz.func51, Tryz.ntmps51
    go_wp2_with fail
    refine wp_held rfl (by kernel_rfl) ?_
    (refine qP ?_ ?_ ?_; rotate_left; focus (intro w; go_simp; try with_reducible rfl))
    try simp only [pna, pnb, pnc, pnd, pne]
    refine wpQ_load (by rfl) (.agg #[.int .i64 a1, .int .i64 a2, .int .i64 a3, .bool lb, .string ⟨List.toArray pa⟩, .string ⟨List.toArray st⟩, .string ⟨List.toArray rc⟩, .string ⟨List.toArray tx⟩, .string ⟨List.toArray me⟩, .string ⟨List.toArray D⟩, sk]) (fun w hb2 => (by obtain ⟨k1, k2, k3⟩ := id (B0.keep hb2); go_simp; try rfl)) ?_
    try simp only [pna, pnb, pnc, pnd, pne]
    refine wpQ_call (by rfl) _ _ (.bool true) (fun w' hb => (q1 w' (hb0.trans (hb.mono hb0.size))).mono fun _ _ ⟨he, h4⟩ => ⟨he, hb.trans (h4.mono hb.size)⟩) (by intro w; go_simp; try rfl) ?_
    try simp only [pna, pnb, pnc, pnd, pne]
    (refine qP ?_ ?_ ?_; rotate_left; focus (intro w; go_simp; try with_reducible rfl))
    try simp only [pna, pnb, pnc, pnd, pne]
    (first | (refine qN ?_) | (refine qP ?_ ?_ ?_; rotate_left; focus (intro w; go_simp; try with_reducible rfl)))
    try simp only [pna, pnb, pnc, pnd, pne]
    refine wpQ_load (by rfl) (.int .i64 ta) (fun w hb2 => (by have c := (B0.keep hb2).cell 12; go_simp; try rfl)) ?_
    try simp only [pna, pnb, pnc, pnd, pne]
    (first | (refine qN ?_) | (refine qP ?_ ?_ ?_; rotate_left; focus (intro w; go_simp; try with_reducible rfl)))
    try simp only [pna, pnb, pnc, pnd, pne]
    (refine qP ?_ ?_ ?_; rotate_left; focus (intro w; go_simp; try with_reducible rfl))
    try simp only [pna, pnb, pnc, pnd, pne]
    (refine qP ?_ ?_ ?_; rotate_left; focus (intro w; go_simp; try with_reducible rfl))
    try simp only [pna, pnb, pnc, pnd, pne]
    (first | (refine qN ?_) | (refine qP ?_ ?_ ?_; rotate_left; focus (intro w; go_simp; try with_reducible rfl)))
    try simp only [pna, pnb, pnc, pnd, pne]
    refine wpQ_load (by rfl) (.int .i64 ta) (fun w hb2 => (by have c := (B0.keep hb2).cell 12; go_simp; try rfl)) ?_
    try simp only [pna, pnb, pnc, pnd, pne]
    (first | (refine qN ?_) | (refine qP ?_ ?_ ?_; rotate_left; focus (intro w; go_simp; try with_reducible rfl)))
    try simp only [pna, pnb, pnc, pnd, pne]
    (refine qP ?_ ?_ ?_; rotate_left; focus (intro w; go_simp; try with_reducible rfl))
    try simp only [pna, pnb, pnc, pnd, pne]
    (refine qP ?_ ?_ ?_; rotate_left; focus (intro w; go_simp; try with_reducible rfl))
    try simp only [pna, pnb, pnc, pnd, pne]
    (first | (refine qN ?_) | (refine qP ?_ ?_ ?_; rotate_left; focus (intro w; go_simp; try with_reducible rfl)))
    try simp only [pna, pnb, pnc, pnd, pne]
    refine wpQ_load (by rfl) (ms) (fun w hb2 => (by have c := (B0.keep hb2).cell 11; go_simp; try rfl)) ?_
    try simp only [pna, pnb, pnc, pnd, pne]
    refine wpQ_call (by rfl) _ _ (.int .i64 0) (fun w' hb => (q2 w' (hb0.trans (hb.mono hb0.size))).mono fun _ _ ⟨he, h4⟩ => ⟨he, hb.trans (h4.mono hb.size)⟩) (by intro w; go_simp; try rfl) ?_
    try simp only [pna, pnb, pnc, pnd, pne]
    (first | (refine qN ?_) | (refine qP ?_ ?_ ?_; rotate_left; focus (intro w; go_simp; try with_reducible rfl)))
    try simp only [pna, pnb, pnc, pnd, pne]
    (refine qP ?_ ?_ ?_; rotate_left; focus (intro w; go_simp; try with_reducible rfl))
    try simp only [pna, pnb, pnc, pnd, pne]
    (refine qP ?_ ?_ ?_; rotate_left; focus (intro w; go_simp; try with_reducible rfl))
    try simp only [pna, pnb, pnc, pnd, pne]
    (first | (refine qN ?_) | (refine qP ?_ ?_ ?_; rotate_left; focus (intro w; go_simp; try with_reducible rfl)))
    try simp only [pna, pnb, pnc, pnd, pne]
    refine wpQ_load (by rfl) (ms) (fun w hb2 => (by have c := (B0.keep hb2).cell 11; go_simp; try rfl)) ?_
    try simp only [pna, pnb, pnc, pnd, pne]
    refine wpQ_call (by rfl) _ _ (.string ⟨List.toArray D⟩) (fun w' hb => (q3 w' (hb0.trans (hb.mono hb0.size))).mono fun _ _ ⟨he, h4⟩ => ⟨he, hb.trans (h4.mono hb.size)⟩) (by intro w; go_simp; try rfl) ?_
    try simp only [pna, pnb, pnc, pnd, pne]
    (first | (refine qN ?_) | (refine qP ?_ ?_ ?_; rotate_left; focus (intro w; go_simp; try with_reducible rfl)))
    try simp only [pna, pnb, pnc, pnd, pne]
    (first | (refine qN ?_) | (refine qP ?_ ?_ ?_; rotate_left; focus (intro w; go_simp; try with_reducible rfl)))
    try simp only [pna, pnb, pnc, pnd, pne]
    refine wpQ_load (by rfl) (.string ⟨List.toArray D⟩) (fun w hb2 => (by have c := (B0.keep hb2).cell 9; go_simp; try rfl)) ?_
    try simp only [pna, pnb, pnc, pnd, pne]
    (first | (refine qN ?_) | (refine qP ?_ ?_ ?_; rotate_left; focus (intro w; go_simp; try with_reducible rfl)))
    try simp only [pna, pnb, pnc, pnd, pne]
    (refine qP ?_ ?_ ?_; rotate_left; focus (intro w; go_simp; try with_reducible rfl))
    try simp only [pna, pnb, pnc, pnd, pne]
    (refine qP ?_ ?_ ?_; rotate_left; focus (intro w; go_simp; try with_reducible rfl))
    try simp only [pna, pnb, pnc, pnd, pne]
    intro wq hS
    go_wp2_with fail
    go_ret
    exact ⟨by rw [← HR.out, HF.out, HD.out, HD2.out, HC.out, HE.out]; rfl, hb0.trans (hS.mono hb0.size)⟩
   ·have HE : Hid (decide (D = ne) = false) := Lib.hid (by simpa using he)
    have e1 : (D == ne) = false := by simpa using he
    have e2 : (D != ne) = true := by simpa using he
    have e3 : decide (D = ne) = false := by simpa using he
    clear he
    go_enter Tryz.func51, Tryz.ntmps51
    go_wp2_with fail
    refine wp_held rfl (by kernel_rfl) ?_
    (refine qP ?_ ?_ ?_; rotate_left; focus (intro w; go_simp; try with_reducible rfl))
    try simp only [pna, pnb, pnc, pnd, pne]
    refine wpQ_load (by rfl) (.agg #[.int .i64 a1, .int .i64 a2, .int .i64 a3, .bool lb, .string ⟨List.toArray pa⟩, .string ⟨List.toArray st⟩, .string ⟨List.toArray rc⟩, .string ⟨List.toArray tx⟩, .string ⟨List.toArray me⟩, .string ⟨List.toArray ne⟩, sk]) (fun w hb2 => (by obtain ⟨k1, k2, k3⟩ := id (B0.keep hb2); go_simp; try rfl)) ?_
    try simp only [pna, pnb, pnc, pnd, pne]
    refine wpQ_call (by rfl) _ _ (.bool true) (fun w' hb => (q1 w' (hb0.trans (hb.mono hb0.size))).mono fun _ _ ⟨he, h4⟩ => ⟨he, hb.trans (h4.mono hb.size)⟩) (by intro w; go_simp; try rfl) ?_
    try simp only [pna, pnb, pnc, pnd, pne]
    (refine qP ?_ ?_ ?_; rotate_left; focus (intro w; go_simp; try with_reducible rfl))
    try simp only [pna, pnb, pnc, pnd, pne]
    (first | (refine qN ?_) | (refine qP ?_ ?_ ?_; rotate_left; focus (intro w; go_simp; try with_reducible rfl)))
    try simp only [pna, pnb, pnc, pnd, pne]
    refine wpQ_load (by rfl) (.int .i64 ta) (fun w hb2 => (by have c := (B0.keep hb2).cell 12; go_simp; try rfl)) ?_
    try simp only [pna, pnb, pnc, pnd, pne]
    (first | (refine qN ?_) | (refine qP ?_ ?_ ?_; rotate_left; focus (intro w; go_simp; try with_reducible rfl)))
    try simp only [pna, pnb, pnc, pnd, pne]
    (refine qP ?_ ?_ ?_; rotate_left; focus (intro w; go_simp; try with_reducible rfl))
    try simp only [pna, pnb, pnc, pnd, pne]
    (refine qP ?_ ?_ ?_; rotate_left; focus (intro w; go_simp; try with_reducible rfl))
    try simp only [pna, pnb, pnc, pnd, pne]
    (first | (refine qN ?_) | (refine qP ?_ ?_ ?_; rotate_left; focus (intro w; go_simp; try with_reducible rfl)))
    try simp only [pna, pnb, pnc, pnd, pne]
    refine wpQ_load (by rfl) (.int .i64 ta) (fun w hb2 => (by have c := (B0.keep hb2).cell 12; go_simp; try rfl)) ?_
    try simp only [pna, pnb, pnc, pnd, pne]
    (first | (refine qN ?_) | (refine qP ?_ ?_ ?_; rotate_left; focus (intro w; go_simp; try with_reducible rfl)))
    try simp only [pna, pnb, pnc, pnd, pne]
    (refine qP ?_ ?_ ?_; rotate_left; focus (intro w; go_simp; try with_reducible rfl))
    try simp only [pna, pnb, pnc, pnd, pne]
    (refine qP ?_ ?_ ?_; rotate_left; focus (intro w; go_simp; try with_reducible rfl))
    try simp only [pna, pnb, pnc, pnd, pne]
    (first | (refine qN ?_) | (refine qP ?_ ?_ ?_; rotate_left; focus (intro w; go_simp; try with_reducible rfl)))
    try simp only [pna, pnb, pnc, pnd, pne]
    refine wpQ_load (by rfl) (ms) (fun w hb2 => (by have c := (B0.keep hb2).cell 11; go_simp; try rfl)) ?_
    try simp only [pna, pnb, pnc, pnd, pne]
    refine wpQ_call (by rfl) _ _ (.int .i64 0) (fun w' hb => (q2 w' (hb0.trans (hb.mono hb0.size))).mono fun _ _ ⟨he, h4⟩ => ⟨he, hb.trans (h4.mono hb.size)⟩) (by intro w; go_simp; try rfl) ?_
    try simp only [pna, pnb, pnc, pnd, pne]
    (first | (refine qN ?_) | (refine qP ?_ ?_ ?_; rotate_left; focus (intro w; go_simp; try with_reducible rfl)))
    try simp only [pna, pnb, pnc, pnd, pne]
    (refine qP ?_ ?_ ?_; rotate_left; focus (intro w; go_simp; try with_reducible rfl))
    try simp only [pna, pnb, pnc, pnd, pne]
    (refine qP ?_ ?_ ?_; rotate_left; focus (intro w; go_simp; try with_reducible rfl))
    try simp only [pna, pnb, pnc, pnd, pne]
    (first | (refine qN ?_) | (refine qP ?_ ?_ ?_; rotate_left; focus (intro w; go_simp; try with_reducible rfl)))
    try simp only [pna, pnb, pnc, pnd, pne]
    refine wpQ_load (by rfl) (ms) (fun w hb2 => (by have c := (B0.keep hb2).cell 11; go_simp; try rfl)) ?_
    try simp only [pna, pnb, pnc, pnd, pne]
    refine wpQ_call (by rfl) _ _ (.string ⟨List.toArray D⟩) (fun w' hb => (q3 w' (hb0.trans (hb.mono hb0.size))).mono fun _ _ ⟨he, h4⟩ => ⟨he, hb.trans (h4.mono hb.size)⟩) (by intro w; go_simp; try rfl) ?_
    try simp only [pna, pnb, pnc, pnd, pne]
    (first | (refine qN ?_) | (refine qP ?_ ?_ ?_; rotate_left; focus (intro w; go_simp; try with_reducible rfl)))
    try simp only [pna, pnb, pnc, pnd, pne]
    (first | (refine qN ?_) | (refine qP ?_ ?_ ?_; rotate_left; focus (intro w; go_simp; try with_reducible rfl)))
    try simp only [pna, pnb, pnc, pnd, pne]
    refine wpQ_load (by rfl) (.string ⟨List.toArray ne⟩) (fun w hb2 => (by have c := (B0.keep hb2).cell 9; go_simp; try rfl)) ?_
    try simp only [pna, pnb, pnc, pnd, pne]
    (first | (refine qN ?_) | (refine qP ?_ ?_ ?_; rotate_left; focus (intro w; go_simp; try with_reducible rfl)))
    try simp only [pna, pnb, pnc, pnd, pne]
    (refine qP ?_ ?_ ?_; rotate_left; focus (intro w; go_simp; try with_reducible rfl))
    try simp only [pna, pnb, pnc, pnd, pne]
    (refine qP ?_ ?_ ?_; rotate_left; focus (intro w; go_simp; try with_reducible rfl))
    try simp only [pna, pnb, pnc, pnd, pne]
    intro wq hS
    go_wp2_with fail
    go_ret
    exact ⟨by rw [← HR.out, HF.out, HD.out, HD2.out, HC.out, HE.out]; rfl, hb0.trans (hS.mono hb0.size)⟩
end Go.Proofs.YthgjdaomcpinaaaGreatDoor
namespace Go.Proofs.YthgjdaomcpinaaaGreatDoor
open Go.RowKit Go.Shelf Pl
theorem rtwrit_any (a1 a2 a3 : Int) (lb : Bool) (pa st rc tx me ne : Bs) (K : List Bs) (ka : Option Addr) (kc : Nat) (L : List (Bs × Int)) (ma : Option Addr) (mc : Nat) (ta : Int) (w : World) (hk : SS w (.slice ka K.length kc) K) (hl : MS w (.slice ma L.length mc) L) (hf : fineT ⟨⟨a1, a2, a3, lb, pa, st, rc, tx, me, ne, K⟩, L, ta⟩ = true) :
  Calls Tryz.prog 52 #[.agg #[.int .i64 a1, .int .i64 a2, .int .i64 a3, .bool lb, .string ⟨List.toArray pa⟩, .string ⟨List.toArray st⟩, .string ⟨List.toArray rc⟩, .string ⟨List.toArray tx⟩, .string ⟨List.toArray me⟩, .string ⟨List.toArray ne⟩, .slice ka K.length kc, .slice ma L.length mc, .int .i64 ta]] w fun e w' => e = .returned (.string ⟨List.toArray (writT ⟨⟨a1, a2, a3, lb, pa, st, rc, tx, me, ne, K⟩, L, ta⟩)⟩) ∧ Below w.heap.size w w' := by
 have hb0 : Below w.heap.size w (w.alloc (.cells #[.int .i64 a1, .int .i64 a2, .int .i64 a3, .bool lb, .string ⟨List.toArray pa⟩, .string ⟨List.toArray st⟩, .string ⟨List.toArray rc⟩, .string ⟨List.toArray tx⟩, .string ⟨List.toArray me⟩, .string ⟨List.toArray ne⟩, .slice ka K.length kc, .slice ma L.length mc, .int .i64 ta] 27)) := Below.allocS (Below.refl _ _) _
 have B0 : Blk (w.alloc (.cells #[.int .i64 a1, .int .i64 a2, .int .i64 a3, .bool lb, .string ⟨List.toArray pa⟩, .string ⟨List.toArray st⟩, .string ⟨List.toArray rc⟩, .string ⟨List.toArray tx⟩, .string ⟨List.toArray me⟩, .string ⟨List.toArray ne⟩, .slice ka K.length kc, .slice ma L.length mc, .int .i64 ta] 27)) w.heap.size #[.int .i64 a1, .int .i64 a2, .int .i64 a3, .bool lb, .string ⟨List.toArray pa⟩, .string ⟨List.toArray st⟩, .string ⟨List.toArray rc⟩, .string ⟨List.toArray tx⟩, .string ⟨List.toArray me⟩, .string ⟨List.toArray ne⟩, .slice ka K.length kc, .slice ma L.length mc, .int .i64 ta] := Blk.new _ _ _
 obtain ⟨f1, f2, f3, _⟩ := fineT_parts hf
 simp only at f1 f2 f3
 obtain ⟨n, rfl⟩ : ∃ n : Nat, ta = n := ⟨ta.toNat, by omega⟩
 have hw : writT ⟨⟨a1, a2, a3, lb, pa, st, rc, tx, me, ne, K⟩, L, (n : Int)⟩ = text (writH ⟨a1, a2, a3, lb, pa, st, rc, tx, me, ne, K⟩) ++ (text (encM L) ++ num n) := by
  unfold writT
  simp only [Int.toNat_natCast, List.append_assoc]
 have l1 := writH_len f1
 have l2 := encM_len L f3
 have l3 := num_len n
 have q1 := rmencode_any _ L _ (hl.keep hb0)
 rw [show encMR L = (encM L, 0) from by unfold encMR; rw [f3]; rfl] at q1
 have q2 := fun (X : World) (hX : Below w.heap.size w X) => callW (W := X) (fun W hb => rhwrit_any a1 a2 a3 lb pa st rc tx me ne K _ W (hk.keep (hX.trans (hb.mono hX.size))) f1)
 have HW := Lib.hid hw
 clear hf hw f1 f3
 generalize writT ⟨⟨a1, a2, a3, lb, pa, st, rc, tx, me, ne, K⟩, L, (n : Int)⟩ = R at *
 generalize writH ⟨a1, a2, a3, lb, pa, st, rc, tx, me, ne, K⟩ = H at *
 generalize encM L = M at *
 have q3 := fun (X : World) => callB (W := X) (fun W => rText_any H (by omega) W)
 have q4 := fun (X : World) => callB (W := X) (fun W => rText_any M (by omega) W)
 have q5 := fun (X : World) => callB (W := X) (fun W => rNumber_any n (by omega) W)
 have l4 := text_len H
 have l5 := text_len M
 generalize text H = TH at *
 generalize text M = TM at *
 generalize num n = NN at *
 have k1 : ¬ 9223372036854775807 < TH.length + TM.length := by omega
 have k2 : ¬ 9223372036854775807 < TH.length + TM.length + NN.length := by omega
 obtain ⟨b1, b2, b3⟩ := id B0
 go_enter Tryz.func52, Tryz.ntmps52
 go_wp2_with fail
 refine q1.mono ?_
 rintro e w1 ⟨rfl, hb⟩
 have hb1 := hb0.trans (hb.mono hb0.size)
 have B1 := B0.keep hb
 clear b1 b2 b3 q1 hb hb0 B0
 go_wp2_with fail
 refine wp_held rfl (by kernel_rfl) ?_
 (refine qP ?_ ?_ ?_; rotate_left; focus (intro w; go_simp; try with_reducible rfl))
 try simp only [pna, pnb, pnc, pnd, pne]
 refine wpQ_load (by rfl) (.agg #[.int .i64 a1, .int .i64 a2, .int .i64 a3, .bool lb, .string ⟨List.toArray pa⟩, .string ⟨List.toArray st⟩, .string ⟨List.toArray rc⟩, .string ⟨List.toArray tx⟩, .string ⟨List.toArray me⟩, .string ⟨List.toArray ne⟩, .slice ka K.length kc]) (fun w hb2 => (by obtain ⟨k1, k2, k3⟩ := id (B1.keep hb2); go_simp; try rfl)) ?_
 try simp only [pna, pnb, pnc, pnd, pne]
 refine wpQ_call (by rfl) _ _ (.string ⟨List.toArray H⟩) (q2 _ hb1) (by intro w; go_simp; try rfl) ?_
 try simp only [pna, pnb, pnc, pnd, pne]
 refine wpQ_call (by rfl) _ _ (.string ⟨List.toArray TH⟩) (q3 _) (by intro w; go_simp; try rfl) ?_
 try simp only [pna, pnb, pnc, pnd, pne]
 (refine qP ?_ ?_ ?_; rotate_left; focus (intro w; go_simp; try with_reducible rfl))
 try simp only [pna, pnb, pnc, pnd, pne]
 refine wpQ_call (by rfl) _ _ (.string ⟨List.toArray TM⟩) (q4 _) (by intro w; go_simp; try rfl) ?_
 try simp only [pna, pnb, pnc, pnd, pne]
 (refine qP ?_ ?_ ?_; rotate_left; focus (intro w; go_simp; try with_reducible rfl))
 try simp only [pna, pnb, pnc, pnd, pne]
 (refine qP ?_ ?_ ?_; rotate_left; focus (intro w; go_simp; try with_reducible rfl))
 try simp only [pna, pnb, pnc, pnd, pne]
 refine wpQ_load (by rfl) (.int .i64 ((n : Nat))) (fun w hb2 => (by have c := (B1.keep hb2).cell 12; go_simp; try rfl)) ?_
 try simp only [pna, pnb, pnc, pnd, pne]
 refine wpQ_call (by rfl) _ _ (.string ⟨List.toArray NN⟩) (q5 _) (by intro w; go_simp; try rfl) ?_
 try simp only [pna, pnb, pnc, pnd, pne]
 (refine qP ?_ ?_ ?_; rotate_left; focus (intro w; go_simp; try with_reducible rfl))
 try simp only [pna, pnb, pnc, pnd, pne]
 (refine qP ?_ ?_ ?_; rotate_left; focus (intro w; go_simp; try with_reducible rfl))
 try simp only [pna, pnb, pnc, pnd, pne]
 intro w2 hS
 go_wp2_with fail
 go_ret
 exact ⟨by rw [HW.out]; rfl, hb1.trans (hS.mono hb1.size)⟩
end Go.Proofs.YthgjdaomcpinaaaGreatDoor
namespace Go.Proofs.YthgjdaomcpinaaaGreatDoor
open Go.RowKit Go.WideMaps Go.Maps Go.Sort Go.Shelf Pl
theorem sameTr_self (t : Tr) : sameTr t t = true := by simp [sameTr, sameHd, sameL]
theorem row_loadVarAt {P : Program} {T : TypeId} {n : Nat} (hT : RowT P T n) (w : World) {b off : Nat} {vs : List Value} (hl : vs.length = n) (hR : w.rangeAt b off vs) : (loadVar T ⟨b, off, none⟩).run P w = .ok (.agg vs.toArray) w := by
 obtain ⟨⟨d, h1, h2⟩, h3⟩ := hT
 exact run_loadVar_mid w b off T vs d hR h1 h2 (by rw [hl]; exact h3)
theorem exec_rowAt {P : Program} {T : TypeId} {n : Nat} (hT : RowT P T n) {o : Oper} {a : Act} {w : World} (x : Operand) (ho : o.op = .load T x) {b off : Nat} (hx : a.eval x = .pointer (some ⟨b, off, none⟩)) {vs : List Value} (hl : vs.length = n) (hR : w.rangeAt b off vs) : (execOp a.eval o).run P w = .ok (.value (.agg vs.toArray)) w := by
 unfold execOp
 simp only [ho, hx, Instr.loadAt, Instr.sureAddr, Sem.run_bind, Sem.run_pure, Result.andThen_ok, row_loadVarAt hT w hl hR]
end Go.Proofs.YthgjdaomcpinaaaGreatDoor
