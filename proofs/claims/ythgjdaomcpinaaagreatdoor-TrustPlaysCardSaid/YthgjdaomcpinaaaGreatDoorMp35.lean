/- RefH, RefHW. -/
import Derived.Test.YthgjdaomcpinaaaGreatDoorMp34
set_option linter.unnecessarySimpa false
set_option linter.unusedSimpArgs false
set_option linter.unusedVariables false
set_option maxRecDepth 100000
set_option maxHeartbeats 32000000
namespace Go.Proofs.YthgjdaomcpinaaaGreatDoor
open Go.RowKit Pl
theorem rlinks_any (h : Int) (w : World) :
  Calls Tryz.prog 114 #[.int .i64 h] w fun e w' => ∃ v, e = .returned v ∧ ZRow w' w.heap.size v (linksF h) ∧ Below w.heap.size w w' := by
 by_cases h1 : h < 1
 ·have d1 : decide (h < 1) = true := by simpa using h1
  rw [linksF_out (.inl h1)]
  clear h1
  go_enter Tryz.func114, Tryz.ntmps114
  go_wp2_with fail
  all_goals (go_ret; exact ⟨_, rfl, ZRow.nil _ _, Below.refl _ _⟩)
 ·have d1 : decide (h < 1) = false := by simpa using h1
  by_cases h2 : 1048576 < h
  ·have d2 : decide (1048576 < h) = true := by simpa using h2
   rw [linksF_out (.inr h2)]
   clear h1 h2
   go_enter Tryz.func114, Tryz.ntmps114
   go_wp2_with fail
   all_goals (go_ret; exact ⟨_, rfl, ZRow.nil _ _, Below.refl _ _⟩)
  ·have d2 : decide (1048576 < h) = false := by simpa using h2
   obtain ⟨n, rfl⟩ : ∃ n : Nat, h = n := ⟨h.toNat, by omega⟩
   rw [linksF_in (by omega) (by omega)]
   rw [show ((n : Int)).toNat = n from rfl]
   go_enter Tryz.func114, Tryz.ntmps114
   go_wp2_with fail
   go_loopw [3, 4] (fun s3 s4 wr => ∃ k : Nat, s4 = .int .i64 ((k + 1 : Nat)) ∧ k ≤ 20 ∧ ZRow wr w.heap.size s3 (linksTo n k) ∧ Below w.heap.size w wr) (fun _ s4 _ => 21 - (intOf s4).toNat)
   case atStart => exact ⟨0, rfl, by omega, ZRow.nil _ _, Below.refl _ _⟩
   case round =>
    obtain ⟨k, rfl, hk, hr, hb⟩ := hrel
    obtain ⟨va, vc, rfl⟩ := hr.form
    have hll := links_len n k
    by_cases hlt : k < 20
    ·have i1 : decide (((k + 1 : Nat) : Int) ≤ 20) = true := by simp; omega
     have HLY := Lib.hid (fun h => linksTo_yes (h := n) (k := k) h)
     have HLN := Lib.hid (fun h => linksTo_no (h := n) (k := k) h)
     generalize linksTo n k = L at *
     have hp20 : (2 : Nat) ^ (k + 1) ≤ 2 ^ 20 := Nat.pow_le_pow_right (by omega) (by omega)
     have hp0 := Nat.pow_pos (n := k + 1) (show 0 < 2 by omega)
     have hpc : ((2 : Int) ^ (k + 1)) = ((2 ^ (k + 1) : Nat) : Int) := by simp
     have hw1 : wrap64 ((2 : Int) ^ (k + 1)) = ((2 ^ (k + 1) : Nat) : Int) := by rw [hpc, ← IntWalk.i64_left, IntWalk.i64_in _ (by omega)]
     generalize (2 : Nat) ^ (k + 1) = s at *
     have hw2 : wrap64 ((n : Int) - (s : Int)) = (n : Int) - (s : Int) := by rw [← IntWalk.i64_left, IntWalk.i64_in _ (by omega)]
     have HLL := Lib.hid hll
     have HR := Lib.hid hr
     clear hll hr hpc
     have hmc : (n : Int) % (s : Int) = ((n % s : Nat) : Int) := by simp
     by_cases hm : n % s = 0
     ·have HL2 := Lib.hid (HLY.out hm)
      rw [hm] at hmc
      have e1 : ((n : Int) % (s : Int) == 0) = true := by rw [hmc]; rfl
      clear hm hmc HLY HLN
      go_wp2_with (at_builtin; refine wpList_appZ rfl (.tmp 21) (.tmp 27) rfl w.heap.size _ L rfl (HR.out.alloc _) _ 0 1 1 [(n : Int) - (s : Int)] rfl rfl (zsrc1 _ _ _) (by have := HLL.out; omega) (by have := hb.size; simp; omega) ?_; rintro v2 w2' hS2 hb2)
      have hb3 : Below w.heap.size w w2' := (Below.allocS hb _).trans hb2
      refine ⟨⟨k + 1, by go_num, by omega, by rw [HL2.out]; exact hS2, hb3⟩, by simp [intOf]; omega⟩
     ·have HL2 := Lib.hid (HLN.out hm)
      have e1 : ((n : Int) % (s : Int) == 0) = false := by rw [hmc, beq_eq_false_iff_ne]; omega
      clear hm hmc HLY HLN
      go_wp2_with fail
      refine ⟨⟨k + 1, by go_num, by omega, by rw [HL2.out]; exact HR.out, hb⟩, by simp [intOf]; omega⟩
    ·obtain rfl : k = 20 := by omega
     go_wp2_with fail
     all_goals (go_ret; exact ⟨_, rfl, hr, hb⟩)
theorem fineHR_p {h : Hd} (hf : fineHR h = true) : (0 ≤ h.height ∧ h.height ≤ 1048576) ∧ (0 ≤ h.epoch ∧ h.epoch ≤ 1048576) ∧ (0 ≤ h.view ∧ h.view ≤ 1048576) ∧ h.txs.length = 32 ∧ h.members.length = 32 ∧ h.next.length = 32 ∧ (h.state = [] ∨ h.state.length = 32) ∧ (h.receipts = [] ∨ h.receipts.length = 32) ∧ h.skips.length = (linksF h.height).length ∧ ∀ s ∈ h.skips, s.length = 32 := by
 unfold fineHR numsH inH endH may32 at hf
 simp only [Bool.and_eq_true, Bool.or_eq_true, decide_eq_true_eq, List.all_eq_true] at hf
 obtain ⟨⟨⟨⟨h1, h2⟩, h3⟩, h4⟩, h5⟩ := hf
 exact ⟨h1.1.1, h1.1.2, h1.2, h2.1.1.1.1, h2.1.1.1.2, h2.1.1.2, h2.1.2, h2.2, h3, h4⟩
theorem all32_snoc {L : List Bs} {x : Bs} (h : ∀ y ∈ L, y.length = 32) (hx : x.length = 32) : ∀ y ∈ L ++ [x], y.length = 32 := by
 intro y hy
 rcases List.mem_append.1 hy with hy | hy
 ·exact h y hy
 ·rw [List.mem_singleton] at hy
  rw [hy]
  exact hx
theorem fineHR_of {h : Hd} (h1 : 0 ≤ h.height ∧ h.height ≤ 1048576) (h2 : 0 ≤ h.epoch ∧ h.epoch ≤ 1048576) (h3 : 0 ≤ h.view ∧ h.view ≤ 1048576) (h4 : h.txs.length = 32) (h5 : h.members.length = 32) (h6 : h.next.length = 32) (h7 : h.state = [] ∨ h.state.length = 32) (h8 : h.receipts = [] ∨ h.receipts.length = 32) (h9 : h.skips.length = (linksF h.height).length) (h10 : ∀ s ∈ h.skips, s.length = 32) :
  fineHR h = (if h.height = 0 then decide (h.parent = []) && decide (h.epoch = 0) && decide (h.view = 0) && h.last else decide (h.parent.length = 32) && (h.last || decide (h.next = h.members))) := by
 have e1 : numsH h = true := by
  unfold numsH inH
  simp only [Bool.and_eq_true, decide_eq_true_eq]
  exact ⟨⟨h1, h2⟩, h3⟩
 have e2 : endH h = true := by
  unfold endH may32
  simp only [Bool.and_eq_true, Bool.or_eq_true, decide_eq_true_eq]
  exact ⟨⟨⟨⟨h4, h5⟩, h6⟩, h7⟩, h8⟩
 have e3 : h.skips.all (fun s => decide (s.length = 32)) = true := by
  rw [List.all_eq_true]
  intro s hs
  simpa using h10 s hs
 unfold fineHR
 rw [e1, e2, e3, h9]
 simp
theorem rhfine_any (a1 a2 a3 : Int) (lb : Bool) (pa st rc tx me ne : Bs) (K : List Bs) (sk : Value) (w : World) (hk : SS w sk K) :
  Calls Tryz.prog 99 #[.agg #[.int .i64 a1, .int .i64 a2, .int .i64 a3, .bool lb, .string ⟨List.toArray pa⟩, .string ⟨List.toArray st⟩, .string ⟨List.toArray rc⟩, .string ⟨List.toArray tx⟩, .string ⟨List.toArray me⟩, .string ⟨List.toArray ne⟩, sk]] w fun e w' => e = .returned (.bool (fineHR ⟨a1, a2, a3, lb, pa, st, rc, tx, me, ne, K⟩)) ∧ Below w.heap.size w w' := by
 have hb0 : Below w.heap.size w (w.alloc (.cells #[.int .i64 a1, .int .i64 a2, .int .i64 a3, .bool lb, .string ⟨List.toArray pa⟩, .string ⟨List.toArray st⟩, .string ⟨List.toArray rc⟩, .string ⟨List.toArray tx⟩, .string ⟨List.toArray me⟩, .string ⟨List.toArray ne⟩, sk] 24)) := Below.allocS (Below.refl _ _) _
 have B0 : Blk (w.alloc (.cells #[.int .i64 a1, .int .i64 a2, .int .i64 a3, .bool lb, .string ⟨List.toArray pa⟩, .string ⟨List.toArray st⟩, .string ⟨List.toArray rc⟩, .string ⟨List.toArray tx⟩, .string ⟨List.toArray me⟩, .string ⟨List.toArray ne⟩, sk] 24)) w.heap.size #[.int .i64 a1, .int .i64 a2, .int .i64 a3, .bool lb, .string ⟨List.toArray pa⟩, .string ⟨List.toArray st⟩, .string ⟨List.toArray rc⟩, .string ⟨List.toArray tx⟩, .string ⟨List.toArray me⟩, .string ⟨List.toArray ne⟩, sk] := Blk.new _ _ _
 obtain ⟨ka, kc, rfl⟩ := hk.form
 have hsm := hk.small
 have HK := Lib.hid hk
 have HP := Lib.hid (fun hf => fineHR_p (h := ⟨a1, a2, a3, lb, pa, st, rc, tx, me, ne, K⟩) hf)
 have HO := Lib.hid (fun h1 h2 h3 h4 h5 h6 h7 h8 h9 h10 => fineHR_of (h := ⟨a1, a2, a3, lb, pa, st, rc, tx, me, ne, K⟩) h1 h2 h3 h4 h5 h6 h7 h8 h9 h10)
 have q1 := fun W => rlinks_any a1 W
 generalize fineHR ⟨a1, a2, a3, lb, pa, st, rc, tx, me, ne, K⟩ = R at *
 obtain ⟨b1, b2, b3⟩ := id B0
 clear hk
 by_cases c1 : a1 < 0
 ·have d1 : decide (a1 < 0) = true := by simpa using c1
  have HR : Hid (R = false) := Lib.hid (Bool.eq_false_iff.2 (fun hf => by have p := HP.out hf; simp only at p; omega))
  clear HP HO
  go_enter Tryz.func99, Tryz.ntmps99
  go_wp2_with fail
  all_goals (go_ret; rw [HR.out]; exact ⟨rfl, hb0⟩)
 have d1 : decide (a1 < 0) = false := by simpa using c1
 by_cases c2 : 1048576 < a1
 ·have d2 : decide (1048576 < a1) = true := by simpa using c2
  have HR : Hid (R = false) := Lib.hid (Bool.eq_false_iff.2 (fun hf => by have p := HP.out hf; simp only at p; omega))
  clear HP HO
  go_enter Tryz.func99, Tryz.ntmps99
  go_wp2_with fail
  all_goals (go_ret; rw [HR.out]; exact ⟨rfl, hb0⟩)
 have d2 : decide (1048576 < a1) = false := by simpa using c2
 by_cases c3 : a2 < 0
 ·have d3 : decide (a2 < 0) = true := by simpa using c3
  have HR : Hid (R = false) := Lib.hid (Bool.eq_false_iff.2 (fun hf => by have p := HP.out hf; simp only at p; omega))
  clear HP HO
  go_enter Tryz.func99, Tryz.ntmps99
  go_wp2_with fail
  all_goals (go_ret; rw [HR.out]; exact ⟨rfl, hb0⟩)
 have d3 : decide (a2 < 0) = false := by simpa using c3
 by_cases c4 : 1048576 < a2
 ·have d4 : decide (1048576 < a2) = true := by simpa using c4
  have HR : Hid (R = false) := Lib.hid (Bool.eq_false_iff.2 (fun hf => by have p := HP.out hf; simp only at p; omega))
  clear HP HO
  go_enter Tryz.func99, Tryz.ntmps99
  go_wp2_with fail
  all_goals (go_ret; rw [HR.out]; exact ⟨rfl, hb0⟩)
 have d4 : decide (1048576 < a2) = false := by simpa using c4
 by_cases c5 : a3 < 0
 ·have d5 : decide (a3 < 0) = true := by simpa using c5
  have HR : Hid (R = false) := Lib.hid (Bool.eq_false_iff.2 (fun hf => by have p := HP.out hf; simp only at p; omega))
  clear HP HO
  go_enter Tryz.func99, Tryz.ntmps99
  go_wp2_with fail
  all_goals (go_ret; rw [HR.out]; exact ⟨rfl, hb0⟩)
 have d5 : decide (a3 < 0) = false := by simpa using c5
 by_cases c6 : 1048576 < a3
 ·have d6 : decide (1048576 < a3) = true := by simpa using c6
  have HR : Hid (R = false) := Lib.hid (Bool.eq_false_iff.2 (fun hf => by have p := HP.out hf; simp only at p; omega))
  clear HP HO
  go_enter Tryz.func99, Tryz.ntmps99
  go_wp2_with fail
  all_goals (go_ret; rw [HR.out]; exact ⟨rfl, hb0⟩)
 have d6 : decide (1048576 < a3) = false := by simpa using c6
 by_cases c7 : tx.length = 32
 rotate_left
 ·have d7 : ((tx.length : Int) != 32) = true := by simp; omega
  have f7 : decide ((tx.length : Int) = 32) = false := by simp; omega
  have HR : Hid (R = false) := Lib.hid (Bool.eq_false_iff.2 (fun hf => by have p := HP.out hf; simp only at p; omega))
  clear HP HO
  go_enter Tryz.func99, Tryz.ntmps99
  go_wp2_with fail
  all_goals (go_ret; rw [HR.out]; exact ⟨rfl, hb0⟩)
 have d7 : ((tx.length : Int) != 32) = false := by simp; omega
 have f7 : decide ((tx.length : Int) = 32) = true := by simp; omega
 by_cases c8 : me.length = 32
 rotate_left
 ·have d8 : ((me.length : Int) != 32) = true := by simp; omega
  have f8 : decide ((me.length : Int) = 32) = false := by simp; omega
  have HR : Hid (R = false) := Lib.hid (Bool.eq_false_iff.2 (fun hf => by have p := HP.out hf; simp only at p; omega))
  clear HP HO
  go_enter Tryz.func99, Tryz.ntmps99
  go_wp2_with fail
  all_goals (go_ret; rw [HR.out]; exact ⟨rfl, hb0⟩)
 have d8 : ((me.length : Int) != 32) = false := by simp; omega
 have f8 : decide ((me.length : Int) = 32) = true := by simp; omega
 by_cases c9 : ne.length = 32
 rotate_left
 ·have d9 : ((ne.length : Int) != 32) = true := by simp; omega
  have f9 : decide ((ne.length : Int) = 32) = false := by simp; omega
  have HR : Hid (R = false) := Lib.hid (Bool.eq_false_iff.2 (fun hf => by have p := HP.out hf; simp only at p; omega))
  clear HP HO
  go_enter Tryz.func99, Tryz.ntmps99
  go_wp2_with fail
  all_goals (go_ret; rw [HR.out]; exact ⟨rfl, hb0⟩)
 have d9 : ((ne.length : Int) != 32) = false := by simp; omega
 have f9 : decide ((ne.length : Int) = 32) = true := by simp; omega
 by_cases c10 : st = [] ∨ st.length = 32
 rotate_left
 ·have d10 : ((st.length : Int) != 32) = true := by simp; intro h; exact c10 (.inr (by omega))
  have f10 : (st != []) = true := by simp; intro h; exact c10 (.inl h)
  have g10 : st.isEmpty = false := by simp; intro h; exact c10 (.inl h)
  have k10 : (st == []) = false := by simp; intro h; exact c10 (.inl h)
  have HR : Hid (R = false) := Lib.hid (Bool.eq_false_iff.2 (fun hf => by have p := HP.out hf; simp only at p; exact c10 p.2.2.2.2.2.2.1))
  clear HP HO
  go_enter Tryz.func99, Tryz.ntmps99
  go_wp2_with fail
  all_goals (go_ret; rw [HR.out]; exact ⟨rfl, hb0⟩)
 by_cases c11 : rc = [] ∨ rc.length = 32
 rotate_left
 ·have d11 : ((rc.length : Int) != 32) = true := by simp; intro h; exact c11 (.inr (by omega))
  have f11 : (rc != []) = true := by simp; intro h; exact c11 (.inl h)
  have g11 : rc.isEmpty = false := by simp; intro h; exact c11 (.inl h)
  have k11 : (rc == []) = false := by simp; intro h; exact c11 (.inl h)
  rcases c10 with rfl | c10
  ·have g0 := 0
   have HR : Hid (R = false) := Lib.hid (Bool.eq_false_iff.2 (fun hf => by have p := HP.out hf; simp only at p; exact c11 p.2.2.2.2.2.2.2.1))
   clear HP HO
   go_enter Tryz.func99, Tryz.ntmps99
   go_wp2_with fail
   all_goals (go_ret; rw [HR.out]; exact ⟨rfl, hb0⟩)
  ·have z1 : ((st.length : Int) != 32) = false := by simp; omega
   have z2 : (st != []) = true := by simp; intro h; rw [h] at c10; simp at c10
   have z3 : st.isEmpty = false := by simp; intro h; rw [h] at c10; simp at c10
   have z4 : (st == []) = false := by simp; intro h; rw [h] at c10; simp at c10
   have HR : Hid (R = false) := Lib.hid (Bool.eq_false_iff.2 (fun hf => by have p := HP.out hf; simp only at p; exact c11 p.2.2.2.2.2.2.2.1))
   clear HP HO
   go_enter Tryz.func99, Tryz.ntmps99
   go_wp2_with fail
   all_goals (go_ret; rw [HR.out]; exact ⟨rfl, hb0⟩)
 have hst : st = [] ∨ (st.length = 32 ∧ (st != []) = true ∧ (st == []) = false ∧ st.isEmpty = false ∧ ((st.length : Int) != 32) = false) := by
  rcases c10 with h | h
  ·exact .inl h
  ·exact .inr ⟨h, by simp; intro e; rw [e] at h; simp at h, by simp; intro e; rw [e] at h; simp at h, by simp; intro e; rw [e] at h; simp at h, by simp; omega⟩
 have hrc : rc = [] ∨ (rc.length = 32 ∧ (rc != []) = true ∧ (rc == []) = false ∧ rc.isEmpty = false ∧ ((rc.length : Int) != 32) = false) := by
  rcases c11 with h | h
  ·exact .inl h
  ·exact .inr ⟨h, by simp; intro e; rw [e] at h; simp at h, by simp; intro e; rw [e] at h; simp at h, by simp; intro e; rw [e] at h; simp at h, by simp; omega⟩
 have HL0 := Lib.hid (fun h9 h10 => HO.out ⟨show 0 ≤ a1 by omega, show a1 ≤ 1048576 by omega⟩ ⟨show 0 ≤ a2 by omega, show a2 ≤ 1048576 by omega⟩ ⟨show 0 ≤ a3 by omega, show a3 ≤ 1048576 by omega⟩ c7 c8 c9 c10 c11 h9 h10)
 simp only at HL0
 clear HO c10 c11 c7 c8 c9
 rcases hst with rfl | ⟨s1, s2, s3, s4, s5⟩ <;> rcases hrc with rfl | ⟨r1, r2, r3, r4, r5⟩
 all_goals
  go_enter Tryz.func99, Tryz.ntmps99
  go_wp2_with fail
  refine wpH_start (by kernel_rfl) (fun hS => ?_)
  (refine hP 0 ?_ ⟨some 70, .fieldAddr 24 (.tmp 1) 10, 0, "", #[], none⟩ hS ?_ ?_; rotate_left; focus (intro w; go_simp; try with_reducible rfl))
  try simp only [pna, pnb, pnc, pnd, pne]
  refine wpH_load 1 (.slice ka K.length kc) (oi := { dst := some 71, op := Op.load 22 (Operand.tmp 70), type := 22, pos := "ref.go:27", after := #[{ on := 0, ground := Ground.data }], guard := none }) rfl (by kernel_rfl) (by kernel_rfl) (by kernel_rfl) (by rfl) hS (fun _ _ _ h => h) (fun w hb2 => (by have c := (B0.keep hb2).cell 10; go_simp; try rfl)) ?_
  try simp only [pna, pnb, pnc, pnd, pne]
  (refine hP 2 ?_ ⟨some 72, .call { callee := .builtin .len, args := #[.tmp 71], argTypes := #[22] }, 3, "", #[], none⟩ hS ?_ ?_; rotate_left; focus (intro w; go_simp; try with_reducible rfl))
  try simp only [pna, pnb, pnc, pnd, pne]
  (refine hP 3 ?_ ⟨some 73, .fieldAddr 24 (.tmp 1) 0, 0, "", #[], none⟩ hS ?_ ?_; rotate_left; focus (intro w; go_simp; try with_reducible rfl))
  try simp only [pna, pnb, pnc, pnd, pne]
  refine wpH_load 4 (.int .i64 a1) (oi := { dst := some 74, op := Op.load 3 (Operand.tmp 73), type := 3, pos := "ref.go:27", after := #[{ on := 3, ground := Ground.data }], guard := none }) rfl (by kernel_rfl) (by kernel_rfl) (by kernel_rfl) (by rfl) hS (fun _ _ _ h => h) (fun w hb2 => (by have c := (B0.keep hb2).cell 0; go_simp; try rfl)) ?_
  try simp only [pna, pnb, pnc, pnd, pne]
  refine wpH_call 5 (oi := { dst := some 75, op := Op.call { callee := Callee.value (Operand.func 114), args := #[Operand.tmp 74], argTypes := #[3] }, type := 51, pos := "ref.go:27", after := #[{ on := 4, ground := Ground.data }], guard := none }) rfl (by kernel_rfl) (by rfl) (q1 _) ?_ ?_
  ·(go_simp; try rfl)
  rintro e w' ⟨zv, rfl, hz, hbx⟩
  refine ⟨_, rfl, hS.trans (hbx.mono hS.size), ?_⟩
  replace hS := hS.trans (hbx.mono hS.size)
  obtain ⟨za, zc, rfl⟩ := hz.form
  try simp only [pna, pnb, pnc, pnd, pne]
  (refine hP 6 ?_ ⟨some 76, .call { callee := .builtin .len, args := #[.tmp 75], argTypes := #[51] }, 3, "", #[], none⟩ hS ?_ ?_; rotate_left; focus (intro w; go_simp; try with_reducible rfl))
  try simp only [pna, pnb, pnc, pnd, pne]
  (refine hP 7 ?_ ⟨some 77, .binOp .neq 3 (.tmp 72) (.tmp 76) 3, 4, "", #[], none⟩ hS ?_ ?_; rotate_left; focus (intro w; go_simp; try with_reducible rfl))
  try simp only [pna, pnb, pnc, pnd, pne]
  refine wpAnyH_done (by kernel_rfl) ?_ _
  have hb2 := hb0.trans (hS.mono hb0.size)
  have B2 := B0.keep hS
  clear hS b1 b2 b3 hz q1
  obtain ⟨b1, b2, b3⟩ := id B2
  by_cases hlen : K.length = (linksF a1).length
  ·have hl2 : ((K.length : Int) != ((linksF a1).length : Int)) = false := by simp; omega
   have HLEN := Lib.hid hlen
   clear hlen
   go_wp2_with fail
   go_loopw [3] (fun s3 wr => ∃ i : Nat, s3 = .int .i64 i ∧ i ≤ K.length ∧ Hid (∀ x ∈ K.take i, x.length = 32) ∧ Blk wr w.heap.size _ ∧ Below w.heap.size w wr) (fun s3 _ => K.length - (intOf s3).toNat)
   case atStart => exact ⟨0, rfl, Nat.zero_le _, Lib.hid (by simp), B2, hb2⟩
   case round =>
    obtain ⟨i, rfl, hi, HA, Br, hbr⟩ := hrel
    clear B2 hb2 b1 b2 b3
    obtain ⟨b1, b2, b3⟩ := id Br
    by_cases hlt : i < K.length
    ·have i0 : 0 ≤ (i : Int) ∧ (i : Int) < (K.length : Int) := by omega
     obtain ⟨g, off, e1, hg, x1⟩ := (HK.out.keep hbr).at' i hlt
     subst e1
     have HTK := Lib.hid (takeS K i hlt)
     have hmem : K.getD i [] ∈ K := by rw [List.getD_eq_getElem?_getD, List.getElem?_eq_getElem hlt]; exact List.getElem_mem _
     have HMEM := Lib.hid hmem
     clear hmem
     generalize K.getD i [] = x at *
     by_cases hx : x.length = 32
     ·have hx2 : ((x.length : Int) != 32) = false := by simp; omega
      go_wp2_with fail
      refine ⟨⟨i + 1, by go_num, by omega, Lib.hid (by rw [HTK.out]; exact all32_snoc HA.out hx), Br, hbr⟩, by simp [intOf]; omega⟩
     ·have hx2 : ((x.length : Int) != 32) = true := by simp; omega
      have HR : Hid (R = false) := Lib.hid (Bool.eq_false_iff.2 (fun hf => by have p := HP.out hf; exact hx (p.2.2.2.2.2.2.2.2.2 x HMEM.out)))
      clear HP HL0
      go_wp2_with fail
      all_goals (go_ret; rw [HR.out]; exact ⟨rfl, hbr⟩)
    ·obtain rfl : i = K.length := by omega
     have hfin := HL0.out HLEN.out (by have := HA.out; rw [List.take_length] at this; exact this)
     clear HP HL0 HA hlt
     by_cases h0 : a1 = 0
     ·rw [if_pos h0] at hfin
      have z0 : (a1 == 0) = true := by simpa using h0
      by_cases h1 : pa = []
      ·subst h1
       by_cases h2 : a2 = 0
       ·have z1 : (a2 == 0) = true := by simpa using h2
        by_cases h3 : a3 = 0
        ·have z2 : (a3 == 0) = true := by simpa using h3
         have HF : Hid (R = lb) := Lib.hid (by rw [hfin, h2, h3]; simp)
         clear hfin
         go_wp2_with fail
         all_goals (go_ret; rw [HF.out]; exact ⟨rfl, hbr⟩)
        ·have z2 : (a3 == 0) = false := by simpa using h3
         have HF : Hid (R = false) := Lib.hid (by rw [hfin, h2]; simp [h3])
         clear hfin
         go_wp2_with fail
         all_goals (go_ret; rw [HF.out]; exact ⟨rfl, hbr⟩)
       ·have z1 : (a2 == 0) = false := by simpa using h2
        have HF : Hid (R = false) := Lib.hid (by rw [hfin]; simp [h2])
        clear hfin
        go_wp2_with fail
        all_goals (go_ret; rw [HF.out]; exact ⟨rfl, hbr⟩)
      ·have z1 : (pa == []) = false := by simpa using h1
       have z2 : pa.isEmpty = false := by simpa using h1
       have HF : Hid (R = false) := Lib.hid (by rw [hfin]; simp [h1])
       clear hfin
       go_wp2_with fail
       all_goals (go_ret; rw [HF.out]; exact ⟨rfl, hbr⟩)
     ·rw [if_neg h0] at hfin
      have z0 : (a1 == 0) = false := by simpa using h0
      by_cases h1 : pa.length = 32
      ·have z1 : ((pa.length : Int) == 32) = true := by simp; omega
       cases lb
       ·have HF : Hid (R = decide (ne = me)) := Lib.hid (by rw [hfin]; simp [h1])
        clear hfin
        by_cases h2 : ne = me
        ·have z2 : (ne == me) = true := by simpa using h2
         have z3 : decide (ne = me) = true := by simpa using h2
         rw [z3] at HF
         clear h2
         go_wp2_with fail
         all_goals (go_ret; rw [HF.out]; exact ⟨rfl, hbr⟩)
        ·have z2 : (ne == me) = false := by simpa using h2
         have z3 : decide (ne = me) = false := by simpa using h2
         rw [z3] at HF
         clear h2
         go_wp2_with fail
         all_goals (go_ret; rw [HF.out]; exact ⟨rfl, hbr⟩)
       ·have HF : Hid (R = true) := Lib.hid (by rw [hfin]; simp [h1])
        clear hfin
        go_wp2_with fail
        all_goals (go_ret; rw [HF.out]; exact ⟨rfl, hbr⟩)
      ·have z1 : ((pa.length : Int) == 32) = false := by simp; omega
       have HF : Hid (R = false) := Lib.hid (by rw [hfin]; simp [h1])
       clear hfin
       go_wp2_with fail
       all_goals (go_ret; rw [HF.out]; exact ⟨rfl, hbr⟩)
  ·have hl2 : ((K.length : Int) != ((linksF a1).length : Int)) = true := by simp; omega
   have HR : Hid (R = false) := Lib.hid (Bool.eq_false_iff.2 (fun hf => by have p := HP.out hf; exact hlen p.2.2.2.2.2.2.2.2.1))
   clear HP HL0 hlen
   go_wp2_with fail
   all_goals (go_ret; rw [HR.out]; exact ⟨rfl, hb2⟩)
end Go.Proofs.YthgjdaomcpinaaaGreatDoor
namespace Go.Proofs.YthgjdaomcpinaaaGreatDoor
open Go.RowKit Pl
theorem flat_le (K : List Bs) (h : ∀ x ∈ K, x.length = 32) : K.flatten.length = 32 * K.length := by
 induction K with
 | nil => rfl
 | cons x r ih =>
  rw [List.flatten_cons, List.length_append, ih (fun y hy => h y (List.mem_cons_of_mem _ hy)), h x (List.mem_cons_self ..), List.length_cons]
  omega
theorem flat_take2 (K : List Bs) (i : Nat) (hi : i < K.length) : (K.take (i + 1)).flatten = (K.take i).flatten ++ K.getD i [] := by
 rw [List.take_add_one, List.getElem?_eq_getElem hi, List.getD_eq_getElem?_getD, List.getElem?_eq_getElem hi, List.flatten_append]
 simp
theorem rhwrit_any (a1 a2 a3 : Int) (lb : Bool) (pa st rc tx me ne : Bs) (K : List Bs) (sk : Value) (w : World) (hk : SS w sk K) (hf : fineH ⟨a1, a2, a3, lb, pa, st, rc, tx, me, ne, K⟩ = true) :
  Calls Tryz.prog 86 #[.agg #[.int .i64 a1, .int .i64 a2, .int .i64 a3, .bool lb, .string ⟨List.toArray pa⟩, .string ⟨List.toArray st⟩, .string ⟨List.toArray rc⟩, .string ⟨List.toArray tx⟩, .string ⟨List.toArray me⟩, .string ⟨List.toArray ne⟩, sk]] w fun e w' => e = .returned (.string ⟨List.toArray (writH ⟨a1, a2, a3, lb, pa, st, rc, tx, me, ne, K⟩)⟩) ∧ Below w.heap.size w w' := by
 have hb0 : Below w.heap.size w (w.alloc (.cells #[.int .i64 a1, .int .i64 a2, .int .i64 a3, .bool lb, .string ⟨List.toArray pa⟩, .string ⟨List.toArray st⟩, .string ⟨List.toArray rc⟩, .string ⟨List.toArray tx⟩, .string ⟨List.toArray me⟩, .string ⟨List.toArray ne⟩, sk] 24)) := Below.allocS (Below.refl _ _) _
 have B0 : Blk (w.alloc (.cells #[.int .i64 a1, .int .i64 a2, .int .i64 a3, .bool lb, .string ⟨List.toArray pa⟩, .string ⟨List.toArray st⟩, .string ⟨List.toArray rc⟩, .string ⟨List.toArray tx⟩, .string ⟨List.toArray me⟩, .string ⟨List.toArray ne⟩, sk] 24)) w.heap.size #[.int .i64 a1, .int .i64 a2, .int .i64 a3, .bool lb, .string ⟨List.toArray pa⟩, .string ⟨List.toArray st⟩, .string ⟨List.toArray rc⟩, .string ⟨List.toArray tx⟩, .string ⟨List.toArray me⟩, .string ⟨List.toArray ne⟩, sk] := Blk.new _ _ _
 obtain ⟨ka, kc, rfl⟩ := hk.form
 have HK := Lib.hid hk
 have p := fine_parts hf
 have hw : writH ⟨a1, a2, a3, lb, pa, st, rc, tx, me, ne, K⟩ = (num a1.toNat ++ num a2.toNat ++ num a3.toNat ++ flagB lb) ++ text pa ++ text st ++ text rc ++ tx ++ me ++ ne ++ K.flatten := by
  unfold writH
  simp only [List.append_assoc]
 have g1 := p.hn
 have g2 := p.en
 have g3 := p.vn
 have g4 := p.txs
 have g5 := p.members
 have g6 := p.next
 have g7 := p.state
 have g8 := p.receipts
 have g9 := p.parent
 have g10 := p.skl
 have g11 := linksF_len a1
 have HKL := Lib.hid p.sk
 simp only at g1 g2 g3 g4 g5 g6 g7 g8 g9 g10
 have HKN : Hid (K.length ≤ 20) := Lib.hid (by omega)
 have HW := Lib.hid hw
 obtain ⟨n1, rfl⟩ : ∃ n : Nat, a1 = n := ⟨a1.toNat, by omega⟩
 obtain ⟨n2, rfl⟩ : ∃ n : Nat, a2 = n := ⟨a2.toNat, by omega⟩
 obtain ⟨n3, rfl⟩ : ∃ n : Nat, a3 = n := ⟨a3.toNat, by omega⟩
 simp only [Int.toNat_natCast] at HW
 have q1 := callB (W := w.alloc (.cells #[.int .i64 ((n1 : Nat)), .int .i64 ((n2 : Nat)), .int .i64 ((n3 : Nat)), .bool lb, .string ⟨List.toArray pa⟩, .string ⟨List.toArray st⟩, .string ⟨List.toArray rc⟩, .string ⟨List.toArray tx⟩, .string ⟨List.toArray me⟩, .string ⟨List.toArray ne⟩, .slice ka K.length kc] 24)) (fun W => rNumber_any n1 (by omega) W)
 have q2 := callB (W := w.alloc (.cells #[.int .i64 ((n1 : Nat)), .int .i64 ((n2 : Nat)), .int .i64 ((n3 : Nat)), .bool lb, .string ⟨List.toArray pa⟩, .string ⟨List.toArray st⟩, .string ⟨List.toArray rc⟩, .string ⟨List.toArray tx⟩, .string ⟨List.toArray me⟩, .string ⟨List.toArray ne⟩, .slice ka K.length kc] 24)) (fun W => rNumber_any n2 (by omega) W)
 have q3 := callB (W := w.alloc (.cells #[.int .i64 ((n1 : Nat)), .int .i64 ((n2 : Nat)), .int .i64 ((n3 : Nat)), .bool lb, .string ⟨List.toArray pa⟩, .string ⟨List.toArray st⟩, .string ⟨List.toArray rc⟩, .string ⟨List.toArray tx⟩, .string ⟨List.toArray me⟩, .string ⟨List.toArray ne⟩, .slice ka K.length kc] 24)) (fun W => rNumber_any n3 (by omega) W)
 have q4 := callS (W := w.alloc (.cells #[.int .i64 ((n1 : Nat)), .int .i64 ((n2 : Nat)), .int .i64 ((n3 : Nat)), .bool lb, .string ⟨List.toArray pa⟩, .string ⟨List.toArray st⟩, .string ⟨List.toArray rc⟩, .string ⟨List.toArray tx⟩, .string ⟨List.toArray me⟩, .string ⟨List.toArray ne⟩, .slice ka K.length kc] 24)) (fun W _ => (rfflag_any lb W).mono (fun _ _ h => ⟨h.1, h.2.symm⟩))
 have q5 := fun (X : World) => callB (W := X) (fun W => rText_any pa (by omega) W)
 have q6 := fun (X : World) => callB (W := X) (fun W => rText_any st (by omega) W)
 have q7 := fun (X : World) => callB (W := X) (fun W => rText_any rc (by omega) W)
 have l1 := num_len n1
 have l2 := num_len n2
 have l3 := num_len n3
 have m1 : (flagB lb).length = 1 := by cases lb <;> rfl
 have m2 := text_len pa
 have m3 := text_len st
 have m4 := text_len rc
 clear hf p hw g10 g11 g1 g2 g3
 generalize writH ⟨n1, n2, n3, lb, pa, st, rc, tx, me, ne, K⟩ = R at *
 generalize num n1 = N1 at *
 generalize num n2 = N2 at *
 generalize num n3 = N3 at *
 generalize flagB lb = F1 at *
 generalize text pa = T1 at *
 generalize text st = T2 at *
 generalize text rc = T3 at *
 have HT : Hid (N1.length ≤ 9 ∧ N2.length ≤ 9 ∧ N3.length ≤ 9 ∧ F1.length = 1 ∧ T1.length ≤ 41 ∧ T2.length ≤ 41 ∧ T3.length ≤ 41 ∧ tx.length = 32 ∧ me.length = 32 ∧ ne.length = 32) := Lib.hid ⟨l1, l2, l3, m1, by omega, by omega, by omega, g4, g5, g6⟩
 have k1 : ¬ 9223372036854775807 < N1.length + N2.length := by omega
 have k2 : ¬ 9223372036854775807 < N1.length + N2.length + N3.length := by omega
 have k3 : ¬ 9223372036854775807 < N1.length + (N2.length + N3.length) + F1.length := by omega
 clear l1 l2 l3 m1 m2 m3 m4 g4 g5 g6 g7 g8 g9
 go_enter Tryz.func86, Tryz.ntmps86
 go_wp2_with fail
 refine wp_held rfl (by kernel_rfl) ?_
 (refine qP ?_ ?_ ?_; rotate_left; focus (intro w; go_simp; try with_reducible rfl))
 try simp only [pna, pnb, pnc, pnd, pne]
 refine wpQ_load (by rfl) (.int .i64 ((n1 : Nat))) (fun w hb2 => (by have c := (B0.keep hb2).cell 0; go_simp; try rfl)) ?_
 try simp only [pna, pnb, pnc, pnd, pne]
 refine wpQ_call (by rfl) _ _ (.string ⟨List.toArray N1⟩) (q1) (by intro w; go_simp; try rfl) ?_
 try simp only [pna, pnb, pnc, pnd, pne]
 (refine qP ?_ ?_ ?_; rotate_left; focus (intro w; go_simp; try with_reducible rfl))
 try simp only [pna, pnb, pnc, pnd, pne]
 refine wpQ_load (by rfl) (.int .i64 ((n2 : Nat))) (fun w hb2 => (by have c := (B0.keep hb2).cell 1; go_simp; try rfl)) ?_
 try simp only [pna, pnb, pnc, pnd, pne]
 refine wpQ_call (by rfl) _ _ (.string ⟨List.toArray N2⟩) (q2) (by intro w; go_simp; try rfl) ?_
 try simp only [pna, pnb, pnc, pnd, pne]
 (refine qP ?_ ?_ ?_; rotate_left; focus (intro w; go_simp; try with_reducible rfl))
 try simp only [pna, pnb, pnc, pnd, pne]
 (refine qP ?_ ?_ ?_; rotate_left; focus (intro w; go_simp; try with_reducible rfl))
 try simp only [pna, pnb, pnc, pnd, pne]
 refine wpQ_load (by rfl) (.int .i64 ((n3 : Nat))) (fun w hb2 => (by have c := (B0.keep hb2).cell 2; go_simp; try rfl)) ?_
 try simp only [pna, pnb, pnc, pnd, pne]
 refine wpQ_call (by rfl) _ _ (.string ⟨List.toArray N3⟩) (q3) (by intro w; go_simp; try rfl) ?_
 try simp only [pna, pnb, pnc, pnd, pne]
 (refine qP ?_ ?_ ?_; rotate_left; focus (intro w; go_simp; try with_reducible rfl))
 try simp only [pna, pnb, pnc, pnd, pne]
 (refine qP ?_ ?_ ?_; rotate_left; focus (intro w; go_simp; try with_reducible rfl))
 try simp only [pna, pnb, pnc, pnd, pne]
 refine wpQ_load (by rfl) (.bool lb) (fun w hb2 => (by have c := (B0.keep hb2).cell 3; go_simp; try rfl)) ?_
 try simp only [pna, pnb, pnc, pnd, pne]
 refine wpQ_call (by rfl) _ _ (.string ⟨List.toArray F1⟩) (q4) (by intro w; go_simp; try rfl) ?_
 try simp only [pna, pnb, pnc, pnd, pne]
 (refine qP ?_ ?_ ?_; rotate_left; focus (intro w; go_simp; try with_reducible rfl))
 try simp only [pna, pnb, pnc, pnd, pne]
 (refine qP ?_ ?_ ?_; rotate_left; focus (intro w; go_simp; try with_reducible rfl))
 try simp only [pna, pnb, pnc, pnd, pne]
 intro w2 hS
 have B2 := B0.keep hS
 have hb2 := hb0.trans (hS.mono hb0.size)
 obtain ⟨z1, z2, z3, z4, z5, z6, z7, z8, z9, z10⟩ := HT.out
 have hPl : (N1 ++ (N2 ++ (N3 ++ F1))).length ≤ 28 := by simp only [List.length_append]; omega
 have HW2 : Hid (R = N1 ++ (N2 ++ (N3 ++ F1)) ++ (T1 ++ (T2 ++ (T3 ++ (tx ++ (me ++ ne))))) ++ K.flatten) := Lib.hid (by rw [HW.out]; simp only [List.append_assoc])
 generalize N1 ++ (N2 ++ (N3 ++ F1)) = P at *
 have k4 : ¬ 9223372036854775807 < P.length + T1.length := by omega
 have k5 : ¬ 9223372036854775807 < P.length + T1.length + T2.length := by omega
 have k6 : ¬ 9223372036854775807 < P.length + (T1.length + T2.length) + T3.length := by omega
 have k7 : ¬ 9223372036854775807 < P.length + (T1.length + (T2.length + T3.length)) + tx.length := by omega
 have k8 : ¬ 9223372036854775807 < P.length + (T1.length + (T2.length + (T3.length + tx.length))) + me.length := by omega
 have k9 : ¬ 9223372036854775807 < P.length + (T1.length + (T2.length + (T3.length + (tx.length + me.length)))) + ne.length := by omega
 have HPL : Hid ((P ++ (T1 ++ (T2 ++ (T3 ++ (tx ++ (me ++ ne)))))).length ≤ 300) := Lib.hid (by simp only [List.length_append]; omega)
 clear z1 z2 z3 z4 z5 z6 z7 z8 z9 z10 k1 k2 k3 hS q1 q2 q3 q4 hPl HW HT B0 hb0
 go_wp2_with fail
 refine wp_held rfl (by kernel_rfl) ?_
 (refine qP ?_ ?_ ?_; rotate_left; focus (intro w; go_simp; try with_reducible rfl))
 try simp only [pna, pnb, pnc, pnd, pne]
 (refine qP ?_ ?_ ?_; rotate_left; focus (intro w; go_simp; try with_reducible rfl))
 try simp only [pna, pnb, pnc, pnd, pne]
 refine wpQ_load (by rfl) (.string ⟨List.toArray pa⟩) (fun w hb => (by have c := (B2.keep hb).cell 4; go_simp; try rfl)) ?_
 try simp only [pna, pnb, pnc, pnd, pne]
 refine wpQ_call (by rfl) _ _ (.string ⟨List.toArray T1⟩) (q5 _) (by intro w; go_simp; try rfl) ?_
 try simp only [pna, pnb, pnc, pnd, pne]
 (refine qP ?_ ?_ ?_; rotate_left; focus (intro w; go_simp; try with_reducible rfl))
 try simp only [pna, pnb, pnc, pnd, pne]
 (refine qP ?_ ?_ ?_; rotate_left; focus (intro w; go_simp; try with_reducible rfl))
 try simp only [pna, pnb, pnc, pnd, pne]
 refine wpQ_load (by rfl) (.string ⟨List.toArray st⟩) (fun w hb => (by have c := (B2.keep hb).cell 5; go_simp; try rfl)) ?_
 try simp only [pna, pnb, pnc, pnd, pne]
 refine wpQ_call (by rfl) _ _ (.string ⟨List.toArray T2⟩) (q6 _) (by intro w; go_simp; try rfl) ?_
 try simp only [pna, pnb, pnc, pnd, pne]
 (refine qP ?_ ?_ ?_; rotate_left; focus (intro w; go_simp; try with_reducible rfl))
 try simp only [pna, pnb, pnc, pnd, pne]
 (refine qP ?_ ?_ ?_; rotate_left; focus (intro w; go_simp; try with_reducible rfl))
 try simp only [pna, pnb, pnc, pnd, pne]
 refine wpQ_load (by rfl) (.string ⟨List.toArray rc⟩) (fun w hb => (by have c := (B2.keep hb).cell 6; go_simp; try rfl)) ?_
 try simp only [pna, pnb, pnc, pnd, pne]
 refine wpQ_call (by rfl) _ _ (.string ⟨List.toArray T3⟩) (q7 _) (by intro w; go_simp; try rfl) ?_
 try simp only [pna, pnb, pnc, pnd, pne]
 (refine qP ?_ ?_ ?_; rotate_left; focus (intro w; go_simp; try with_reducible rfl))
 try simp only [pna, pnb, pnc, pnd, pne]
 (refine qP ?_ ?_ ?_; rotate_left; focus (intro w; go_simp; try with_reducible rfl))
 try simp only [pna, pnb, pnc, pnd, pne]
 refine wpQ_load (by rfl) (.string ⟨List.toArray tx⟩) (fun w hb => (by have c := (B2.keep hb).cell 7; go_simp; try rfl)) ?_
 try simp only [pna, pnb, pnc, pnd, pne]
 (refine qP ?_ ?_ ?_; rotate_left; focus (intro w; go_simp; try with_reducible rfl))
 try simp only [pna, pnb, pnc, pnd, pne]
 (refine qP ?_ ?_ ?_; rotate_left; focus (intro w; go_simp; try with_reducible rfl))
 try simp only [pna, pnb, pnc, pnd, pne]
 refine wpQ_load (by rfl) (.string ⟨List.toArray me⟩) (fun w hb => (by have c := (B2.keep hb).cell 8; go_simp; try rfl)) ?_
 try simp only [pna, pnb, pnc, pnd, pne]
 (refine qP ?_ ?_ ?_; rotate_left; focus (intro w; go_simp; try with_reducible rfl))
 try simp only [pna, pnb, pnc, pnd, pne]
 (refine qP ?_ ?_ ?_; rotate_left; focus (intro w; go_simp; try with_reducible rfl))
 try simp only [pna, pnb, pnc, pnd, pne]
 refine wpQ_load (by rfl) (.string ⟨List.toArray ne⟩) (fun w hb => (by have c := (B2.keep hb).cell 9; go_simp; try rfl)) ?_
 try simp only [pna, pnb, pnc, pnd, pne]
 (refine qP ?_ ?_ ?_; rotate_left; focus (intro w; go_simp; try with_reducible rfl))
 try simp only [pna, pnb, pnc, pnd, pne]
 (refine qP ?_ ?_ ?_; rotate_left; focus (intro w; go_simp; try with_reducible rfl))
 try simp only [pna, pnb, pnc, pnd, pne]
 intro w3 hS
 have B3 := B2.keep hS
 have hb3 := hb2.trans (hS.mono hb2.size)
 generalize P ++ (T1 ++ (T2 ++ (T3 ++ (tx ++ (me ++ ne))))) = H at *
 have HH : Hid (H.length ≤ 300) := HPL
 clear k4 k5 k6 k7 k8 k9 q5 q6 q7 hS B2 hb2 HPL
 go_wp2_with fail
 go_loopw [3, 4] (fun s3 s4 wr => ∃ i : Nat, s4 = .int .i64 i ∧ i ≤ K.length ∧ s3 = .string ⟨List.toArray (H ++ (K.take i).flatten)⟩ ∧ Blk wr w.heap.size _ ∧ Below w.heap.size w wr) (fun _ s4 _ => K.length - (intOf s4).toNat)
 case atStart => exact ⟨0, rfl, Nat.zero_le _, by simp, B3, hb3⟩
 case round =>
  obtain ⟨i, rfl, hi, rfl, Br, hbr⟩ := hrel
  clear B3 hb3
  obtain ⟨b1, b2, b3⟩ := id Br
  have hkn := HKN.out
  by_cases hlt : i < K.length
  ·have i0 : 0 ≤ (i : Int) ∧ (i : Int) < (K.length : Int) := by omega
   obtain ⟨g, off, e1, hg, x1⟩ := (HK.out.keep hbr).at' i hlt
   subst e1
   have hfl := flat_le (K.take i) (fun x hx => HKL.out x (List.mem_of_mem_take hx))
   rw [List.length_take] at hfl
   have hxl : (K.getD i []).length = 32 := HKL.out _ (by rw [List.getD_eq_getElem?_getD, List.getElem?_eq_getElem hlt]; exact List.getElem_mem _)
   have HNX : Hid (H ++ (K.take (i + 1)).flatten = H ++ (K.take i).flatten ++ K.getD i []) := Lib.hid (by rw [flat_take2 K i hlt, List.append_assoc])
   have k1 : ¬ 9223372036854775807 < (H ++ (K.take i).flatten).length + (K.getD i []).length := by
    have := HH.out
    have := HKN.out
    rw [List.length_append]
    omega
   clear hfl hxl
   generalize K.getD i [] = x at *
   generalize H ++ (K.take i).flatten = Z at *
   go_wp2_with fail
   exact ⟨⟨i + 1, by go_num, by omega, by rw [HNX.out], Br, hbr⟩, by have := HKN.out; simp [intOf]; omega⟩
  ·obtain rfl : i = K.length := by omega
   have HE : Hid (H ++ (K.take K.length).flatten = R) := Lib.hid (by rw [List.take_length, HW2.out])
   generalize H ++ (K.take K.length).flatten = Z at *
   go_wp2_with fail
   go_ret
   exact ⟨by rw [← HE.out]; rfl, hbr⟩
end Go.Proofs.YthgjdaomcpinaaaGreatDoor
