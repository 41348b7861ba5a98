/- ListP, RefH, RefHW, HeadG, RowAt, Side, OwnG. -/
import Derived.Lib.OwnKind
import Derived.Maps.AppendAt
import Derived.Lib.OwnBridge
import Derived.Test.YthkpmlfaddlieaaGreatDoorMs8
set_option linter.unnecessarySimpa false
set_option linter.unusedSimpArgs false
set_option linter.unusedVariables false
set_option maxRecDepth 100000
set_option maxHeartbeats 32000000
namespace Go.Proofs.YthkpmlfaddlieaaGreatDoor
namespace Pl
def listB : List Bs → Bs
 | [] => []
 | x :: r => text x ++ listB r
def encS (l : List Bs) : Bs := num l.length ++ listB l
theorem listB_app (a : List Bs) (x : Bs) : listB (a ++ [x]) = listB a ++ text x := by
 induction a with
 | nil => simp [listB]
 | cons y r ih => simp [listB, ih, List.append_assoc]
theorem takeS (l : List Bs) (i : Nat) (hi : i < l.length) : l.take (i + 1) = l.take i ++ [l.getD i []] := by
 rw [List.take_add_one, List.getElem?_eq_getElem hi, List.getD_eq_getElem?_getD, List.getElem?_eq_getElem hi]
 rfl
theorem listB_len (l : List Bs) (m : Nat) (h : ∀ i, i < l.length → (l.getD i []).length ≤ m) : ∀ k, k ≤ l.length → (listB (l.take k)).length ≤ (m + 9) * k
 | 0, _ => by simp [listB]
 | k + 1, hk => by
  have h1 := listB_len l m h k (by omega)
  have h2 := h k (by omega)
  rw [takeS l k (by omega), listB_app]
  have h4 := text_len (l.getD k [])
  simp only [List.length_append]
  rw [Nat.mul_add]
  omega
end Pl
end Go.Proofs.YthkpmlfaddlieaaGreatDoor
namespace Go.Proofs.YthkpmlfaddlieaaGreatDoor
open Go.RowKit Pl
theorem rlinks_any (h : Int) (w : World) :
  Calls Tryz.prog 103 #[.int .i64 h] w fun e w' => ∃ v, e = .returned v ∧ ZRow w' w.heap.size v (linksF h) ∧ Below w.heap.size w w' := by
 by_cases h1 : h < 1
 ·have d1 : decide (h < 1) = true := by simpa using h1
  rw [linksF_out (.inl h1)]
  clear h1
  go_enter Tryz.func103, Tryz.ntmps103
  go_wp2_with fail
  all_goals (go_ret; exact ⟨_, rfl, ZRow.nil _ _, Below.refl _ _⟩)
 ·have d1 : decide (h < 1) = false := by simpa using h1
  by_cases h2 : 1048576 < h
  ·have d2 : decide (1048576 < h) = true := by simpa using h2
   rw [linksF_out (.inr h2)]
   clear h1 h2
   go_enter Tryz.func103, Tryz.ntmps103
   go_wp2_with fail
   all_goals (go_ret; exact ⟨_, rfl, ZRow.nil _ _, Below.refl _ _⟩)
  ·have d2 : decide (1048576 < h) = false := by simpa using h2
   obtain ⟨n, rfl⟩ : ∃ n : Nat, h = n := ⟨h.toNat, by omega⟩
   rw [linksF_in (by omega) (by omega)]
   rw [show ((n : Int)).toNat = n from rfl]
   go_enter Tryz.func103, Tryz.ntmps103
   go_wp2_with fail
   go_loopw [3, 4] (fun s3 s4 wr => ∃ k : Nat, s4 = .int .i64 ((k + 1 : Nat)) ∧ k ≤ 20 ∧ ZRow wr w.heap.size s3 (linksTo n k) ∧ Below w.heap.size w wr) (fun _ s4 _ => 21 - (intOf s4).toNat)
   case atStart => exact ⟨0, rfl, by omega, ZRow.nil _ _, Below.refl _ _⟩
   case round =>
    obtain ⟨k, rfl, hk, hr, hb⟩ := hrel
    obtain ⟨va, vc, rfl⟩ := hr.form
    have hll := links_len n k
    by_cases hlt : k < 20
    ·have i1 : decide (((k + 1 : Nat) : Int) ≤ 20) = true := by simp; omega
     have HLY := Lib.hid (fun h => linksTo_yes (h := n) (k := k) h)
     have HLN := Lib.hid (fun h => linksTo_no (h := n) (k := k) h)
     generalize linksTo n k = L at *
     have hp20 : (2 : Nat) ^ (k + 1) ≤ 2 ^ 20 := Nat.pow_le_pow_right (by omega) (by omega)
     have hp0 := Nat.pow_pos (n := k + 1) (show 0 < 2 by omega)
     have hpc : ((2 : Int) ^ (k + 1)) = ((2 ^ (k + 1) : Nat) : Int) := by simp
     have hw1 : wrap64 ((2 : Int) ^ (k + 1)) = ((2 ^ (k + 1) : Nat) : Int) := by rw [hpc, ← IntWalk.i64_left, IntWalk.i64_in _ (by omega)]
     generalize (2 : Nat) ^ (k + 1) = s at *
     have hw2 : wrap64 ((n : Int) - (s : Int)) = (n : Int) - (s : Int) := by rw [← IntWalk.i64_left, IntWalk.i64_in _ (by omega)]
     have HLL := Lib.hid hll
     have HR := Lib.hid hr
     clear hll hr hpc
     have hmc : (n : Int) % (s : Int) = ((n % s : Nat) : Int) := by simp
     by_cases hm : n % s = 0
     ·have HL2 := Lib.hid (HLY.out hm)
      rw [hm] at hmc
      have e1 : ((n : Int) % (s : Int) == 0) = true := by rw [hmc]; rfl
      clear hm hmc HLY HLN
      go_wp2_with (at_builtin; refine wpList_appZ rfl (.tmp 21) (.tmp 27) rfl w.heap.size _ L rfl (HR.out.alloc _) _ 0 1 1 [(n : Int) - (s : Int)] rfl rfl (zsrc1 _ _ _) (by have := HLL.out; omega) (by have := hb.size; simp; omega) ?_; rintro v2 w2' hS2 hb2)
      have hb3 : Below w.heap.size w w2' := (Below.allocS hb _).trans hb2
      refine ⟨⟨k + 1, by go_num, by omega, by rw [HL2.out]; exact hS2, hb3⟩, by simp [intOf]; omega⟩
     ·have HL2 := Lib.hid (HLN.out hm)
      have e1 : ((n : Int) % (s : Int) == 0) = false := by rw [hmc, beq_eq_false_iff_ne]; omega
      clear hm hmc HLY HLN
      go_wp2_with fail
      refine ⟨⟨k + 1, by go_num, by omega, by rw [HL2.out]; exact HR.out, hb⟩, by simp [intOf]; omega⟩
    ·obtain rfl : k = 20 := by omega
     go_wp2_with fail
     all_goals (go_ret; exact ⟨_, rfl, hr, hb⟩)
theorem fineHR_p {h : Hd} (hf : fineHR h = true) : (0 ≤ h.height ∧ h.height ≤ 1048576) ∧ (0 ≤ h.epoch ∧ h.epoch ≤ 1048576) ∧ (0 ≤ h.view ∧ h.view ≤ 1048576) ∧ h.txs.length = 32 ∧ h.members.length = 32 ∧ h.next.length = 32 ∧ (h.state = [] ∨ h.state.length = 32) ∧ (h.receipts = [] ∨ h.receipts.length = 32) ∧ h.skips.length = (linksF h.height).length ∧ ∀ s ∈ h.skips, s.length = 32 := by
 unfold fineHR numsH inH endH may32 at hf
 simp only [Bool.and_eq_true, Bool.or_eq_true, decide_eq_true_eq, List.all_eq_true] at hf
 obtain ⟨⟨⟨⟨h1, h2⟩, h3⟩, h4⟩, h5⟩ := hf
 exact ⟨h1.1.1, h1.1.2, h1.2, h2.1.1.1.1, h2.1.1.1.2, h2.1.1.2, h2.1.2, h2.2, h3, h4⟩
theorem all32_snoc {L : List Bs} {x : Bs} (h : ∀ y ∈ L, y.length = 32) (hx : x.length = 32) : ∀ y ∈ L ++ [x], y.length = 32 := by
 intro y hy
 rcases List.mem_append.1 hy with hy | hy
 ·exact h y hy
 ·rw [List.mem_singleton] at hy
  rw [hy]
  exact hx
theorem fineHR_of {h : Hd} (h1 : 0 ≤ h.height ∧ h.height ≤ 1048576) (h2 : 0 ≤ h.epoch ∧ h.epoch ≤ 1048576) (h3 : 0 ≤ h.view ∧ h.view ≤ 1048576) (h4 : h.txs.length = 32) (h5 : h.members.length = 32) (h6 : h.next.length = 32) (h7 : h.state = [] ∨ h.state.length = 32) (h8 : h.receipts = [] ∨ h.receipts.length = 32) (h9 : h.skips.length = (linksF h.height).length) (h10 : ∀ s ∈ h.skips, s.length = 32) :
  fineHR h = (if h.height = 0 then decide (h.parent = []) && decide (h.epoch = 0) && decide (h.view = 0) && h.last else decide (h.parent.length = 32) && (h.last || decide (h.next = h.members))) := by
 have e1 : numsH h = true := by
  unfold numsH inH
  simp only [Bool.and_eq_true, decide_eq_true_eq]
  exact ⟨⟨h1, h2⟩, h3⟩
 have e2 : endH h = true := by
  unfold endH may32
  simp only [Bool.and_eq_true, Bool.or_eq_true, decide_eq_true_eq]
  exact ⟨⟨⟨⟨h4, h5⟩, h6⟩, h7⟩, h8⟩
 have e3 : h.skips.all (fun s => decide (s.length = 32)) = true := by
  rw [List.all_eq_true]
  intro s hs
  simpa using h10 s hs
 unfold fineHR
 rw [e1, e2, e3, h9]
 simp
theorem rhfine_any (a1 a2 a3 : Int) (lb : Bool) (pa st rc tx me ne : Bs) (K : List Bs) (sk : Value) (w : World) (hk : SS w sk K) :
  Calls Tryz.prog 69 #[.agg #[.int .i64 a1, .int .i64 a2, .int .i64 a3, .bool lb, .string ⟨pa.toArray⟩, .string ⟨st.toArray⟩, .string ⟨rc.toArray⟩, .string ⟨tx.toArray⟩, .string ⟨me.toArray⟩, .string ⟨ne.toArray⟩, sk]] w fun e w' => e = .returned (.bool (fineHR ⟨a1, a2, a3, lb, pa, st, rc, tx, me, ne, K⟩)) ∧ Below w.heap.size w w' := by
 have hb0 : Below w.heap.size w (w.alloc (.cells #[.int .i64 a1, .int .i64 a2, .int .i64 a3, .bool lb, .string ⟨pa.toArray⟩, .string ⟨st.toArray⟩, .string ⟨rc.toArray⟩, .string ⟨tx.toArray⟩, .string ⟨me.toArray⟩, .string ⟨ne.toArray⟩, sk] 48)) := Below.allocS (Below.refl _ _) _
 have B0 : Blk (w.alloc (.cells #[.int .i64 a1, .int .i64 a2, .int .i64 a3, .bool lb, .string ⟨pa.toArray⟩, .string ⟨st.toArray⟩, .string ⟨rc.toArray⟩, .string ⟨tx.toArray⟩, .string ⟨me.toArray⟩, .string ⟨ne.toArray⟩, sk] 48)) w.heap.size #[.int .i64 a1, .int .i64 a2, .int .i64 a3, .bool lb, .string ⟨pa.toArray⟩, .string ⟨st.toArray⟩, .string ⟨rc.toArray⟩, .string ⟨tx.toArray⟩, .string ⟨me.toArray⟩, .string ⟨ne.toArray⟩, sk] := Blk.new _ _ _
 obtain ⟨ka, kc, rfl⟩ := hk.form
 have hsm := hk.small
 have HK := Lib.hid hk
 have HP := Lib.hid (fun hf => fineHR_p (h := ⟨a1, a2, a3, lb, pa, st, rc, tx, me, ne, K⟩) hf)
 have HO := Lib.hid (fun h1 h2 h3 h4 h5 h6 h7 h8 h9 h10 => fineHR_of (h := ⟨a1, a2, a3, lb, pa, st, rc, tx, me, ne, K⟩) h1 h2 h3 h4 h5 h6 h7 h8 h9 h10)
 have q1 := fun W => rlinks_any a1 W
 generalize fineHR ⟨a1, a2, a3, lb, pa, st, rc, tx, me, ne, K⟩ = R at *
 obtain ⟨b1, b2, b3⟩ := id B0
 clear hk
 by_cases c1 : a1 < 0
 ·have d1 : decide (a1 < 0) = true := by simpa using c1
  have HR : Hid (R = false) := Lib.hid (Bool.eq_false_iff.2 (fun hf => by have p := HP.out hf; simp only at p; omega))
  clear HP HO
  go_enter Tryz.func69, Tryz.ntmps69
  go_wp2_with fail
  all_goals (go_ret; rw [HR.out]; exact ⟨rfl, hb0⟩)
 have d1 : decide (a1 < 0) = false := by simpa using c1
 by_cases c2 : 1048576 < a1
 ·have d2 : decide (1048576 < a1) = true := by simpa using c2
  have HR : Hid (R = false) := Lib.hid (Bool.eq_false_iff.2 (fun hf => by have p := HP.out hf; simp only at p; omega))
  clear HP HO
  go_enter Tryz.func69, Tryz.ntmps69
  go_wp2_with fail
  all_goals (go_ret; rw [HR.out]; exact ⟨rfl, hb0⟩)
 have d2 : decide (1048576 < a1) = false := by simpa using c2
 by_cases c3 : a2 < 0
 ·have d3 : decide (a2 < 0) = true := by simpa using c3
  have HR : Hid (R = false) := Lib.hid (Bool.eq_false_iff.2 (fun hf => by have p := HP.out hf; simp only at p; omega))
  clear HP HO
  go_enter Tryz.func69, Tryz.ntmps69
  go_wp2_with fail
  all_goals (go_ret; rw [HR.out]; exact ⟨rfl, hb0⟩)
 have d3 : decide (a2 < 0) = false := by simpa using c3
 by_cases c4 : 1048576 < a2
 ·have d4 : decide (1048576 < a2) = true := by simpa using c4
  have HR : Hid (R = false) := Lib.hid (Bool.eq_false_iff.2 (fun hf => by have p := HP.out hf; simp only at p; omega))
  clear HP HO
  go_enter Tryz.func69, Tryz.ntmps69
  go_wp2_with fail
  all_goals (go_ret; rw [HR.out]; exact ⟨rfl, hb0⟩)
 have d4 : decide (1048576 < a2) = false := by simpa using c4
 by_cases c5 : a3 < 0
 ·have d5 : decide (a3 < 0) = true := by simpa using c5
  have HR : Hid (R = false) := Lib.hid (Bool.eq_false_iff.2 (fun hf => by have p := HP.out hf; simp only at p; omega))
  clear HP HO
  go_enter Tryz.func69, Tryz.ntmps69
  go_wp2_with fail
  all_goals (go_ret; rw [HR.out]; exact ⟨rfl, hb0⟩)
 have d5 : decide (a3 < 0) = false := by simpa using c5
 by_cases c6 : 1048576 < a3
 ·have d6 : decide (1048576 < a3) = true := by simpa using c6
  have HR : Hid (R = false) := Lib.hid (Bool.eq_false_iff.2 (fun hf => by have p := HP.out hf; simp only at p; omega))
  clear HP HO
  go_enter Tryz.func69, Tryz.ntmps69
  go_wp2_with fail
  all_goals (go_ret; rw [HR.out]; exact ⟨rfl, hb0⟩)
 have d6 : decide (1048576 < a3) = false := by simpa using c6
 by_cases c7 : tx.length = 32
 rotate_left
 ·have d7 : ((tx.length : Int) != 32) = true := by simp; omega
  have f7 : decide ((tx.length : Int) = 32) = false := by simp; omega
  have HR : Hid (R = false) := Lib.hid (Bool.eq_false_iff.2 (fun hf => by have p := HP.out hf; simp only at p; omega))
  clear HP HO
  go_enter Tryz.func69, Tryz.ntmps69
  go_wp2_with fail
  all_goals (go_ret; rw [HR.out]; exact ⟨rfl, hb0⟩)
 have d7 : ((tx.length : Int) != 32) = false := by simp; omega
 have f7 : decide ((tx.length : Int) = 32) = true := by simp; omega
 by_cases c8 : me.length = 32
 rotate_left
 ·have d8 : ((me.length : Int) != 32) = true := by simp; omega
  have f8 : decide ((me.length : Int) = 32) = false := by simp; omega
  have HR : Hid (R = false) := Lib.hid (Bool.eq_false_iff.2 (fun hf => by have p := HP.out hf; simp only at p; omega))
  clear HP HO
  go_enter Tryz.func69, Tryz.ntmps69
  go_wp2_with fail
  all_goals (go_ret; rw [HR.out]; exact ⟨rfl, hb0⟩)
 have d8 : ((me.length : Int) != 32) = false := by simp; omega
 have f8 : decide ((me.length : Int) = 32) = true := by simp; omega
 by_cases c9 : ne.length = 32
 rotate_left
 ·have d9 : ((ne.length : Int) != 32) = true := by simp; omega
  have f9 : decide ((ne.length : Int) = 32) = false := by simp; omega
  have HR : Hid (R = false) := Lib.hid (Bool.eq_false_iff.2 (fun hf => by have p := HP.out hf; simp only at p; omega))
  clear HP HO
  go_enter Tryz.func69, Tryz.ntmps69
  go_wp2_with fail
  all_goals (go_ret; rw [HR.out]; exact ⟨rfl, hb0⟩)
 have d9 : ((ne.length : Int) != 32) = false := by simp; omega
 have f9 : decide ((ne.length : Int) = 32) = true := by simp; omega
 by_cases c10 : st = [] ∨ st.length = 32
 rotate_left
 ·have d10 : ((st.length : Int) != 32) = true := by simp; intro h; exact c10 (.inr (by omega))
  have f10 : (st != []) = true := by simp; intro h; exact c10 (.inl h)
  have g10 : st.isEmpty = false := by simp; intro h; exact c10 (.inl h)
  have k10 : (st == []) = false := by simp; intro h; exact c10 (.inl h)
  have HR : Hid (R = false) := Lib.hid (Bool.eq_false_iff.2 (fun hf => by have p := HP.out hf; simp only at p; exact c10 p.2.2.2.2.2.2.1))
  clear HP HO
  go_enter Tryz.func69, Tryz.ntmps69
  go_wp2_with fail
  all_goals (go_ret; rw [HR.out]; exact ⟨rfl, hb0⟩)
 by_cases c11 : rc = [] ∨ rc.length = 32
 rotate_left
 ·have d11 : ((rc.length : Int) != 32) = true := by simp; intro h; exact c11 (.inr (by omega))
  have f11 : (rc != []) = true := by simp; intro h; exact c11 (.inl h)
  have g11 : rc.isEmpty = false := by simp; intro h; exact c11 (.inl h)
  have k11 : (rc == []) = false := by simp; intro h; exact c11 (.inl h)
  rcases c10 with rfl | c10
  ·have g0 := 0
   have HR : Hid (R = false) := Lib.hid (Bool.eq_false_iff.2 (fun hf => by have p := HP.out hf; simp only at p; exact c11 p.2.2.2.2.2.2.2.1))
   clear HP HO
   go_enter Tryz.func69, Tryz.ntmps69
   go_wp2_with fail
   all_goals (go_ret; rw [HR.out]; exact ⟨rfl, hb0⟩)
  ·have z1 : ((st.length : Int) != 32) = false := by simp; omega
   have z2 : (st != []) = true := by simp; intro h; rw [h] at c10; simp at c10
   have z3 : st.isEmpty = false := by simp; intro h; rw [h] at c10; simp at c10
   have z4 : (st == []) = false := by simp; intro h; rw [h] at c10; simp at c10
   have HR : Hid (R = false) := Lib.hid (Bool.eq_false_iff.2 (fun hf => by have p := HP.out hf; simp only at p; exact c11 p.2.2.2.2.2.2.2.1))
   clear HP HO
   go_enter Tryz.func69, Tryz.ntmps69
   go_wp2_with fail
   all_goals (go_ret; rw [HR.out]; exact ⟨rfl, hb0⟩)
 have hst : st = [] ∨ (st.length = 32 ∧ (st != []) = true ∧ (st == []) = false ∧ st.isEmpty = false ∧ ((st.length : Int) != 32) = false) := by
  rcases c10 with h | h
  ·exact .inl h
  ·exact .inr ⟨h, by simp; intro e; rw [e] at h; simp at h, by simp; intro e; rw [e] at h; simp at h, by simp; intro e; rw [e] at h; simp at h, by simp; omega⟩
 have hrc : rc = [] ∨ (rc.length = 32 ∧ (rc != []) = true ∧ (rc == []) = false ∧ rc.isEmpty = false ∧ ((rc.length : Int) != 32) = false) := by
  rcases c11 with h | h
  ·exact .inl h
  ·exact .inr ⟨h, by simp; intro e; rw [e] at h; simp at h, by simp; intro e; rw [e] at h; simp at h, by simp; intro e; rw [e] at h; simp at h, by simp; omega⟩
 have HL0 := Lib.hid (fun h9 h10 => HO.out ⟨show 0 ≤ a1 by omega, show a1 ≤ 1048576 by omega⟩ ⟨show 0 ≤ a2 by omega, show a2 ≤ 1048576 by omega⟩ ⟨show 0 ≤ a3 by omega, show a3 ≤ 1048576 by omega⟩ c7 c8 c9 c10 c11 h9 h10)
 simp only at HL0
 clear HO c10 c11 c7 c8 c9
 rcases hst with rfl | ⟨s1, s2, s3, s4, s5⟩ <;> rcases hrc with rfl | ⟨r1, r2, r3, r4, r5⟩
 all_goals
  go_enter Tryz.func69, Tryz.ntmps69
  go_wp2_with fail
  refine wpH_start (by kernel_rfl) (fun hS => ?_)
  (refine hP 0 ?_ ⟨some 70, .fieldAddr 48 (.tmp 1) 10, 0, "", #[], none⟩ hS ?_ ?_; rotate_left; focus (intro w; go_simp; try with_reducible rfl))
  try simp only [pna, pnb, pnc, pnd, pne]
  refine wpH_load 1 (.slice ka K.length kc) (oi := ⟨some 71,.load 24 (.tmp 70),24,"ref.go:27",#[⟨0,.data⟩],none⟩) rfl (by kernel_rfl) (by kernel_rfl) (by kernel_rfl) (by rfl) hS (fun _ _ _ h => h) (fun w hb2 => (by have c := (B0.keep hb2).cell 10; go_simp; try rfl)) ?_
  try simp only [pna, pnb, pnc, pnd, pne]
  (refine hP 2 ?_ ⟨some 72, .call { callee := .builtin .len, args := #[.tmp 71], argTypes := #[24] }, 3, "", #[], none⟩ hS ?_ ?_; rotate_left; focus (intro w; go_simp; try with_reducible rfl))
  try simp only [pna, pnb, pnc, pnd, pne]
  (refine hP 3 ?_ ⟨some 73, .fieldAddr 48 (.tmp 1) 0, 0, "", #[], none⟩ hS ?_ ?_; rotate_left; focus (intro w; go_simp; try with_reducible rfl))
  try simp only [pna, pnb, pnc, pnd, pne]
  refine wpH_load 4 (.int .i64 a1) (oi := ⟨some 74,.load 3 (.tmp 73),3,"ref.go:27",#[⟨3,.data⟩],none⟩) rfl (by kernel_rfl) (by kernel_rfl) (by kernel_rfl) (by rfl) hS (fun _ _ _ h => h) (fun w hb2 => (by have c := (B0.keep hb2).cell 0; go_simp; try rfl)) ?_
  try simp only [pna, pnb, pnc, pnd, pne]
  refine wpH_call 5 (oi := ⟨some 75,.call { callee := .value (.func 103), args := #[.tmp 74], argTypes := #[3] },111,"ref.go:27",#[⟨4,.data⟩],none⟩) rfl (by kernel_rfl) (by rfl) (q1 _) ?_ ?_
  ·(go_simp; try rfl)
  rintro e w' ⟨zv, rfl, hz, hbx⟩
  refine ⟨_, rfl, hS.trans (hbx.mono hS.size), ?_⟩
  replace hS := hS.trans (hbx.mono hS.size)
  obtain ⟨za, zc, rfl⟩ := hz.form
  try simp only [pna, pnb, pnc, pnd, pne]
  (refine hP 6 ?_ ⟨some 76, .call { callee := .builtin .len, args := #[.tmp 75], argTypes := #[111] }, 3, "", #[], none⟩ hS ?_ ?_; rotate_left; focus (intro w; go_simp; try with_reducible rfl))
  try simp only [pna, pnb, pnc, pnd, pne]
  (refine hP 7 ?_ ⟨some 77, .binOp .neq 3 (.tmp 72) (.tmp 76) 3, 4, "", #[], none⟩ hS ?_ ?_; rotate_left; focus (intro w; go_simp; try with_reducible rfl))
  try simp only [pna, pnb, pnc, pnd, pne]
  refine wpAnyH_done (by kernel_rfl) ?_ _
  have hb2 := hb0.trans (hS.mono hb0.size)
  have B2 := B0.keep hS
  clear hS b1 b2 b3 hz q1
  obtain ⟨b1, b2, b3⟩ := id B2
  by_cases hlen : K.length = (linksF a1).length
  ·have hl2 : ((K.length : Int) != ((linksF a1).length : Int)) = false := by simp; omega
   have HLEN := Lib.hid hlen
   clear hlen
   go_wp2_with fail
   go_loopw [3] (fun s3 wr => ∃ i : Nat, s3 = .int .i64 i ∧ i ≤ K.length ∧ Hid (∀ x ∈ K.take i, x.length = 32) ∧ Blk wr w.heap.size _ ∧ Below w.heap.size w wr) (fun s3 _ => K.length - (intOf s3).toNat)
   case atStart => exact ⟨0, rfl, Nat.zero_le _, Lib.hid (by simp), B2, hb2⟩
   case round =>
    obtain ⟨i, rfl, hi, HA, Br, hbr⟩ := hrel
    clear B2 hb2 b1 b2 b3
    obtain ⟨b1, b2, b3⟩ := id Br
    by_cases hlt : i < K.length
    ·have i0 : 0 ≤ (i : Int) ∧ (i : Int) < (K.length : Int) := by omega
     obtain ⟨g, off, e1, hg, x1⟩ := (HK.out.keep hbr).at' i hlt
     subst e1
     have HTK := Lib.hid (takeS K i hlt)
     have hmem : K.getD i [] ∈ K := by rw [List.getD_eq_getElem?_getD, List.getElem?_eq_getElem hlt]; exact List.getElem_mem _
     have HMEM := Lib.hid hmem
     clear hmem
     generalize K.getD i [] = x at *
     by_cases hx : x.length = 32
     ·have hx2 : ((x.length : Int) != 32) = false := by simp; omega
      go_wp2_with fail
      refine ⟨⟨i + 1, by go_num, by omega, Lib.hid (by rw [HTK.out]; exact all32_snoc HA.out hx), Br, hbr⟩, by simp [intOf]; omega⟩
     ·have hx2 : ((x.length : Int) != 32) = true := by simp; omega
      have HR : Hid (R = false) := Lib.hid (Bool.eq_false_iff.2 (fun hf => by have p := HP.out hf; exact hx (p.2.2.2.2.2.2.2.2.2 x HMEM.out)))
      clear HP HL0
      go_wp2_with fail
      all_goals (go_ret; rw [HR.out]; exact ⟨rfl, hbr⟩)
    ·obtain rfl : i = K.length := by omega
     have hfin := HL0.out HLEN.out (by have := HA.out; rw [List.take_length] at this; exact this)
     clear HP HL0 HA hlt
     by_cases h0 : a1 = 0
     ·rw [if_pos h0] at hfin
      have z0 : (a1 == 0) = true := by simpa using h0
      by_cases h1 : pa = []
      ·subst h1
       by_cases h2 : a2 = 0
       ·have z1 : (a2 == 0) = true := by simpa using h2
        by_cases h3 : a3 = 0
        ·have z2 : (a3 == 0) = true := by simpa using h3
         have HF : Hid (R = lb) := Lib.hid (by rw [hfin, h2, h3]; simp)
         clear hfin
         go_wp2_with fail
         all_goals (go_ret; rw [HF.out]; exact ⟨rfl, hbr⟩)
        ·have z2 : (a3 == 0) = false := by simpa using h3
         have HF : Hid (R = false) := Lib.hid (by rw [hfin, h2]; simp [h3])
         clear hfin
         go_wp2_with fail
         all_goals (go_ret; rw [HF.out]; exact ⟨rfl, hbr⟩)
       ·have z1 : (a2 == 0) = false := by simpa using h2
        have HF : Hid (R = false) := Lib.hid (by rw [hfin]; simp [h2])
        clear hfin
        go_wp2_with fail
        all_goals (go_ret; rw [HF.out]; exact ⟨rfl, hbr⟩)
      ·have z1 : (pa == []) = false := by simpa using h1
       have z2 : pa.isEmpty = false := by simpa using h1
       have HF : Hid (R = false) := Lib.hid (by rw [hfin]; simp [h1])
       clear hfin
       go_wp2_with fail
       all_goals (go_ret; rw [HF.out]; exact ⟨rfl, hbr⟩)
     ·rw [if_neg h0] at hfin
      have z0 : (a1 == 0) = false := by simpa using h0
      by_cases h1 : pa.length = 32
      ·have z1 : ((pa.length : Int) == 32) = true := by simp; omega
       cases lb
       ·have HF : Hid (R = decide (ne = me)) := Lib.hid (by rw [hfin]; simp [h1])
        clear hfin
        by_cases h2 : ne = me
        ·have z2 : (ne == me) = true := by simpa using h2
         have z3 : decide (ne = me) = true := by simpa using h2
         rw [z3] at HF
         clear h2
         go_wp2_with fail
         all_goals (go_ret; rw [HF.out]; exact ⟨rfl, hbr⟩)
        ·have z2 : (ne == me) = false := by simpa using h2
         have z3 : decide (ne = me) = false := by simpa using h2
         rw [z3] at HF
         clear h2
         go_wp2_with fail
         all_goals (go_ret; rw [HF.out]; exact ⟨rfl, hbr⟩)
       ·have HF : Hid (R = true) := Lib.hid (by rw [hfin]; simp [h1])
        clear hfin
        go_wp2_with fail
        all_goals (go_ret; rw [HF.out]; exact ⟨rfl, hbr⟩)
      ·have z1 : ((pa.length : Int) == 32) = false := by simp; omega
       have HF : Hid (R = false) := Lib.hid (by rw [hfin]; simp [h1])
       clear hfin
       go_wp2_with fail
       all_goals (go_ret; rw [HF.out]; exact ⟨rfl, hbr⟩)
  ·have hl2 : ((K.length : Int) != ((linksF a1).length : Int)) = true := by simp; omega
   have HR : Hid (R = false) := Lib.hid (Bool.eq_false_iff.2 (fun hf => by have p := HP.out hf; exact hlen p.2.2.2.2.2.2.2.2.1))
   clear HP HL0 hlen
   go_wp2_with fail
   all_goals (go_ret; rw [HR.out]; exact ⟨rfl, hb2⟩)
end Go.Proofs.YthkpmlfaddlieaaGreatDoor
namespace Go.Proofs.YthkpmlfaddlieaaGreatDoor
open Go.RowKit Pl
theorem flat_le (K : List Bs) (h : ∀ x ∈ K, x.length = 32) : K.flatten.length = 32 * K.length := by
 induction K with
 | nil => rfl
 | cons x r ih =>
  rw [List.flatten_cons, List.length_append, ih (fun y hy => h y (List.mem_cons_of_mem _ hy)), h x (List.mem_cons_self ..), List.length_cons]
  omega
theorem flat_take2 (K : List Bs) (i : Nat) (hi : i < K.length) : (K.take (i + 1)).flatten = (K.take i).flatten ++ K.getD i [] := by
 rw [List.take_add_one, List.getElem?_eq_getElem hi, List.getD_eq_getElem?_getD, List.getElem?_eq_getElem hi, List.flatten_append]
 simp
theorem rhwrit_any (a1 a2 a3 : Int) (lb : Bool) (pa st rc tx me ne : Bs) (K : List Bs) (sk : Value) (w : World) (hk : SS w sk K) (hf : fineH ⟨a1, a2, a3, lb, pa, st, rc, tx, me, ne, K⟩ = true) :
  Calls Tryz.prog 70 #[.agg #[.int .i64 a1, .int .i64 a2, .int .i64 a3, .bool lb, .string ⟨pa.toArray⟩, .string ⟨st.toArray⟩, .string ⟨rc.toArray⟩, .string ⟨tx.toArray⟩, .string ⟨me.toArray⟩, .string ⟨ne.toArray⟩, sk]] w fun e w' => e = .returned (.string ⟨List.toArray (writH ⟨a1, a2, a3, lb, pa, st, rc, tx, me, ne, K⟩)⟩) ∧ Below w.heap.size w w' := by
 have hb0 : Below w.heap.size w (w.alloc (.cells #[.int .i64 a1, .int .i64 a2, .int .i64 a3, .bool lb, .string ⟨pa.toArray⟩, .string ⟨st.toArray⟩, .string ⟨rc.toArray⟩, .string ⟨tx.toArray⟩, .string ⟨me.toArray⟩, .string ⟨ne.toArray⟩, sk] 48)) := Below.allocS (Below.refl _ _) _
 have B0 : Blk (w.alloc (.cells #[.int .i64 a1, .int .i64 a2, .int .i64 a3, .bool lb, .string ⟨pa.toArray⟩, .string ⟨st.toArray⟩, .string ⟨rc.toArray⟩, .string ⟨tx.toArray⟩, .string ⟨me.toArray⟩, .string ⟨ne.toArray⟩, sk] 48)) w.heap.size #[.int .i64 a1, .int .i64 a2, .int .i64 a3, .bool lb, .string ⟨pa.toArray⟩, .string ⟨st.toArray⟩, .string ⟨rc.toArray⟩, .string ⟨tx.toArray⟩, .string ⟨me.toArray⟩, .string ⟨ne.toArray⟩, sk] := Blk.new _ _ _
 obtain ⟨ka, kc, rfl⟩ := hk.form
 have HK := Lib.hid hk
 have p := fine_parts hf
 have hw : writH ⟨a1, a2, a3, lb, pa, st, rc, tx, me, ne, K⟩ = (num a1.toNat ++ num a2.toNat ++ num a3.toNat ++ flagB lb) ++ text pa ++ text st ++ text rc ++ tx ++ me ++ ne ++ K.flatten := by
  unfold writH
  simp only [List.append_assoc]
 have g1 := p.hn
 have g2 := p.en
 have g3 := p.vn
 have g4 := p.txs
 have g5 := p.members
 have g6 := p.next
 have g7 := p.state
 have g8 := p.receipts
 have g9 := p.parent
 have g10 := p.skl
 have g11 := linksF_len a1
 have HKL := Lib.hid p.sk
 simp only at g1 g2 g3 g4 g5 g6 g7 g8 g9 g10
 have HKN : Hid (K.length ≤ 20) := Lib.hid (by omega)
 have HW := Lib.hid hw
 obtain ⟨n1, rfl⟩ : ∃ n : Nat, a1 = n := ⟨a1.toNat, by omega⟩
 obtain ⟨n2, rfl⟩ : ∃ n : Nat, a2 = n := ⟨a2.toNat, by omega⟩
 obtain ⟨n3, rfl⟩ : ∃ n : Nat, a3 = n := ⟨a3.toNat, by omega⟩
 simp only [Int.toNat_natCast] at HW
 have q1 := callB (W := w.alloc (.cells #[.int .i64 ((n1 : Nat)), .int .i64 ((n2 : Nat)), .int .i64 ((n3 : Nat)), .bool lb, .string ⟨pa.toArray⟩, .string ⟨st.toArray⟩, .string ⟨rc.toArray⟩, .string ⟨tx.toArray⟩, .string ⟨me.toArray⟩, .string ⟨ne.toArray⟩, .slice ka K.length kc] 48)) (fun W => rNumber_any n1 (by omega) W)
 have q2 := callB (W := w.alloc (.cells #[.int .i64 ((n1 : Nat)), .int .i64 ((n2 : Nat)), .int .i64 ((n3 : Nat)), .bool lb, .string ⟨pa.toArray⟩, .string ⟨st.toArray⟩, .string ⟨rc.toArray⟩, .string ⟨tx.toArray⟩, .string ⟨me.toArray⟩, .string ⟨ne.toArray⟩, .slice ka K.length kc] 48)) (fun W => rNumber_any n2 (by omega) W)
 have q3 := callB (W := w.alloc (.cells #[.int .i64 ((n1 : Nat)), .int .i64 ((n2 : Nat)), .int .i64 ((n3 : Nat)), .bool lb, .string ⟨pa.toArray⟩, .string ⟨st.toArray⟩, .string ⟨rc.toArray⟩, .string ⟨tx.toArray⟩, .string ⟨me.toArray⟩, .string ⟨ne.toArray⟩, .slice ka K.length kc] 48)) (fun W => rNumber_any n3 (by omega) W)
 have q4 := callS (W := w.alloc (.cells #[.int .i64 ((n1 : Nat)), .int .i64 ((n2 : Nat)), .int .i64 ((n3 : Nat)), .bool lb, .string ⟨pa.toArray⟩, .string ⟨st.toArray⟩, .string ⟨rc.toArray⟩, .string ⟨tx.toArray⟩, .string ⟨me.toArray⟩, .string ⟨ne.toArray⟩, .slice ka K.length kc] 48)) (fun W _ => (rfflag_any lb W).mono (fun _ _ h => ⟨h.1, h.2.symm⟩))
 have q5 := fun (X : World) => callB (W := X) (fun W => rText_any pa (by omega) W)
 have q6 := fun (X : World) => callB (W := X) (fun W => rText_any st (by omega) W)
 have q7 := fun (X : World) => callB (W := X) (fun W => rText_any rc (by omega) W)
 have l1 := num_len n1
 have l2 := num_len n2
 have l3 := num_len n3
 have m1 : (flagB lb).length = 1 := by cases lb <;> rfl
 have m2 := text_len pa
 have m3 := text_len st
 have m4 := text_len rc
 clear hf p hw g10 g11 g1 g2 g3
 generalize writH ⟨n1, n2, n3, lb, pa, st, rc, tx, me, ne, K⟩ = R at *
 generalize num n1 = N1 at *
 generalize num n2 = N2 at *
 generalize num n3 = N3 at *
 generalize flagB lb = F1 at *
 generalize text pa = T1 at *
 generalize text st = T2 at *
 generalize text rc = T3 at *
 have HT : Hid (N1.length ≤ 9 ∧ N2.length ≤ 9 ∧ N3.length ≤ 9 ∧ F1.length = 1 ∧ T1.length ≤ 41 ∧ T2.length ≤ 41 ∧ T3.length ≤ 41 ∧ tx.length = 32 ∧ me.length = 32 ∧ ne.length = 32) := Lib.hid ⟨l1, l2, l3, m1, by omega, by omega, by omega, g4, g5, g6⟩
 have k1 : ¬ 9223372036854775807 < N1.length + N2.length := by omega
 have k2 : ¬ 9223372036854775807 < N1.length + N2.length + N3.length := by omega
 have k3 : ¬ 9223372036854775807 < N1.length + (N2.length + N3.length) + F1.length := by omega
 clear l1 l2 l3 m1 m2 m3 m4 g4 g5 g6 g7 g8 g9
 go_enter Tryz.func70, Tryz.ntmps70
 go_wp2_with fail
 refine wp_held rfl (by kernel_rfl) ?_
 (refine qP ?_ ?_ ?_; rotate_left; focus (intro w; go_simp; try with_reducible rfl))
 try simp only [pna, pnb, pnc, pnd, pne]
 refine wpQ_load (by rfl) (.int .i64 ((n1 : Nat))) (fun w hb2 => (by have c := (B0.keep hb2).cell 0; go_simp; try rfl)) ?_
 try simp only [pna, pnb, pnc, pnd, pne]
 refine wpQ_call (by rfl) _ _ (.string ⟨List.toArray N1⟩) (q1) (by intro w; go_simp; try rfl) ?_
 try simp only [pna, pnb, pnc, pnd, pne]
 (refine qP ?_ ?_ ?_; rotate_left; focus (intro w; go_simp; try with_reducible rfl))
 try simp only [pna, pnb, pnc, pnd, pne]
 refine wpQ_load (by rfl) (.int .i64 ((n2 : Nat))) (fun w hb2 => (by have c := (B0.keep hb2).cell 1; go_simp; try rfl)) ?_
 try simp only [pna, pnb, pnc, pnd, pne]
 refine wpQ_call (by rfl) _ _ (.string ⟨List.toArray N2⟩) (q2) (by intro w; go_simp; try rfl) ?_
 try simp only [pna, pnb, pnc, pnd, pne]
 (refine qP ?_ ?_ ?_; rotate_left; focus (intro w; go_simp; try with_reducible rfl))
 try simp only [pna, pnb, pnc, pnd, pne]
 (refine qP ?_ ?_ ?_; rotate_left; focus (intro w; go_simp; try with_reducible rfl))
 try simp only [pna, pnb, pnc, pnd, pne]
 refine wpQ_load (by rfl) (.int .i64 ((n3 : Nat))) (fun w hb2 => (by have c := (B0.keep hb2).cell 2; go_simp; try rfl)) ?_
 try simp only [pna, pnb, pnc, pnd, pne]
 refine wpQ_call (by rfl) _ _ (.string ⟨List.toArray N3⟩) (q3) (by intro w; go_simp; try rfl) ?_
 try simp only [pna, pnb, pnc, pnd, pne]
 (refine qP ?_ ?_ ?_; rotate_left; focus (intro w; go_simp; try with_reducible rfl))
 try simp only [pna, pnb, pnc, pnd, pne]
 (refine qP ?_ ?_ ?_; rotate_left; focus (intro w; go_simp; try with_reducible rfl))
 try simp only [pna, pnb, pnc, pnd, pne]
 refine wpQ_load (by rfl) (.bool lb) (fun w hb2 => (by have c := (B0.keep hb2).cell 3; go_simp; try rfl)) ?_
 try simp only [pna, pnb, pnc, pnd, pne]
 refine wpQ_call (by rfl) _ _ (.string ⟨List.toArray F1⟩) (q4) (by intro w; go_simp; try rfl) ?_
 try simp only [pna, pnb, pnc, pnd, pne]
 (refine qP ?_ ?_ ?_; rotate_left; focus (intro w; go_simp; try with_reducible rfl))
 try simp only [pna, pnb, pnc, pnd, pne]
 (refine qP ?_ ?_ ?_; rotate_left; focus (intro w; go_simp; try with_reducible rfl))
 try simp only [pna, pnb, pnc, pnd, pne]
 intro w2 hS
 have B2 := B0.keep hS
 have hb2 := hb0.trans (hS.mono hb0.size)
 obtain ⟨z1, z2, z3, z4, z5, z6, z7, z8, z9, z10⟩ := HT.out
 have hPl : (N1 ++ (N2 ++ (N3 ++ F1))).length ≤ 28 := by simp only [List.length_append]; omega
 have HW2 : Hid (R = N1 ++ (N2 ++ (N3 ++ F1)) ++ (T1 ++ (T2 ++ (T3 ++ (tx ++ (me ++ ne))))) ++ K.flatten) := Lib.hid (by rw [HW.out]; simp only [List.append_assoc])
 generalize N1 ++ (N2 ++ (N3 ++ F1)) = P at *
 have k4 : ¬ 9223372036854775807 < P.length + T1.length := by omega
 have k5 : ¬ 9223372036854775807 < P.length + T1.length + T2.length := by omega
 have k6 : ¬ 9223372036854775807 < P.length + (T1.length + T2.length) + T3.length := by omega
 have k7 : ¬ 9223372036854775807 < P.length + (T1.length + (T2.length + T3.length)) + tx.length := by omega
 have k8 : ¬ 9223372036854775807 < P.length + (T1.length + (T2.length + (T3.length + tx.length))) + me.length := by omega
 have k9 : ¬ 9223372036854775807 < P.length + (T1.length + (T2.length + (T3.length + (tx.length + me.length)))) + ne.length := by omega
 have HPL : Hid ((P ++ (T1 ++ (T2 ++ (T3 ++ (tx ++ (me ++ ne)))))).length ≤ 300) := Lib.hid (by simp only [List.length_append]; omega)
 clear z1 z2 z3 z4 z5 z6 z7 z8 z9 z10 k1 k2 k3 hS q1 q2 q3 q4 hPl HW HT B0 hb0
 go_wp2_with fail
 refine wp_held rfl (by kernel_rfl) ?_
 (refine qP ?_ ?_ ?_; rotate_left; focus (intro w; go_simp; try with_reducible rfl))
 try simp only [pna, pnb, pnc, pnd, pne]
 (refine qP ?_ ?_ ?_; rotate_left; focus (intro w; go_simp; try with_reducible rfl))
 try simp only [pna, pnb, pnc, pnd, pne]
 refine wpQ_load (by rfl) (.string ⟨pa.toArray⟩) (fun w hb => (by have c := (B2.keep hb).cell 4; go_simp; try rfl)) ?_
 try simp only [pna, pnb, pnc, pnd, pne]
 refine wpQ_call (by rfl) _ _ (.string ⟨List.toArray T1⟩) (q5 _) (by intro w; go_simp; try rfl) ?_
 try simp only [pna, pnb, pnc, pnd, pne]
 (refine qP ?_ ?_ ?_; rotate_left; focus (intro w; go_simp; try with_reducible rfl))
 try simp only [pna, pnb, pnc, pnd, pne]
 (refine qP ?_ ?_ ?_; rotate_left; focus (intro w; go_simp; try with_reducible rfl))
 try simp only [pna, pnb, pnc, pnd, pne]
 refine wpQ_load (by rfl) (.string ⟨st.toArray⟩) (fun w hb => (by have c := (B2.keep hb).cell 5; go_simp; try rfl)) ?_
 try simp only [pna, pnb, pnc, pnd, pne]
 refine wpQ_call (by rfl) _ _ (.string ⟨List.toArray T2⟩) (q6 _) (by intro w; go_simp; try rfl) ?_
 try simp only [pna, pnb, pnc, pnd, pne]
 (refine qP ?_ ?_ ?_; rotate_left; focus (intro w; go_simp; try with_reducible rfl))
 try simp only [pna, pnb, pnc, pnd, pne]
 (refine qP ?_ ?_ ?_; rotate_left; focus (intro w; go_simp; try with_reducible rfl))
 try simp only [pna, pnb, pnc, pnd, pne]
 refine wpQ_load (by rfl) (.string ⟨rc.toArray⟩) (fun w hb => (by have c := (B2.keep hb).cell 6; go_simp; try rfl)) ?_
 try simp only [pna, pnb, pnc, pnd, pne]
 refine wpQ_call (by rfl) _ _ (.string ⟨List.toArray T3⟩) (q7 _) (by intro w; go_simp; try rfl) ?_
 try simp only [pna, pnb, pnc, pnd, pne]
 (refine qP ?_ ?_ ?_; rotate_left; focus (intro w; go_simp; try with_reducible rfl))
 try simp only [pna, pnb, pnc, pnd, pne]
 (refine qP ?_ ?_ ?_; rotate_left; focus (intro w; go_simp; try with_reducible rfl))
 try simp only [pna, pnb, pnc, pnd, pne]
 refine wpQ_load (by rfl) (.string ⟨tx.toArray⟩) (fun w hb => (by have c := (B2.keep hb).cell 7; go_simp; try rfl)) ?_
 try simp only [pna, pnb, pnc, pnd, pne]
 (refine qP ?_ ?_ ?_; rotate_left; focus (intro w; go_simp; try with_reducible rfl))
 try simp only [pna, pnb, pnc, pnd, pne]
 (refine qP ?_ ?_ ?_; rotate_left; focus (intro w; go_simp; try with_reducible rfl))
 try simp only [pna, pnb, pnc, pnd, pne]
 refine wpQ_load (by rfl) (.string ⟨me.toArray⟩) (fun w hb => (by have c := (B2.keep hb).cell 8; go_simp; try rfl)) ?_
 try simp only [pna, pnb, pnc, pnd, pne]
 (refine qP ?_ ?_ ?_; rotate_left; focus (intro w; go_simp; try with_reducible rfl))
 try simp only [pna, pnb, pnc, pnd, pne]
 (refine qP ?_ ?_ ?_; rotate_left; focus (intro w; go_simp; try with_reducible rfl))
 try simp only [pna, pnb, pnc, pnd, pne]
 refine wpQ_load (by rfl) (.string ⟨ne.toArray⟩) (fun w hb => (by have c := (B2.keep hb).cell 9; go_simp; try rfl)) ?_
 try simp only [pna, pnb, pnc, pnd, pne]
 (refine qP ?_ ?_ ?_; rotate_left; focus (intro w; go_simp; try with_reducible rfl))
 try simp only [pna, pnb, pnc, pnd, pne]
 (refine qP ?_ ?_ ?_; rotate_left; focus (intro w; go_simp; try with_reducible rfl))
 try simp only [pna, pnb, pnc, pnd, pne]
 intro w3 hS
 have B3 := B2.keep hS
 have hb3 := hb2.trans (hS.mono hb2.size)
 generalize P ++ (T1 ++ (T2 ++ (T3 ++ (tx ++ (me ++ ne))))) = H at *
 have HH : Hid (H.length ≤ 300) := HPL
 clear k4 k5 k6 k7 k8 k9 q5 q6 q7 hS B2 hb2 HPL
 go_wp2_with fail
 go_loopw [3, 4] (fun s3 s4 wr => ∃ i : Nat, s4 = .int .i64 i ∧ i ≤ K.length ∧ s3 = .string ⟨List.toArray (H ++ (K.take i).flatten)⟩ ∧ Blk wr w.heap.size _ ∧ Below w.heap.size w wr) (fun _ s4 _ => K.length - (intOf s4).toNat)
 case atStart => exact ⟨0, rfl, Nat.zero_le _, by simp, B3, hb3⟩
 case round =>
  obtain ⟨i, rfl, hi, rfl, Br, hbr⟩ := hrel
  clear B3 hb3
  obtain ⟨b1, b2, b3⟩ := id Br
  have hkn := HKN.out
  by_cases hlt : i < K.length
  ·have i0 : 0 ≤ (i : Int) ∧ (i : Int) < (K.length : Int) := by omega
   obtain ⟨g, off, e1, hg, x1⟩ := (HK.out.keep hbr).at' i hlt
   subst e1
   have hfl := flat_le (K.take i) (fun x hx => HKL.out x (List.mem_of_mem_take hx))
   rw [List.length_take] at hfl
   have hxl : (K.getD i []).length = 32 := HKL.out _ (by rw [List.getD_eq_getElem?_getD, List.getElem?_eq_getElem hlt]; exact List.getElem_mem _)
   have HNX : Hid (H ++ (K.take (i + 1)).flatten = H ++ (K.take i).flatten ++ K.getD i []) := Lib.hid (by rw [flat_take2 K i hlt, List.append_assoc])
   have k1 : ¬ 9223372036854775807 < (H ++ (K.take i).flatten).length + (K.getD i []).length := by
    have := HH.out
    have := HKN.out
    rw [List.length_append]
    omega
   clear hfl hxl
   generalize K.getD i [] = x at *
   generalize H ++ (K.take i).flatten = Z at *
   go_wp2_with fail
   exact ⟨⟨i + 1, by go_num, by omega, by rw [HNX.out], Br, hbr⟩, by have := HKN.out; simp [intOf]; omega⟩
  ·obtain rfl : i = K.length := by omega
   have HE : Hid (H ++ (K.take K.length).flatten = R) := Lib.hid (by rw [List.take_length, HW2.out])
   generalize H ++ (K.take K.length).flatten = Z at *
   go_wp2_with fail
   go_ret
   exact ⟨by rw [← HE.out]; rfl, hbr⟩
end Go.Proofs.YthkpmlfaddlieaaGreatDoor
namespace Go.Proofs.YthkpmlfaddlieaaGreatDoor
open Go.RowKit Go.Shelf Pl
def dgH (h : Hd) : Bs := if fineH h then tagP 2 (writH h) else []
theorem dgH_yes {h : Hd} (hf : fineH h = true) : dgH h = tagP 2 (writH h) := if_pos hf
theorem dgH_no {h : Hd} (hf : fineH h = false) : dgH h = [] := if_neg (by rw [hf]; decide)
theorem hd_digest (a1 a2 a3 : Int) (lb : Bool) (pa st rc tx me ne : Bs) (K : List Bs) (ka : Option Addr) (kc : Nat) (w : World) (hk : SS w (.slice ka K.length kc) K) (hT : KT w) :
  Calls Tryz.prog 21 #[.agg #[.int .i64 a1, .int .i64 a2, .int .i64 a3, .bool lb, .string ⟨pa.toArray⟩, .string ⟨st.toArray⟩, .string ⟨rc.toArray⟩, .string ⟨tx.toArray⟩, .string ⟨me.toArray⟩, .string ⟨ne.toArray⟩, .slice ka K.length kc]] w fun e w' => e = .returned (.string ⟨List.toArray (dgH ⟨a1, a2, a3, lb, pa, st, rc, tx, me, ne, K⟩)⟩) ∧ Below w.heap.size w w' := by
 have hb0 : Below w.heap.size w (w.alloc (.cells #[.int .i64 a1, .int .i64 a2, .int .i64 a3, .bool lb, .string ⟨pa.toArray⟩, .string ⟨st.toArray⟩, .string ⟨rc.toArray⟩, .string ⟨tx.toArray⟩, .string ⟨me.toArray⟩, .string ⟨ne.toArray⟩, .slice ka K.length kc] 48)) := Below.allocS (Below.refl _ _) _
 have B0 : Blk (w.alloc (.cells #[.int .i64 a1, .int .i64 a2, .int .i64 a3, .bool lb, .string ⟨pa.toArray⟩, .string ⟨st.toArray⟩, .string ⟨rc.toArray⟩, .string ⟨tx.toArray⟩, .string ⟨me.toArray⟩, .string ⟨ne.toArray⟩, .slice ka K.length kc] 48)) w.heap.size #[.int .i64 a1, .int .i64 a2, .int .i64 a3, .bool lb, .string ⟨pa.toArray⟩, .string ⟨st.toArray⟩, .string ⟨rc.toArray⟩, .string ⟨tx.toArray⟩, .string ⟨me.toArray⟩, .string ⟨ne.toArray⟩, .slice ka K.length kc] := Blk.new _ _ _
 have q1 := hd_encode a1 a2 a3 lb pa st rc tx me ne K _ _ (hk.keep hb0)
 cases hf : fineH ⟨a1, a2, a3, lb, pa, st, rc, tx, me, ne, K⟩
 ·rw [encHR_no hf] at q1
  rw [dgH_no hf]
  clear hf
  go_enter Tryz.func21, Tryz.ntmps21
  go_wp2_with (first | (refine wpList_rowLoad row_head rfl (.tmp 1) rfl rfl (vs := [.int .i64 a1, .int .i64 a2, .int .i64 a3, .bool lb, .string ⟨pa.toArray⟩, .string ⟨st.toArray⟩, .string ⟨rc.toArray⟩, .string ⟨tx.toArray⟩, .string ⟨me.toArray⟩, .string ⟨ne.toArray⟩, .slice ka K.length kc]) rfl B0 ?_))
  refine q1.mono ?_
  rintro e w1 ⟨rfl, hb⟩
  have hb1 := hb0.trans (hb.mono hb0.size)
  go_wp2_with fail
  all_goals (go_ret; exact ⟨rfl, hb1⟩)
 ·rw [encHR_yes hf] at q1
  rw [dgH_yes hf]
  have hl := writH_len hf
  clear hf
  generalize writH ⟨a1, a2, a3, lb, pa, st, rc, tx, me, ne, K⟩ = M at *
  go_enter Tryz.func21, Tryz.ntmps21
  go_wp2_with (first | (refine wpList_rowLoad row_head rfl (.tmp 1) rfl rfl (vs := [.int .i64 a1, .int .i64 a2, .int .i64 a3, .bool lb, .string ⟨pa.toArray⟩, .string ⟨st.toArray⟩, .string ⟨rc.toArray⟩, .string ⟨tx.toArray⟩, .string ⟨me.toArray⟩, .string ⟨ne.toArray⟩, .slice ka K.length kc]) rfl B0 ?_))
  refine q1.mono ?_
  rintro e w1 ⟨rfl, hb⟩
  have hb1 := hb0.trans (hb.mono hb0.size)
  go_wp2_with fail
  refine (digsum_ok 2 (by omega) (by omega) M (by omega) _ (hT.keep hb1)).mono ?_
  rintro e w2 ⟨rfl, hb⟩
  have hb2 := hb1.trans (hb.mono hb1.size)
  go_wp2_with fail
  all_goals (go_ret; exact ⟨rfl, hb2⟩)
theorem rhd_digest (a1 a2 a3 : Int) (lb : Bool) (pa st rc tx me ne : Bs) (K : List Bs) (ka : Option Addr) (kc : Nat) (w : World) (hk : SS w (.slice ka K.length kc) K) :
  Calls Tryz.prog 33 #[.agg #[.int .i64 a1, .int .i64 a2, .int .i64 a3, .bool lb, .string ⟨pa.toArray⟩, .string ⟨st.toArray⟩, .string ⟨rc.toArray⟩, .string ⟨tx.toArray⟩, .string ⟨me.toArray⟩, .string ⟨ne.toArray⟩, .slice ka K.length kc]] w fun e w' => e = .returned (.string ⟨List.toArray (dgH ⟨a1, a2, a3, lb, pa, st, rc, tx, me, ne, K⟩)⟩) ∧ Below w.heap.size w w' := by
 have hb0 : Below w.heap.size w (w.alloc (.cells #[.int .i64 a1, .int .i64 a2, .int .i64 a3, .bool lb, .string ⟨pa.toArray⟩, .string ⟨st.toArray⟩, .string ⟨rc.toArray⟩, .string ⟨tx.toArray⟩, .string ⟨me.toArray⟩, .string ⟨ne.toArray⟩, .slice ka K.length kc] 48)) := Below.allocS (Below.refl _ _) _
 have B0 : Blk (w.alloc (.cells #[.int .i64 a1, .int .i64 a2, .int .i64 a3, .bool lb, .string ⟨pa.toArray⟩, .string ⟨st.toArray⟩, .string ⟨rc.toArray⟩, .string ⟨tx.toArray⟩, .string ⟨me.toArray⟩, .string ⟨ne.toArray⟩, .slice ka K.length kc] 48)) w.heap.size #[.int .i64 a1, .int .i64 a2, .int .i64 a3, .bool lb, .string ⟨pa.toArray⟩, .string ⟨st.toArray⟩, .string ⟨rc.toArray⟩, .string ⟨tx.toArray⟩, .string ⟨me.toArray⟩, .string ⟨ne.toArray⟩, .slice ka K.length kc] := Blk.new _ _ _
 have q1 := rhfine_any a1 a2 a3 lb pa st rc tx me ne K _ _ (hk.keep hb0)
 rw [fineHR_eq] at q1
 cases hf : fineH ⟨a1, a2, a3, lb, pa, st, rc, tx, me, ne, K⟩
 ·rw [hf] at q1
  rw [dgH_no hf]
  clear hf
  go_enter Tryz.func33, Tryz.ntmps33
  go_wp2_with (first | (refine wpList_rowLoad row_head rfl (.tmp 1) rfl rfl (vs := [.int .i64 a1, .int .i64 a2, .int .i64 a3, .bool lb, .string ⟨pa.toArray⟩, .string ⟨st.toArray⟩, .string ⟨rc.toArray⟩, .string ⟨tx.toArray⟩, .string ⟨me.toArray⟩, .string ⟨ne.toArray⟩, .slice ka K.length kc]) rfl B0 ?_))
  refine q1.mono ?_
  rintro e w1 ⟨rfl, hb⟩
  have hb1 := hb0.trans (hb.mono hb0.size)
  go_wp2_with fail
  all_goals (go_ret; exact ⟨rfl, hb1⟩)
 ·rw [hf] at q1
  rw [dgH_yes hf]
  have hl := writH_len hf
  have q2 := fun (X : World) (hX : Below w.heap.size w X) => rhwrit_any a1 a2 a3 lb pa st rc tx me ne K _ X (hk.keep hX) hf
  clear hf
  generalize writH ⟨a1, a2, a3, lb, pa, st, rc, tx, me, ne, K⟩ = M at *
  go_enter Tryz.func33, Tryz.ntmps33
  go_wp2_with (first | (refine wpList_rowLoad row_head rfl (.tmp 1) rfl rfl (vs := [.int .i64 a1, .int .i64 a2, .int .i64 a3, .bool lb, .string ⟨pa.toArray⟩, .string ⟨st.toArray⟩, .string ⟨rc.toArray⟩, .string ⟨tx.toArray⟩, .string ⟨me.toArray⟩, .string ⟨ne.toArray⟩, .slice ka K.length kc]) rfl B0 ?_))
  refine q1.mono ?_
  rintro e w1 ⟨rfl, hb⟩
  have hb1 := hb0.trans (hb.mono hb0.size)
  have B1 := B0.keep hb
  go_wp2_with (first | (refine wpList_rowLoad row_head rfl (.tmp 1) rfl rfl (vs := [.int .i64 a1, .int .i64 a2, .int .i64 a3, .bool lb, .string ⟨pa.toArray⟩, .string ⟨st.toArray⟩, .string ⟨rc.toArray⟩, .string ⟨tx.toArray⟩, .string ⟨me.toArray⟩, .string ⟨ne.toArray⟩, .slice ka K.length kc]) rfl B1 ?_))
  refine (q2 _ hb1).mono ?_
  rintro e w2 ⟨rfl, hb⟩
  have hb2 := hb1.trans (hb.mono hb1.size)
  go_wp2_with fail
  refine (tagged_any 2 (by omega) M (by omega) _).mono ?_
  rintro e w3 ⟨rfl, hb⟩
  have hb3 := hb2.trans (hb.mono hb2.size)
  go_wp2_with fail
  all_goals (go_ret; exact ⟨rfl, hb3⟩)
end Go.Proofs.YthkpmlfaddlieaaGreatDoor
namespace Go.Proofs.YthkpmlfaddlieaaGreatDoor
open Go.RowKit
theorem rg_keep {W w : World} {b o : Nat} {cs : List Value} (h : W.rangeAt b o cs) (hlt : b < W.heap.size) (hb : Below W.heap.size W w) : w.rangeAt b o cs := by
 intro j v hj
 exact (hb.cell (p := ⟨b, o + j, none⟩) hlt).trans (h j v hj)
theorem row_varR {P : Program} {T : TypeId} {n : Nat} (hT : RowT P T n) (w : World) {b off : Nat} {vs : List Value} (hl : vs.length = n) (hR : w.rangeAt b off vs) : (loadVar T ⟨b, off, none⟩).run P w = .ok (.agg vs.toArray) w := by
 obtain ⟨⟨d, h1, h2⟩, h3⟩ := hT
 exact run_loadVar_mid w b off T vs d hR h1 h2 (by rw [hl]; exact h3)
theorem exec_rowR {P : Program} {T : TypeId} {n : Nat} (hT : RowT P T n) {o : Oper} {a : Act} {w : World} (x : Operand) (ho : o.op = .load T x) {b off : Nat} (hx : a.eval x = .pointer (some ⟨b, off, none⟩)) {vs : List Value} (hl : vs.length = n) (hR : w.rangeAt b off vs) : (execOp a.eval o).run P w = .ok (.value (.agg vs.toArray)) w := by
 unfold execOp
 simp only [ho, hx, Instr.loadAt, Instr.sureAddr, Sem.run_bind, Sem.run_pure, Result.andThen_ok, row_varR hT w hl hR]
section
variable {P : Program} {T : TypeId} {n : Nat} {ops : Array Oper} {rest : List Oper} {op : Oper} {a : Act} {w : World} {Q : Exit → Act → World → Prop}
theorem wpList_rowR (hT : RowT P T n) (hgd : op.guard = none) (x : Operand) (ho : op.op = .load T x) {b o : Nat} (hx : a.eval x = .pointer (some ⟨b, o, none⟩)) {vs : List Value} (hl : vs.length = n) (hB : w.rangeAt b o vs)
  (h : wpList P ops Q rest (a.put op.dst (.agg vs.toArray)) w) : wpList P ops Q (op :: rest) a w := by
 obtain ⟨⟨d, h1, h2⟩, h3⟩ := hT
 exact wpList_load_mid hgd T x ho b o hx vs d hB h1 h2 (by rw [hl]; exact h3) h
theorem wpList_rowRG (hT : RowT P T n) (hw : Region.wanted op (yielded ops a.tmps) = true) (x : Operand) (ho : op.op = .load T x) {b o : Nat} (hx : a.eval x = .pointer (some ⟨b, o, none⟩)) {vs : List Value} (hl : vs.length = n) (hB : w.rangeAt b o vs)
  (h : wpList P ops Q rest (a.put op.dst (.agg vs.toArray)) w) : wpList P ops Q (op :: rest) a w := by
 obtain ⟨⟨d, h1, h2⟩, h3⟩ := hT
 refine wpList_step fun K hK => ?_
 rw [if_pos hw]
 exact wp_load_mid T x ho b o hx vs d hB h1 h2 (by rw [hl]; exact h3) (hK _ _ h)
end
section
variable {P : Program} {T : TypeId} {n : Nat} {op : Oper} {a : Act} {w : World} {K : Act → World → Prop} {Q : Exit → Act → World → Prop}
theorem wp_rowS (hT : RowT P T n) (x y : Operand) (ho : op.op = .store T x y) {b : Nat} (hx : a.eval x = .pointer (some ⟨b, 0, none⟩)) {vs : List Value} (hy : a.eval y = .agg vs.toArray) (hl : vs.length = n) (h1 : ∀ v ∈ vs, v.oneCell' = true)
  {us : List Value} (hlu : us.length = n) (hB : Blk w b us.toArray)
  (h : ∀ w', Blk w' b vs.toArray → Mod [b] w w' → K (a.put op.dst undef) w') : op.wp P a w K Q := by
 obtain ⟨_, h3⟩ := hT
 have ht : w.there b 0 vs.length := fun j hj => by
  rw [Nat.zero_add, hB.cell, hB.froz]
  simp; omega
 refine wp_store_mid T x y ho b 0 _ hx hy (by simpa using ht) (by simp [hl, h3]) (all_oneCell_toArray h1) ?_
 refine h _ ⟨fun o => ?_, fun o => by rw [World.frozen?_setCells]; exact hB.froz o, ?_⟩ (Mod.setCellsL b _ 0 w)
 ·by_cases ho : o < vs.length
  ·have := World.cell?_setCells_in b vs 0 w (fun i hi => (ht i hi).1) o ho
   rw [Nat.zero_add] at this
   simp only [List.getElem?_toArray]
   rw [List.getElem?_eq_getElem ho]
   exact this
  ·rw [World.cell?_setCells_out b _ 0 w _ (fun _ _ => .inr (by simp at ho ⊢; omega)), hB.cell]
   simp at ho ⊢
   rw [List.getElem?_eq_none (by omega), List.getElem?_eq_none (by omega)]
 ·exact Nat.lt_of_lt_of_le hB.lt (Mod.setCellsL b _ 0 w).size
end
theorem rg_sub {w : World} {b o : Nat} {cs ds : List Value} (h : w.rangeAt b o cs) (k : Nat) (hd : ∀ j v, ds[j]? = some v → cs[k + j]? = some v) : w.rangeAt b (o + k) ds := fun j v hj => by
 have := h (k + j) v (hd j v hj)
 rwa [show o + (k + j) = o + k + j from by omega] at this
end Go.Proofs.YthkpmlfaddlieaaGreatDoor
namespace Go.Proofs.YthkpmlfaddlieaaGreatDoor
open Go.RowKit Go.Shelf Pl
def hcs (h : Hd) (k : Value) : List Value := [.int .i64 h.height, .int .i64 h.epoch, .int .i64 h.view, .bool h.last, .string ⟨List.toArray h.parent⟩, .string ⟨List.toArray h.state⟩, .string ⟨List.toArray h.receipts⟩, .string ⟨List.toArray h.txs⟩, .string ⟨List.toArray h.members⟩, .string ⟨List.toArray h.next⟩, k]
def sdcs (h : Hd) (k : Value) (d : Bs) (ns : Value) : List Value := [.int .i64 h.height, .int .i64 h.epoch, .int .i64 h.view, .bool h.last, .string ⟨List.toArray h.parent⟩, .string ⟨List.toArray h.state⟩, .string ⟨List.toArray h.receipts⟩, .string ⟨List.toArray h.txs⟩, .string ⟨List.toArray h.members⟩, .string ⟨List.toArray h.next⟩, k, .string ⟨d.toArray⟩, ns]
theorem row_side : RowT Tryz.prog 93 13 := RowT.mk' Tryz.underlying93 rfl (by kernel_rfl)
theorem row_key : RowT Tryz.prog 98 2 := RowT.mk' Tryz.underlying98 rfl (by kernel_rfl)
theorem row_cert : RowT Tryz.prog 37 2 := RowT.mk' Tryz.underlying37 rfl (by kernel_rfl)
theorem sd_head {w : World} {b : Nat} {h : Hd} {k : Value} {d : Bs} {ns : Value} (hB : Blk w b (sdcs h k d ns).toArray) : w.rangeAt b 0 (hcs h k) := by
 intro j v hj
 rw [Nat.zero_add, hB.cell j]
 simp only [List.getElem?_toArray]
 rw [show sdcs h k d ns = hcs h k ++ [.string ⟨d.toArray⟩, ns] from rfl, List.getElem?_append_left (List.getElem?_eq_some_iff.1 hj).1]
 exact hj
theorem wkey_any (h : Hd) (ka : Option Addr) (kc : Nat) (d : Bs) (ns : Value) (w : World) (hk : SS w (.slice ka h.skips.length kc) h.skips) (hT : KT w) :
  Calls Tryz.prog 39 #[.agg (sdcs h (.slice ka h.skips.length kc) d ns).toArray] w fun e w' => e = .returned (.agg #[.int .i64 h.height, .string ⟨List.toArray (dgH h)⟩]) ∧ Below w.heap.size w w' := by
 obtain ⟨a1, a2, a3, lb, pa, st, rc, tx, me, ne, K⟩ := h
 have hb0 : Below w.heap.size w (w.alloc (.cells (sdcs ⟨a1, a2, a3, lb, pa, st, rc, tx, me, ne, K⟩ (.slice ka K.length kc) d ns).toArray 93)) := Below.allocS (Below.refl _ _) _
 have B0 : Blk (w.alloc (.cells (sdcs ⟨a1, a2, a3, lb, pa, st, rc, tx, me, ne, K⟩ (.slice ka K.length kc) d ns).toArray 93)) w.heap.size (sdcs ⟨a1, a2, a3, lb, pa, st, rc, tx, me, ne, K⟩ (.slice ka K.length kc) d ns).toArray := Blk.new _ _ _
 have q1 := fun (X : World) (hX : Below w.heap.size w X) => hd_digest a1 a2 a3 lb pa st rc tx me ne K ka kc X (hk.keep hX) (hT.keep hX)
 generalize dgH ⟨a1, a2, a3, lb, pa, st, rc, tx, me, ne, K⟩ = D at *
 have B1 : Blk ((w.alloc (.cells (sdcs ⟨a1, a2, a3, lb, pa, st, rc, tx, me, ne, K⟩ (.slice ka K.length kc) d ns).toArray 93)).alloc (.cells #[.int .i64 0, .string ⟨List.toArray []⟩] 98)) w.heap.size (sdcs ⟨a1, a2, a3, lb, pa, st, rc, tx, me, ne, K⟩ (.slice ka K.length kc) d ns).toArray := B0.alloc _
 have R1 : Blk ((w.alloc (.cells (sdcs ⟨a1, a2, a3, lb, pa, st, rc, tx, me, ne, K⟩ (.slice ka K.length kc) d ns).toArray 93)).alloc (.cells #[.int .i64 0, .string ⟨List.toArray []⟩] 98)) (w.heap.size + 1) (List.toArray [.int .i64 0, .string ⟨List.toArray []⟩]) := Blk.new' (by simp)
 have hb1 : Below w.heap.size w ((w.alloc (.cells (sdcs ⟨a1, a2, a3, lb, pa, st, rc, tx, me, ne, K⟩ (.slice ka K.length kc) d ns).toArray 93)).alloc (.cells #[.int .i64 0, .string ⟨List.toArray []⟩] 98)) := Below.allocS hb0 _
 go_enter Tryz.func39, Tryz.ntmps39
 go_wp2_with fail
 generalize hW : (w.alloc (.cells (sdcs ⟨a1, a2, a3, lb, pa, st, rc, tx, me, ne, K⟩ (.slice ka K.length kc) d ns).toArray 93)).alloc (.cells #[.int .i64 0, .string ⟨List.toArray []⟩] 98) = W at *
 clear hW B0 hb0
 refine wpH_startM [w.heap.size + 1] (by kernel_rfl) (fun hS => ?_)
 have KX := R1.drew
 (refine hP 0 ?_ ⟨some 3, .fieldAddr 93 (.tmp 1) 0, 0, "", #[], none⟩ hS ?_ ?_; rotate_left; focus (intro w; go_simp; try with_reducible rfl))
 try simp only [pna, pnb, pnc, pnd, pne]
 (refine hP 1 ?_ ⟨some 4, .fieldAddr 48 (.tmp 3) 0, 0, "", #[], none⟩ hS ?_ ?_; rotate_left; focus (intro w; go_simp; try with_reducible rfl))
 try simp only [pna, pnb, pnc, pnd, pne]
 refine wpH_load 2 (.int .i64 a1) (oi := ⟨some 5,.load 3 (.tmp 4),3,"witness.go:34",#[⟨1,.data⟩],none⟩) rfl (by kernel_rfl) (by kernel_rfl) (by kernel_rfl) (by rfl) hS (fun _ _ _ h => h) (fun w' hb2 => (by have c := (B1.mod hb2 (by simp)).cell 0; simp only [sdcs] at c; go_simp; try rfl)) ?_
 try simp only [pna, pnb, pnc, pnd, pne]
 (refine hP 3 ?_ ⟨some 6, .fieldAddr 93 (.tmp 1) 0, 0, "", #[], none⟩ hS ?_ ?_; rotate_left; focus (intro w; go_simp; try with_reducible rfl))
 try simp only [pna, pnb, pnc, pnd, pne]
 refine wpH_load 4 (.agg (hcs ⟨a1, a2, a3, lb, pa, st, rc, tx, me, ne, K⟩ (.slice ka K.length kc)).toArray) (oi := ⟨some 7,.load 48 (.tmp 6),48,"witness.go:34",#[⟨3,.data⟩],none⟩) rfl (by kernel_rfl) (by kernel_rfl) (by kernel_rfl) (by rfl) hS (fun _ _ _ h => h) (fun w' hb2 => exec_rowR row_head (.tmp 6) rfl rfl rfl (sd_head (B1.mod hb2 (by simp)))) ?_
 try simp only [pna, pnb, pnc, pnd, pne]
 refine wpH_call 5 (oi := ⟨some 8,.call { callee := .value (.func 21), args := #[.tmp 7], argTypes := #[48] },9,"witness.go:34",#[⟨4,.data⟩],none⟩) rfl (by kernel_rfl) (by rfl) (q1 _ (Below.mod hb1 hS hb1.size (by simp))) ?_ ?_
 ·(go_simp; try rfl)
 rintro e w' ⟨rfl, hbx⟩
 refine ⟨_, rfl, hS.trans (Mod.of_below hbx), ?_⟩
 replace hS := hS.trans (Mod.of_below hbx)
 replace KX := KX.keep hbx
 try simp only [pna, pnb, pnc, pnd, pne]
 (refine hP 6 ?_ ⟨some 9, .build 98 #[(0, .tmp 5), (1, .tmp 8)], 98, "", #[], none⟩ hS ?_ ?_; rotate_left; focus (intro w; go_simp; try with_reducible rfl))
 try simp only [pna, pnb, pnc, pnd, pne]
 refine wpH_op 7 (oi := ⟨none,.store 98 (.tmp 2) (.tmp 9),0,"witness.go:34",#[⟨6,.data⟩, ⟨5,.chain⟩, ⟨0,.phase⟩, ⟨1,.phase⟩, ⟨2,.phase⟩, ⟨3,.phase⟩, ⟨4,.phase⟩, ⟨5,.phase⟩, ⟨6,.phase⟩],none⟩) rfl (by kernel_rfl) (by rfl) ?_
 refine wp_rowS row_key (.tmp 2) (.tmp 9) rfl rfl rfl (vs := [.int .i64 a1, .string ⟨List.toArray D⟩]) rfl (by simp [Value.oneCell']) (us := [.int .i64 0, .string ⟨List.toArray []⟩]) rfl KX ?_
 intro w3 N3 m3
 refine ⟨hS.trans m3, ?_⟩
 replace hS := hS.trans m3
 try simp only [pna, pnb, pnc, pnd, pne]
 refine wpAnyH_done (by kernel_rfl) ?_ _
 go_wp2_with fail
 refine bodyPost_ret (results_cell1 rfl _ _ _ _ rfl (row_loadVar row_key _ rfl N3)) rfl ?_
 exact ⟨rfl, Below.mod hb1 hS hb1.size (by simp)⟩
end Go.Proofs.YthkpmlfaddlieaaGreatDoor
namespace Go.Proofs.YthkpmlfaddlieaaGreatDoor
open Go.RowKit Pl
section
variable {w w' : World} {b b1 b2 s s1 s2 n m : Nat} {e e1 e2 : TypeId} {u v : Value} {xs ys : List Value}
theorem row_ltO (h : w.ownsRow b e s v n xs) {k : Nat} (hk : v.ownBlock = some k) : b ≤ k ∧ k < w.heap.size := by
 rcases h.2 with ⟨rfl, _⟩ | ⟨g, cap, cur, rfl, h1, h2, _⟩
 ·cases hk
 ·cases hk
  refine ⟨h1, ?_⟩
  rcases Nat.lt_or_ge g w.heap.size with hlt | hge
  ·exact hlt
  ·rw [Array.getElem?_eq_none hge] at h2; cases h2
theorem row_lowO (h : w.ownsRow b e s v n xs) {c : Nat} (hc : c ≤ b) : w.ownsRow c e s v n xs := by
 refine ⟨h.1, h.2.imp id ?_⟩
 rintro ⟨g, cap, cur, hv, h1, h2⟩
 exact ⟨g, cap, cur, hv, Nat.le_trans hc h1, h2⟩
theorem row_openO (h : w.ownsRow b e s v n xs) : (v = .slice none 0 0 ∧ n = 0) ∨ ∃ g cap, v = .slice (some ⟨g, 0, none⟩) n cap ∧ b ≤ g ∧ g < w.heap.size ∧ n ≤ cap ∧ cap ≤ maxLen ∧ (∀ j, j < n * s → w.cell? ⟨g, j, none⟩ = xs[j]?) ∧ (∀ o, w.frozen? ⟨g, o, none⟩ = false) := by
 rcases h.2 with ⟨h1, h0⟩ | ⟨g, cap, cur, rfl, h1, h2, h3, h4, h5, h6⟩
 ·exact .inl ⟨h1, h0⟩
 ·refine .inr ⟨g, cap, rfl, h1, (row_ltO h rfl).2, h3, h4, fun j hj => ?_, fun o => ?_⟩
  ·rw [← h6, List.getElem?_take, if_pos hj]
   simp [World.cell?, h2]
  ·simp [World.frozen?, h2]
end
end Go.Proofs.YthkpmlfaddlieaaGreatDoor
