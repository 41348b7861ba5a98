/- TWorksP, TWorks, TBack, TrVal, Laid. -/
import Derived.Test.YtaedgfnfkacimaaDoorRows
import Derived.ProofKit
import Derived.LaidMore
import Derived.Stop.Joined
import Derived.Test.YtaedgfnfkacimaaDoorMg5
import Derived.Test.YtaedgfnfkacimaaDoorMg11
import Derived.Test.YtaedgfnfkacimaaDoorMg16
import Derived.Test.YtaedgfnfkacimaaDoorMg20
set_option linter.unnecessarySimpa false

/- Plain: the chapter's example of what is trusted. -/
set_option linter.unusedSimpArgs false
set_option linter.unusedVariables false
namespace Go.Proofs.YtaedgfnfkacimaaDoor
open Go.RowKit Pl

namespace Pl
theorem links_odd (h : Int) (h0 : 0 ≤ h) : linksF (2 * h + 1) = [] := by
  unfold linksF
  split
  · rfl
  · exact links_stop (k := 0) (by omega) 20
theorem ds_len : ds.length = 32 := by unfold ds; rw [List.length_replicate]
theorem oneA_ok : chkM oneA = true := by decide
theorem dgA_len : (dgM oneA).length = 32 := by
  unfold dgM
  rw [if_pos oneA_ok]
  exact tagP_len _ _
theorem some_fine (h now : Int) (h0 : 0 ≤ h) (h1 : h ≤ 500000) (n0 : 0 ≤ now) (n1 : now ≤ 1099511627776) : fineT (someT h now) = true := by
  have hl := links_odd h h0
  have h2 := dgA_len
  have h3 := ds_len
  have h4 := oneA_ok
  unfold someT fineT fineH numsH firstH sumsH endH may32 inH
  simp only [hl]
  rw [if_pos (by omega), if_pos (by omega)]
  generalize dgM oneA = D at *
  generalize chkM oneA = c at *
  generalize ds = e at *
  simp only [h2, h3, h4, List.length_nil, List.all_nil, Bool.and_eq_true, Bool.or_eq_true, decide_eq_true_eq, true_and, and_true, true_or, or_true]
  refine ⟨⟨⟨⟨by omega, by omega⟩, by decide, by decide⟩, ?_⟩, by omega, by omega⟩
  simp
theorem some_len (h now : Int) : (writT (someT h now)).length ≤ 430 := by
  have h2 := dgA_len
  have h3 := ds_len
  have h4 := encM_len oneA oneA_ok
  unfold someT writT writH
  simp only
  generalize dgM oneA = D at *
  generalize encM oneA = E at *
  generalize ds = e at *
  have k1 := num_len' (2 * h + 1).toNat
  have k2 := num_len' (1 : Int).toNat
  have k3 := text_len e
  have k4 := text_len ([] : Bs)
  have k5 := text_len E
  have k6 := num_len' now.toNat
  have k7 := text_len (num (2 * h + 1).toNat ++ num (1 : Int).toNat ++ num (1 : Int).toNat ++ flagB true ++ text e ++ text [] ++ text [] ++ e ++ e ++ D ++ ([] : List Bs).flatten)
  have k8 : (flagB true).length = 1 := rfl
  simp only [List.length_append, List.flatten_nil, List.length_nil] at *
  omega
theorem listB_le (l : List Bs) (n : Nat) (h : ∀ x ∈ l, x.length ≤ n) : (listB l).length ≤ l.length * (n + 9) := by
  induction l with
  | nil => simp [listB]
  | cons x r ih =>
    have h1 := ih (fun y hy => h y (List.mem_cons_of_mem _ hy))
    have h2 := h x (List.mem_cons_self ..)
    have h3 := text_len x
    unfold listB
    rw [List.length_append, List.length_cons, Nat.add_mul, Nat.one_mul]
    omega
theorem rec_len (l : List Bs) (n : Nat) (h : ∀ x ∈ l, x.length ≤ n) : (recP l).length ≤ l.length * (n + 9) + 22 := by
  have h1 := listB_le l n h
  have h2 := num_len' l.length
  have h3 := text_len (encS l)
  have h4 : (encS l).length = (num l.length).length + (listB l).length := by unfold encS; rw [List.length_append]
  unfold recP
  rw [List.length_append, List.length_take]
  omega
theorem may_small (l : List Bs) (n : Nat) (h : ∀ x ∈ l, x.length ≤ n) (hl : l.length ≤ 1000) (hn : n ≤ 500) : mayR l = true := by
  have h1 := listB_le l n h
  have h2 := num_len' l.length
  have h4 : (encS l).length = (num l.length).length + (listB l).length := by unfold encS; rw [List.length_append]
  have h5 : l.length * (n + 9) ≤ 1000 * (n + 9) := Nat.mul_le_mul_right _ hl
  unfold mayR
  simp only [Bool.and_eq_true, decide_eq_true_eq, List.all_eq_true]
  exact ⟨⟨by omega, fun x hx => by have := h x hx; omega⟩, by omega⟩
theorem writeD_ok (d : Dk) (l : List Bs) (hd : d.down = false) (hf : d.fuse < 0) (hr : ((recP l).length : Int) ≤ d.room - (d.s.length : Int)) : writeD d l = (⟨d.s ++ recP l, ((d.s ++ recP l).length : Int), d.room, d.fuse, false⟩, 0) := by
  obtain ⟨s, safe, room, fuse, down⟩ := d
  simp only at hd hf hr
  subst hd
  have h1 : appD ⟨s, safe, room, fuse, false⟩ (recP l) = (⟨s ++ recP l, safe, room, fuse, false⟩, 0) := by
    unfold appD
    rw [burnt_neg hf]
    simp only
    rw [if_neg (by decide), if_neg (by omega), if_pos trivial]
  unfold writeD
  rw [h1]
  simp only
  rw [if_pos trivial]
  unfold syncD
  rw [burnt_neg (by simpa using hf)]
  simp
end Pl
end Go.Proofs.YtaedgfnfkacimaaDoor

/- The chapter's example of what is trusted. The program's walk. -/
set_option linter.unusedSimpArgs false
set_option linter.unusedVariables false
namespace Go.Proofs.YtaedgfnfkacimaaDoor
open Go.RowKit Go.WideMaps Go.Maps Go.Sort Go.Shelf Pl

theorem TL.one {w : World} {base : Nat} {t : Tr} {ka ma : Option Addr} {kc mc : Nat} (r1 : SRow w base (.slice ka t.head.skips.length kc) t.head.skips) (r2 : MRow w base (.slice ma t.set.length mc) t.set) :
    TL (w.alloc (.cells #[.int .i64 (t.head.height), .int .i64 (t.head.epoch), .int .i64 (t.head.view), .bool t.head.last, .string ⟨List.toArray (t.head.parent)⟩, .string ⟨List.toArray (t.head.state)⟩, .string ⟨List.toArray (t.head.receipts)⟩, .string ⟨List.toArray (t.head.txs)⟩, .string ⟨List.toArray (t.head.members)⟩, .string ⟨List.toArray (t.head.next)⟩, .slice ka t.head.skips.length kc, .slice ma t.set.length mc, .int .i64 (t.at_)] 27)) (.slice (some ⟨w.heap.size, 0, none⟩) 1 1) [t] := by
  have hb := Below.allocS (Below.refl w.heap.size w) (.cells #[.int .i64 (t.head.height), .int .i64 (t.head.epoch), .int .i64 (t.head.view), .bool t.head.last, .string ⟨List.toArray (t.head.parent)⟩, .string ⟨List.toArray (t.head.state)⟩, .string ⟨List.toArray (t.head.receipts)⟩, .string ⟨List.toArray (t.head.txs)⟩, .string ⟨List.toArray (t.head.members)⟩, .string ⟨List.toArray (t.head.next)⟩, .slice ka t.head.skips.length kc, .slice ma t.set.length mc, .int .i64 (t.at_)] 27)
  refine ⟨_, _, rfl, Nat.le_refl _, by unfold maxLen; omega, fun _ => ⟨_, 0, rfl, by simp, fun i t' hi => ?_⟩⟩
  have h0 : i = 0 := by
    have := (List.getElem?_eq_some_iff.1 hi).1
    simp at this
    exact this
  subst h0
  simp only [List.getElem?_cons_zero, Option.some.injEq] at hi
  subst hi
  refine ⟨_, _, ?_, (r1.keep hb).ss, (r2.keep hb).ms, (r1.keep hb).plain, (r2.keep hb).plain⟩
  intro j u hj
  have h1 := (Blk.new w #[.int .i64 (t.head.height), .int .i64 (t.head.epoch), .int .i64 (t.head.view), .bool t.head.last, .string ⟨List.toArray (t.head.parent)⟩, .string ⟨List.toArray (t.head.state)⟩, .string ⟨List.toArray (t.head.receipts)⟩, .string ⟨List.toArray (t.head.txs)⟩, .string ⟨List.toArray (t.head.members)⟩, .string ⟨List.toArray (t.head.next)⟩, .slice ka t.head.skips.length kc, .slice ma t.set.length mc, .int .i64 (t.at_)] 27).cell j
  rw [Nat.zero_mul, Nat.zero_add, h1, ← hj]
  simp [tcs]
set_option maxRecDepth 100000 in
set_option maxHeartbeats 8000000 in
theorem tworks_any (w : World) (hk : KT w) :
    Calls Tryd.prog 4 #[] w fun e w' => e = .returned (.bool true) ∧ Below w.heap.size w w' := by
  have q1 := dnew_any 1000 (by omega) (by omega) w
  go_enter Tryd.func4, Tryd.ntmps4
  go_wp2_with fail
  refine q1.mono ?_
  rintro e w1 ⟨rfl, hD, hb1⟩
  have q2 := topen_empty [w.heap.size] w.heap.size ⟨[], 0, 1000, -1, false⟩ 10 (by omega) (by omega) rfl (by simp) (by rfl) w1 hD
  rw [show (syncD ⟨[], 0, 1000, -1, false⟩).1 = ⟨[], 0, 1000, -1, false⟩ from by rfl] at q2
  have hpl : w.heap.size < w1.heap.size := by
    obtain ⟨_, _, h⟩ := hD.row
    exact h.lt
  clear q1 hD
  go_wp2_with fail
  refine q2.mono ?_
  rintro e w2 ⟨j, m, q, rfl, hj, hjm, hmq, hJ, hD, ho, hQ, m2⟩
  have hb2 := Below.mod hb1 m2 hb1.size (by simp)
  have hs1 := hb1.size
  have hql := hQ.lt
  have hM : TrM w2 w2.heap.size m [] := TrM.nil ho
  have q3 := some_any 1 5 w2 (by omega) (by omega) (hk.keep hb2)
  obtain ⟨t, ht⟩ : ∃ t, t = someT 1 5 := ⟨_, rfl⟩
  have t1 : t.head.height = 3 := by rw [ht]; rfl
  have t2 : t.at_ = 5 := by rw [ht]; rfl
  have t3 : t.head.skips = [] := by rw [ht]; rfl
  have t4 : t.set.length = 1 := by rw [ht]; rfl
  have t5 : fineT t = true := by rw [ht]; exact some_fine 1 5 (by omega) (by omega) (by omega) (by omega)
  have t6 : (writT t).length ≤ 430 := by rw [ht]; exact some_len 1 5
  rw [← ht] at q3
  clear ht q2 ho hb1
  have hmay : mayR (batchT [t]) = true := may_small _ 431 (by intro x hx; simp [batchT] at hx; subst hx; simp; omega) (by simp [batchT]) (by omega)
  have hrl := rec_len (batchT [t]) 431 (by intro x hx; simp [batchT] at hx; subst hx; simp; omega)
  have hwr := writeD_ok ⟨[], 0, 1000, -1, false⟩ (batchT [t]) rfl (by simp) (by simp [batchT] at hrl ⊢; omega)
  have hadd : addD ⟨[], 0, 1000, -1, false⟩ [] [t] = ((writeD ⟨[], 0, 1000, -1, false⟩ (batchT [t])).1, [(3, t)], 0, tornD (writeD ⟨[], 0, 1000, -1, false⟩ (batchT [t])).2) := addD_yes (by simp [t5]) (by rw [addsT_step (clashT_new (by simp [hts])), putK_new (by simp [hts]), t1]; rfl) (by simp) (by rw [hwr])
  have HT1 := Lib.hid t1
  have HT2 := Lib.hid t2
  have HT3 := Lib.hid t3
  have HT4 := Lib.hid t4
  have HADD := Lib.hid hadd
  have HMAY := Lib.hid hmay
  have HMM := Lib.hid hM
  have HQQ := Lib.hid hQ
  have HDD := Lib.hid hD
  have HJJ := Lib.hid hJ
  have HKT := Lib.hid hk
  clear hwr hrl t5 t6 t1 t2 t3 t4 hadd hmay hM hQ hD hJ hk m2
  go_wp2_with fail
  refine q3.mono ?_
  rintro e w3 ⟨v, rfl, ⟨sk, ms, rfl, r1, r2⟩, hb⟩
  obtain ⟨ka, kc, rfl⟩ := r1.form
  obtain ⟨ma, mc, rfl⟩ := r2.form
  have hb3 := hb2.trans (hb.mono hb2.size)
  have hs2 := hb.size
  have hbt := Below.allocS hb (.cells #[.int .i64 (t.head.height), .int .i64 (t.head.epoch), .int .i64 (t.head.view), .bool t.head.last, .string ⟨List.toArray (t.head.parent)⟩, .string ⟨List.toArray (t.head.state)⟩, .string ⟨List.toArray (t.head.receipts)⟩, .string ⟨List.toArray (t.head.txs)⟩, .string ⟨List.toArray (t.head.members)⟩, .string ⟨List.toArray (t.head.next)⟩, .slice ka t.head.skips.length kc, .slice ma t.set.length mc, .int .i64 (t.at_)] 27)
  have hb4 := hb2.trans (hbt.mono hb2.size)
  have hTL := TL.one r1 r2
  have q4 := tadd_any [q, m, j, w.heap.size] w2.heap.size w.heap.size j q m 10 ⟨[], 0, 1000, -1, false⟩ [] _ [t] (by simp) (by simp) HMAY.out (by simp) (by simp) (by simp) (by intro x hx; rw [List.mem_singleton] at hx; subst hx; rw [HT3.out, HT4.out, HT1.out]; simp) _ (HKT.out.keep hb4) (HDD.out.keep hbt) (HJJ.out.keep hbt) (by omega) (by simp) (by simp) (by intro x hx; simp at hx; simp; omega) (by omega) (by omega) hql (by omega) (by omega) (by simp; omega) (HQQ.out.keep hbt) (HMM.out.keep hbt) hTL
  rw [HADD.out] at q4
  clear q3 r1 r2 hTL hb hb3
  go_wp2_with fail
  refine q4.mono ?_
  rintro e w5 ⟨m', rfl, hQ5, hM5, _, _, m5⟩
  have hb5 := Below.mod hb4 m5 hb4.size (by simp; omega)
  have hs5 := hb5.size
  have q5 := tat_any w2.heap.size q m' 10 (.pointer (some ⟨j, 0, none⟩)) [(3, t)] 3 14 t (by omega) (by omega) (by omega) (by simp) (by rw [HT3.out]; simp) (by rw [HT4.out]; omega) w5 hM5 hQ5
  rw [show staleT 10 14 t = false from by unfold staleT; rw [HT2.out]; rfl] at q5
  simp only [Bool.false_eq_true, ↓reduceIte] at q5
  clear q4 m5 hb4 hbt hb2
  go_wp2_with fail
  refine q5.mono ?_
  rintro e w6 ⟨v6, rfl, ⟨sk, ms, rfl, r1, r2⟩, hb⟩
  obtain ⟨xa, xc, rfl⟩ := r1.form
  obtain ⟨ya, yc, rfl⟩ := r2.form
  have hM6 := hM5.keep hb
  have hQ6 := hQ5.keep hb
  have hb6 := hb5.trans (hb.mono hb5.size)
  have hs6 := hb6.size
  clear q5 hM5 hQ5 hb hb5
  go_wp2_with (first | (refine wpList_rowStore row_trust rfl rfl (.tmp 5) (.tmp 40) rfl rfl rfl (vs := [.int .i64 (t.head.height), .int .i64 (t.head.epoch), .int .i64 (t.head.view), .bool t.head.last, .string ⟨List.toArray (t.head.parent)⟩, .string ⟨List.toArray (t.head.state)⟩, .string ⟨List.toArray (t.head.receipts)⟩, .string ⟨List.toArray (t.head.txs)⟩, .string ⟨List.toArray (t.head.members)⟩, .string ⟨List.toArray (t.head.next)⟩, .slice xa t.head.skips.length xc, .slice ya t.set.length yc, .int .i64 (t.at_)]) rfl (by simp [Value.oneCell']) (us := [.int .i64 (0), .int .i64 (0), .int .i64 (0), .bool false, .string ⟨List.toArray ([])⟩, .string ⟨List.toArray ([])⟩, .string ⟨List.toArray ([])⟩, .string ⟨List.toArray ([])⟩, .string ⟨List.toArray ([])⟩, .string ⟨List.toArray ([])⟩, .slice none 0 0, .slice none 0 0, .int .i64 (0)]) rfl (Blk.new' (by simp)) ?_; intro w7 N7 m7; have hbn := Below.mod (Below.allocS (Below.refl w6.heap.size w6) (.cells #[.int .i64 (0), .int .i64 (0), .int .i64 (0), .bool false, .string ⟨List.toArray ([])⟩, .string ⟨List.toArray ([])⟩, .string ⟨List.toArray ([])⟩, .string ⟨List.toArray ([])⟩, .string ⟨List.toArray ([])⟩, .string ⟨List.toArray ([])⟩, .slice none 0 0, .slice none 0 0, .int .i64 (0)] 27)) m7 (by simp) (by simp); have q6 := tat_any w2.heap.size q m' 10 (.pointer (some ⟨j, 0, none⟩)) [(3, t)] 3 15 t (by omega) (by omega) (by omega) (by simp) (by rw [HT3.out]; simp) (by rw [HT4.out]; omega) w7 (hM6.keep hbn) (hQ6.keep hbn); rw [show staleT 10 15 t = true from by unfold staleT; rw [HT2.out]; rfl] at q6; simp only [↓reduceIte] at q6))
  refine q6.mono ?_
  rintro e w8 ⟨v8, rfl, rfl, hb⟩
  have hb7 := hb6.trans (hbn.mono hb6.size)
  have hb8 := hb7.trans (hb.mono hb7.size)
  clear q6 hM6 hQ6 hb hb6 hb7 hbn r1 r2 N7 m7
  obtain ⟨u, hu⟩ : ∃ u, u = someT 2 0 := ⟨_, rfl⟩
  have HU : Hid (codeT (fineT u) = 0) := Lib.hid (by rw [hu, some_fine 2 0 (by omega) (by omega) (by omega) (by omega)]; rfl)
  have HZ : Hid (codeT (fineT ⟨⟨0, 0, 0, false, [], [], [], [], [], [], []⟩, [], 0⟩) = 3) := Lib.hid rfl
  go_wp2_with (first | (refine wpList_rowStore row_trust rfl rfl (.tmp 7) (.tmp 45) rfl rfl rfl (vs := [.int .i64 (0), .int .i64 (0), .int .i64 (0), .bool false, .string ⟨List.toArray ([])⟩, .string ⟨List.toArray ([])⟩, .string ⟨List.toArray ([])⟩, .string ⟨List.toArray ([])⟩, .string ⟨List.toArray ([])⟩, .string ⟨List.toArray ([])⟩, .slice none 0 0, .slice none 0 0, .int .i64 (0)]) rfl (by simp [Value.oneCell']) (us := [.int .i64 (0), .int .i64 (0), .int .i64 (0), .bool false, .string ⟨List.toArray ([])⟩, .string ⟨List.toArray ([])⟩, .string ⟨List.toArray ([])⟩, .string ⟨List.toArray ([])⟩, .string ⟨List.toArray ([])⟩, .string ⟨List.toArray ([])⟩, .slice none 0 0, .slice none 0 0, .int .i64 (0)]) rfl (Blk.new' (by simp)) ?_; intro w9 N9 m9; have hbn := Below.mod (Below.allocS (Below.refl w8.heap.size w8) (.cells #[.int .i64 (0), .int .i64 (0), .int .i64 (0), .bool false, .string ⟨List.toArray ([])⟩, .string ⟨List.toArray ([])⟩, .string ⟨List.toArray ([])⟩, .string ⟨List.toArray ([])⟩, .string ⟨List.toArray ([])⟩, .string ⟨List.toArray ([])⟩, .slice none 0 0, .slice none 0 0, .int .i64 (0)] 27)) m9 (by simp) (by simp); have hb9 := hb8.trans (hbn.mono hb8.size); have q7 := some_any 2 0 w9 (by omega) (by omega) (HKT.out.keep hb9); rw [← hu] at q7))
  refine q7.mono ?_
  rintro e w10 ⟨v, rfl, ⟨sk, ms, rfl, r1, r2⟩, hb⟩
  have hb10 := hb9.trans (hb.mono hb9.size)
  have q8 := tr_check u.head.height u.head.epoch u.head.view u.head.last u.head.parent u.head.state u.head.receipts u.head.txs u.head.members u.head.next u.head.skips _ u.set _ u.at_ w10 r1.ss r2.ms (HKT.out.keep hb10)
  rw [show codeT (fineT ⟨⟨u.head.height, u.head.epoch, u.head.view, u.head.last, u.head.parent, u.head.state, u.head.receipts, u.head.txs, u.head.members, u.head.next, u.head.skips⟩, u.set, u.at_⟩) = 0 from HU.out] at q8
  clear q7 hu r1 r2 hb hb9 hbn N9 m9 hb8
  go_wp2_with fail
  refine q8.mono ?_
  rintro e w11 ⟨rfl, hb⟩
  have hb11 := hb10.trans (hb.mono hb10.size)
  have q9 := tr_check 0 0 0 false [] [] [] [] [] [] [] _ [] _ 0 w11 (SS.nil w11) (MRow.nil w11 0).ms (HKT.out.keep hb11)
  rw [HZ.out] at q9
  clear q8 hb10 hb
  go_wp2_with fail
  refine q9.mono ?_
  rintro e w12 ⟨rfl, hb⟩
  go_wp2_with fail
  go_ret
  exact ⟨rfl, hb11.trans (hb.mono hb11.size)⟩
end Go.Proofs.YtaedgfnfkacimaaDoor

/- There and back: the law's walk. Printed by mktback.py. -/
set_option linter.unusedSimpArgs false
set_option linter.unusedVariables false
namespace Go.Proofs.YtaedgfnfkacimaaDoor
open Go.RowKit Go.WideMaps Go.Maps Go.Sort Go.Shelf Pl

theorem sameTr_self (t : Tr) : sameTr t t = true := by
  unfold sameTr sameHd
  have h : ∀ l : List Bs, sameL l l = true := fun l => by induction l <;> simp_all [sameL]
  simp [h]
set_option maxRecDepth 100000 in
set_option maxHeartbeats 8000000 in
theorem trustback_any (u : Value) (t : Tr) (s : Bs) (w : World) (hu : TV w u t) (hs : s.length ≤ 9223372036854775807) (hk : KT w) :
    Calls Tryd.prog 3 #[u, .string ⟨List.toArray (s)⟩] w fun e w' => e = .returned (.bool true) ∧ Below w.heap.size w w' := by
  obtain ⟨⟨a1, a2, a3, lb, pa, st, rc, tx, me, ne, K⟩, L, ta⟩ := t
  obtain ⟨sk, ms, rfl, h1, h2⟩ := hu
  simp only at h1 h2
  obtain ⟨ka, kc, rfl⟩ := h1.form
  obtain ⟨ma, mc, rfl⟩ := h2.form
  have B0 : Blk (w.alloc (.cells #[.int .i64 (a1), .int .i64 (a2), .int .i64 (a3), .bool lb, .string ⟨List.toArray (pa)⟩, .string ⟨List.toArray (st)⟩, .string ⟨List.toArray (rc)⟩, .string ⟨List.toArray (tx)⟩, .string ⟨List.toArray (me)⟩, .string ⟨List.toArray (ne)⟩, .slice ka K.length kc, .slice ma L.length mc, .int .i64 (ta)] 27)) w.heap.size #[.int .i64 (a1), .int .i64 (a2), .int .i64 (a3), .bool lb, .string ⟨List.toArray (pa)⟩, .string ⟨List.toArray (st)⟩, .string ⟨List.toArray (rc)⟩, .string ⟨List.toArray (tx)⟩, .string ⟨List.toArray (me)⟩, .string ⟨List.toArray (ne)⟩, .slice ka K.length kc, .slice ma L.length mc, .int .i64 (ta)] := Blk.new _ _ _
  have hb0 : Below w.heap.size w (w.alloc (.cells #[.int .i64 (a1), .int .i64 (a2), .int .i64 (a3), .bool lb, .string ⟨List.toArray (pa)⟩, .string ⟨List.toArray (st)⟩, .string ⟨List.toArray (rc)⟩, .string ⟨List.toArray (tx)⟩, .string ⟨List.toArray (me)⟩, .string ⟨List.toArray (ne)⟩, .slice ka K.length kc, .slice ma L.length mc, .int .i64 (ta)] 27)) := Below.allocS (Below.refl _ _) _
  have q1 := tworks_any _ (hk.keep hb0)
  have HK := Lib.hid hk
  have H1 := Lib.hid h1
  have H2 := Lib.hid h2
  clear h1 h2 hk
  go_enter Tryd.func3, Tryd.ntmps3
  go_wp2_with fail
  refine q1.mono ?_
  rintro e w1 ⟨rfl, hb⟩
  have B1 := B0.keep hb
  have hb1 := hb0.trans (hb.mono hb0.size)
  have q2 := big_any _ ⟨⟨a1, a2, a3, lb, pa, st, rc, tx, me, ne, K⟩, L, ta⟩ w1 ⟨_, _, rfl, H1.out.keep hb1, H2.out.keep hb1⟩
  clear q1 hb hb0 B0
  generalize bigT ⟨⟨a1, a2, a3, lb, pa, st, rc, tx, me, ne, K⟩, L, ta⟩ = bg at *
  go_wp2_with (first | (refine wpList_rowLoad row_trust rfl (.tmp 2) rfl rfl (vs := [.int .i64 (a1), .int .i64 (a2), .int .i64 (a3), .bool lb, .string ⟨List.toArray (pa)⟩, .string ⟨List.toArray (st)⟩, .string ⟨List.toArray (rc)⟩, .string ⟨List.toArray (tx)⟩, .string ⟨List.toArray (me)⟩, .string ⟨List.toArray (ne)⟩, .slice ka K.length kc, .slice ma L.length mc, .int .i64 (ta)]) rfl B1 ?_))
  refine q2.mono ?_
  rintro e w2 ⟨rfl, hb⟩
  have B2 := B1.keep hb
  have hb2 := hb1.trans (hb.mono hb1.size)
  clear q2 hb hb1 B1
  cases bg
  · by_cases hl : s.length ≤ 2000
    · have g1 : decide (2000 < (s.length : Int)) = false := by rw [decide_eq_false_iff_not]; omega
      rcases decT_two s with ⟨e1, e2, e3⟩ | e0
      · have q3 := tr_decode s (by omega) w2 (HK.out.keep hb2)
        rw [e1] at q3
        generalize (decT s).1 = x at *
        subst e3
        obtain ⟨⟨d1, d2, d3, eb, pb, su, rd, ty, mf, nf, K2⟩, L2, tb⟩ := x
        obtain ⟨_, _, _, hdg⟩ := fineT_parts e2
        have hen := encTR_yes e2
        simp only at hdg
        have HDG := Lib.hid hdg
        have HEN := Lib.hid hen
        generalize writT ⟨⟨d1, d2, d3, eb, pb, su, rd, ty, mf, nf, K2⟩, L2, tb⟩ = X at *
        have q4 := fun (W : World) (sk ms : Value) (h1 : SS W sk K2) (h2 : MS W ms L2) (hk : KT W) => tr_encode d1 d2 d3 eb pb su rd ty mf nf K2 sk L2 ms tb W h1 h2 hk
        rw [HEN.out] at q4
        clear hdg hen e1 e2
        go_wp2_with fail
        refine q3.mono ?_
        rintro e w3 ⟨v, rfl, ⟨sk, ms, rfl, r1, r2⟩, hb⟩
        simp only at r1 r2
        obtain ⟨va, vc, rfl⟩ := r1.form
        obtain ⟨ua, uc, rfl⟩ := r2.form
        have B3 := B2.keep hb
        have hb3 := hb2.trans (hb.mono hb2.size)
        clear q3 hb B2 hb2
        go_wp2_with (first | (refine wpList_rowStore row_trust rfl rfl (.tmp 5) (.tmp 27) rfl rfl rfl (vs := [.int .i64 (d1), .int .i64 (d2), .int .i64 (d3), .bool eb, .string ⟨List.toArray (pb)⟩, .string ⟨List.toArray (su)⟩, .string ⟨List.toArray (rd)⟩, .string ⟨List.toArray (ty)⟩, .string ⟨List.toArray (mf)⟩, .string ⟨List.toArray (nf)⟩, .slice va K2.length vc, .slice ua L2.length uc, .int .i64 (tb)]) rfl (by simp [Value.oneCell']) (us := [.int .i64 (0), .int .i64 (0), .int .i64 (0), .bool false, .string ⟨List.toArray ([])⟩, .string ⟨List.toArray ([])⟩, .string ⟨List.toArray ([])⟩, .string ⟨List.toArray ([])⟩, .string ⟨List.toArray ([])⟩, .string ⟨List.toArray ([])⟩, .slice none 0 0, .slice none 0 0, .int .i64 (0)]) rfl (Blk.new' (by simp)) ?_; intro w4 N4 m4) | (refine wpList_rowLoad row_trust rfl (.tmp 5) rfl rfl (vs := [.int .i64 (d1), .int .i64 (d2), .int .i64 (d3), .bool eb, .string ⟨List.toArray (pb)⟩, .string ⟨List.toArray (su)⟩, .string ⟨List.toArray (rd)⟩, .string ⟨List.toArray (ty)⟩, .string ⟨List.toArray (mf)⟩, .string ⟨List.toArray (nf)⟩, .slice va K2.length vc, .slice ua L2.length uc, .int .i64 (tb)]) rfl N4 ?_))
        have hbn := Below.mod (Below.allocS (Below.refl w3.heap.size w3) (.cells #[.int .i64 (0), .int .i64 (0), .int .i64 (0), .bool false, .string ⟨List.toArray ([])⟩, .string ⟨List.toArray ([])⟩, .string ⟨List.toArray ([])⟩, .string ⟨List.toArray ([])⟩, .string ⟨List.toArray ([])⟩, .string ⟨List.toArray ([])⟩, .slice none 0 0, .slice none 0 0, .int .i64 (0)] 27)) m4 (by simp) (by simp)
        have hb4 := hb3.trans (hbn.mono hb3.size)
        have B4 := B3.keep hbn
        have x1 := r1.keep hbn
        have x2 := r2.keep hbn
        refine (q4 _ _ _ x1.ss x2.ms (HK.out.keep hb4)).mono ?_
        rintro e w5 ⟨rfl, hb⟩
        have hb5 := hb4.trans (hb.mono hb4.size)
        have B5 := B4.keep hb
        have N5 := N4.keep hb
        have x3 := x2.keep hb
        clear q4 hb B4 hb4 hbn B3 hb3 N4 m4 r1 r2 x1 x2
        have q5 := fun (W : World) (h : MS W (.slice ua L2.length uc) L2) (hk : KT W) => mdigest_any _ L2 W h hk
        rw [HDG.out] at q5
        go_wp2_with fail
        refine wpH_start (by kernel_rfl) (fun hS => ?_)
        (refine wpH_pure 0 ?_ (oi := { dst := some 36, op := Op.move (Operand.tmp 7), type := 9, pos := "theorems.go:46", after := #[], guard := none }) rfl (by kernel_rfl) (by kernel_rfl) (by kernel_rfl) (by rfl) hS (fun _ _ _ h => h) ?_ ?_; rotate_left; focus (intro w; go_simp; try with_reducible rfl))
        try simp only [Act.put, List.setIfInBounds_toArray, List.set_cons_zero, List.set_cons_succ]
        (refine wpH_pure 1 ?_ (oi := { dst := some 37, op := Op.move (Operand.tmp 1), type := 9, pos := "theorems.go:46", after := #[], guard := none }) rfl (by kernel_rfl) (by kernel_rfl) (by kernel_rfl) (by rfl) hS (fun _ _ _ h => h) ?_ ?_; rotate_left; focus (intro w; go_simp; try with_reducible rfl))
        try simp only [Act.put, List.setIfInBounds_toArray, List.set_cons_zero, List.set_cons_succ]
        (refine wpH_pure 2 ?_ (oi := { dst := some 38, op := Op.binOp BinOp.neq 9 (Operand.tmp 36) (Operand.tmp 37) 9, type := 4, pos := "theorems.go:46", after := #[{ on := 0, ground := Ground.data }, { on := 1, ground := Ground.data }], guard := none }) rfl (by kernel_rfl) (by kernel_rfl) (by kernel_rfl) (by rfl) hS (fun _ _ _ h => h) ?_ ?_; rotate_left; focus (intro w; go_simp; try with_reducible rfl))
        try simp only [Act.put, List.setIfInBounds_toArray, List.set_cons_zero, List.set_cons_succ]
        (refine wpH_pure 3 ?_ (oi := { dst := some 39, op := Op.move (Operand.tmp 38), type := 4, pos := "theorems.go:46", after := #[{ on := 2, ground := Ground.data }], guard := none }) rfl (by kernel_rfl) (by kernel_rfl) (by kernel_rfl) (by rfl) hS (fun _ _ _ h => h) ?_ ?_; rotate_left; focus (intro w; go_simp; try with_reducible rfl))
        try simp only [Act.put, List.setIfInBounds_toArray, List.set_cons_zero, List.set_cons_succ]
        (first | (refine wpH_skip 4 (oi := { dst := some 40, op := Op.move (Operand.tmp 8), type := 30, pos := "theorems.go:46", after := #[{ on := 3, ground := Ground.guard }], guard := some (3, false) }) rfl (by kernel_rfl) (by kernel_rfl) (by kernel_rfl) (by rfl) hS (fun _ _ _ h => h) ?_) | (refine wpH_pure 4 ?_ (oi := { dst := some 40, op := Op.move (Operand.tmp 8), type := 30, pos := "theorems.go:46", after := #[{ on := 3, ground := Ground.guard }], guard := some (3, false) }) rfl (by kernel_rfl) (by kernel_rfl) (by kernel_rfl) (by rfl) hS (fun _ _ _ h => h) ?_ ?_; rotate_left; focus (intro w; go_simp; try with_reducible rfl)))
        try simp only [Act.put, List.setIfInBounds_toArray, List.set_cons_zero, List.set_cons_succ]
        (first | (refine wpH_skip 5 (oi := { dst := some 41, op := Op.binOp BinOp.neq 30 (Operand.tmp 40) (Operand.const (Value.int IntKind.i64 0)) 30, type := 4, pos := "theorems.go:46", after := #[{ on := 4, ground := Ground.data }, { on := 3, ground := Ground.guard }], guard := some (3, false) }) rfl (by kernel_rfl) (by kernel_rfl) (by kernel_rfl) (by rfl) hS (fun _ _ _ h => h) ?_) | (refine wpH_pure 5 ?_ (oi := { dst := some 41, op := Op.binOp BinOp.neq 30 (Operand.tmp 40) (Operand.const (Value.int IntKind.i64 0)) 30, type := 4, pos := "theorems.go:46", after := #[{ on := 4, ground := Ground.data }, { on := 3, ground := Ground.guard }], guard := some (3, false) }) rfl (by kernel_rfl) (by kernel_rfl) (by kernel_rfl) (by rfl) hS (fun _ _ _ h => h) ?_ ?_; rotate_left; focus (intro w; go_simp; try with_reducible rfl)))
        try simp only [Act.put, List.setIfInBounds_toArray, List.set_cons_zero, List.set_cons_succ]
        (refine wpH_pure 6 ?_ (oi := { dst := some 42, op := Op.pick (Operand.tmp 39) (Operand.const (Value.bool true)) (Operand.tmp 41), type := 4, pos := "theorems.go:46", after := #[{ on := 3, ground := Ground.data }, { on := 5, ground := Ground.data }], guard := none }) rfl (by kernel_rfl) (by kernel_rfl) (by kernel_rfl) (by rfl) hS (fun _ _ _ h => h) ?_ ?_; rotate_left; focus (intro w; go_simp; try with_reducible rfl))
        try simp only [Act.put, List.setIfInBounds_toArray, List.set_cons_zero, List.set_cons_succ]
        (refine wpH_pure 7 ?_ (oi := { dst := some 43, op := Op.move (Operand.tmp 42), type := 4, pos := "theorems.go:46", after := #[{ on := 6, ground := Ground.data }, { on := 3, ground := Ground.chain }], guard := none }) rfl (by kernel_rfl) (by kernel_rfl) (by kernel_rfl) (by rfl) hS (fun _ _ _ h => h) ?_ ?_; rotate_left; focus (intro w; go_simp; try with_reducible rfl))
        try simp only [Act.put, List.setIfInBounds_toArray, List.set_cons_zero, List.set_cons_succ]
        (first | (refine wpH_skip 8 (oi := { dst := some 44, op := Op.fieldAddr 27 (Operand.tmp 5) 1, type := 0, pos := "theorems.go:46", after := #[{ on := 7, ground := Ground.guard }], guard := some (7, false) }) rfl (by kernel_rfl) (by kernel_rfl) (by kernel_rfl) (by rfl) hS (fun _ _ _ h => h) ?_) | (refine wpH_pure 8 ?_ (oi := { dst := some 44, op := Op.fieldAddr 27 (Operand.tmp 5) 1, type := 0, pos := "theorems.go:46", after := #[{ on := 7, ground := Ground.guard }], guard := some (7, false) }) rfl (by kernel_rfl) (by kernel_rfl) (by kernel_rfl) (by rfl) hS (fun _ _ _ h => h) ?_ ?_; rotate_left; focus (intro w; go_simp; try with_reducible rfl)))
        try simp only [Act.put, List.setIfInBounds_toArray, List.set_cons_zero, List.set_cons_succ]
        refine wpH_load 9 (.slice ua L2.length uc) (oi := { dst := some 45, op := Op.load 25 (Operand.tmp 44), type := 25, pos := "theorems.go:46", after := #[{ on := 8, ground := Ground.data }, { on := 7, ground := Ground.guard }], guard := some (7, false) }) rfl (by kernel_rfl) (by kernel_rfl) (by kernel_rfl) (by rfl) hS (fun _ _ _ h => h) (fun w hb2 => (by have c := (N5.keep hb2).cell 11; go_simp; try rfl)) ?_
        try simp only [Act.put, List.setIfInBounds_toArray, List.set_cons_zero, List.set_cons_succ]
        (first | (refine wpH_skip 11 (oi := { dst := some 47, op := Op.fieldAddr 27 (Operand.tmp 5) 0, type := 0, pos := "theorems.go:46", after := #[{ on := 7, ground := Ground.guard }], guard := some (7, false) }) rfl (by kernel_rfl) (by kernel_rfl) (by kernel_rfl) (by rfl) hS (fun _ _ _ h => h) ?_) | (refine wpH_pure 11 ?_ (oi := { dst := some 47, op := Op.fieldAddr 27 (Operand.tmp 5) 0, type := 0, pos := "theorems.go:46", after := #[{ on := 7, ground := Ground.guard }], guard := some (7, false) }) rfl (by kernel_rfl) (by kernel_rfl) (by kernel_rfl) (by rfl) hS (fun _ _ _ h => h) ?_ ?_; rotate_left; focus (intro w; go_simp; try with_reducible rfl)))
        try simp only [Act.put, List.setIfInBounds_toArray, List.set_cons_zero, List.set_cons_succ]
        (first | (refine wpH_skip 12 (oi := { dst := some 48, op := Op.fieldAddr 24 (Operand.tmp 47) 9, type := 0, pos := "theorems.go:46", after := #[{ on := 11, ground := Ground.data }, { on := 7, ground := Ground.guard }], guard := some (7, false) }) rfl (by kernel_rfl) (by kernel_rfl) (by kernel_rfl) (by rfl) hS (fun _ _ _ h => h) ?_) | (refine wpH_pure 12 ?_ (oi := { dst := some 48, op := Op.fieldAddr 24 (Operand.tmp 47) 9, type := 0, pos := "theorems.go:46", after := #[{ on := 11, ground := Ground.data }, { on := 7, ground := Ground.guard }], guard := some (7, false) }) rfl (by kernel_rfl) (by kernel_rfl) (by kernel_rfl) (by rfl) hS (fun _ _ _ h => h) ?_ ?_; rotate_left; focus (intro w; go_simp; try with_reducible rfl)))
        try simp only [Act.put, List.setIfInBounds_toArray, List.set_cons_zero, List.set_cons_succ]
        refine wpH_load 13 (.string ⟨List.toArray (nf)⟩) (oi := { dst := some 49, op := Op.load 9 (Operand.tmp 48), type := 9, pos := "theorems.go:46", after := #[{ on := 12, ground := Ground.data }, { on := 7, ground := Ground.guard }], guard := some (7, false) }) rfl (by kernel_rfl) (by kernel_rfl) (by kernel_rfl) (by rfl) hS (fun _ _ _ h => h) (fun w hb2 => (by have c := (N5.keep hb2).cell 9; go_simp; try rfl)) ?_
        try simp only [Act.put, List.setIfInBounds_toArray, List.set_cons_zero, List.set_cons_succ]
        refine wpH_call 10 (oi := { dst := some 46, op := Op.call { callee := Callee.value (Operand.func 8), args := #[Operand.tmp 45], argTypes := #[25] }, type := 9, pos := "theorems.go:46", after := #[{ on := 9, ground := Ground.data }, { on := 7, ground := Ground.chain }, { on := 7, ground := Ground.guard }], guard := some (7, false) }) rfl (by kernel_rfl) (by rfl) (q5 _ (x3.keep hS).ms (HK.out.keep (hb5.trans (hS.mono hb5.size)))) ?_ ?_
        · (go_simp; try rfl)
        rintro e w' ⟨rfl, hbx⟩
        refine ⟨_, rfl, hS.trans (hbx.mono hS.size), ?_⟩
        replace hS := hS.trans (hbx.mono hS.size)
        try simp only [Act.put, List.setIfInBounds_toArray, List.set_cons_zero, List.set_cons_succ]
        (first | (refine wpH_skip 14 (oi := { dst := some 50, op := Op.binOp BinOp.neq 9 (Operand.tmp 46) (Operand.tmp 49) 9, type := 4, pos := "theorems.go:46", after := #[{ on := 10, ground := Ground.data }, { on := 13, ground := Ground.data }, { on := 7, ground := Ground.guard }], guard := some (7, false) }) rfl (by kernel_rfl) (by kernel_rfl) (by kernel_rfl) (by rfl) hS (fun _ _ _ h => h) ?_) | (refine wpH_pure 14 ?_ (oi := { dst := some 50, op := Op.binOp BinOp.neq 9 (Operand.tmp 46) (Operand.tmp 49) 9, type := 4, pos := "theorems.go:46", after := #[{ on := 10, ground := Ground.data }, { on := 13, ground := Ground.data }, { on := 7, ground := Ground.guard }], guard := some (7, false) }) rfl (by kernel_rfl) (by kernel_rfl) (by kernel_rfl) (by rfl) hS (fun _ _ _ h => h) ?_ ?_; rotate_left; focus (intro w; go_simp; try with_reducible rfl)))
        try simp only [Act.put, List.setIfInBounds_toArray, List.set_cons_zero, List.set_cons_succ]
        (refine wpH_pure 15 ?_ (oi := { dst := some 51, op := Op.pick (Operand.tmp 43) (Operand.const (Value.bool true)) (Operand.tmp 50), type := 4, pos := "theorems.go:46", after := #[{ on := 7, ground := Ground.data }, { on := 14, ground := Ground.data }], guard := none }) rfl (by kernel_rfl) (by kernel_rfl) (by kernel_rfl) (by rfl) hS (fun _ _ _ h => h) ?_ ?_; rotate_left; focus (intro w; go_simp; try with_reducible rfl))
        try simp only [Act.put, List.setIfInBounds_toArray, List.set_cons_zero, List.set_cons_succ]
        refine wpAnyH_done (by kernel_rfl) ?_ _
        have Bq := B5.keep hS
        have hbq := hb5.trans (hS.mono hb5.size)
        clear hS B5 hb5 N5 x3 q5
        have q6 := tr_encode a1 a2 a3 lb pa st rc tx me ne K _ L _ ta _ (H1.out.keep hbq) (H2.out.keep hbq) (HK.out.keep hbq)
        cases hft : fineT ⟨⟨a1, a2, a3, lb, pa, st, rc, tx, me, ne, K⟩, L, ta⟩
        · rw [encTR_no hft] at q6
          have q7 := fun (W : World) (hb : Below w.heap.size w W) => tr_check a1 a2 a3 lb pa st rc tx me ne K _ L _ ta W (H1.out.keep hb) (H2.out.keep hb) (HK.out.keep hb)
          rw [hft, show codeT false = 3 from rfl] at q7
          clear hft
          go_wp2_with (first | (refine wpList_rowLoad row_trust rfl (.tmp 2) rfl rfl (vs := [.int .i64 (a1), .int .i64 (a2), .int .i64 (a3), .bool lb, .string ⟨List.toArray (pa)⟩, .string ⟨List.toArray (st)⟩, .string ⟨List.toArray (rc)⟩, .string ⟨List.toArray (tx)⟩, .string ⟨List.toArray (me)⟩, .string ⟨List.toArray (ne)⟩, .slice ka K.length kc, .slice ma L.length mc, .int .i64 (ta)]) rfl Bq ?_))
          refine q6.mono ?_
          rintro e w6 ⟨rfl, hb⟩
          have B6 := Bq.keep hb
          have hb6 := hbq.trans (hb.mono hbq.size)
          clear q6 hb Bq hbq
          go_wp2_with (first | (refine wpList_rowLoadG row_trust ?hw (.tmp 2) rfl rfl (vs := [.int .i64 (a1), .int .i64 (a2), .int .i64 (a3), .bool lb, .string ⟨List.toArray (pa)⟩, .string ⟨List.toArray (st)⟩, .string ⟨List.toArray (rc)⟩, .string ⟨List.toArray (tx)⟩, .string ⟨List.toArray (me)⟩, .string ⟨List.toArray (ne)⟩, .slice ka K.length kc, .slice ma L.length mc, .int .i64 (ta)]) rfl B6 ?_; (case hw => rfl)))
          refine (q7 _ hb6).mono ?_
          rintro e w7 ⟨rfl, hb⟩
          go_wp2_with fail
          all_goals (go_ret; exact ⟨rfl, hb6.trans (hb.mono hb6.size)⟩)
        · rw [encTR_yes hft] at q6
          have hwl := writT_len hft
          have q8 := fun (W : World) (hk : KT W) => tr_decode (writT ⟨⟨a1, a2, a3, lb, pa, st, rc, tx, me, ne, K⟩, L, ta⟩) (by omega) W hk
          rw [decT_writ hft] at q8
          have q9 := fun (W : World) (hk : KT W) => tr_decode (writT ⟨⟨a1, a2, a3, lb, pa, st, rc, tx, me, ne, K⟩, L, ta⟩ ++ [0]) (by rw [List.length_append]; simp; omega) W hk
          rw [decT_more hft, show trZ = ⟨⟨0, 0, 0, false, [], [], [], [], [], [], []⟩, [], 0⟩ from rfl] at q9
          have q10 := fun (u v : Value) (W : World) (hu : TV W u ⟨⟨a1, a2, a3, lb, pa, st, rc, tx, me, ne, K⟩, L, ta⟩) (hv : TV W v ⟨⟨a1, a2, a3, lb, pa, st, rc, tx, me, ne, K⟩, L, ta⟩) => sametr_any u v _ _ W hu hv
          rw [sameTr_self] at q10
          generalize writT ⟨⟨a1, a2, a3, lb, pa, st, rc, tx, me, ne, K⟩, L, ta⟩ = Y at *
          have hcat : ¬ 9223372036854775807 < Y.length + 1 := by omega
          clear hft hwl
          go_wp2_with (first | (refine wpList_rowLoad row_trust rfl (.tmp 2) rfl rfl (vs := [.int .i64 (a1), .int .i64 (a2), .int .i64 (a3), .bool lb, .string ⟨List.toArray (pa)⟩, .string ⟨List.toArray (st)⟩, .string ⟨List.toArray (rc)⟩, .string ⟨List.toArray (tx)⟩, .string ⟨List.toArray (me)⟩, .string ⟨List.toArray (ne)⟩, .slice ka K.length kc, .slice ma L.length mc, .int .i64 (ta)]) rfl Bq ?_))
          refine q6.mono ?_
          rintro e w6 ⟨rfl, hb⟩
          have B6 := Bq.keep hb
          have hb6 := hbq.trans (hb.mono hbq.size)
          clear q6 hb Bq hbq
          go_wp2_with fail
          refine (q8 _ (HK.out.keep hb6)).mono ?_
          rintro e w7 ⟨v, rfl, ⟨sk, ms, rfl, r1, r2⟩, hb⟩
          simp only at r1 r2
          obtain ⟨za, zc, rfl⟩ := r1.form
          obtain ⟨ya, yc, rfl⟩ := r2.form
          have B7 := B6.keep hb
          have hb7 := hb6.trans (hb.mono hb6.size)
          clear q8 hb B6 hb6
          go_wp2_with (first | (refine wpList_rowStore row_trust rfl rfl (.tmp 11) (.tmp 81) rfl rfl rfl (vs := [.int .i64 (a1), .int .i64 (a2), .int .i64 (a3), .bool lb, .string ⟨List.toArray (pa)⟩, .string ⟨List.toArray (st)⟩, .string ⟨List.toArray (rc)⟩, .string ⟨List.toArray (tx)⟩, .string ⟨List.toArray (me)⟩, .string ⟨List.toArray (ne)⟩, .slice za K.length zc, .slice ya L.length yc, .int .i64 (ta)]) rfl (by simp [Value.oneCell']) (us := [.int .i64 (0), .int .i64 (0), .int .i64 (0), .bool false, .string ⟨List.toArray ([])⟩, .string ⟨List.toArray ([])⟩, .string ⟨List.toArray ([])⟩, .string ⟨List.toArray ([])⟩, .string ⟨List.toArray ([])⟩, .string ⟨List.toArray ([])⟩, .slice none 0 0, .slice none 0 0, .int .i64 (0)]) rfl (Blk.new' (by simp)) ?_; intro w8 N8 m8; have hbn := Below.mod (Below.allocS (Below.refl w7.heap.size w7) (.cells #[.int .i64 (0), .int .i64 (0), .int .i64 (0), .bool false, .string ⟨List.toArray ([])⟩, .string ⟨List.toArray ([])⟩, .string ⟨List.toArray ([])⟩, .string ⟨List.toArray ([])⟩, .string ⟨List.toArray ([])⟩, .string ⟨List.toArray ([])⟩, .slice none 0 0, .slice none 0 0, .int .i64 (0)] 27)) m8 (by simp) (by simp); have hb8 := hb7.trans (hbn.mono hb7.size); have B8 := B7.keep hbn; have x1 := r1.keep hbn; have x2 := r2.keep hbn; have q9 := q9 w8 (HK.out.keep hb8)))
          refine q9.mono ?_
          rintro e w9 ⟨v, rfl, ⟨sk, ms, rfl, y1, y2⟩, hb⟩
          simp only at y1 y2
          obtain ⟨ga, gc, rfl⟩ : ∃ (a : Option Addr) (c : Nat), sk = .slice a 0 c := y1.form
          obtain ⟨ha, hc, rfl⟩ : ∃ (a : Option Addr) (c : Nat), ms = .slice a 0 c := y2.form
          have B9 := B8.keep hb
          have N9 := N8.keep hb
          have hb9 := hb8.trans (hb.mono hb8.size)
          have x3 := x1.keep hb
          have x4 := x2.keep hb
          clear q9 hb B7 hb7 r1 r2 y1 y2 N8 m8 hbn hb8 B8 x1 x2
          go_wp2_with (first | (refine wpList_rowStore row_trust rfl rfl (.tmp 13) (.tmp 87) rfl rfl rfl (vs := [.int .i64 (0), .int .i64 (0), .int .i64 (0), .bool false, .string ⟨List.toArray ([])⟩, .string ⟨List.toArray ([])⟩, .string ⟨List.toArray ([])⟩, .string ⟨List.toArray ([])⟩, .string ⟨List.toArray ([])⟩, .string ⟨List.toArray ([])⟩, .slice ga 0 gc, .slice ha 0 hc, .int .i64 (0)]) rfl (by simp [Value.oneCell']) (us := [.int .i64 (0), .int .i64 (0), .int .i64 (0), .bool false, .string ⟨List.toArray ([])⟩, .string ⟨List.toArray ([])⟩, .string ⟨List.toArray ([])⟩, .string ⟨List.toArray ([])⟩, .string ⟨List.toArray ([])⟩, .string ⟨List.toArray ([])⟩, .slice none 0 0, .slice none 0 0, .int .i64 (0)]) rfl (Blk.new' (by simp)) ?_; intro w10 N10 m10; have hbn := Below.mod (Below.allocS (Below.refl w9.heap.size w9) (.cells #[.int .i64 (0), .int .i64 (0), .int .i64 (0), .bool false, .string ⟨List.toArray ([])⟩, .string ⟨List.toArray ([])⟩, .string ⟨List.toArray ([])⟩, .string ⟨List.toArray ([])⟩, .string ⟨List.toArray ([])⟩, .string ⟨List.toArray ([])⟩, .slice none 0 0, .slice none 0 0, .int .i64 (0)] 27)) m10 (by simp) (by simp); have hb10 := hb9.trans (hbn.mono hb9.size); have B10 := B9.keep hbn; have N11 := N9.keep hbn; have x5 := x3.keep hbn; have x6 := x4.keep hbn) | (refine wpList_rowLoad row_trust rfl (.tmp 11) rfl rfl (vs := [.int .i64 (a1), .int .i64 (a2), .int .i64 (a3), .bool lb, .string ⟨List.toArray (pa)⟩, .string ⟨List.toArray (st)⟩, .string ⟨List.toArray (rc)⟩, .string ⟨List.toArray (tx)⟩, .string ⟨List.toArray (me)⟩, .string ⟨List.toArray (ne)⟩, .slice za K.length zc, .slice ya L.length yc, .int .i64 (ta)]) rfl N11 ?_) | (refine wpList_rowLoad row_trust rfl (.tmp 2) rfl rfl (vs := [.int .i64 (a1), .int .i64 (a2), .int .i64 (a3), .bool lb, .string ⟨List.toArray (pa)⟩, .string ⟨List.toArray (st)⟩, .string ⟨List.toArray (rc)⟩, .string ⟨List.toArray (tx)⟩, .string ⟨List.toArray (me)⟩, .string ⟨List.toArray (ne)⟩, .slice ka K.length kc, .slice ma L.length mc, .int .i64 (ta)]) rfl B10 ?_))
          refine (q10 _ _ w10 ⟨_, _, rfl, x5.ss, x6.ms⟩ ⟨_, _, rfl, H1.out.keep hb10, H2.out.keep hb10⟩).mono ?_
          rintro e w11 ⟨rfl, hb⟩
          go_wp2_with fail
          go_ret
          exact ⟨rfl, hb10.trans (hb.mono hb10.size)⟩
      · have q3 := tr_decode s (by omega) w2 (HK.out.keep hb2)
        rw [e0, show trZ = ⟨⟨0, 0, 0, false, [], [], [], [], [], [], []⟩, [], 0⟩ from rfl] at q3
        have q4 := fun (u v : Value) (W : World) (hu : TV W u ⟨⟨0, 0, 0, false, [], [], [], [], [], [], []⟩, [], 0⟩) (hv : TV W v ⟨⟨0, 0, 0, false, [], [], [], [], [], [], []⟩, [], 0⟩) => sametr_any u v _ _ W hu hv
        rw [sameTr_self] at q4
        clear e0
        go_wp2_with fail
        refine q3.mono ?_
        rintro e w3 ⟨v, rfl, ⟨sk, ms, rfl, y1, y2⟩, hb⟩
        simp only at y1 y2
        obtain ⟨ga, gc, rfl⟩ : ∃ (a : Option Addr) (c : Nat), sk = .slice a 0 c := y1.form
        obtain ⟨ha, hc, rfl⟩ : ∃ (a : Option Addr) (c : Nat), ms = .slice a 0 c := y2.form
        have B3 := B2.keep hb
        have hb3 := hb2.trans (hb.mono hb2.size)
        clear q3 hb B2 hb2
        go_wp2_with (first | (refine wpList_rowStore row_trust rfl rfl (.tmp 5) (.tmp 27) rfl rfl rfl (vs := [.int .i64 (0), .int .i64 (0), .int .i64 (0), .bool false, .string ⟨List.toArray ([])⟩, .string ⟨List.toArray ([])⟩, .string ⟨List.toArray ([])⟩, .string ⟨List.toArray ([])⟩, .string ⟨List.toArray ([])⟩, .string ⟨List.toArray ([])⟩, .slice ga 0 gc, .slice ha 0 hc, .int .i64 (0)]) rfl (by simp [Value.oneCell']) (us := [.int .i64 (0), .int .i64 (0), .int .i64 (0), .bool false, .string ⟨List.toArray ([])⟩, .string ⟨List.toArray ([])⟩, .string ⟨List.toArray ([])⟩, .string ⟨List.toArray ([])⟩, .string ⟨List.toArray ([])⟩, .string ⟨List.toArray ([])⟩, .slice none 0 0, .slice none 0 0, .int .i64 (0)]) rfl (Blk.new' (by simp)) ?_; intro w4 N4 m4; have hbn := Below.mod (Below.allocS (Below.refl w3.heap.size w3) (.cells #[.int .i64 (0), .int .i64 (0), .int .i64 (0), .bool false, .string ⟨List.toArray ([])⟩, .string ⟨List.toArray ([])⟩, .string ⟨List.toArray ([])⟩, .string ⟨List.toArray ([])⟩, .string ⟨List.toArray ([])⟩, .string ⟨List.toArray ([])⟩, .slice none 0 0, .slice none 0 0, .int .i64 (0)] 27)) m4 (by simp) (by simp)) | (refine wpList_rowLoadG row_trust ?hw (.tmp 5) rfl rfl (vs := [.int .i64 (0), .int .i64 (0), .int .i64 (0), .bool false, .string ⟨List.toArray ([])⟩, .string ⟨List.toArray ([])⟩, .string ⟨List.toArray ([])⟩, .string ⟨List.toArray ([])⟩, .string ⟨List.toArray ([])⟩, .string ⟨List.toArray ([])⟩, .slice ga 0 gc, .slice ha 0 hc, .int .i64 (0)]) rfl N4 ?_; (case hw => rfl)))
        have hb4 := hb3.trans (hbn.mono hb3.size)
        have B4 := B3.keep hbn
        refine (q4 _ _ w4 ⟨_, _, rfl, (y1.keep hbn).ss, (y2.keep hbn).ms⟩ ⟨_, _, rfl, SS.nil _, (MRow.nil w4 0).ms⟩).mono ?_
        rintro e w5 ⟨rfl, hb⟩
        have Bq := B4.keep hb
        have hbq := hb4.trans (hb.mono hb4.size)
        clear q4 hb B4 hb4 hbn B3 hb3 N4 m4 y1 y2
        have q6 := tr_encode a1 a2 a3 lb pa st rc tx me ne K _ L _ ta _ (H1.out.keep hbq) (H2.out.keep hbq) (HK.out.keep hbq)
        cases hft : fineT ⟨⟨a1, a2, a3, lb, pa, st, rc, tx, me, ne, K⟩, L, ta⟩
        · rw [encTR_no hft] at q6
          have q7 := fun (W : World) (hb : Below w.heap.size w W) => tr_check a1 a2 a3 lb pa st rc tx me ne K _ L _ ta W (H1.out.keep hb) (H2.out.keep hb) (HK.out.keep hb)
          rw [hft, show codeT false = 3 from rfl] at q7
          clear hft
          go_wp2_with (first | (refine wpList_rowLoad row_trust rfl (.tmp 2) rfl rfl (vs := [.int .i64 (a1), .int .i64 (a2), .int .i64 (a3), .bool lb, .string ⟨List.toArray (pa)⟩, .string ⟨List.toArray (st)⟩, .string ⟨List.toArray (rc)⟩, .string ⟨List.toArray (tx)⟩, .string ⟨List.toArray (me)⟩, .string ⟨List.toArray (ne)⟩, .slice ka K.length kc, .slice ma L.length mc, .int .i64 (ta)]) rfl Bq ?_))
          refine q6.mono ?_
          rintro e w6 ⟨rfl, hb⟩
          have B6 := Bq.keep hb
          have hb6 := hbq.trans (hb.mono hbq.size)
          clear q6 hb Bq hbq
          go_wp2_with (first | (refine wpList_rowLoadG row_trust ?hw (.tmp 2) rfl rfl (vs := [.int .i64 (a1), .int .i64 (a2), .int .i64 (a3), .bool lb, .string ⟨List.toArray (pa)⟩, .string ⟨List.toArray (st)⟩, .string ⟨List.toArray (rc)⟩, .string ⟨List.toArray (tx)⟩, .string ⟨List.toArray (me)⟩, .string ⟨List.toArray (ne)⟩, .slice ka K.length kc, .slice ma L.length mc, .int .i64 (ta)]) rfl B6 ?_; (case hw => rfl)))
          refine (q7 _ hb6).mono ?_
          rintro e w7 ⟨rfl, hb⟩
          go_wp2_with fail
          all_goals (go_ret; exact ⟨rfl, hb6.trans (hb.mono hb6.size)⟩)
        · rw [encTR_yes hft] at q6
          have hwl := writT_len hft
          have q8 := fun (W : World) (hk : KT W) => tr_decode (writT ⟨⟨a1, a2, a3, lb, pa, st, rc, tx, me, ne, K⟩, L, ta⟩) (by omega) W hk
          rw [decT_writ hft] at q8
          have q9 := fun (W : World) (hk : KT W) => tr_decode (writT ⟨⟨a1, a2, a3, lb, pa, st, rc, tx, me, ne, K⟩, L, ta⟩ ++ [0]) (by rw [List.length_append]; simp; omega) W hk
          rw [decT_more hft, show trZ = ⟨⟨0, 0, 0, false, [], [], [], [], [], [], []⟩, [], 0⟩ from rfl] at q9
          have q10 := fun (u v : Value) (W : World) (hu : TV W u ⟨⟨a1, a2, a3, lb, pa, st, rc, tx, me, ne, K⟩, L, ta⟩) (hv : TV W v ⟨⟨a1, a2, a3, lb, pa, st, rc, tx, me, ne, K⟩, L, ta⟩) => sametr_any u v _ _ W hu hv
          rw [sameTr_self] at q10
          generalize writT ⟨⟨a1, a2, a3, lb, pa, st, rc, tx, me, ne, K⟩, L, ta⟩ = Y at *
          have hcat : ¬ 9223372036854775807 < Y.length + 1 := by omega
          clear hft hwl
          go_wp2_with (first | (refine wpList_rowLoad row_trust rfl (.tmp 2) rfl rfl (vs := [.int .i64 (a1), .int .i64 (a2), .int .i64 (a3), .bool lb, .string ⟨List.toArray (pa)⟩, .string ⟨List.toArray (st)⟩, .string ⟨List.toArray (rc)⟩, .string ⟨List.toArray (tx)⟩, .string ⟨List.toArray (me)⟩, .string ⟨List.toArray (ne)⟩, .slice ka K.length kc, .slice ma L.length mc, .int .i64 (ta)]) rfl Bq ?_))
          refine q6.mono ?_
          rintro e w6 ⟨rfl, hb⟩
          have B6 := Bq.keep hb
          have hb6 := hbq.trans (hb.mono hbq.size)
          clear q6 hb Bq hbq
          go_wp2_with fail
          refine (q8 _ (HK.out.keep hb6)).mono ?_
          rintro e w7 ⟨v, rfl, ⟨sk, ms, rfl, r1, r2⟩, hb⟩
          simp only at r1 r2
          obtain ⟨za, zc, rfl⟩ := r1.form
          obtain ⟨ya, yc, rfl⟩ := r2.form
          have B7 := B6.keep hb
          have hb7 := hb6.trans (hb.mono hb6.size)
          clear q8 hb B6 hb6
          go_wp2_with (first | (refine wpList_rowStore row_trust rfl rfl (.tmp 11) (.tmp 81) rfl rfl rfl (vs := [.int .i64 (a1), .int .i64 (a2), .int .i64 (a3), .bool lb, .string ⟨List.toArray (pa)⟩, .string ⟨List.toArray (st)⟩, .string ⟨List.toArray (rc)⟩, .string ⟨List.toArray (tx)⟩, .string ⟨List.toArray (me)⟩, .string ⟨List.toArray (ne)⟩, .slice za K.length zc, .slice ya L.length yc, .int .i64 (ta)]) rfl (by simp [Value.oneCell']) (us := [.int .i64 (0), .int .i64 (0), .int .i64 (0), .bool false, .string ⟨List.toArray ([])⟩, .string ⟨List.toArray ([])⟩, .string ⟨List.toArray ([])⟩, .string ⟨List.toArray ([])⟩, .string ⟨List.toArray ([])⟩, .string ⟨List.toArray ([])⟩, .slice none 0 0, .slice none 0 0, .int .i64 (0)]) rfl (Blk.new' (by simp)) ?_; intro w8 N8 m8; have hbn := Below.mod (Below.allocS (Below.refl w7.heap.size w7) (.cells #[.int .i64 (0), .int .i64 (0), .int .i64 (0), .bool false, .string ⟨List.toArray ([])⟩, .string ⟨List.toArray ([])⟩, .string ⟨List.toArray ([])⟩, .string ⟨List.toArray ([])⟩, .string ⟨List.toArray ([])⟩, .string ⟨List.toArray ([])⟩, .slice none 0 0, .slice none 0 0, .int .i64 (0)] 27)) m8 (by simp) (by simp); have hb8 := hb7.trans (hbn.mono hb7.size); have B8 := B7.keep hbn; have x1 := r1.keep hbn; have x2 := r2.keep hbn; have q9 := q9 w8 (HK.out.keep hb8)))
          refine q9.mono ?_
          rintro e w9 ⟨v, rfl, ⟨sk, ms, rfl, y1, y2⟩, hb⟩
          simp only at y1 y2
          obtain ⟨ga, gc, rfl⟩ : ∃ (a : Option Addr) (c : Nat), sk = .slice a 0 c := y1.form
          obtain ⟨ha, hc, rfl⟩ : ∃ (a : Option Addr) (c : Nat), ms = .slice a 0 c := y2.form
          have B9 := B8.keep hb
          have N9 := N8.keep hb
          have hb9 := hb8.trans (hb.mono hb8.size)
          have x3 := x1.keep hb
          have x4 := x2.keep hb
          clear q9 hb B7 hb7 r1 r2 y1 y2 N8 m8 hbn hb8 B8 x1 x2
          go_wp2_with (first | (refine wpList_rowStore row_trust rfl rfl (.tmp 13) (.tmp 87) rfl rfl rfl (vs := [.int .i64 (0), .int .i64 (0), .int .i64 (0), .bool false, .string ⟨List.toArray ([])⟩, .string ⟨List.toArray ([])⟩, .string ⟨List.toArray ([])⟩, .string ⟨List.toArray ([])⟩, .string ⟨List.toArray ([])⟩, .string ⟨List.toArray ([])⟩, .slice ga 0 gc, .slice ha 0 hc, .int .i64 (0)]) rfl (by simp [Value.oneCell']) (us := [.int .i64 (0), .int .i64 (0), .int .i64 (0), .bool false, .string ⟨List.toArray ([])⟩, .string ⟨List.toArray ([])⟩, .string ⟨List.toArray ([])⟩, .string ⟨List.toArray ([])⟩, .string ⟨List.toArray ([])⟩, .string ⟨List.toArray ([])⟩, .slice none 0 0, .slice none 0 0, .int .i64 (0)]) rfl (Blk.new' (by simp)) ?_; intro w10 N10 m10; have hbn := Below.mod (Below.allocS (Below.refl w9.heap.size w9) (.cells #[.int .i64 (0), .int .i64 (0), .int .i64 (0), .bool false, .string ⟨List.toArray ([])⟩, .string ⟨List.toArray ([])⟩, .string ⟨List.toArray ([])⟩, .string ⟨List.toArray ([])⟩, .string ⟨List.toArray ([])⟩, .string ⟨List.toArray ([])⟩, .slice none 0 0, .slice none 0 0, .int .i64 (0)] 27)) m10 (by simp) (by simp); have hb10 := hb9.trans (hbn.mono hb9.size); have B10 := B9.keep hbn; have N11 := N9.keep hbn; have x5 := x3.keep hbn; have x6 := x4.keep hbn) | (refine wpList_rowLoad row_trust rfl (.tmp 11) rfl rfl (vs := [.int .i64 (a1), .int .i64 (a2), .int .i64 (a3), .bool lb, .string ⟨List.toArray (pa)⟩, .string ⟨List.toArray (st)⟩, .string ⟨List.toArray (rc)⟩, .string ⟨List.toArray (tx)⟩, .string ⟨List.toArray (me)⟩, .string ⟨List.toArray (ne)⟩, .slice za K.length zc, .slice ya L.length yc, .int .i64 (ta)]) rfl N11 ?_) | (refine wpList_rowLoad row_trust rfl (.tmp 2) rfl rfl (vs := [.int .i64 (a1), .int .i64 (a2), .int .i64 (a3), .bool lb, .string ⟨List.toArray (pa)⟩, .string ⟨List.toArray (st)⟩, .string ⟨List.toArray (rc)⟩, .string ⟨List.toArray (tx)⟩, .string ⟨List.toArray (me)⟩, .string ⟨List.toArray (ne)⟩, .slice ka K.length kc, .slice ma L.length mc, .int .i64 (ta)]) rfl B10 ?_))
          refine (q10 _ _ w10 ⟨_, _, rfl, x5.ss, x6.ms⟩ ⟨_, _, rfl, H1.out.keep hb10, H2.out.keep hb10⟩).mono ?_
          rintro e w11 ⟨rfl, hb⟩
          go_wp2_with fail
          go_ret
          exact ⟨rfl, hb10.trans (hb.mono hb10.size)⟩
    · have g1 : decide (2000 < (s.length : Int)) = true := by rw [decide_eq_true_eq]; omega
      clear B2
      go_wp2_with fail
      all_goals (go_ret; exact ⟨rfl, hb2⟩)
  · clear B2
    go_wp2_with fail
    all_goals (go_ret; exact ⟨rfl, hb2⟩)
end Go.Proofs.YtaedgfnfkacimaaDoor

/- An argument of the type api.Trusted; a text with its length. -/
set_option linter.unusedVariables false
namespace Go.Proofs.YtaedgfnfkacimaaDoor
open Go.ChangeShapes Go.WideShapes Go.ChangeAt Go.RowKit Pl

theorem tr_val {W : World} {v : Value} (h : Sh.Val W (.pair (.pair (.int .i64) (.pair (.int .i64) (.pair (.int .i64) (.pair .bool (.pair .str (.pair .str (.pair .str (.pair .str (.pair .str (.pair .str (.pair (.slice 1 .str) .unit))))))))))) (.pair (.slice 2 (.pair .str (.pair (.int .i64) .unit))) (.pair (.int .i64) .unit))) v) : ∃ t : Tr, TV W v t := by
  obtain ⟨c0, rfl, hc⟩ := h
  obtain ⟨x0, y0, rfl, ⟨x1, y1, rfl, ⟨n1, rfl, _⟩, x2, y2, rfl, ⟨n2, rfl, _⟩, x3, y3, rfl, ⟨n3, rfl, _⟩, x4, y4, rfl, ⟨b, rfl⟩, x5, y5, rfl, ⟨s1, rfl, _⟩, x6, y6, rfl, ⟨s2, rfl, _⟩, x7, y7, rfl, ⟨s3, rfl, _⟩, x8, y8, rfl, ⟨s4, rfl, _⟩, x9, y9, rfl, ⟨s5, rfl, _⟩, x10, y10, rfl, ⟨s6, rfl, _⟩, x11, y11, rfl, hz1, hu1⟩, x12, y12, rfl, hz2, x13, y13, rfl, ⟨n4, rfl, _⟩, hu2⟩ := hc
  obtain rfl : y11 = [] := hu1
  obtain rfl : y13 = [] := hu2
  obtain ⟨v1, rfl, hv1⟩ : ∃ v', x11 = [v'] ∧ Sh.Val W (.slice 1 .str) v' := by
    rcases hz1 with rfl | ⟨a, len, cap, rfl, hr⟩
    · exact ⟨_, rfl, .inl rfl⟩
    · exact ⟨_, rfl, .inr ⟨a, len, cap, rfl, hr⟩⟩
  obtain ⟨v2, rfl, hv2⟩ : ∃ v', x12 = [v'] ∧ Sh.Val W (.slice 2 (.pair .str (.pair (.int .i64) .unit))) v' := by
    rcases hz2 with rfl | ⟨a, len, cap, rfl, hr⟩
    · exact ⟨_, rfl, .inl rfl⟩
    · exact ⟨_, rfl, .inr ⟨a, len, cap, rfl, hr⟩⟩
  obtain ⟨K, hK, _⟩ := ss_val hv1
  obtain ⟨L, hL⟩ := ms_val hv2
  refine ⟨⟨⟨n1, n2, n3, b, s1.data.toList, s2.data.toList, s3.data.toList, s4.data.toList, s5.data.toList, s6.data.toList, K⟩, L, n4⟩, v1, v2, ?_, hK, hL⟩
  simp only [← str_list]
  rfl
theorem str_valT {W : World} {v : Value} (h : Sh.Val W .str v) : ∃ s : Bs, v = .string ⟨List.toArray (s)⟩ ∧ s.length ≤ maxLen := by
  obtain ⟨s, hs, hl⟩ := h
  obtain rfl : v = .string s := by simpa using hs
  refine ⟨s.data.toList, ?_, by rw [Array.length_toList]; exact hl⟩
  rw [← str_list s]
end Go.Proofs.YtaedgfnfkacimaaDoor

/- The table of constants that the card lists lies where the walks ask for it; a world that has it. -/
set_option linter.unusedSimpArgs false
set_option linter.unusedVariables false
namespace Go.Proofs.YtaedgfnfkacimaaDoor
open Go.ChangeShapes Go.WideShapes Go.ChangeAt Go.RowKit

theorem gK : Tryd.prog.globalNamed "pharos/sha.k" = some 1 := by kernel_rfl
theorem tK : (Tryd.prog.globals[1]?).map (·.type) = some 153 := by kernel_rfl
theorem laid_eq {H : Type} : (Rows.laid_pharos_sha_k : DataW H) = .agg (kList.map fun n => .lit (.int .u32 n)) := rfl
theorem c1K : Tryd.prog.cellsOf 130 = 1 := by kernel_rfl

theorem kt_of_laid {W : World} (h : laidMetH Tryd.prog [("pharos/sha.k", Rows.laid_pharos_sha_k)] W) : KT W := by
  rw [MakeChecks.laidMetH_plain _ _ _ (by kernel_rfl)] at h
  obtain ⟨ps, ⟨g0, t0, cs0, f0, p0, q0, hg0, ht0, hv0, hd0, hrest⟩, _, _⟩ := h
  obtain rfl := Option.some.inj (gK.symm.trans hg0)
  obtain rfl := Option.some.inj (tK.symm.trans ht0)
  rw [laid_eq] at hd0
  obtain ⟨xs, m1, _, hx1, hl, hlen, hel⟩ := DataW.trod_array Tryd.underlying153 hd0
  rw [c1K] at hel
  simp only [Prod.mk.injEq, DataW.agg.injEq] at hx1
  have hcell : ∀ i, i < 64 → W.cell? ⟨1, i, none⟩ = some (.int .u32 (kc i)) := by
    intro i hi
    have h3 := hel i (by omega)
    have hxi : i < xs.length := by omega
    rw [List.getElem?_eq_getElem hxi] at h3
    obtain ⟨n, e1, e2, _⟩ := DataW.trod_int Tryd.underlying130 h3
    have h4 := congrArg (fun l => l[i]?) hx1.1
    simp only [List.getElem?_map, List.getElem?_eq_getElem hxi, Option.map_some] at h4
    rw [e2, List.getElem?_eq_getElem (show i < kList.length from hi)] at h4
    simp at h4
    have hv := World.var?_cell hg0 hv0 i
    rw [Nat.mul_one] at e1
    have h5 := congrArg (fun l => l[0]?) e1
    simp at h5
    have hlt : i < kList.length := hi
    rw [hv, h5, show kc i = n from by rw [← h4]; simp [kc, List.getD, hlt]]
  refine ⟨hcell, ?_⟩
  rcases Nat.lt_or_ge 1 W.heap.size with hlt | hge
  · exact hlt
  · have := hcell 0 (by omega)
    simp [World.cell?, Array.getElem?_eq_none hge] at this

theorem laid_door (os : Os) (args : Array Value) : laidMetH Tryd.prog [("pharos/sha.k", Rows.laid_pharos_sha_k)] ((World.doorLaid Tryd.prog 14 os).forCall (fun _ _ => 0) ⟨#[], args, []⟩).memory :=
  laidMetH_of_parts3 (fuel := 8) (laidMet_of_run' 8 (by kernel_rfl) (by kernel_rfl)) (by kernel_rfl) (by kernel_rfl)

end Go.Proofs.YtaedgfnfkacimaaDoor
