/- RWith, RStore. -/
import Derived.Test.YthgjdaomcpinaaaGreatDoorMp30
import Derived.Test.YthgjdaomcpinaaaGreatDoorMp31
set_option linter.unnecessarySimpa false
set_option linter.unusedSimpArgs false
set_option linter.unusedVariables false
set_option maxRecDepth 100000
set_option maxHeartbeats 32000000
namespace Go.Proofs.YthgjdaomcpinaaaGreatDoor
open Go.RowKit Go.WideMaps Go.Maps Go.Sort Go.Shelf Pl
theorem rwith_any (av : List Nat) (v : Value) (l : List Tr) (t : Tr) (sk ms : Value) (hl : l.length ≤ 1000) (w : World) (hv : TLA w av v l) (ht : ElA w av (t, sk, ms)) (hav : ∀ x ∈ av, x < w.heap.size) :
  Calls Tryz.prog 82 #[v, .agg (tcs t sk ms).toArray] w fun e w' => ∃ v', e = .returned v' ∧ TLA w' av v' (withL l t) ∧ Below w.heap.size w w' := by
 have q1 := fun W (hb : Below w.heap.size w W) => rfind_any av v l t.head.height W (hv.keep hb)
 obtain ⟨cs, hcs, hC⟩ := id hv
 obtain ⟨⟨a, c, rfl, h2, h3, h4⟩, h5⟩ := hC
 obtain ⟨ka, kc, hk, _⟩ := id ht.ss
 obtain ⟨ma, mc, hm, _⟩ := id ht.ms
 simp only at hk hm
 subst hk hm
 have HCL : Hid (cs.length = l.length) := Lib.hid (by rw [← hcs, List.length_map])
 have HCS := Lib.hid hcs
 have hcsl : cs.length ≤ 1000 := by rw [HCL.out]; exact hl
 have hfl := findN_le t.head.height l
 have hth := thereL_lt t.head.height l
 have HW : Hid (withL l t = l.take (findN t.head.height l) ++ [t] ++ l.drop (findN t.head.height l + if thereL t.head.height l = true then 1 else 0)) := Lib.hid rfl
 generalize withL l t = WL at *
 generalize findN t.head.height l = n at *
 generalize thereL t.head.height l = th at *
 have hb0 : Below w.heap.size w (w.alloc (.cells (tcs t (.slice ka t.head.skips.length kc) (.slice ma t.set.length mc)).toArray 27)) := Below.allocS (Below.refl _ _) _
 have HV := Lib.hid hv
 have HT := Lib.hid ht
 have HH4 := Lib.hid h4
 have HH5 := Lib.hid h5
 have HTH := Lib.hid hth
 unfold tcs at *
 clear hv ht h4 h5 hth hcs
 go_enter Tryz.func82, Tryz.ntmps82
 go_wp2_with fail
 refine (q1 _ hb0).mono ?_
 rintro e w1 ⟨rfl, hb⟩
 have hb1 := hb0.trans (hb.mono hb0.size)
 have hsz := hb1.size
 have BX : Blk w1 w.heap.size (tcsX (t, Value.slice ka t.head.skips.length kc, Value.slice ma t.set.length mc)).toArray := (Blk.new w _ 27).keep hb
 have h5F := HH5.out
 by_cases hcs0 : cs = []
 ·subst hcs0
  have hl0 : l = [] := List.length_eq_zero_iff.1 (by have := HCL.out; simpa using this.symm)
  have hn0 : n = 0 := by rw [hl0] at hfl; simpa using hfl
  have hth0 : th = false := by
   cases hx : th
   ·rfl
   ·have := HTH.out hx
    rw [hl0] at this
    simp at this
  subst hn0 hth0
  have HWL : Hid (WL = [(t, Value.slice ka t.head.skips.length kc, Value.slice ma t.set.length mc)].map (·.1)) := Lib.hid (by rw [HW.out, hl0]; rfl)
  have hc0 : (0 : Int) ≤ (c : Int) := by omega
  clear hfl HTH HCS HW hl0
  rcases a with _ | ad
  all_goals
   go_wp2_with (first
    | (refine wpList_rowLoad row_trust rfl (.tmp 3) rfl rfl (vs := [.int .i64 t.head.height, .int .i64 t.head.epoch, .int .i64 t.head.view, .bool t.head.last, .string ⟨List.toArray t.head.parent⟩, .string ⟨List.toArray t.head.state⟩, .string ⟨List.toArray t.head.receipts⟩, .string ⟨List.toArray t.head.txs⟩, .string ⟨List.toArray t.head.members⟩, .string ⟨List.toArray t.head.next⟩, .slice ka t.head.skips.length kc, .slice ma t.set.length mc, .int .i64 t.at_]) rfl BX ?_)
    | (at_builtin; refine wpList_appT1 rfl (.tmp 21) (.tmp 23) rfl w1.heap.size _ [] 0 (t, Value.slice ka t.head.skips.length kc, Value.slice ma t.set.length mc) rfl ⟨rfl, .inl ⟨rfl, rfl⟩⟩ w1.heap.size rfl (Blk.new _ _ _) HT.out.one (by omega) (by simp) ?_; intro a4 c4 w4 hr4 hb4)
    | (at_builtin; refine wpList_appTk rfl (.tmp 28) (.tmp 31) rfl w1.heap.size _ [(t, Value.slice ka t.head.skips.length kc, Value.slice ma t.set.length mc)] [] 1 0 1 rfl rfl rfl rfl hr4 _ c rfl (fun h => absurd rfl h) (fun y hy => by cases hy) (by omega) (by have := hb4.size; simp at this; omega) ?_; intro a5 c5 w5 hr5 hb5))
   go_ret
   have hbz := hb1.trans ((((Below.allocS (Below.refl w1.heap.size w1) (.cells (tcsX (t, Value.slice ka t.head.skips.length kc, Value.slice ma t.set.length mc)).toArray 27)).trans hb4).trans hb5).mono hsz)
   refine ⟨_, rfl, ?_, hbz⟩
   rw [HWL.out]
   exact TLA.made (w0 := w) (base := w1.heap.size) (cs := [(t, Value.slice ka t.head.skips.length kc, Value.slice ma t.set.length mc)]) hr5 (fun y hy => by rw [List.mem_singleton] at hy; rw [hy]; exact HT.out) hbz (fun x hx => by have := hav x hx; omega)
 ·obtain ⟨g, off, rfl, hg, hna, hAt⟩ := HH4.out hcs0
  have hcA := csAt_keep hAt hg hb1
  have hg1 : g < w1.heap.size := by omega
  have HA := Lib.hid hcA
  have HE := Lib.hid h5F
  have hnc : n ≤ cs.length := by rw [HCL.out]; exact hfl
  have hk1 : (0 : Int) ≤ (n : Int) ∧ (n : Int) ≤ (c : Int) := by omega
  have hk2 : (n : Int) ≤ (cs.length : Int) := by omega
  have HTK : Hid ((cs.take n).length = n) := Lib.hid (by rw [List.length_take]; omega)
  have HTN := Lib.hid (fun y (hy : y ∈ cs.take n) => HE.out y (List.mem_of_mem_take hy))
  have HDN := Lib.hid (fun k y (hy : y ∈ cs.drop k) => HE.out y (List.mem_of_mem_drop hy))
  clear hcA hAt hcs0
  cases th
  ·have HD : Hid ((cs.drop n).length = cs.length - n) := Lib.hid List.length_drop
   have HWL : Hid (WL = ((cs.take n ++ [(t, Value.slice ka t.head.skips.length kc, Value.slice ma t.set.length mc)]) ++ cs.drop n).map (·.1)) := Lib.hid (by
    rw [HW.out, ← HCS.out]
    simp)
   clear hfl HTH HCS HW
   by_cases hcn : c = n
   ·subst hcn
    have HEM : Hid (cs.drop c = []) := Lib.hid (List.drop_eq_nil_iff.2 (by omega))
    go_wp2_with (first
     | (refine wpList_rowLoad row_trust rfl (.tmp 3) rfl rfl (vs := [.int .i64 t.head.height, .int .i64 t.head.epoch, .int .i64 t.head.view, .bool t.head.last, .string ⟨List.toArray t.head.parent⟩, .string ⟨List.toArray t.head.state⟩, .string ⟨List.toArray t.head.receipts⟩, .string ⟨List.toArray t.head.txs⟩, .string ⟨List.toArray t.head.members⟩, .string ⟨List.toArray t.head.next⟩, .slice ka t.head.skips.length kc, .slice ma t.set.length mc, .int .i64 t.at_]) rfl (BX.keep hb2) ?_)
     | (at_builtin; refine wpList_appTk rfl (.tmp 16) (.tmp 19) rfl w1.heap.size _ [] (cs.take c) 0 c c rfl HTK.out (by omega) rfl ⟨rfl, .inl ⟨rfl, rfl⟩⟩ _ _ rfl (fun _ => ⟨g, off, rfl, csAt_take HA.out c⟩) (fun y hy => (HTN.out y hy).one) (by omega) (Nat.le_refl _) ?_; intro a2 c2 w2 hr2 hb2; rw [List.nil_append] at hr2)
     | (at_builtin; refine wpList_appT1 rfl (.tmp 21) (.tmp 23) rfl w1.heap.size _ (cs.take c) c (t, Value.slice ka t.head.skips.length kc, Value.slice ma t.set.length mc) rfl (row_belowO hr2 (Below.allocS (Below.refl _ _) _)) w2.heap.size rfl (Blk.new _ _ _) HT.out.one (by omega) (by have := hb2.size; simp; omega) ?_; intro a4 c4 w4 hr4 hb4)
     | (at_builtin; refine wpList_appTk rfl (.tmp 28) (.tmp 31) rfl w1.heap.size _ (cs.take c ++ [(t, Value.slice ka t.head.skips.length kc, Value.slice ma t.set.length mc)]) [] (c + 1) 0 (c + 1) (by rw [List.length_append, HTK.out]; rfl) rfl rfl rfl hr4 _ 0 rfl (fun h => absurd rfl h) (fun y hy => by cases hy) (by omega) (by have := hb2.size; have := hb4.size; simp at this; omega) ?_; intro a5 c5 w5 hr5 hb5))
    go_ret
    have hbz := hb1.trans ((((hb2.trans ((Below.allocS (Below.refl w2.heap.size w2) (.cells ([.int .i64 t.head.height, .int .i64 t.head.epoch, .int .i64 t.head.view, .bool t.head.last, .string ⟨List.toArray t.head.parent⟩, .string ⟨List.toArray t.head.state⟩, .string ⟨List.toArray t.head.receipts⟩, .string ⟨List.toArray t.head.txs⟩, .string ⟨List.toArray t.head.members⟩, .string ⟨List.toArray t.head.next⟩, .slice ka t.head.skips.length kc, .slice ma t.set.length mc, .int .i64 t.at_]).toArray 27)).mono hb2.size)).trans hb4).trans hb5).mono hsz)
    refine ⟨_, rfl, ?_, hbz⟩
    rw [HWL.out, HEM.out]
    refine TLA.made (w0 := w) (base := w1.heap.size) (cs := (cs.take c ++ [(t, Value.slice ka t.head.skips.length kc, Value.slice ma t.set.length mc)]) ++ []) (by rw [List.length_append, List.length_append, HTK.out]; exact hr5) (fun y hy => ?_) hbz (fun x hx => by have := hav x hx; omega)
    rcases List.mem_append.1 hy with hy | hy
    ·rcases List.mem_append.1 hy with hy | hy
     ·exact HTN.out y hy
     ·rw [List.mem_singleton] at hy; rw [hy]; exact HT.out
    ·cases hy
   ·have hcn1 : ¬ n = c := fun e => hcn e.symm
    go_wp2_with (first
     | (refine wpList_rowLoad row_trust rfl (.tmp 3) rfl rfl (vs := [.int .i64 t.head.height, .int .i64 t.head.epoch, .int .i64 t.head.view, .bool t.head.last, .string ⟨List.toArray t.head.parent⟩, .string ⟨List.toArray t.head.state⟩, .string ⟨List.toArray t.head.receipts⟩, .string ⟨List.toArray t.head.txs⟩, .string ⟨List.toArray t.head.members⟩, .string ⟨List.toArray t.head.next⟩, .slice ka t.head.skips.length kc, .slice ma t.set.length mc, .int .i64 t.at_]) rfl (BX.keep hb2) ?_)
     | (at_builtin; refine wpList_appTk rfl (.tmp 16) (.tmp 19) rfl w1.heap.size _ [] (cs.take n) 0 n n rfl HTK.out (by omega) rfl ⟨rfl, .inl ⟨rfl, rfl⟩⟩ _ _ rfl (fun _ => ⟨g, off, rfl, csAt_take HA.out n⟩) (fun y hy => (HTN.out y hy).one) (by omega) (Nat.le_refl _) ?_; intro a2 c2 w2 hr2 hb2; rw [List.nil_append] at hr2)
     | (at_builtin; refine wpList_appT1 rfl (.tmp 21) (.tmp 23) rfl w1.heap.size _ (cs.take n) n (t, Value.slice ka t.head.skips.length kc, Value.slice ma t.set.length mc) rfl (row_belowO hr2 (Below.allocS (Below.refl _ _) _)) w2.heap.size rfl (Blk.new _ _ _) HT.out.one (by omega) (by have := hb2.size; simp; omega) ?_; intro a4 c4 w4 hr4 hb4)
     | (at_builtin; refine wpList_appTk rfl (.tmp 28) (.tmp 31) rfl w1.heap.size _ (cs.take n ++ [(t, Value.slice ka t.head.skips.length kc, Value.slice ma t.set.length mc)]) (cs.drop n) (n + 1) (cs.length - n) (n + 1 + (cs.length - n)) (by rw [List.length_append, HTK.out]; rfl) HD.out rfl rfl hr4 _ (c - n) rfl (fun _ => ⟨g, off + n * 13, rfl, csAt_drop (csAt_keep HA.out hg1 ((hb2.trans ((Below.allocS (Below.refl _ _) _).mono hb2.size)).trans hb4)) n⟩) (fun y hy => (HDN.out n y hy).one) (by omega) (by have := hb2.size; have := hb4.size; simp at this; omega) ?_; intro a5 c5 w5 hr5 hb5))
    go_ret
    have hbz := hb1.trans ((((hb2.trans ((Below.allocS (Below.refl w2.heap.size w2) (.cells ([.int .i64 t.head.height, .int .i64 t.head.epoch, .int .i64 t.head.view, .bool t.head.last, .string ⟨List.toArray t.head.parent⟩, .string ⟨List.toArray t.head.state⟩, .string ⟨List.toArray t.head.receipts⟩, .string ⟨List.toArray t.head.txs⟩, .string ⟨List.toArray t.head.members⟩, .string ⟨List.toArray t.head.next⟩, .slice ka t.head.skips.length kc, .slice ma t.set.length mc, .int .i64 t.at_]).toArray 27)).mono hb2.size)).trans hb4).trans hb5).mono hsz)
    refine ⟨_, rfl, ?_, hbz⟩
    rw [HWL.out]
    refine TLA.made (w0 := w) (base := w1.heap.size) (cs := (cs.take n ++ [(t, Value.slice ka t.head.skips.length kc, Value.slice ma t.set.length mc)]) ++ cs.drop n) (by rw [List.length_append, List.length_append, HTK.out, HD.out]; exact hr5) (fun y hy => ?_) hbz (fun x hx => by have := hav x hx; omega)
    rcases List.mem_append.1 hy with hy | hy
    ·rcases List.mem_append.1 hy with hy | hy
     ·exact HTN.out y hy
     ·rw [List.mem_singleton] at hy; rw [hy]; exact HT.out
    ·exact HDN.out n y hy
  ·have hlt := HTH.out rfl
   obtain ⟨m, hm⟩ : ∃ m, m = n + 1 := ⟨_, rfl⟩
   have HD : Hid ((cs.drop m).length = cs.length - m) := Lib.hid List.length_drop
   have HWL : Hid (WL = ((cs.take n ++ [(t, Value.slice ka t.head.skips.length kc, Value.slice ma t.set.length mc)]) ++ cs.drop m).map (·.1)) := Lib.hid (by
    rw [HW.out, ← HCS.out, hm]
    simp)
   have hml : m ≤ cs.length := by rw [HCL.out]; omega
   have w9 : IntKind.i64.wrap ((n : Int) + 1) = (m : Int) := by rw [IntKind.wrap_i64]; omega
   have k3 : (0 : Int) ≤ (m : Int) ∧ (m : Int) ≤ (c : Int) := by omega
   have k4 : (m : Int) ≤ (cs.length : Int) := by omega
   clear hfl HTH HCS HW hlt hm
   by_cases hcn : c = m
   ·subst hcn
    have HEM : Hid (cs.drop c = []) := Lib.hid (List.drop_eq_nil_iff.2 (by omega))
    go_wp2_with (first
     | (refine wpList_rowLoad row_trust rfl (.tmp 3) rfl rfl (vs := [.int .i64 t.head.height, .int .i64 t.head.epoch, .int .i64 t.head.view, .bool t.head.last, .string ⟨List.toArray t.head.parent⟩, .string ⟨List.toArray t.head.state⟩, .string ⟨List.toArray t.head.receipts⟩, .string ⟨List.toArray t.head.txs⟩, .string ⟨List.toArray t.head.members⟩, .string ⟨List.toArray t.head.next⟩, .slice ka t.head.skips.length kc, .slice ma t.set.length mc, .int .i64 t.at_]) rfl (BX.keep hb2) ?_)
     | (at_builtin; refine wpList_appTk rfl (.tmp 16) (.tmp 19) rfl w1.heap.size _ [] (cs.take n) 0 n n rfl HTK.out (by omega) rfl ⟨rfl, .inl ⟨rfl, rfl⟩⟩ _ _ rfl (fun _ => ⟨g, off, rfl, csAt_take HA.out n⟩) (fun y hy => (HTN.out y hy).one) (by omega) (Nat.le_refl _) ?_; intro a2 c2 w2 hr2 hb2; rw [List.nil_append] at hr2)
     | (at_builtin; refine wpList_appT1 rfl (.tmp 21) (.tmp 23) rfl w1.heap.size _ (cs.take n) n (t, Value.slice ka t.head.skips.length kc, Value.slice ma t.set.length mc) rfl (row_belowO hr2 (Below.allocS (Below.refl _ _) _)) w2.heap.size rfl (Blk.new _ _ _) HT.out.one (by omega) (by have := hb2.size; simp; omega) ?_; intro a4 c4 w4 hr4 hb4)
     | (at_builtin; refine wpList_appTk rfl (.tmp 28) (.tmp 31) rfl w1.heap.size _ (cs.take n ++ [(t, Value.slice ka t.head.skips.length kc, Value.slice ma t.set.length mc)]) [] (n + 1) 0 (n + 1) (by rw [List.length_append, HTK.out]; rfl) rfl rfl rfl hr4 _ 0 rfl (fun h => absurd rfl h) (fun y hy => by cases hy) (by omega) (by have := hb2.size; have := hb4.size; simp at this; omega) ?_; intro a5 c5 w5 hr5 hb5))
    go_ret
    have hbz := hb1.trans ((((hb2.trans ((Below.allocS (Below.refl w2.heap.size w2) (.cells ([.int .i64 t.head.height, .int .i64 t.head.epoch, .int .i64 t.head.view, .bool t.head.last, .string ⟨List.toArray t.head.parent⟩, .string ⟨List.toArray t.head.state⟩, .string ⟨List.toArray t.head.receipts⟩, .string ⟨List.toArray t.head.txs⟩, .string ⟨List.toArray t.head.members⟩, .string ⟨List.toArray t.head.next⟩, .slice ka t.head.skips.length kc, .slice ma t.set.length mc, .int .i64 t.at_]).toArray 27)).mono hb2.size)).trans hb4).trans hb5).mono hsz)
    refine ⟨_, rfl, ?_, hbz⟩
    rw [HWL.out, HEM.out]
    refine TLA.made (w0 := w) (base := w1.heap.size) (cs := (cs.take n ++ [(t, Value.slice ka t.head.skips.length kc, Value.slice ma t.set.length mc)]) ++ []) (by rw [List.length_append, List.length_append, HTK.out]; exact hr5) (fun y hy => ?_) hbz (fun x hx => by have := hav x hx; omega)
    rcases List.mem_append.1 hy with hy | hy
    ·rcases List.mem_append.1 hy with hy | hy
     ·exact HTN.out y hy
     ·rw [List.mem_singleton] at hy; rw [hy]; exact HT.out
    ·cases hy
   ·have hcn1 : ¬ m = c := fun e => hcn e.symm
    go_wp2_with (first
     | (refine wpList_rowLoad row_trust rfl (.tmp 3) rfl rfl (vs := [.int .i64 t.head.height, .int .i64 t.head.epoch, .int .i64 t.head.view, .bool t.head.last, .string ⟨List.toArray t.head.parent⟩, .string ⟨List.toArray t.head.state⟩, .string ⟨List.toArray t.head.receipts⟩, .string ⟨List.toArray t.head.txs⟩, .string ⟨List.toArray t.head.members⟩, .string ⟨List.toArray t.head.next⟩, .slice ka t.head.skips.length kc, .slice ma t.set.length mc, .int .i64 t.at_]) rfl (BX.keep hb2) ?_)
     | (at_builtin; refine wpList_appTk rfl (.tmp 16) (.tmp 19) rfl w1.heap.size _ [] (cs.take n) 0 n n rfl HTK.out (by omega) rfl ⟨rfl, .inl ⟨rfl, rfl⟩⟩ _ _ rfl (fun _ => ⟨g, off, rfl, csAt_take HA.out n⟩) (fun y hy => (HTN.out y hy).one) (by omega) (Nat.le_refl _) ?_; intro a2 c2 w2 hr2 hb2; rw [List.nil_append] at hr2)
     | (at_builtin; refine wpList_appT1 rfl (.tmp 21) (.tmp 23) rfl w1.heap.size _ (cs.take n) n (t, Value.slice ka t.head.skips.length kc, Value.slice ma t.set.length mc) rfl (row_belowO hr2 (Below.allocS (Below.refl _ _) _)) w2.heap.size rfl (Blk.new _ _ _) HT.out.one (by omega) (by have := hb2.size; simp; omega) ?_; intro a4 c4 w4 hr4 hb4)
     | (at_builtin; refine wpList_appTk rfl (.tmp 28) (.tmp 31) rfl w1.heap.size _ (cs.take n ++ [(t, Value.slice ka t.head.skips.length kc, Value.slice ma t.set.length mc)]) (cs.drop m) (n + 1) (cs.length - m) (n + 1 + (cs.length - m)) (by rw [List.length_append, HTK.out]; rfl) HD.out rfl rfl hr4 _ (c - m) rfl (fun _ => ⟨g, off + m * 13, rfl, csAt_drop (csAt_keep HA.out hg1 ((hb2.trans ((Below.allocS (Below.refl _ _) _).mono hb2.size)).trans hb4)) m⟩) (fun y hy => (HDN.out m y hy).one) (by omega) (by have := hb2.size; have := hb4.size; simp at this; omega) ?_; intro a5 c5 w5 hr5 hb5))
    go_ret
    have hbz := hb1.trans ((((hb2.trans ((Below.allocS (Below.refl w2.heap.size w2) (.cells ([.int .i64 t.head.height, .int .i64 t.head.epoch, .int .i64 t.head.view, .bool t.head.last, .string ⟨List.toArray t.head.parent⟩, .string ⟨List.toArray t.head.state⟩, .string ⟨List.toArray t.head.receipts⟩, .string ⟨List.toArray t.head.txs⟩, .string ⟨List.toArray t.head.members⟩, .string ⟨List.toArray t.head.next⟩, .slice ka t.head.skips.length kc, .slice ma t.set.length mc, .int .i64 t.at_]).toArray 27)).mono hb2.size)).trans hb4).trans hb5).mono hsz)
    refine ⟨_, rfl, ?_, hbz⟩
    rw [HWL.out]
    refine TLA.made (w0 := w) (base := w1.heap.size) (cs := (cs.take n ++ [(t, Value.slice ka t.head.skips.length kc, Value.slice ma t.set.length mc)]) ++ cs.drop m) (by rw [List.length_append, List.length_append, HTK.out, HD.out]; exact hr5) (fun y hy => ?_) hbz (fun x hx => by have := hav x hx; omega)
    rcases List.mem_append.1 hy with hy | hy
    ·rcases List.mem_append.1 hy with hy | hy
     ·exact HTN.out y hy
     ·rw [List.mem_singleton] at hy; rw [hy]; exact HT.out
    ·exact HDN.out m y hy
theorem rwithout_any (av : List Nat) (v : Value) (l : List Tr) (h : Int) (hl : l.length ≤ 1000) (hth : thereL h l = true) (w : World) (hv : TLA w av v l) (hav : ∀ x ∈ av, x < w.heap.size) :
  Calls Tryz.prog 85 #[v, .int .i64 h] w fun e w' => ∃ v', e = .returned v' ∧ TLA w' av v' (withoutL l h) ∧ Below w.heap.size w w' := by
 have q1 := fun W (hb : Below w.heap.size w W) => rfind_any av v l h W (hv.keep hb)
 rw [hth] at q1
 obtain ⟨cs, hcs, hC⟩ := id hv
 obtain ⟨⟨a, c, rfl, h2, h3, h4⟩, h5⟩ := hC
 have HCL : Hid (cs.length = l.length) := Lib.hid (by rw [← hcs, List.length_map])
 have HCS := Lib.hid hcs
 have hcsl : cs.length ≤ 1000 := by rw [HCL.out]; exact hl
 have hlt := thereL_lt h l hth
 have HW : Hid (withoutL l h = l.take (findN h l) ++ l.drop (findN h l + 1)) := Lib.hid rfl
 generalize withoutL l h = WL at *
 generalize findN h l = n at *
 have hnl : n < cs.length := by rw [HCL.out]; exact hlt
 have hcs0 : cs ≠ [] := by intro e; rw [e] at hnl; simp at hnl
 obtain ⟨g, off, rfl, hg, hna, hAt⟩ := h4 hcs0
 have HHA := Lib.hid hAt
 have HE := Lib.hid h5
 clear hv h4 h5 hth hcs hlt hcs0 hAt
 go_enter Tryz.func85, Tryz.ntmps85
 go_wp2_with fail
 refine (q1 _ (Below.refl _ _)).mono ?_
 rintro e w1 ⟨rfl, hb1⟩
 have hsz := hb1.size
 have HA := Lib.hid (csAt_keep HHA.out hg hb1)
 have hg1 : g < w1.heap.size := by omega
 have hk1 : (0 : Int) ≤ (n : Int) ∧ (n : Int) ≤ (c : Int) := by omega
 have hk2 : (n : Int) ≤ (cs.length : Int) := by omega
 have HTK : Hid ((cs.take n).length = n) := Lib.hid (by rw [List.length_take]; omega)
 have HTN := Lib.hid (fun y (hy : y ∈ cs.take n) => HE.out y (List.mem_of_mem_take hy))
 have HDN := Lib.hid (fun k y (hy : y ∈ cs.drop k) => HE.out y (List.mem_of_mem_drop hy))
 obtain ⟨m, hm⟩ : ∃ m, m = n + 1 := ⟨_, rfl⟩
 have HD : Hid ((cs.drop m).length = cs.length - m) := Lib.hid List.length_drop
 have HWL : Hid (WL = (cs.take n ++ cs.drop m).map (·.1)) := Lib.hid (by
  rw [HW.out, ← HCS.out, hm]
  simp)
 have hml : m ≤ cs.length := by omega
 have w9 : IntKind.i64.wrap ((n : Int) + 1) = (m : Int) := by rw [IntKind.wrap_i64]; omega
 have k3 : (0 : Int) ≤ (m : Int) ∧ (m : Int) ≤ (c : Int) := by omega
 have k4 : (m : Int) ≤ (cs.length : Int) := by omega
 clear HCS HW hm q1
 by_cases hcn : c = m
 ·subst hcn
  have HEM : Hid (cs.drop c = []) := Lib.hid (List.drop_eq_nil_iff.2 (by omega))
  go_wp2_with (first
   | (at_builtin; refine wpList_appTk rfl (.tmp 14) (.tmp 17) rfl w1.heap.size _ [] (cs.take n) 0 n n rfl HTK.out (by omega) rfl ⟨rfl, .inl ⟨rfl, rfl⟩⟩ _ _ rfl (fun _ => ⟨g, off, rfl, csAt_take HA.out n⟩) (fun y hy => (HTN.out y hy).one) (by omega) (Nat.le_refl _) ?_; intro a2 c2 w2 hr2 hb2; rw [List.nil_append] at hr2)
   | (at_builtin; refine wpList_appTk rfl (.tmp 19) (.tmp 23) rfl w1.heap.size _ (cs.take n) [] n 0 n HTK.out rfl rfl rfl hr2 _ 0 rfl (fun h => absurd rfl h) (fun y hy => by cases hy) (by omega) (by have := hb2.size; omega) ?_; intro a5 c5 w5 hr5 hb5))
  go_ret
  have hbz := hb1.trans ((hb2.trans hb5).mono hsz)
  refine ⟨_, rfl, ?_, hbz⟩
  rw [HWL.out, HEM.out]
  refine TLA.made (w0 := w) (base := w1.heap.size) (cs := cs.take n ++ []) (by rw [List.length_append, HTK.out]; exact hr5) (fun y hy => ?_) hbz (fun x hx => by have := hav x hx; omega)
  rcases List.mem_append.1 hy with hy | hy
  ·exact HTN.out y hy
  ·cases hy
 ·have hcn1 : ¬ m = c := fun e => hcn e.symm
  go_wp2_with (first
   | (at_builtin; refine wpList_appTk rfl (.tmp 14) (.tmp 17) rfl w1.heap.size _ [] (cs.take n) 0 n n rfl HTK.out (by omega) rfl ⟨rfl, .inl ⟨rfl, rfl⟩⟩ _ _ rfl (fun _ => ⟨g, off, rfl, csAt_take HA.out n⟩) (fun y hy => (HTN.out y hy).one) (by omega) (Nat.le_refl _) ?_; intro a2 c2 w2 hr2 hb2; rw [List.nil_append] at hr2)
   | (at_builtin; refine wpList_appTk rfl (.tmp 19) (.tmp 23) rfl w1.heap.size _ (cs.take n) (cs.drop m) n (cs.length - m) (n + (cs.length - m)) HTK.out HD.out rfl rfl hr2 _ (c - m) rfl (fun _ => ⟨g, off + m * 13, rfl, csAt_drop (csAt_keep HA.out hg1 hb2) m⟩) (fun y hy => (HDN.out m y hy).one) (by omega) (by have := hb2.size; omega) ?_; intro a5 c5 w5 hr5 hb5))
  go_ret
  have hbz := hb1.trans ((hb2.trans hb5).mono hsz)
  refine ⟨_, rfl, ?_, hbz⟩
  rw [HWL.out]
  refine TLA.made (w0 := w) (base := w1.heap.size) (cs := cs.take n ++ cs.drop m) (by rw [List.length_append, HTK.out, HD.out]; exact hr5) (fun y hy => ?_) hbz (fun x hx => by have := hav x hx; omega)
  rcases List.mem_append.1 hy with hy | hy
  ·exact HTN.out y hy
  ·exact HDN.out m y hy
end Go.Proofs.YthgjdaomcpinaaaGreatDoor
namespace Go.Proofs.YthgjdaomcpinaaaGreatDoor
open Go.RowKit Pl
abbrev stcs (lv : Value) (sp : Int) (d : Dk) (b : Bool) : List Value := [lv, .int .i64 sp, .string ⟨List.toArray d.s⟩, .int .i64 d.safe, .int .i64 d.room, .int .i64 d.fuse, .bool d.down, .bool b]
abbrev stv (lv : Value) (sp : Int) (d : Dk) (b : Bool) : Value := .agg #[lv, .int .i64 sp, .string ⟨List.toArray d.s⟩, .int .i64 d.safe, .int .i64 d.room, .int .i64 d.fuse, .bool d.down, .bool b]
abbrev zst : List Value := [.slice none 0 0, .int .i64 0, .string ⟨List.toArray []⟩, .int .i64 0, .int .i64 0, .int .i64 0, .bool false, .bool false]
theorem row_st : RowT Tryz.prog 76 8 := RowT.mk' Tryz.underlying76 rfl (by kernel_rfl)
theorem stcs_one (a : Option Addr) (n c : Nat) (sp : Int) (d : Dk) (b : Bool) : ∀ u ∈ stcs (.slice a n c) sp d b, u.oneCell' = true := by
 intro u hu
 simp only [stcs, List.mem_cons, List.not_mem_nil, or_false] at hu
 rcases hu with rfl | rfl | rfl | rfl | rfl | rfl | rfl | rfl <;> rfl
theorem res_st2 {fn : Func} {a b : Nat} (h : fn.results = #[.cell a 76, .tmp b]) (tmps : Array Value) (W : World) (lv : Value) (sp : Int) (d : Dk) (br : Bool) (k : Nat) (hp : tmps.getD a undef = .pointer (some ⟨k, 0, none⟩)) (hB : Blk W k (stcs lv sp d br).toArray) :
  (results fn tmps).run Tryz.prog W = .ok (.tuple #[stv lv sp d br, tmps.getD b undef]) W :=
 results_cell_tmp2 h tmps W _ _ hp (row_loadVar row_st W rfl hB)
section
variable {P : Program} {T : TypeId} {n : Nat} {ops : Array Oper} {rest : List Oper} {op : Oper} {a : Act} {w : World} {Q : Exit → Act → World → Prop}
theorem wpList_rowStoreAt (hT : RowT P T n) (hgd : op.guard = none) (hd : op.dst = none) (x y : Operand) (ho : op.op = .store T x y) {b off : Nat} (hx : a.eval x = .pointer (some ⟨b, off, none⟩)) {vs : List Value} (hy : a.eval y = .agg vs.toArray) (hl : vs.length = n) (h1 : ∀ v ∈ vs, v.oneCell' = true)
  {us : List Value} (hof : off + n ≤ us.length) (hB : Blk w b us.toArray)
  (h : ∀ w', Blk w' b (us.take off ++ vs ++ us.drop (off + n)).toArray → Mod [b] w w' → wpList P ops Q rest a w') : wpList P ops Q (op :: rest) a w := by
 obtain ⟨_, h3⟩ := hT
 have ht : w.there b off vs.length := fun j hj => by
  rw [hB.cell, hB.froz]
  simp; omega
 refine wpList_store_mid hgd T x y ho b off _ hx hy (by simpa using ht) (by simp [hl, h3]) (all_oneCell_toArray h1) ?_
 rw [hd]
 refine h _ ⟨fun o => ?_, fun o => by rw [World.frozen?_setCells]; exact hB.froz o, ?_⟩ (Mod.setCellsL b _ off w)
 ·have htl : (us.take off).length = off := by rw [List.length_take]; omega
  simp only [List.getElem?_toArray]
  by_cases ho1 : o < off
  ·rw [World.cell?_setCells_out b _ off w _ (fun _ _ => .inl ho1), hB.cell, List.append_assoc, List.getElem?_append_left (by omega), List.getElem?_take, if_pos ho1]
   simp
  ·by_cases ho2 : o < off + n
   ·have hj : o - off < vs.length := by omega
    have := World.cell?_setCells_in b vs off w (fun i hi => (ht i hi).1) (o - off) hj
    rw [show off + (o - off) = o from by omega] at this
    rw [List.append_assoc, List.getElem?_append_right (by omega), htl, List.getElem?_append_left hj, List.getElem?_eq_getElem hj]
    exact this
   ·rw [World.cell?_setCells_out b _ off w _ (fun _ _ => .inr (by simp; omega)), hB.cell, List.append_assoc, List.getElem?_append_right (by omega), htl, List.getElem?_append_right (by omega), List.getElem?_drop]
    simp only [List.getElem?_toArray]
    rw [show off + n + (o - off - vs.length) = o from by omega]
 ·exact Nat.lt_of_lt_of_le hB.lt (Mod.setCellsL b _ off w).size
end
theorem two_st (w : World) (lv : Value) (sp : Int) (d : Dk) (b : Bool) : Blk ((w.alloc (.cells (stcs lv sp d b).toArray 76)).alloc (.cells zst.toArray 76)) w.heap.size (stcs lv sp d b).toArray ∧
  Blk ((w.alloc (.cells (stcs lv sp d b).toArray 76)).alloc (.cells zst.toArray 76)) (w.heap.size + 1) zst.toArray ∧
  Below w.heap.size w ((w.alloc (.cells (stcs lv sp d b).toArray 76)).alloc (.cells zst.toArray 76)) :=
 ⟨(Blk.new _ _ _).alloc _, Blk.new' (by simp), Below.allocS (Below.allocS (Below.refl _ _) _) _⟩
def rL (c : Int) (lv ov : Value) : Value := if c = 0 then lv else ov
def wrS (d : Dk) (b : Bool) (l : List Bs) : Dk × Bool × Int := if b = true then (d, true, 320) else ((writeD d l).1, tornD (writeD d l).2, (writeD d l).2)
theorem rwrS_any (d : Dk) (b : Bool) (v : Value) (l : List Bs) (hn : l.length ≤ 1000) (hm : mayR l = true) (hf : -9223372036854775807 ≤ d.fuse ∧ d.fuse ≤ 9223372036854775807) (hrm : 0 ≤ d.room ∧ d.room ≤ 1048576) (hsl : d.s.length ≤ 1048576) (w : World) (hv : SS w v l) :
  Calls Tryz.prog 144 #[dv d, .bool b, v] w fun e w' => e = .returned (.tuple #[dv (wrS d b l).1, .bool (wrS d b l).2.1, .int .i64 ((wrS d b l).2.2)]) ∧ Below w.heap.size w w' := by
 cases b
 ·exact rwrite_any d v l hn hm hf hrm hsl w hv
 ·obtain ⟨a, c, e⟩ := hv.form
  exact rwriteT_any d v ⟨a, _, c, e⟩ w
theorem rstwrite_any (oa : Option Addr) (on oc : Nat) (la : Option Addr) (ln lc : Nat) (sp : Int) (d : Dk) (b : Bool) (v : Value) (l : List Bs) (hne : l ≠ []) (hn : l.length ≤ 1000) (hm : mayR l = true) (hf : -9223372036854775807 ≤ d.fuse ∧ d.fuse ≤ 9223372036854775807) (hrm : 0 ≤ d.room ∧ d.room ≤ 1048576) (hsl : d.s.length ≤ 1048576) (w : World) (hv : SS w v l) :
  Calls Tryz.prog 87 #[stv (.slice oa on oc) sp d b, v, .slice la ln lc] w fun e w' => e = .returned (.tuple #[stv (rL (wrS d b l).2.2 (.slice la ln lc) (.slice oa on oc)) sp (wrS d b l).1 (wrS d b l).2.1, .int .i64 ((wrS d b l).2.2)]) ∧ Below w.heap.size w w' := by
 have q1 := fun W (hb : Below w.heap.size w W) => rwrS_any d b v l hn hm hf hrm hsl W (hv.keep hb)
 obtain ⟨va, vc, rfl⟩ := hv.form
 have hl : l.length ≠ 0 := fun e => hne (List.length_eq_zero_iff.1 e)
 have e0 : ((l.length : Int) == 0) = false := by rw [beq_eq_false_iff_ne]; omega
 generalize wrS d b l = R at *
 obtain ⟨⟨s1, sf1, rm1, fu1, dn1⟩, b1, c1⟩ := R
 obtain ⟨s, safe, room, fuse, down⟩ := d
 simp only at q1
 obtain ⟨B1, B2, hb2⟩ := two_st w (.slice oa on oc) sp ⟨s, safe, room, fuse, down⟩ b
 obtain ⟨m1, m2, m3⟩ := id B1
 clear hf hrm hsl hm hv hne hl
 go_enter Tryz.func87, Tryz.ntmps87
 go_wp2_with fail
 refine (q1 _ hb2).mono ?_
 rintro e w3 ⟨rfl, hb⟩
 have B13 := B1.keep hb
 have B23 := B2.keep hb
 have hb3 := hb2.trans (hb.mono hb2.size)
 have hs3 : w.heap.size + 2 ≤ w3.heap.size := by have := hb.size; simp at this; exact this
 clear q1 B1 B2 hb hb2 m1 m2 m3
 by_cases h0 : c1 = 0
 ·subst h0
  go_wp2_with (first
  | (refine wpList_rowStore row_dk rfl rfl (.tmp 8) (.tmp 22) rfl rfl rfl (vs := dcs ⟨s1, sf1, rm1, fu1, dn1⟩) rfl (dcs_one _) (us := dcs ⟨[], 0, 0, 0, false⟩) rfl (Blk.new' (by simp)) ?_; intro w4 N4 m4; have hb4 := Below.mod (Below.allocS hb3 (.cells (dcs ⟨[], 0, 0, 0, false⟩).toArray 72)) m4 (by have := hb3.size; simp; omega) (by simp; omega); have hsz4 := m4.size; have B14 := (B13.alloc (.cells (dcs ⟨[], 0, 0, 0, false⟩).toArray 72)).mod m4 (by simp; omega); have B24 := (B23.alloc (.cells (dcs ⟨[], 0, 0, 0, false⟩).toArray 72)).mod m4 (by simp; omega); have hs4 : w3.heap.size + 1 ≤ w4.heap.size := (by simpa using hsz4))
  | (refine wpList_rowLoad row_dk rfl (.tmp 8) rfl rfl (vs := dcs ⟨s1, sf1, rm1, fu1, dn1⟩) rfl N4 ?_)
  | (refine wpList_rowStoreAt row_dk rfl rfl (.tmp 26) (.tmp 25) rfl (off := 2) rfl (vs := dcs ⟨s1, sf1, rm1, fu1, dn1⟩) rfl rfl (dcs_one _) (us := stcs (.slice oa on oc) sp ⟨s, safe, room, fuse, down⟩ b) (by simp) B14 ?_; intro w5 N5' m5; have N5 : Blk w5 w.heap.size (stcs (.slice oa on oc) sp ⟨s1, sf1, rm1, fu1, dn1⟩ b).toArray := N5'; have hb5 := mod_two hb4 m5 (Nat.le_refl _) (by omega); have B25 := B24.mod m5 (by simp); have hs5 := m5.size; obtain ⟨n1, n2, n3⟩ := id N5)
  | (refine wpList_rowLoad row_st rfl (.tmp 3) rfl rfl (vs := stcs (.slice la ln lc) sp ⟨s1, sf1, rm1, fu1, dn1⟩ b1) rfl (by simpa using (N5.set 7 (.bool b1)).set 0 (.slice la ln lc)) ?_)
  | (refine wpList_rowStore row_st rfl rfl (.tmp 6) (.tmp 33) rfl rfl rfl (vs := stcs (.slice la ln lc) sp ⟨s1, sf1, rm1, fu1, dn1⟩ b1) rfl (stcs_one _ _ _ _ _ _) (us := zst) rfl ((B25.other (a := ⟨w.heap.size, 7, none⟩) (by simp) _).other (a := ⟨w.heap.size, 0, none⟩) (by simp) _) ?_; intro w6 N6 m6))
  have hm := ((Mod.refl [w.heap.size] w5).setCell (p := ⟨w.heap.size, 7, none⟩) (.inl (by simp)) (.bool b1)).setCell (p := ⟨w.heap.size, 0, none⟩) (.inl (by simp)) (.slice la ln lc)
  have hb6 := mod_two (mod_two hb5 hm (Nat.le_refl _) (by omega)) m6 (by omega) (by have := hm.size; omega)
  refine bodyPost_ret (res_st2 rfl _ _ (.slice la ln lc) sp ⟨s1, sf1, rm1, fu1, dn1⟩ b1 _ rfl N6) rfl ?_
  exact ⟨rfl, hb6⟩
 ·have g1 : (c1 == 0) = false := by simpa using h0
  have HR : Hid (rL c1 (.slice la ln lc) (.slice oa on oc) = .slice oa on oc) := Lib.hid (if_neg h0)
  clear h0
  go_wp2_with (first
  | (refine wpList_rowStore row_dk rfl rfl (.tmp 8) (.tmp 22) rfl rfl rfl (vs := dcs ⟨s1, sf1, rm1, fu1, dn1⟩) rfl (dcs_one _) (us := dcs ⟨[], 0, 0, 0, false⟩) rfl (Blk.new' (by simp)) ?_; intro w4 N4 m4; have hb4 := Below.mod (Below.allocS hb3 (.cells (dcs ⟨[], 0, 0, 0, false⟩).toArray 72)) m4 (by have := hb3.size; simp; omega) (by simp; omega); have hsz4 := m4.size; have B14 := (B13.alloc (.cells (dcs ⟨[], 0, 0, 0, false⟩).toArray 72)).mod m4 (by simp; omega); have B24 := (B23.alloc (.cells (dcs ⟨[], 0, 0, 0, false⟩).toArray 72)).mod m4 (by simp; omega); have hs4 : w3.heap.size + 1 ≤ w4.heap.size := (by simpa using hsz4))
  | (refine wpList_rowLoad row_dk rfl (.tmp 8) rfl rfl (vs := dcs ⟨s1, sf1, rm1, fu1, dn1⟩) rfl N4 ?_)
  | (refine wpList_rowStoreAt row_dk rfl rfl (.tmp 26) (.tmp 25) rfl (off := 2) rfl (vs := dcs ⟨s1, sf1, rm1, fu1, dn1⟩) rfl rfl (dcs_one _) (us := stcs (.slice oa on oc) sp ⟨s, safe, room, fuse, down⟩ b) (by simp) B14 ?_; intro w5 N5' m5; have N5 : Blk w5 w.heap.size (stcs (.slice oa on oc) sp ⟨s1, sf1, rm1, fu1, dn1⟩ b).toArray := N5'; have hb5 := mod_two hb4 m5 (Nat.le_refl _) (by omega); have B25 := B24.mod m5 (by simp); have hs5 := m5.size; obtain ⟨n1, n2, n3⟩ := id N5)
  | (refine wpList_rowLoad row_st rfl (.tmp 3) rfl rfl (vs := stcs (.slice oa on oc) sp ⟨s1, sf1, rm1, fu1, dn1⟩ b1) rfl (by simpa using N5.set 7 (.bool b1)) ?_)
  | (refine wpList_rowStore row_st rfl rfl (.tmp 6) (.tmp 33) rfl rfl rfl (vs := stcs (.slice oa on oc) sp ⟨s1, sf1, rm1, fu1, dn1⟩ b1) rfl (stcs_one _ _ _ _ _ _) (us := zst) rfl (B25.other (a := ⟨w.heap.size, 7, none⟩) (by simp) _) ?_; intro w6 N6 m6))
  have hm := (Mod.refl [w.heap.size] w5).setCell (p := ⟨w.heap.size, 7, none⟩) (.inl (by simp)) (.bool b1)
  have hb6 := mod_two (mod_two hb5 hm (Nat.le_refl _) (by omega)) m6 (by omega) (by have := hm.size; omega)
  refine bodyPost_ret (res_st2 rfl _ _ (.slice oa on oc) sp ⟨s1, sf1, rm1, fu1, dn1⟩ b1 _ rfl N6) rfl ?_
  simp only [HR.out]
  exact ⟨rfl, hb6⟩
theorem rstwrite_nil (oa : Option Addr) (on oc : Nat) (la : Option Addr) (ln lc : Nat) (sp : Int) (d : Dk) (b : Bool) (va : Option Addr) (vc : Nat) (w : World) :
  Calls Tryz.prog 87 #[stv (.slice oa on oc) sp d b, .slice va 0 vc, .slice la ln lc] w fun e w' => e = .returned (.tuple #[stv (.slice oa on oc) sp d b, .int .i64 0]) ∧ Below w.heap.size w w' := by
 obtain ⟨s, safe, room, fuse, down⟩ := d
 go_enter Tryz.func87, Tryz.ntmps87
 go_wp2_with fail
 refine bodyPost_ret (res_st2 rfl _ _ (.slice oa on oc) sp ⟨s, safe, room, fuse, down⟩ b _ rfl (Blk.new' (by simp))) rfl ?_
 exact ⟨rfl, Below.allocS (Below.allocS (Below.refl _ _) _) _⟩
def staleR (sp now : Int) (t : Tr) : Bool := decide (sp ≤ now) && decide (t.at_ ≤ now - sp)
theorem rstale_any (oa : Option Addr) (on oc : Nat) (sp now : Int) (hsp : 0 ≤ sp ∧ sp ≤ 1099511627776) (hn : -9223372036854775808 ≤ now ∧ now ≤ 9223372036854775807) (d : Dk) (b : Bool) (t : Tr) (ka : Option Addr) (kc : Nat) (ma : Option Addr) (mc : Nat) (w : World) :
  Calls Tryz.prog 89 #[stv (.slice oa on oc) sp d b, .agg (tcs t (.slice ka t.head.skips.length kc) (.slice ma t.set.length mc)).toArray, .int .i64 now] w fun e w' => e = .returned (.bool (staleR sp now t)) ∧ Below w.heap.size w w' := by
 obtain ⟨s, safe, room, fuse, down⟩ := d
 by_cases h1 : sp ≤ now
 ·have d1 : decide (sp ≤ now) = true := by simpa using h1
  have w1 : IntKind.i64.wrap (now - sp) = now - sp := by rw [IntKind.wrap_i64]; omega
  have HR : Hid (staleR sp now t = decide (t.at_ ≤ now - sp)) := Lib.hid (by unfold staleR; rw [d1, Bool.true_and])
  unfold tcs
  clear h1
  go_enter Tryz.func89, Tryz.ntmps89
  go_wp2_with fail
  go_ret
  rw [HR.out]
  exact ⟨rfl, Below.allocS (Below.allocS (Below.refl _ _) _) _⟩
 ·have d1 : decide (sp ≤ now) = false := by simpa using h1
  have HR : Hid (staleR sp now t = false) := Lib.hid (by unfold staleR; rw [d1, Bool.false_and])
  unfold tcs
  clear h1
  go_enter Tryz.func89, Tryz.ntmps89
  go_wp2_with fail
  go_ret
  rw [HR.out]
  exact ⟨rfl, Below.allocS (Below.allocS (Below.refl _ _) _) _⟩
end Go.Proofs.YthgjdaomcpinaaaGreatDoor
