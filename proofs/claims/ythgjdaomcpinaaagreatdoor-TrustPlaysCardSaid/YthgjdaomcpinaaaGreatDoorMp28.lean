/- TBest, TWorksP, TStaleP, TDrop, TTrim, TTrimP. -/
import Derived.Shelf.Slices.Empties
import Derived.Test.YthgjdaomcpinaaaGreatDoorMp27
set_option linter.unnecessarySimpa false
set_option linter.unusedSimpArgs false
set_option linter.unusedVariables false
set_option maxRecDepth 100000
set_option maxHeartbeats 32000000
namespace Go.Proofs.YthgjdaomcpinaaaGreatDoor
open Go.RowKit Go.WideMaps Go.Maps Go.Sort Go.Shelf Pl
theorem rev_row (base : Nat) (v : Value) (l : List Int) (hl : l.length ≤ 9223372036854775807) (w : World) (hb : base ≤ w.heap.size) (h : ZRow w base v l) :
  Calls Tryz.prog 77 #[v] w fun e w' => e = .returned (.tuple #[]) ∧ ZRow w' base v l.reverse ∧ Below base w w' := by
 by_cases hv : v = .slice none 0 0
 ·subst hv
  have h0 : l = [] := by
   rcases h.cells with ⟨_, h⟩ | ⟨g, cap, h, _⟩
   ·exact h
   ·cases h
  subst h0
  refine (Any.slices_Reverse_int_empty laysRev none 0 w).mono ?_
  rintro e w' ⟨rfl, rfl⟩
  exact ⟨rfl, ZRow.nil _ _, Below.refl _ _⟩
 ·have h' : w.ownsRow base 3 1 v l.length (l.map (Value.int .i64)) := h
  obtain ⟨g, cap, rfl, h1, h2, h3, h4, h5, h6⟩ := Lib.holds_of_ownsRow h' hv
  refine (Any.slices_Reverse_int laysRev g 0 cap l w h6 hl).mono ?_
  rintro e w' ⟨rfl, q, rfl⟩
  have hc := Lib.ownsRow_putRow (q := q) (k := l.length) (ys := l.reverse) h' (by simp) (Nat.le_refl _)
  rw [List.take_of_length_le (by simp)] at hc
  refine ⟨rfl, ?_, Lib.below_putRow (Below.refl _ _) h1⟩
  unfold ZRow
  rw [List.length_reverse]
  exact hc
theorem bin_row (base : Nat) (v : Value) (l : List Int) (x : Int) (hl : l.length < 4611686018427387904) (w : World) (h : ZRow w base v l) (hs : l.Pairwise (· ≤ ·)) :
  Calls Tryz.prog 80 #[v, .int .i64 x] w fun e w' => e = .returned (.tuple #[.int .i64 ((l.countP (· < x) : Nat)), .bool (l.contains x)]) ∧ Below w.heap.size w w' := by
 rcases h.cells with ⟨rfl, rfl⟩ | ⟨g, cap, rfl, h1, h2, h3, h4, h5, h6⟩
 ·refine (Any.slices_BinarySearch_int_empty laysBin none 0 x w).mono ?_
  rintro e w' ⟨rfl, rfl⟩
  exact ⟨rfl, Below.refl _ _⟩
 ·refine (Any.slices_BinarySearch_int laysBin g 0 l.length cap l x w (Nat.le_refl _) hl (fun j hj => by rw [Nat.zero_add]; exact h5 j hj) (by rw [List.take_length]; exact hs)).mono ?_
  rintro e w' ⟨rfl, q, rfl⟩
  rw [List.take_length]
  exact ⟨rfl, below_drewN (Below.refl _ _) q⟩
theorem tbest_any (base q m : Nat) (span : Int) (jp : Value) (T : List (Int × Tr)) (now : Int) (hTl : T.length ≤ 100000) (hsm : TrSm T) (hn : -9223372036854775808 ≤ now ∧ now ≤ 9223372036854775807) (hs : 0 ≤ span ∧ span ≤ 1099511627776) (w : World) (hM : TrM w base m T) (B : Blk w q #[.map (some m), .int .i64 span, jp]) :
  Calls Tryz.prog 33 #[.pointer (some ⟨q, 0, none⟩), .int .i64 now] w fun e w' => ∃ v', e = .returned (.tuple #[v', .int .i64 (firstC (firstT T span now (sortZ (hts T)).reverse) (sortZ (hts T)).reverse)]) ∧ FV w' w.heap.size v' (firstT T span now (sortZ (hts T)).reverse) ∧ Below w.heap.size w w' := by
 have Z0 : Blk (w.alloc (.cells ztA 27)) w.heap.size (List.toArray ztL) := Blk.new _ _ _
 have hb0 : Below w.heap.size w (w.alloc (.cells ztA 27)) := Below.allocS (Below.refl _ _) _
 have q1 := theights_any base q m span jp T hTl _ (hM.keep hb0) (B.keep hb0)
 have hlen : (sortZ (hts T)).length ≤ 100000 := by rw [sortZ_len]; unfold hts; rw [List.length_map]; exact hTl
 have HMEM := Lib.hid (fun k (h : k ∈ (sortZ (hts T)).reverse) => sortZ_mem.1 (List.mem_reverse.1 h))
 generalize hL : sortZ (hts T) = Hs at *
 have HM := Lib.hid hM
 have HB := Lib.hid B
 clear hM B hL
 go_enter Tryz.func33, Tryz.ntmps33
 go_wp2_with fail
 refine q1.mono ?_
 rintro e w1 ⟨v1, rfl, hz, hb⟩
 obtain ⟨za, zc, rfl⟩ := hz.form
 have Z1 := Z0.keep hb
 have hb1 := hb0.trans (hb.mono hb0.size)
 have hs1 : w.heap.size + 1 ≤ w1.heap.size := by have := hb.size; simpa using this
 have hz1 := ZRow.low (c := w.heap.size + 1) hz (by simp)
 have q2 := rev_row (w.heap.size + 1) _ Hs (by omega) w1 hs1 hz1
 clear q1 hb hb0 Z0 hz
 go_wp2_with fail
 refine q2.mono ?_
 rintro e w2 ⟨rfl, hz2, hb⟩
 have Z2 := Z1.belowB hb (Nat.lt_succ_self _)
 have hb2 := hb1.trans (hb.mono (Nat.le_succ _))
 have hs2 := Nat.le_trans hs1 hb.size
 have q3 := tfirst_any base q m span jp T (.slice za Hs.length zc) Hs.reverse now ‹_› HMEM.out hn hs w2 (HM.out.keep hb2) (HB.out.keep hb2) (by have := hz2.is; exact this)
 generalize hO : firstT T span now Hs.reverse = o at q3
 generalize hC : firstC o Hs.reverse = c at q3
 have HO := Lib.hid hO
 have HC := Lib.hid hC
 clear hO hC
 clear q2 hb hb1 Z1 hz1
 go_wp2_with fail
 refine q3.mono ?_
 rintro e w3 ⟨v3, rfl, hv3, hb⟩
 have Z3 := Z2.keep hb
 have hb3 := hb2.trans (hb.mono hb2.size)
 have hlt := Z2.lt
 clear q3 hb hb2 Z2 hz2
 cases o with
 | none =>
  have hv3 : v3 = nilT := hv3
  subst hv3
  go_wp2_with (first | (refine wpList_rowStore row_trust rfl rfl (.tmp 4) (.tmp 15) rfl rfl rfl (vs := [.int .i64 0, .int .i64 0, .int .i64 0, .bool false, .string ⟨List.toArray []⟩, .string ⟨List.toArray []⟩, .string ⟨List.toArray []⟩, .string ⟨List.toArray []⟩, .string ⟨List.toArray []⟩, .string ⟨List.toArray []⟩, .slice none 0 0, .slice none 0 0, .int .i64 0]) rfl (by simp [Value.oneCell']) (us := ztL) rfl Z3 ?_; intro w5 N5 m5))
  have hld := row_loadVar row_trust w5 (vs := [.int .i64 0, .int .i64 0, .int .i64 0, .bool false, .string ⟨List.toArray []⟩, .string ⟨List.toArray []⟩, .string ⟨List.toArray []⟩, .string ⟨List.toArray []⟩, .string ⟨List.toArray []⟩, .string ⟨List.toArray []⟩, .slice none 0 0, .slice none 0 0, .int .i64 0]) rfl N5
  refine bodyPost_ret (results_cell_tmp2 rfl _ _ _ _ rfl hld) rfl ?_
  rw [HO.out, HC.out]
  refine ⟨nilT, rfl, ?_, Below.mod hb3 m5 hb3.size (by simp)⟩
  rfl
 | some t =>
  have hv3 : TRow w3 _ v3 t := hv3
  obtain ⟨⟨a1, a2, a3, lb, pa, sr, rc, tx, me, ne, K⟩, L, ta⟩ := t
  obtain ⟨sk, ms, rfl, r1, r2⟩ := hv3
  simp only at r1 r2
  obtain ⟨ka, kc, rfl⟩ := r1.form
  obtain ⟨ma, mc, rfl⟩ := r2.form
  go_wp2_with (first | (refine wpList_rowStore row_trust rfl rfl (.tmp 4) (.tmp 15) rfl rfl rfl (vs := [.int .i64 a1, .int .i64 a2, .int .i64 a3, .bool lb, .string ⟨List.toArray pa⟩, .string ⟨List.toArray sr⟩, .string ⟨List.toArray rc⟩, .string ⟨List.toArray tx⟩, .string ⟨List.toArray me⟩, .string ⟨List.toArray ne⟩, .slice ka K.length kc, .slice ma L.length mc, .int .i64 ta]) rfl (by simp [Value.oneCell']) (us := ztL) rfl Z3 ?_; intro w5 N5 m5))
  have hld := row_loadVar row_trust w5 (vs := [.int .i64 a1, .int .i64 a2, .int .i64 a3, .bool lb, .string ⟨List.toArray pa⟩, .string ⟨List.toArray sr⟩, .string ⟨List.toArray rc⟩, .string ⟨List.toArray tx⟩, .string ⟨List.toArray me⟩, .string ⟨List.toArray ne⟩, .slice ka K.length kc, .slice ma L.length mc, .int .i64 ta]) rfl N5
  refine bodyPost_ret (results_cell_tmp2 rfl _ _ _ _ rfl hld) rfl ?_
  rw [HO.out, HC.out]
  exact ⟨_, rfl, show TRow _ _ _ _ from ⟨_, _, rfl, SRow.low (r1.mod m5 hlt) (by omega), MRow.low (r2.mod m5 hlt) (by omega)⟩, Below.mod hb3 m5 hb3.size (by simp)⟩
theorem ISrc.dropI {w : World} {g o : Nat} {l : List Int} (h : ISrc w g o l) (n : Nat) : ISrc w g (o + n) (l.drop n) := by
 intro i hi
 rw [List.length_drop] at hi
 have := h (n + i) (by omega)
 rw [Nat.add_assoc, this]
 simp [List.getD, List.getElem?_drop]
theorem tabove_any (base q m : Nat) (span : Int) (jp : Value) (T : List (Int × Tr)) (k now : Int) (hTl : T.length ≤ 100000) (hsm : TrSm T) (hn : -9223372036854775808 ≤ now ∧ now ≤ 9223372036854775807) (hs : 0 ≤ span ∧ span ≤ 1099511627776) (w : World) (hM : TrM w base m T) (B : Blk w q #[.map (some m), .int .i64 span, jp]) :
  Calls Tryz.prog 34 #[.pointer (some ⟨q, 0, none⟩), .int .i64 k, .int .i64 now] w fun e w' => ∃ v', e = .returned (.tuple #[v', .int .i64 (firstC (firstT T span now ((sortZ (hts T)).drop ((sortZ (hts T)).countP (· < k)))) ((sortZ (hts T)).drop ((sortZ (hts T)).countP (· < k))))]) ∧ FV w' w.heap.size v' (firstT T span now ((sortZ (hts T)).drop ((sortZ (hts T)).countP (· < k)))) ∧ Below w.heap.size w w' := by
 have Z0 : Blk (w.alloc (.cells ztA 27)) w.heap.size (List.toArray ztL) := Blk.new _ _ _
 have hb0 : Below w.heap.size w (w.alloc (.cells ztA 27)) := Below.allocS (Below.refl _ _) _
 have q1 := theights_any base q m span jp T hTl _ (hM.keep hb0) (B.keep hb0)
 have hlen : (sortZ (hts T)).length ≤ 100000 := by rw [sortZ_len]; unfold hts; rw [List.length_map]; exact hTl
 have HMEM := Lib.hid (fun x (h : x ∈ sortZ (hts T)) => sortZ_mem.1 h)
 have hso := sortZ_sorted (hts T)
 generalize hL : sortZ (hts T) = Hs at *
 have hcl : Hs.countP (· < k) ≤ Hs.length := List.countP_le_length
 have q2 := fun (v : Value) (b : Nat) (W : World) (h : ZRow W b v Hs) => bin_row b v Hs k (by omega) W h hso
 generalize hn0 : Hs.countP (· < k) = n at *
 have HM := Lib.hid hM
 have HB := Lib.hid B
 clear hM B hL hn0 hso
 go_enter Tryz.func34, Tryz.ntmps34
 go_wp2_with fail
 refine q1.mono ?_
 rintro e w1 ⟨v1, rfl, hz, hb⟩
 obtain ⟨za, zc, rfl⟩ := hz.form
 have Z1 := Z0.keep hb
 have hb1 := hb0.trans (hb.mono hb0.size)
 have q2 := q2 _ _ w1 hz
 clear q1 hb hb0 Z0
 go_wp2_with fail
 refine q2.mono ?_
 rintro e w2 ⟨rfl, hb⟩
 have Z2 := Z1.keep hb
 have hz2 := hz.keep hb
 have hb2 := hb1.trans (hb.mono hb1.size)
 clear q2 hb hb1 Z1 hz
 have HO : Hid (∀ x ∈ Hs.drop n, x ∈ hts T) := Lib.hid (fun x hx => HMEM.out x (List.mem_of_mem_drop hx))
 rcases hz2.cells with ⟨e1, e2⟩ | ⟨g, cap, e1, h1, h2, h3, h4, h5, h6⟩
 ·injection e1 with e1 _ e3
  subst e1 e3 e2
  obtain rfl : n = 0 := by simpa using hcl
  have hdv : IS w2 (.slice none 0 0) (List.drop 0 []) := ⟨none, 0, rfl, Nat.le_refl _, by unfold maxLen; omega, fun h => absurd rfl h⟩
  have q3 := tfirst_any base q m span jp T _ _ now hsm HO.out hn hs w2 (HM.out.keep hb2) (HB.out.keep hb2) hdv
  generalize hO : firstT T span now (List.drop _ _) = o at q3
  generalize hC : firstC o (List.drop _ _) = c at q3
  have HO2 := Lib.hid hO
  have HC := Lib.hid hC
  have hlt := Z2.lt
  clear hO hC hdv hz2
  go_wp2_with fail
  refine q3.mono ?_
  rintro e w3 ⟨v3, rfl, hv3, hb⟩
  have Z3 := Z2.keep hb
  have hb3 := hb2.trans (hb.mono hb2.size)
  clear q3 hb hb2 Z2
  cases o with
  | none =>
   have hv3 : v3 = nilT := hv3
   subst hv3
   go_wp2_with (first | (refine wpList_rowStore row_trust rfl rfl (.tmp 6) (.tmp 25) rfl rfl rfl (vs := [.int .i64 0, .int .i64 0, .int .i64 0, .bool false, .string ⟨List.toArray []⟩, .string ⟨List.toArray []⟩, .string ⟨List.toArray []⟩, .string ⟨List.toArray []⟩, .string ⟨List.toArray []⟩, .string ⟨List.toArray []⟩, .slice none 0 0, .slice none 0 0, .int .i64 0]) rfl (by simp [Value.oneCell']) (us := ztL) rfl Z3 ?_; intro w5 N5 m5))
   have hld := row_loadVar row_trust w5 (vs := [.int .i64 0, .int .i64 0, .int .i64 0, .bool false, .string ⟨List.toArray []⟩, .string ⟨List.toArray []⟩, .string ⟨List.toArray []⟩, .string ⟨List.toArray []⟩, .string ⟨List.toArray []⟩, .string ⟨List.toArray []⟩, .slice none 0 0, .slice none 0 0, .int .i64 0]) rfl N5
   refine bodyPost_ret (results_cell_tmp2 rfl _ _ _ _ rfl hld) rfl ?_
   rw [HO2.out, HC.out]
   refine ⟨nilT, rfl, ?_, Below.mod hb3 m5 hb3.size (by simp)⟩
   rfl
  | some t =>
   have hv3 : TRow w3 _ v3 t := hv3
   obtain ⟨⟨a1, a2, a3, lb, pa, sr, rc, tx, me, ne, K⟩, L, ta⟩ := t
   obtain ⟨sk, ms, rfl, r1, r2⟩ := hv3
   simp only at r1 r2
   obtain ⟨ka, kc, rfl⟩ := r1.form
   obtain ⟨ma, mc, rfl⟩ := r2.form
   go_wp2_with (first | (refine wpList_rowStore row_trust rfl rfl (.tmp 6) (.tmp 25) rfl rfl rfl (vs := [.int .i64 a1, .int .i64 a2, .int .i64 a3, .bool lb, .string ⟨List.toArray pa⟩, .string ⟨List.toArray sr⟩, .string ⟨List.toArray rc⟩, .string ⟨List.toArray tx⟩, .string ⟨List.toArray me⟩, .string ⟨List.toArray ne⟩, .slice ka K.length kc, .slice ma L.length mc, .int .i64 ta]) rfl (by simp [Value.oneCell']) (us := ztL) rfl Z3 ?_; intro w5 N5 m5))
   have hld := row_loadVar row_trust w5 (vs := [.int .i64 a1, .int .i64 a2, .int .i64 a3, .bool lb, .string ⟨List.toArray pa⟩, .string ⟨List.toArray sr⟩, .string ⟨List.toArray rc⟩, .string ⟨List.toArray tx⟩, .string ⟨List.toArray me⟩, .string ⟨List.toArray ne⟩, .slice ka K.length kc, .slice ma L.length mc, .int .i64 ta]) rfl N5
   refine bodyPost_ret (results_cell_tmp2 rfl _ _ _ _ rfl hld) rfl ?_
   rw [HO2.out, HC.out]
   exact ⟨_, rfl, show TRow _ _ _ _ from ⟨_, _, rfl, SRow.low (r1.mod m5 hlt) (by omega), MRow.low (r2.mod m5 hlt) (by omega)⟩, Below.mod hb3 m5 hb3.size (by simp)⟩
 ·injection e1 with e1 _ e3
  subst e1 e3
  have h7 : ISrc w2 g 0 Hs := fun i hi => by rw [Nat.zero_add]; exact h5 i hi
  have h8 := h7.dropI n
  have b1 : (n : Int) ≤ (Hs.length : Int) := by omega
  have b2 : 0 ≤ (n : Int) := by omega
  by_cases hzn : zc = n
  ·have hdr : Hs.drop n = [] := List.drop_eq_nil_of_le (by omega)
   have hdv : IS w2 (.slice (some ⟨g, 0, none⟩) (Hs.length - n) 0) (Hs.drop n) := ⟨some ⟨g, 0, none⟩, 0, by rw [List.length_drop], by rw [hdr]; simp, by unfold maxLen; omega, fun h => absurd hdr h⟩
   have q3 := tfirst_any base q m span jp T _ _ now hsm HO.out hn hs w2 (HM.out.keep hb2) (HB.out.keep hb2) hdv
   clear h7 h8 h5 h6 hdr
   generalize hO : firstT T span now (List.drop _ _) = o at q3
   generalize hC : firstC o (List.drop _ _) = c at q3
   have HO2 := Lib.hid hO
   have HC := Lib.hid hC
   have hlt := Z2.lt
   clear hO hC hdv hz2
   go_wp2_with fail
   refine q3.mono ?_
   rintro e w3 ⟨v3, rfl, hv3, hb⟩
   have Z3 := Z2.keep hb
   have hb3 := hb2.trans (hb.mono hb2.size)
   clear q3 hb hb2 Z2
   cases o with
   | none =>
    have hv3 : v3 = nilT := hv3
    subst hv3
    go_wp2_with (first | (refine wpList_rowStore row_trust rfl rfl (.tmp 6) (.tmp 25) rfl rfl rfl (vs := [.int .i64 0, .int .i64 0, .int .i64 0, .bool false, .string ⟨List.toArray []⟩, .string ⟨List.toArray []⟩, .string ⟨List.toArray []⟩, .string ⟨List.toArray []⟩, .string ⟨List.toArray []⟩, .string ⟨List.toArray []⟩, .slice none 0 0, .slice none 0 0, .int .i64 0]) rfl (by simp [Value.oneCell']) (us := ztL) rfl Z3 ?_; intro w5 N5 m5))
    have hld := row_loadVar row_trust w5 (vs := [.int .i64 0, .int .i64 0, .int .i64 0, .bool false, .string ⟨List.toArray []⟩, .string ⟨List.toArray []⟩, .string ⟨List.toArray []⟩, .string ⟨List.toArray []⟩, .string ⟨List.toArray []⟩, .string ⟨List.toArray []⟩, .slice none 0 0, .slice none 0 0, .int .i64 0]) rfl N5
    refine bodyPost_ret (results_cell_tmp2 rfl _ _ _ _ rfl hld) rfl ?_
    rw [HO2.out, HC.out]
    refine ⟨nilT, rfl, ?_, Below.mod hb3 m5 hb3.size (by simp)⟩
    rfl
   | some t =>
    have hv3 : TRow w3 _ v3 t := hv3
    obtain ⟨⟨a1, a2, a3, lb, pa, sr, rc, tx, me, ne, K⟩, L, ta⟩ := t
    obtain ⟨sk, ms, rfl, r1, r2⟩ := hv3
    simp only at r1 r2
    obtain ⟨ka, kc, rfl⟩ := r1.form
    obtain ⟨ma, mc, rfl⟩ := r2.form
    go_wp2_with (first | (refine wpList_rowStore row_trust rfl rfl (.tmp 6) (.tmp 25) rfl rfl rfl (vs := [.int .i64 a1, .int .i64 a2, .int .i64 a3, .bool lb, .string ⟨List.toArray pa⟩, .string ⟨List.toArray sr⟩, .string ⟨List.toArray rc⟩, .string ⟨List.toArray tx⟩, .string ⟨List.toArray me⟩, .string ⟨List.toArray ne⟩, .slice ka K.length kc, .slice ma L.length mc, .int .i64 ta]) rfl (by simp [Value.oneCell']) (us := ztL) rfl Z3 ?_; intro w5 N5 m5))
    have hld := row_loadVar row_trust w5 (vs := [.int .i64 a1, .int .i64 a2, .int .i64 a3, .bool lb, .string ⟨List.toArray pa⟩, .string ⟨List.toArray sr⟩, .string ⟨List.toArray rc⟩, .string ⟨List.toArray tx⟩, .string ⟨List.toArray me⟩, .string ⟨List.toArray ne⟩, .slice ka K.length kc, .slice ma L.length mc, .int .i64 ta]) rfl N5
    refine bodyPost_ret (results_cell_tmp2 rfl _ _ _ _ rfl hld) rfl ?_
    rw [HO2.out, HC.out]
    exact ⟨_, rfl, show TRow _ _ _ _ from ⟨_, _, rfl, SRow.low (r1.mod m5 hlt) (by omega), MRow.low (r2.mod m5 hlt) (by omega)⟩, Below.mod hb3 m5 hb3.size (by simp)⟩
  ·have hdv : IS w2 (.slice (some ⟨g, n, none⟩) (Hs.length - n) (zc - n)) (Hs.drop n) := ⟨some ⟨g, n, none⟩, zc - n, by rw [List.length_drop], by rw [List.length_drop]; omega, by omega, fun _ => ⟨g, n, rfl, h2, by rw [Nat.zero_add] at h8; exact h8⟩⟩
   have q3 := tfirst_any base q m span jp T _ _ now hsm HO.out hn hs w2 (HM.out.keep hb2) (HB.out.keep hb2) hdv
   have b3 : ¬ n = zc := fun e => hzn e.symm
   have b4 : ¬ zc - n = 0 := by omega
   clear h7 h8 h5 h6
   generalize hO : firstT T span now (List.drop _ _) = o at q3
   generalize hC : firstC o (List.drop _ _) = c at q3
   have HO2 := Lib.hid hO
   have HC := Lib.hid hC
   have hlt := Z2.lt
   clear hO hC hdv hz2
   go_wp2_with fail
   refine q3.mono ?_
   rintro e w3 ⟨v3, rfl, hv3, hb⟩
   have Z3 := Z2.keep hb
   have hb3 := hb2.trans (hb.mono hb2.size)
   clear q3 hb hb2 Z2
   cases o with
   | none =>
    have hv3 : v3 = nilT := hv3
    subst hv3
    go_wp2_with (first | (refine wpList_rowStore row_trust rfl rfl (.tmp 6) (.tmp 25) rfl rfl rfl (vs := [.int .i64 0, .int .i64 0, .int .i64 0, .bool false, .string ⟨List.toArray []⟩, .string ⟨List.toArray []⟩, .string ⟨List.toArray []⟩, .string ⟨List.toArray []⟩, .string ⟨List.toArray []⟩, .string ⟨List.toArray []⟩, .slice none 0 0, .slice none 0 0, .int .i64 0]) rfl (by simp [Value.oneCell']) (us := ztL) rfl Z3 ?_; intro w5 N5 m5))
    have hld := row_loadVar row_trust w5 (vs := [.int .i64 0, .int .i64 0, .int .i64 0, .bool false, .string ⟨List.toArray []⟩, .string ⟨List.toArray []⟩, .string ⟨List.toArray []⟩, .string ⟨List.toArray []⟩, .string ⟨List.toArray []⟩, .string ⟨List.toArray []⟩, .slice none 0 0, .slice none 0 0, .int .i64 0]) rfl N5
    refine bodyPost_ret (results_cell_tmp2 rfl _ _ _ _ rfl hld) rfl ?_
    rw [HO2.out, HC.out]
    refine ⟨nilT, rfl, ?_, Below.mod hb3 m5 hb3.size (by simp)⟩
    rfl
   | some t =>
    have hv3 : TRow w3 _ v3 t := hv3
    obtain ⟨⟨a1, a2, a3, lb, pa, sr, rc, tx, me, ne, K⟩, L, ta⟩ := t
    obtain ⟨sk, ms, rfl, r1, r2⟩ := hv3
    simp only at r1 r2
    obtain ⟨ka, kc, rfl⟩ := r1.form
    obtain ⟨ma, mc, rfl⟩ := r2.form
    go_wp2_with (first | (refine wpList_rowStore row_trust rfl rfl (.tmp 6) (.tmp 25) rfl rfl rfl (vs := [.int .i64 a1, .int .i64 a2, .int .i64 a3, .bool lb, .string ⟨List.toArray pa⟩, .string ⟨List.toArray sr⟩, .string ⟨List.toArray rc⟩, .string ⟨List.toArray tx⟩, .string ⟨List.toArray me⟩, .string ⟨List.toArray ne⟩, .slice ka K.length kc, .slice ma L.length mc, .int .i64 ta]) rfl (by simp [Value.oneCell']) (us := ztL) rfl Z3 ?_; intro w5 N5 m5))
    have hld := row_loadVar row_trust w5 (vs := [.int .i64 a1, .int .i64 a2, .int .i64 a3, .bool lb, .string ⟨List.toArray pa⟩, .string ⟨List.toArray sr⟩, .string ⟨List.toArray rc⟩, .string ⟨List.toArray tx⟩, .string ⟨List.toArray me⟩, .string ⟨List.toArray ne⟩, .slice ka K.length kc, .slice ma L.length mc, .int .i64 ta]) rfl N5
    refine bodyPost_ret (results_cell_tmp2 rfl _ _ _ _ rfl hld) rfl ?_
    rw [HO2.out, HC.out]
    exact ⟨_, rfl, show TRow _ _ _ _ from ⟨_, _, rfl, SRow.low (r1.mod m5 hlt) (by omega), MRow.low (r2.mod m5 hlt) (by omega)⟩, Below.mod hb3 m5 hb3.size (by simp)⟩
end Go.Proofs.YthgjdaomcpinaaaGreatDoor
namespace Go.Proofs.YthgjdaomcpinaaaGreatDoor
open Go.RowKit Pl
namespace Pl
theorem links_odd (h : Int) (h0 : 0 ≤ h) : linksF (2 * h + 1) = [] := by
 unfold linksF
 split
 ·rfl
 ·exact links_stop (k := 0) (by omega) 20
theorem ds_len : ds.length = 32 := by unfold ds; rw [List.length_replicate]
theorem oneA_ok : chkM oneA = true := by decide
theorem dgA_len : (dgM oneA).length = 32 := by
 unfold dgM
 rw [if_pos oneA_ok]
 exact tagP_len _ _
theorem some_fine (h now : Int) (h0 : 0 ≤ h) (h1 : h ≤ 500000) (n0 : 0 ≤ now) (n1 : now ≤ 1099511627776) : fineT (someT h now) = true := by
 have hl := links_odd h h0
 have h2 := dgA_len
 have h3 := ds_len
 have h4 := oneA_ok
 unfold someT fineT fineH numsH firstH sumsH endH may32 inH
 simp only [hl]
 rw [if_pos (by omega), if_pos (by omega)]
 generalize dgM oneA = D at *
 generalize chkM oneA = c at *
 generalize ds = e at *
 simp only [h2, h3, h4, List.length_nil, List.all_nil, Bool.and_eq_true, Bool.or_eq_true, decide_eq_true_eq, true_and, and_true, true_or, or_true]
 refine ⟨⟨⟨⟨by omega, by omega⟩, by decide, by decide⟩, ?_⟩, by omega, by omega⟩
 simp
theorem some_len (h now : Int) : (writT (someT h now)).length ≤ 430 := by
 have h2 := dgA_len
 have h3 := ds_len
 have h4 := encM_len oneA oneA_ok
 unfold someT writT writH
 simp only
 generalize dgM oneA = D at *
 generalize encM oneA = E at *
 generalize ds = e at *
 have k1 := num_len' (2 * h + 1).toNat
 have k2 := num_len' (1 : Int).toNat
 have k3 := text_len e
 have k4 := text_len ([] : Bs)
 have k5 := text_len E
 have k6 := num_len' now.toNat
 have k7 := text_len (num (2 * h + 1).toNat ++ num (1 : Int).toNat ++ num (1 : Int).toNat ++ flagB true ++ text e ++ text [] ++ text [] ++ e ++ e ++ D ++ ([] : List Bs).flatten)
 have k8 : (flagB true).length = 1 := rfl
 simp only [List.length_append, List.flatten_nil, List.length_nil] at *
 omega
theorem listB_le (l : List Bs) (n : Nat) (h : ∀ x ∈ l, x.length ≤ n) : (listB l).length ≤ l.length * (n + 9) := by
 induction l with
 | nil => simp [listB]
 | cons x r ih =>
  have h1 := ih (fun y hy => h y (List.mem_cons_of_mem _ hy))
  have h2 := h x (List.mem_cons_self ..)
  have h3 := text_len x
  unfold listB
  rw [List.length_append, List.length_cons, Nat.add_mul, Nat.one_mul]
  omega
theorem rec_len (l : List Bs) (n : Nat) (h : ∀ x ∈ l, x.length ≤ n) : (recP l).length ≤ l.length * (n + 9) + 22 := by
 have h1 := listB_le l n h
 have h2 := num_len' l.length
 have h3 := text_len (encS l)
 have h4 : (encS l).length = (num l.length).length + (listB l).length := by unfold encS; rw [List.length_append]
 unfold recP
 rw [List.length_append, List.length_take]
 omega
theorem may_small (l : List Bs) (n : Nat) (h : ∀ x ∈ l, x.length ≤ n) (hl : l.length ≤ 1000) (hn : n ≤ 500) : mayR l = true := by
 have h1 := listB_le l n h
 have h2 := num_len' l.length
 have h4 : (encS l).length = (num l.length).length + (listB l).length := by unfold encS; rw [List.length_append]
 have h5 : l.length * (n + 9) ≤ 1000 * (n + 9) := Nat.mul_le_mul_right _ hl
 unfold mayR
 simp only [Bool.and_eq_true, decide_eq_true_eq, List.all_eq_true]
 exact ⟨⟨by omega, fun x hx => by have := h x hx; omega⟩, by omega⟩
theorem writeD_ok (d : Dk) (l : List Bs) (hd : d.down = false) (hf : d.fuse < 0) (hr : ((recP l).length : Int) ≤ d.room - (d.s.length : Int)) : writeD d l = (⟨d.s ++ recP l, ((d.s ++ recP l).length : Int), d.room, d.fuse, false⟩, 0) := by
 obtain ⟨s, safe, room, fuse, down⟩ := d
 simp only at hd hf hr
 subst hd
 have h1 : appD ⟨s, safe, room, fuse, false⟩ (recP l) = (⟨s ++ recP l, safe, room, fuse, false⟩, 0) := by
  unfold appD
  rw [burnt_neg hf]
  simp only
  rw [if_neg (by decide), if_neg (by omega), if_pos trivial]
 unfold writeD
 rw [h1]
 simp only
 rw [if_pos trivial]
 unfold syncD
 rw [burnt_neg (by simpa using hf)]
 simp
end Pl
end Go.Proofs.YthgjdaomcpinaaaGreatDoor
namespace Go.Proofs.YthgjdaomcpinaaaGreatDoor
open Go.RowKit Go.Maps Pl
def freshK (T : List (Int × Tr)) (span now k : Int) : Bool := match lookK T k with
 | some t => !staleT span now t
 | none => false
theorem fresh_some {T : List (Int × Tr)} {span now k : Int} {t : Tr} (h : lookK T k = some t) : freshK T span now k = !staleT span now t := by
 unfold freshK
 rw [h]
end Go.Proofs.YthgjdaomcpinaaaGreatDoor
namespace Go.Proofs.YthgjdaomcpinaaaGreatDoor
open Go.RowKit Go.WideMaps Go.Maps Go.Sort Go.Shelf Pl
section
variable {ops : Array Oper} {o : Oper} {rest : List Oper} {a : Act} {w : World} {Q : Exit → Act → World → Prop}
theorem wpList_appAtT (hgd : o.guard = none) (s x : Operand)
  (ho : o.op = .call { callee := .builtin .append, args := #[s, x], argTypes := #[22, 22] })
  (base : Nat) (v : Value) (l : List Bs) (hs : a.eval s = v) (hown : SRow w base v l)
  (u : Value) (news : List Bs) (hx : a.eval x = u) (hsrc : SS w u news)
  (hlen : l.length + news.length ≤ 8796093022208) (hbase : base ≤ w.heap.size)
  (h : ∀ v' w', SRow w' base v' (l ++ news) → w.grownBy w' v.ownBlock → (v'.ownBlock = v.ownBlock ∨ v'.ownBlock = some w.heap.size) → wpList Tryz.prog ops Q rest (a.put o.dst v') w') : wpList Tryz.prog ops Q (o :: rest) a w := by
 obtain ⟨au, cu, hu, h1, h2, h3⟩ := hsrc
 obtain ⟨i0, hi, hz0, hz1, hz2⟩ := info_parts infoStr
 by_cases hn : news = []
 ·subst hn
  obtain ⟨va, vc, hv⟩ := hown.form
  have hle : l.length ≤ vc := by
   rcases hown.cells with ⟨e, e2⟩ | ⟨g, cap, e, _, _, h4, _⟩
   ·subst e2; simp
   ·rw [hv] at e; injection e with _ _ e; subst e; exact h4
  have hS : Src Tryz.prog i0.size 22 u 0 [] w := by
   subst hu
   cases au with
   | none => exact Src.ofNil w Tryz.underlying22 cu
   | some ad => exact Src.ofSlice w Tryz.underlying22 ad 0 cu [] (by simp) (fun j u h => by simp at h) (fun _ h => by cases h)
  have hr := run_append_nothing (P := Tryz.prog) w 22 22 o.type 9 i0 Tryz.underlying22 hi va l.length vc hle u hS
  refine wpList_plain hgd fun K hK => ?_
  unfold Oper.wp execOp
  simp only [ho, resolve, invoke, builtin, Sem.run_bind, Sem.run_pure, Result.andThen_ok, List.map_toArray, List.map_cons, List.map_nil, hs, hx, hv, hr]
  exact hK _ _ (h _ w (by rw [List.append_nil, ← hv]; exact hown) ⟨rfl, rfl, rfl, Nat.le_refl _, fun _ _ _ => rfl⟩ (.inl (by rw [hv])))
 ·obtain ⟨g, off, rfl, hg, hc⟩ := h3 hn
  refine wpList_append_own_at w hgd s x 22 ho base 9 i0 (.string ⟨#[]⟩) 1 16 Tryz.underlying22 hi hz0 hz1 hz2 rfl (by decide) v l.length (sv l) hs hown ⟨g, off, none⟩ news.length cu (sv news) (hx.trans hu) (by rw [sv_len]; omega) (ssrc_news hc) (sone news)
   (by unfold maxLen; omega) (by omega) hbase (fun v' w' h2 h3 _ h5 => h v' w' ?_ h3 h5)
  unfold SRow
  rw [List.length_append, show sv (l ++ news) = sv l ++ sv news from by simp [sv]]
  exact h2
end
abbrev hTv := hT
namespace Pl
def delK (T : List (Int × Tr)) (k : Int) : List (Int × Tr) := T.filter (fun e => decide (e.1 ≠ k))
def goesT (l : List Int) : List Bs := l.map (fun k => 2 :: num k.toNat)
def dropsT : List Int → List (Int × Tr) → Option (List (Int × Tr))
 | [], T => some T
 | k :: r, T => if k ∈ T.map (·.1) then dropsT r (delK T k) else none
end Pl
theorem delK_keys {T : List (Int × Tr)} {x k : Int} : k ∈ hts (delK T x) ↔ k ∈ hts T ∧ k ≠ x := by
 unfold hts delK
 rw [List.mem_map, List.mem_map]
 constructor
 ·rintro ⟨e, he, rfl⟩
  rw [List.mem_filter] at he
  exact ⟨⟨e, he.1, rfl⟩, by simpa using he.2⟩
 ·rintro ⟨⟨e, he, rfl⟩, hne⟩
  exact ⟨e, List.mem_filter.2 ⟨he, by simpa using hne⟩, rfl⟩
theorem delK_out {T : List (Int × Tr)} {x : Int} (h : x ∉ hts T) : delK T x = T := by
 unfold delK
 rw [List.filter_eq_self]
 intro e he
 have : e.1 ≠ x := fun e2 => h (e2 ▸ List.mem_map.2 ⟨e, he, rfl⟩)
 simpa using this
theorem delK_len : ∀ {T : List (Int × Tr)} {x : Int}, (hts T).Nodup → x ∈ hts T → (delK T x).length + 1 = T.length
 | [], x, _, h => by cases h
 | e :: r, x, hn, h => by
  unfold hts at hn h
  rw [List.map_cons, List.nodup_cons] at hn
  by_cases he : e.1 = x
  ·have h0 := delK_out (T := r) (x := x) (by rw [← he]; exact hn.1)
   unfold delK at h0 ⊢
   rw [List.filter_cons_of_neg (by simp [he]), h0]
   rfl
  ·have hr : x ∈ hts r := by
    rcases List.mem_cons.1 h with h | h
    ·exact absurd h.symm he
    ·exact h
   have h0 := delK_len (T := r) (x := x) hn.2 hr
   unfold delK at h0 ⊢
   rw [List.filter_cons_of_pos (by simp [he])]
   simp only [List.length_cons]
   omega
theorem TrD.del {w : World} {base : Nat} {D : DataW Value} {T : List (Int × Tr)} (h : TrD w base D T) (hD : Tidy D) {x : Int} (hx : x ∈ hts T) : TrD w base (D.del (.int .i64 x)) (delK T x) := by
 refine ⟨fun k => ?_, fun e he => ?_, ?_, ?_⟩
 ·by_cases e : k = x
  ·subst e
   rw [has_del_same]
   have : k ∉ hts (delK T k) := fun h => (delK_keys.1 h).2 rfl
   simp [this]
  ·rw [has_del_other (by intro h; injection h with _ h; exact e h), h.has, decide_eq_decide, delK_keys]
   simp [e]
 ·unfold delK at he
  rw [List.mem_filter] at he
  obtain ⟨v, h1, h2⟩ := h.val e he.1
  have hne : e.1 ≠ x := by simpa using he.2
  exact ⟨v, by rw [atKey_del_other (by intro h; injection h with _ h; exact hne h)]; exact h1, h2⟩
 ·exact List.Nodup.sublist (List.Sublist.map _ List.filter_sublist) h.nodup
 ·have h1 := size_del hD (k := .int .i64 x)
  rw [h.has, if_pos (by simpa using hx), h.size] at h1
  have h2 := delK_len h.nodup hx
  omega
theorem TrD.keepB {W w : World} {base : Nat} {D : DataW Value} {T : List (Int × Tr)} (h : TrD W base D T) (hb : Below W.heap.size W w) : TrD w base D T :=
 ⟨h.has, fun e he => (by obtain ⟨v, h1, h2⟩ := h.val e he; exact ⟨v, h1, h2.keep hb⟩), h.nodup, h.size⟩
theorem goes_snoc (l : List Int) (i : Nat) (hi : i < l.length) : goesT (l.take (i + 1)) = goesT (l.take i) ++ [2 :: num (l.getD i 0).toNat] := by
 unfold goesT
 rw [List.take_succ_eq_append_getElem hi, List.map_append, List.getD_eq_getElem?_getD, List.getElem?_eq_getElem hi]
 rfl
theorem goes_len (l : List Int) : (goesT l).length = l.length := by unfold goesT; rw [List.length_map]
end Go.Proofs.YthgjdaomcpinaaaGreatDoor
namespace Go.Proofs.YthgjdaomcpinaaaGreatDoor
open Go.RowKit Go.WideMaps Go.Maps Go.Sort Go.Shelf Pl
theorem TrM.look0 {w : World} {base m : Nat} {T : List (Int × Tr)} (h : TrM w base m T) (k : Int) (hk : -9223372036854775808 ≤ k ∧ k ≤ 9223372036854775807) :
  ∃ v, (Instr.lookup 120 (.map (some m)) (.int .i64 k) false).run Tryz.prog w = .ok v w ∧ (∀ t, (k, t) ∈ T → TRow w base v t) := by
 obtain ⟨D, ho, hD⟩ := h
 obtain ⟨v, ps, hrun, hv⟩ := ho.lookup keyedI Tryz.underlying120 (zeroTr w) (zd := .held nilT) (zp := []) rfl (keyI k hk)
 refine ⟨v, hrun, fun t ht => ?_⟩
 obtain ⟨u, h1, h2⟩ := hD.val (k, t) ht
 rw [h1] at hv
 rw [hT_inv hv]
 exact h2
def trimG (T : List (Int × Tr)) (span now most : Int) (i : Nat) (g : List Int) : List Int → List Int
 | [] => g
 | k :: r => trimG T span now most (i + 1) (if 0 < i ∧ ¬ (freshK T span now k = true ∧ (i : Int) - (g.length : Int) < most) then g ++ [k] else g) r
theorem trimG_cons (T : List (Int × Tr)) (span now most : Int) (i : Nat) (g : List Int) (k : Int) (r : List Int) : trimG T span now most i g (k :: r) = trimG T span now most (i + 1) (if 0 < i ∧ ¬ (freshK T span now k = true ∧ (i : Int) - (g.length : Int) < most) then g ++ [k] else g) r := rfl
theorem trimG_mem {T : List (Int × Tr)} {span now most : Int} {x : Int} : ∀ (i : Nat) (g l : List Int), x ∈ trimG T span now most i g l → x ∈ g ∨ x ∈ l
 | _, _, [], h => .inl h
 | i, g, k :: r, h => by
  rw [trimG_cons] at h
  rcases trimG_mem (i + 1) _ r h with h1 | h1
  ·split at h1
   ·rcases List.mem_append.1 h1 with h2 | h2
    ·exact .inl h2
    ·rw [List.mem_singleton] at h2
     exact .inr (by rw [h2]; exact List.mem_cons_self ..)
   ·exact .inl h1
  ·exact .inr (List.mem_cons_of_mem _ h1)
def goneG (T : List (Int × Tr)) (span now most : Int) : List Int := (trimG T span now most 0 [] (sortZ (hts T)).reverse).reverse
def trimN (c : Int) (n : Nat) : Int := if c = 0 then n else 0
theorem ttrim_range (q : Nat) (most now : Int) (h : most < 1) (w : World) :
  Calls Tryz.prog 30 #[.pointer (some ⟨q, 0, none⟩), .int .i64 most, .int .i64 now] w fun e w' => e = .returned (.tuple #[.int .i64 0, .int .i64 1]) ∧ w' = w := by
 have d0 : decide (most < 1) = true := by simpa using h
 clear h
 go_enter Tryz.func30, Tryz.ntmps30
 go_wp2_with fail
 all_goals (go_ret2; exact ⟨rfl, rfl⟩)
end Go.Proofs.YthgjdaomcpinaaaGreatDoor
namespace Go.Proofs.YthgjdaomcpinaaaGreatDoor
open Go.RowKit Go.Maps Pl
def stayL (F : Int → Bool) (most : Int) : Nat → List Int → List Int
 | _, [] => []
 | n, k :: r => if n = 0 ∨ (F k = true ∧ (n : Int) < most) then k :: stayL F most (n + 1) r else stayL F most n r
def goneL (F : Int → Bool) (most : Int) : Nat → List Int → List Int
 | _, [] => []
 | n, k :: r => if n = 0 ∨ (F k = true ∧ (n : Int) < most) then goneL F most (n + 1) r else k :: goneL F most n r
theorem trimG_gone {T : List (Int × Tr)} {span now most : Int} : ∀ (l g : List Int) (i n : Nat), i = n + g.length → (i = 0 ↔ n = 0) → trimG T span now most i g l = g ++ goneL (freshK T span now) most n l
 | [], g, i, n, _, _ => by show g = g ++ []; rw [List.append_nil]
 | k :: r, g, i, n, hi, hz => by
  rw [trimG_cons, goneL]
  by_cases h : n = 0 ∨ (freshK T span now k = true ∧ (n : Int) < most)
  ·rw [if_pos h, if_neg (by rintro ⟨h1, h2⟩; exact h.elim (fun h => by omega) (fun h => h2 ⟨h.1, by omega⟩))]
   exact trimG_gone r g (i + 1) (n + 1) (by omega) (by omega)
  ·have h1 : ¬ n = 0 := fun e => h (.inl e)
   rw [if_neg h, if_pos ⟨by omega, fun h2 => h (.inr ⟨h2.1, by omega⟩)⟩, trimG_gone r (g ++ [k]) (i + 1) n (by simp; omega) (by omega)]
   simp
theorem strict_of {l : List Int} (h1 : l.Pairwise (· ≤ ·)) (h2 : l.Nodup) : l.Pairwise (· < ·) := by
 have := h1.and h2
 exact this.imp (fun h => by have := h.1; have := h.2; omega)
theorem gone_eq (T : List (Int × Tr)) (span now most : Int) : goneG T span now most = (goneL (freshK T span now) most 0 (sortZ (hts T)).reverse).reverse := by
 unfold goneG
 rw [trimG_gone (sortZ (hts T)).reverse [] 0 0 rfl Iff.rfl, List.nil_append]
end Go.Proofs.YthgjdaomcpinaaaGreatDoor
