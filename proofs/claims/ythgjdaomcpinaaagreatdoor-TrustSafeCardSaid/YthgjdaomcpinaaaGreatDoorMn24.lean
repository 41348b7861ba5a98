/- TBest, TWorksP, TStaleP. -/
import Derived.Lib.OwnBridge
import Derived.Shelf.Slices.Empties
import Derived.Test.YthgjdaomcpinaaaGreatDoorMn23
set_option linter.unnecessarySimpa false

/- trust.Store.Best and Above: the highest one, the lowest one that is not below a height. The program's walks. Printed by mktbest.py. -/
set_option linter.unusedSimpArgs false
set_option linter.unusedVariables false
namespace Go.Proofs.YthgjdaomcpinaaaGreatDoor
open Go.RowKit Go.WideMaps Go.Maps Go.Sort Go.Shelf Pl

theorem rev_row (base : Nat) (v : Value) (l : List Int) (hl : l.length ≤ 9223372036854775807) (w : World) (hb : base ≤ w.heap.size) (h : ZRow w base v l) :
    Calls Tryz.prog 77 #[v] w fun e w' => e = .returned (.tuple #[]) ∧ ZRow w' base v l.reverse ∧ Below base w w' := by
  by_cases hv : v = .slice none 0 0
  · subst hv
    have h0 : l = [] := by
      rcases h.cells with ⟨_, h⟩ | ⟨g, cap, h, _⟩
      · exact h
      · cases h
    subst h0
    refine (Any.slices_Reverse_int_empty laysRev none 0 w).mono ?_
    rintro e w' ⟨rfl, rfl⟩
    exact ⟨rfl, ZRow.nil _ _, Below.refl _ _⟩
  · have h' : w.ownsRow base 3 1 v l.length (l.map (Value.int .i64)) := h
    obtain ⟨g, cap, rfl, h1, h2, h3, h4, h5, h6⟩ := Lib.holds_of_ownsRow h' hv
    refine (Any.slices_Reverse_int laysRev g 0 cap l w h6 hl).mono ?_
    rintro e w' ⟨rfl, q, rfl⟩
    have hc := Lib.ownsRow_putRow (q := q) (k := l.length) (ys := l.reverse) h' (by simp) (Nat.le_refl _)
    rw [List.take_of_length_le (by simp)] at hc
    refine ⟨rfl, ?_, Lib.below_putRow (Below.refl _ _) h1⟩
    unfold ZRow
    rw [List.length_reverse]
    exact hc
theorem bin_row (base : Nat) (v : Value) (l : List Int) (x : Int) (hl : l.length < 4611686018427387904) (w : World) (h : ZRow w base v l) (hs : l.Pairwise (· ≤ ·)) :
    Calls Tryz.prog 80 #[v, .int .i64 (x)] w fun e w' => e = .returned (.tuple #[.int .i64 ((l.countP (· < x) : Nat)), .bool (l.contains x)]) ∧ Below w.heap.size w w' := by
  rcases h.cells with ⟨rfl, rfl⟩ | ⟨g, cap, rfl, h1, h2, h3, h4, h5, h6⟩
  · refine (Any.slices_BinarySearch_int_empty laysBin none 0 x w).mono ?_
    rintro e w' ⟨rfl, rfl⟩
    exact ⟨rfl, Below.refl _ _⟩
  · refine (Any.slices_BinarySearch_int laysBin g 0 l.length cap l x w (Nat.le_refl _) hl (fun j hj => by rw [Nat.zero_add]; exact h5 j hj) (by rw [List.take_length]; exact hs)).mono ?_
    rintro e w' ⟨rfl, q, rfl⟩
    rw [List.take_length]
    exact ⟨rfl, below_drewN (Below.refl _ _) q⟩
theorem firstC_rev (o : Option Tr) (l : List Int) : firstC o l.reverse = firstC o l := by
  unfold firstC
  cases o <;> simp
set_option maxRecDepth 100000 in
set_option maxHeartbeats 4000000 in
theorem tbest_any (base q m : Nat) (span : Int) (jp : Value) (T : List (Int × Tr)) (now : Int) (hTl : T.length ≤ 100000) (hsm : TrSm T) (hn : -9223372036854775808 ≤ now ∧ now ≤ 9223372036854775807) (hs : 0 ≤ span ∧ span ≤ 1099511627776) (w : World) (hM : TrM w base m T) (B : Blk w q #[.map (some m), .int .i64 (span), jp]) :
    Calls Tryz.prog 33 #[.pointer (some ⟨q, 0, none⟩), .int .i64 (now)] w fun e w' => ∃ v', e = .returned (.tuple #[v', .int .i64 (firstC (firstT T span now (sortZ (hts T)).reverse) (sortZ (hts T)).reverse)]) ∧ FV w' w.heap.size v' (firstT T span now (sortZ (hts T)).reverse) ∧ Below w.heap.size w w' := by
  have Z0 : Blk (w.alloc (.cells #[.int .i64 (0), .int .i64 (0), .int .i64 (0), .bool false, .string ⟨List.toArray ([])⟩, .string ⟨List.toArray ([])⟩, .string ⟨List.toArray ([])⟩, .string ⟨List.toArray ([])⟩, .string ⟨List.toArray ([])⟩, .string ⟨List.toArray ([])⟩, .slice none 0 0, .slice none 0 0, .int .i64 (0)] 27)) w.heap.size (List.toArray [.int .i64 (0), .int .i64 (0), .int .i64 (0), .bool false, .string ⟨List.toArray ([])⟩, .string ⟨List.toArray ([])⟩, .string ⟨List.toArray ([])⟩, .string ⟨List.toArray ([])⟩, .string ⟨List.toArray ([])⟩, .string ⟨List.toArray ([])⟩, .slice none 0 0, .slice none 0 0, .int .i64 (0)]) := Blk.new _ _ _
  have hb0 : Below w.heap.size w (w.alloc (.cells #[.int .i64 (0), .int .i64 (0), .int .i64 (0), .bool false, .string ⟨List.toArray ([])⟩, .string ⟨List.toArray ([])⟩, .string ⟨List.toArray ([])⟩, .string ⟨List.toArray ([])⟩, .string ⟨List.toArray ([])⟩, .string ⟨List.toArray ([])⟩, .slice none 0 0, .slice none 0 0, .int .i64 (0)] 27)) := Below.allocS (Below.refl _ _) _
  have q1 := theights_any base q m span jp T hTl _ (hM.keep hb0) (B.keep hb0)
  have hlen : (sortZ (hts T)).length ≤ 100000 := by rw [sortZ_len]; unfold hts; rw [List.length_map]; exact hTl
  have HMEM := Lib.hid (fun k (h : k ∈ (sortZ (hts T)).reverse) => sortZ_mem.1 (List.mem_reverse.1 h))
  generalize hL : sortZ (hts T) = Hs at *
  have HM := Lib.hid hM
  have HB := Lib.hid B
  clear hM B hL
  go_enter Tryz.func33, Tryz.ntmps33
  go_wp2_with fail
  refine q1.mono ?_
  rintro e w1 ⟨v1, rfl, hz, hb⟩
  obtain ⟨za, zc, rfl⟩ := hz.form
  have Z1 := Z0.keep hb
  have hb1 := hb0.trans (hb.mono hb0.size)
  have hs1 : w.heap.size + 1 ≤ w1.heap.size := by have := hb.size; simpa using this
  have hz1 := ZRow.low (c := w.heap.size + 1) hz (by simp)
  have q2 := rev_row (w.heap.size + 1) _ Hs (by omega) w1 hs1 hz1
  clear q1 hb hb0 Z0 hz
  go_wp2_with fail
  refine q2.mono ?_
  rintro e w2 ⟨rfl, hz2, hb⟩
  have Z2 := Z1.belowB hb (Nat.lt_succ_self _)
  have hb2 := hb1.trans (hb.mono (Nat.le_succ _))
  have hs2 := Nat.le_trans hs1 hb.size
  have q3 := tfirst_any base q m span jp T (.slice za Hs.length zc) Hs.reverse now ‹_› HMEM.out hn hs w2 (HM.out.keep hb2) (HB.out.keep hb2) (by have := hz2.is; exact this)
  generalize hO : firstT T span now Hs.reverse = o at q3
  generalize hC : firstC o Hs.reverse = c at q3
  have HO := Lib.hid hO
  have HC := Lib.hid hC
  clear hO hC
  clear q2 hb hb1 Z1 hz1
  go_wp2_with fail
  refine q3.mono ?_
  rintro e w3 ⟨v3, rfl, hv3, hb⟩
  have Z3 := Z2.keep hb
  have hb3 := hb2.trans (hb.mono hb2.size)
  have hlt := Z2.lt
  clear q3 hb hb2 Z2 hz2
  cases o with
  | none =>
    have hv3 : v3 = nilT := hv3
    subst hv3
    go_wp2_with (first | (refine wpList_rowStore row_trust rfl rfl (.tmp 4) (.tmp 15) rfl rfl rfl (vs := [.int .i64 (0), .int .i64 (0), .int .i64 (0), .bool false, .string ⟨List.toArray ([])⟩, .string ⟨List.toArray ([])⟩, .string ⟨List.toArray ([])⟩, .string ⟨List.toArray ([])⟩, .string ⟨List.toArray ([])⟩, .string ⟨List.toArray ([])⟩, .slice none 0 0, .slice none 0 0, .int .i64 (0)]) rfl (by simp [Value.oneCell']) (us := [.int .i64 (0), .int .i64 (0), .int .i64 (0), .bool false, .string ⟨List.toArray ([])⟩, .string ⟨List.toArray ([])⟩, .string ⟨List.toArray ([])⟩, .string ⟨List.toArray ([])⟩, .string ⟨List.toArray ([])⟩, .string ⟨List.toArray ([])⟩, .slice none 0 0, .slice none 0 0, .int .i64 (0)]) rfl Z3 ?_; intro w5 N5 m5))
    have hld := row_loadVar row_trust w5 (vs := [.int .i64 (0), .int .i64 (0), .int .i64 (0), .bool false, .string ⟨List.toArray ([])⟩, .string ⟨List.toArray ([])⟩, .string ⟨List.toArray ([])⟩, .string ⟨List.toArray ([])⟩, .string ⟨List.toArray ([])⟩, .string ⟨List.toArray ([])⟩, .slice none 0 0, .slice none 0 0, .int .i64 (0)]) rfl N5
    refine bodyPost_ret (results_cell_tmp2 rfl _ _ _ _ rfl hld) rfl ?_
    rw [HO.out, HC.out]
    refine ⟨nilT, rfl, ?_, Below.mod hb3 m5 hb3.size (by simp)⟩
    rfl
  | some t =>
    have hv3 : TRow w3 _ v3 t := hv3
    obtain ⟨⟨a1, a2, a3, lb, pa, sr, rc, tx, me, ne, K⟩, L, ta⟩ := t
    obtain ⟨sk, ms, rfl, r1, r2⟩ := hv3
    simp only at r1 r2
    obtain ⟨ka, kc, rfl⟩ := r1.form
    obtain ⟨ma, mc, rfl⟩ := r2.form
    go_wp2_with (first | (refine wpList_rowStore row_trust rfl rfl (.tmp 4) (.tmp 15) rfl rfl rfl (vs := [.int .i64 (a1), .int .i64 (a2), .int .i64 (a3), .bool lb, .string ⟨List.toArray (pa)⟩, .string ⟨List.toArray (sr)⟩, .string ⟨List.toArray (rc)⟩, .string ⟨List.toArray (tx)⟩, .string ⟨List.toArray (me)⟩, .string ⟨List.toArray (ne)⟩, .slice ka K.length kc, .slice ma L.length mc, .int .i64 (ta)]) rfl (by simp [Value.oneCell']) (us := [.int .i64 (0), .int .i64 (0), .int .i64 (0), .bool false, .string ⟨List.toArray ([])⟩, .string ⟨List.toArray ([])⟩, .string ⟨List.toArray ([])⟩, .string ⟨List.toArray ([])⟩, .string ⟨List.toArray ([])⟩, .string ⟨List.toArray ([])⟩, .slice none 0 0, .slice none 0 0, .int .i64 (0)]) rfl Z3 ?_; intro w5 N5 m5))
    have hld := row_loadVar row_trust w5 (vs := [.int .i64 (a1), .int .i64 (a2), .int .i64 (a3), .bool lb, .string ⟨List.toArray (pa)⟩, .string ⟨List.toArray (sr)⟩, .string ⟨List.toArray (rc)⟩, .string ⟨List.toArray (tx)⟩, .string ⟨List.toArray (me)⟩, .string ⟨List.toArray (ne)⟩, .slice ka K.length kc, .slice ma L.length mc, .int .i64 (ta)]) rfl N5
    refine bodyPost_ret (results_cell_tmp2 rfl _ _ _ _ rfl hld) rfl ?_
    rw [HO.out, HC.out]
    exact ⟨_, rfl, show TRow _ _ _ _ from ⟨_, _, rfl, SRow.low (r1.mod m5 hlt) (by omega), MRow.low (r2.mod m5 hlt) (by omega)⟩, Below.mod hb3 m5 hb3.size (by simp)⟩
theorem ISrc.dropI {w : World} {g o : Nat} {l : List Int} (h : ISrc w g o l) (n : Nat) : ISrc w g (o + n) (l.drop n) := by
  intro i hi
  rw [List.length_drop] at hi
  have := h (n + i) (by omega)
  rw [Nat.add_assoc, this]
  simp [List.getD, List.getElem?_drop]
set_option maxRecDepth 100000 in
set_option maxHeartbeats 4000000 in
theorem tabove_any (base q m : Nat) (span : Int) (jp : Value) (T : List (Int × Tr)) (k now : Int) (hTl : T.length ≤ 100000) (hsm : TrSm T) (hn : -9223372036854775808 ≤ now ∧ now ≤ 9223372036854775807) (hs : 0 ≤ span ∧ span ≤ 1099511627776) (w : World) (hM : TrM w base m T) (B : Blk w q #[.map (some m), .int .i64 (span), jp]) :
    Calls Tryz.prog 34 #[.pointer (some ⟨q, 0, none⟩), .int .i64 (k), .int .i64 (now)] w fun e w' => ∃ v', e = .returned (.tuple #[v', .int .i64 (firstC (firstT T span now ((sortZ (hts T)).drop ((sortZ (hts T)).countP (· < k)))) ((sortZ (hts T)).drop ((sortZ (hts T)).countP (· < k))))]) ∧ FV w' w.heap.size v' (firstT T span now ((sortZ (hts T)).drop ((sortZ (hts T)).countP (· < k)))) ∧ Below w.heap.size w w' := by
  have Z0 : Blk (w.alloc (.cells #[.int .i64 (0), .int .i64 (0), .int .i64 (0), .bool false, .string ⟨List.toArray ([])⟩, .string ⟨List.toArray ([])⟩, .string ⟨List.toArray ([])⟩, .string ⟨List.toArray ([])⟩, .string ⟨List.toArray ([])⟩, .string ⟨List.toArray ([])⟩, .slice none 0 0, .slice none 0 0, .int .i64 (0)] 27)) w.heap.size (List.toArray [.int .i64 (0), .int .i64 (0), .int .i64 (0), .bool false, .string ⟨List.toArray ([])⟩, .string ⟨List.toArray ([])⟩, .string ⟨List.toArray ([])⟩, .string ⟨List.toArray ([])⟩, .string ⟨List.toArray ([])⟩, .string ⟨List.toArray ([])⟩, .slice none 0 0, .slice none 0 0, .int .i64 (0)]) := Blk.new _ _ _
  have hb0 : Below w.heap.size w (w.alloc (.cells #[.int .i64 (0), .int .i64 (0), .int .i64 (0), .bool false, .string ⟨List.toArray ([])⟩, .string ⟨List.toArray ([])⟩, .string ⟨List.toArray ([])⟩, .string ⟨List.toArray ([])⟩, .string ⟨List.toArray ([])⟩, .string ⟨List.toArray ([])⟩, .slice none 0 0, .slice none 0 0, .int .i64 (0)] 27)) := Below.allocS (Below.refl _ _) _
  have q1 := theights_any base q m span jp T hTl _ (hM.keep hb0) (B.keep hb0)
  have hlen : (sortZ (hts T)).length ≤ 100000 := by rw [sortZ_len]; unfold hts; rw [List.length_map]; exact hTl
  have HMEM := Lib.hid (fun x (h : x ∈ sortZ (hts T)) => sortZ_mem.1 h)
  have hso := sortZ_sorted (hts T)
  generalize hL : sortZ (hts T) = Hs at *
  have hcl : Hs.countP (· < k) ≤ Hs.length := List.countP_le_length
  have q2 := fun (v : Value) (b : Nat) (W : World) (h : ZRow W b v Hs) => bin_row b v Hs k (by omega) W h hso
  generalize hn0 : Hs.countP (· < k) = n at *
  have HM := Lib.hid hM
  have HB := Lib.hid B
  clear hM B hL hn0 hso
  go_enter Tryz.func34, Tryz.ntmps34
  go_wp2_with fail
  refine q1.mono ?_
  rintro e w1 ⟨v1, rfl, hz, hb⟩
  obtain ⟨za, zc, rfl⟩ := hz.form
  have Z1 := Z0.keep hb
  have hb1 := hb0.trans (hb.mono hb0.size)
  have q2 := q2 _ _ w1 hz
  clear q1 hb hb0 Z0
  go_wp2_with fail
  refine q2.mono ?_
  rintro e w2 ⟨rfl, hb⟩
  have Z2 := Z1.keep hb
  have hz2 := hz.keep hb
  have hb2 := hb1.trans (hb.mono hb1.size)
  clear q2 hb hb1 Z1 hz
  have HO : Hid (∀ x ∈ Hs.drop n, x ∈ hts T) := Lib.hid (fun x hx => HMEM.out x (List.mem_of_mem_drop hx))
  rcases hz2.cells with ⟨e1, e2⟩ | ⟨g, cap, e1, h1, h2, h3, h4, h5, h6⟩
  · injection e1 with e1 _ e3
    subst e1 e3 e2
    obtain rfl : n = 0 := by simpa using hcl
    have hdv : IS w2 (.slice none 0 0) (List.drop 0 []) := ⟨none, 0, rfl, Nat.le_refl _, by unfold maxLen; omega, fun h => absurd rfl h⟩
    have q3 := tfirst_any base q m span jp T _ _ now hsm HO.out hn hs w2 (HM.out.keep hb2) (HB.out.keep hb2) hdv
    generalize hO : firstT T span now (List.drop _ _) = o at q3
    generalize hC : firstC o (List.drop _ _) = c at q3
    have HO2 := Lib.hid hO
    have HC := Lib.hid hC
    have hlt := Z2.lt
    clear hO hC hdv hz2
    go_wp2_with fail
    refine q3.mono ?_
    rintro e w3 ⟨v3, rfl, hv3, hb⟩
    have Z3 := Z2.keep hb
    have hb3 := hb2.trans (hb.mono hb2.size)
    clear q3 hb hb2 Z2
    cases o with
    | none =>
      have hv3 : v3 = nilT := hv3
      subst hv3
      go_wp2_with (first | (refine wpList_rowStore row_trust rfl rfl (.tmp 6) (.tmp 25) rfl rfl rfl (vs := [.int .i64 (0), .int .i64 (0), .int .i64 (0), .bool false, .string ⟨List.toArray ([])⟩, .string ⟨List.toArray ([])⟩, .string ⟨List.toArray ([])⟩, .string ⟨List.toArray ([])⟩, .string ⟨List.toArray ([])⟩, .string ⟨List.toArray ([])⟩, .slice none 0 0, .slice none 0 0, .int .i64 (0)]) rfl (by simp [Value.oneCell']) (us := [.int .i64 (0), .int .i64 (0), .int .i64 (0), .bool false, .string ⟨List.toArray ([])⟩, .string ⟨List.toArray ([])⟩, .string ⟨List.toArray ([])⟩, .string ⟨List.toArray ([])⟩, .string ⟨List.toArray ([])⟩, .string ⟨List.toArray ([])⟩, .slice none 0 0, .slice none 0 0, .int .i64 (0)]) rfl Z3 ?_; intro w5 N5 m5))
      have hld := row_loadVar row_trust w5 (vs := [.int .i64 (0), .int .i64 (0), .int .i64 (0), .bool false, .string ⟨List.toArray ([])⟩, .string ⟨List.toArray ([])⟩, .string ⟨List.toArray ([])⟩, .string ⟨List.toArray ([])⟩, .string ⟨List.toArray ([])⟩, .string ⟨List.toArray ([])⟩, .slice none 0 0, .slice none 0 0, .int .i64 (0)]) rfl N5
      refine bodyPost_ret (results_cell_tmp2 rfl _ _ _ _ rfl hld) rfl ?_
      rw [HO2.out, HC.out]
      refine ⟨nilT, rfl, ?_, Below.mod hb3 m5 hb3.size (by simp)⟩
      rfl
    | some t =>
      have hv3 : TRow w3 _ v3 t := hv3
      obtain ⟨⟨a1, a2, a3, lb, pa, sr, rc, tx, me, ne, K⟩, L, ta⟩ := t
      obtain ⟨sk, ms, rfl, r1, r2⟩ := hv3
      simp only at r1 r2
      obtain ⟨ka, kc, rfl⟩ := r1.form
      obtain ⟨ma, mc, rfl⟩ := r2.form
      go_wp2_with (first | (refine wpList_rowStore row_trust rfl rfl (.tmp 6) (.tmp 25) rfl rfl rfl (vs := [.int .i64 (a1), .int .i64 (a2), .int .i64 (a3), .bool lb, .string ⟨List.toArray (pa)⟩, .string ⟨List.toArray (sr)⟩, .string ⟨List.toArray (rc)⟩, .string ⟨List.toArray (tx)⟩, .string ⟨List.toArray (me)⟩, .string ⟨List.toArray (ne)⟩, .slice ka K.length kc, .slice ma L.length mc, .int .i64 (ta)]) rfl (by simp [Value.oneCell']) (us := [.int .i64 (0), .int .i64 (0), .int .i64 (0), .bool false, .string ⟨List.toArray ([])⟩, .string ⟨List.toArray ([])⟩, .string ⟨List.toArray ([])⟩, .string ⟨List.toArray ([])⟩, .string ⟨List.toArray ([])⟩, .string ⟨List.toArray ([])⟩, .slice none 0 0, .slice none 0 0, .int .i64 (0)]) rfl Z3 ?_; intro w5 N5 m5))
      have hld := row_loadVar row_trust w5 (vs := [.int .i64 (a1), .int .i64 (a2), .int .i64 (a3), .bool lb, .string ⟨List.toArray (pa)⟩, .string ⟨List.toArray (sr)⟩, .string ⟨List.toArray (rc)⟩, .string ⟨List.toArray (tx)⟩, .string ⟨List.toArray (me)⟩, .string ⟨List.toArray (ne)⟩, .slice ka K.length kc, .slice ma L.length mc, .int .i64 (ta)]) rfl N5
      refine bodyPost_ret (results_cell_tmp2 rfl _ _ _ _ rfl hld) rfl ?_
      rw [HO2.out, HC.out]
      exact ⟨_, rfl, show TRow _ _ _ _ from ⟨_, _, rfl, SRow.low (r1.mod m5 hlt) (by omega), MRow.low (r2.mod m5 hlt) (by omega)⟩, Below.mod hb3 m5 hb3.size (by simp)⟩
  · injection e1 with e1 _ e3
    subst e1 e3
    have h7 : ISrc w2 g 0 Hs := fun i hi => by rw [Nat.zero_add]; exact h5 i hi
    have h8 := h7.dropI n
    have b1 : (n : Int) ≤ (Hs.length : Int) := by omega
    have b2 : 0 ≤ (n : Int) := by omega
    by_cases hzn : zc = n
    · have hdr : Hs.drop n = [] := List.drop_eq_nil_of_le (by omega)
      have hdv : IS w2 (.slice (some ⟨g, 0, none⟩) (Hs.length - n) 0) (Hs.drop n) := ⟨some ⟨g, 0, none⟩, 0, by rw [List.length_drop], by rw [hdr]; simp, by unfold maxLen; omega, fun h => absurd hdr h⟩
      have q3 := tfirst_any base q m span jp T _ _ now hsm HO.out hn hs w2 (HM.out.keep hb2) (HB.out.keep hb2) hdv
      clear h7 h8 h5 h6 hdr
      generalize hO : firstT T span now (List.drop _ _) = o at q3
      generalize hC : firstC o (List.drop _ _) = c at q3
      have HO2 := Lib.hid hO
      have HC := Lib.hid hC
      have hlt := Z2.lt
      clear hO hC hdv hz2
      go_wp2_with fail
      refine q3.mono ?_
      rintro e w3 ⟨v3, rfl, hv3, hb⟩
      have Z3 := Z2.keep hb
      have hb3 := hb2.trans (hb.mono hb2.size)
      clear q3 hb hb2 Z2
      cases o with
      | none =>
        have hv3 : v3 = nilT := hv3
        subst hv3
        go_wp2_with (first | (refine wpList_rowStore row_trust rfl rfl (.tmp 6) (.tmp 25) rfl rfl rfl (vs := [.int .i64 (0), .int .i64 (0), .int .i64 (0), .bool false, .string ⟨List.toArray ([])⟩, .string ⟨List.toArray ([])⟩, .string ⟨List.toArray ([])⟩, .string ⟨List.toArray ([])⟩, .string ⟨List.toArray ([])⟩, .string ⟨List.toArray ([])⟩, .slice none 0 0, .slice none 0 0, .int .i64 (0)]) rfl (by simp [Value.oneCell']) (us := [.int .i64 (0), .int .i64 (0), .int .i64 (0), .bool false, .string ⟨List.toArray ([])⟩, .string ⟨List.toArray ([])⟩, .string ⟨List.toArray ([])⟩, .string ⟨List.toArray ([])⟩, .string ⟨List.toArray ([])⟩, .string ⟨List.toArray ([])⟩, .slice none 0 0, .slice none 0 0, .int .i64 (0)]) rfl Z3 ?_; intro w5 N5 m5))
        have hld := row_loadVar row_trust w5 (vs := [.int .i64 (0), .int .i64 (0), .int .i64 (0), .bool false, .string ⟨List.toArray ([])⟩, .string ⟨List.toArray ([])⟩, .string ⟨List.toArray ([])⟩, .string ⟨List.toArray ([])⟩, .string ⟨List.toArray ([])⟩, .string ⟨List.toArray ([])⟩, .slice none 0 0, .slice none 0 0, .int .i64 (0)]) rfl N5
        refine bodyPost_ret (results_cell_tmp2 rfl _ _ _ _ rfl hld) rfl ?_
        rw [HO2.out, HC.out]
        refine ⟨nilT, rfl, ?_, Below.mod hb3 m5 hb3.size (by simp)⟩
        rfl
      | some t =>
        have hv3 : TRow w3 _ v3 t := hv3
        obtain ⟨⟨a1, a2, a3, lb, pa, sr, rc, tx, me, ne, K⟩, L, ta⟩ := t
        obtain ⟨sk, ms, rfl, r1, r2⟩ := hv3
        simp only at r1 r2
        obtain ⟨ka, kc, rfl⟩ := r1.form
        obtain ⟨ma, mc, rfl⟩ := r2.form
        go_wp2_with (first | (refine wpList_rowStore row_trust rfl rfl (.tmp 6) (.tmp 25) rfl rfl rfl (vs := [.int .i64 (a1), .int .i64 (a2), .int .i64 (a3), .bool lb, .string ⟨List.toArray (pa)⟩, .string ⟨List.toArray (sr)⟩, .string ⟨List.toArray (rc)⟩, .string ⟨List.toArray (tx)⟩, .string ⟨List.toArray (me)⟩, .string ⟨List.toArray (ne)⟩, .slice ka K.length kc, .slice ma L.length mc, .int .i64 (ta)]) rfl (by simp [Value.oneCell']) (us := [.int .i64 (0), .int .i64 (0), .int .i64 (0), .bool false, .string ⟨List.toArray ([])⟩, .string ⟨List.toArray ([])⟩, .string ⟨List.toArray ([])⟩, .string ⟨List.toArray ([])⟩, .string ⟨List.toArray ([])⟩, .string ⟨List.toArray ([])⟩, .slice none 0 0, .slice none 0 0, .int .i64 (0)]) rfl Z3 ?_; intro w5 N5 m5))
        have hld := row_loadVar row_trust w5 (vs := [.int .i64 (a1), .int .i64 (a2), .int .i64 (a3), .bool lb, .string ⟨List.toArray (pa)⟩, .string ⟨List.toArray (sr)⟩, .string ⟨List.toArray (rc)⟩, .string ⟨List.toArray (tx)⟩, .string ⟨List.toArray (me)⟩, .string ⟨List.toArray (ne)⟩, .slice ka K.length kc, .slice ma L.length mc, .int .i64 (ta)]) rfl N5
        refine bodyPost_ret (results_cell_tmp2 rfl _ _ _ _ rfl hld) rfl ?_
        rw [HO2.out, HC.out]
        exact ⟨_, rfl, show TRow _ _ _ _ from ⟨_, _, rfl, SRow.low (r1.mod m5 hlt) (by omega), MRow.low (r2.mod m5 hlt) (by omega)⟩, Below.mod hb3 m5 hb3.size (by simp)⟩
    · have hdv : IS w2 (.slice (some ⟨g, n, none⟩) (Hs.length - n) (zc - n)) (Hs.drop n) := ⟨some ⟨g, n, none⟩, zc - n, by rw [List.length_drop], by rw [List.length_drop]; omega, by omega, fun _ => ⟨g, n, rfl, h2, by rw [Nat.zero_add] at h8; exact h8⟩⟩
      have q3 := tfirst_any base q m span jp T _ _ now hsm HO.out hn hs w2 (HM.out.keep hb2) (HB.out.keep hb2) hdv
      have b3 : ¬ n = zc := fun e => hzn e.symm
      have b4 : ¬ zc - n = 0 := by omega
      clear h7 h8 h5 h6
      generalize hO : firstT T span now (List.drop _ _) = o at q3
      generalize hC : firstC o (List.drop _ _) = c at q3
      have HO2 := Lib.hid hO
      have HC := Lib.hid hC
      have hlt := Z2.lt
      clear hO hC hdv hz2
      go_wp2_with fail
      refine q3.mono ?_
      rintro e w3 ⟨v3, rfl, hv3, hb⟩
      have Z3 := Z2.keep hb
      have hb3 := hb2.trans (hb.mono hb2.size)
      clear q3 hb hb2 Z2
      cases o with
      | none =>
        have hv3 : v3 = nilT := hv3
        subst hv3
        go_wp2_with (first | (refine wpList_rowStore row_trust rfl rfl (.tmp 6) (.tmp 25) rfl rfl rfl (vs := [.int .i64 (0), .int .i64 (0), .int .i64 (0), .bool false, .string ⟨List.toArray ([])⟩, .string ⟨List.toArray ([])⟩, .string ⟨List.toArray ([])⟩, .string ⟨List.toArray ([])⟩, .string ⟨List.toArray ([])⟩, .string ⟨List.toArray ([])⟩, .slice none 0 0, .slice none 0 0, .int .i64 (0)]) rfl (by simp [Value.oneCell']) (us := [.int .i64 (0), .int .i64 (0), .int .i64 (0), .bool false, .string ⟨List.toArray ([])⟩, .string ⟨List.toArray ([])⟩, .string ⟨List.toArray ([])⟩, .string ⟨List.toArray ([])⟩, .string ⟨List.toArray ([])⟩, .string ⟨List.toArray ([])⟩, .slice none 0 0, .slice none 0 0, .int .i64 (0)]) rfl Z3 ?_; intro w5 N5 m5))
        have hld := row_loadVar row_trust w5 (vs := [.int .i64 (0), .int .i64 (0), .int .i64 (0), .bool false, .string ⟨List.toArray ([])⟩, .string ⟨List.toArray ([])⟩, .string ⟨List.toArray ([])⟩, .string ⟨List.toArray ([])⟩, .string ⟨List.toArray ([])⟩, .string ⟨List.toArray ([])⟩, .slice none 0 0, .slice none 0 0, .int .i64 (0)]) rfl N5
        refine bodyPost_ret (results_cell_tmp2 rfl _ _ _ _ rfl hld) rfl ?_
        rw [HO2.out, HC.out]
        refine ⟨nilT, rfl, ?_, Below.mod hb3 m5 hb3.size (by simp)⟩
        rfl
      | some t =>
        have hv3 : TRow w3 _ v3 t := hv3
        obtain ⟨⟨a1, a2, a3, lb, pa, sr, rc, tx, me, ne, K⟩, L, ta⟩ := t
        obtain ⟨sk, ms, rfl, r1, r2⟩ := hv3
        simp only at r1 r2
        obtain ⟨ka, kc, rfl⟩ := r1.form
        obtain ⟨ma, mc, rfl⟩ := r2.form
        go_wp2_with (first | (refine wpList_rowStore row_trust rfl rfl (.tmp 6) (.tmp 25) rfl rfl rfl (vs := [.int .i64 (a1), .int .i64 (a2), .int .i64 (a3), .bool lb, .string ⟨List.toArray (pa)⟩, .string ⟨List.toArray (sr)⟩, .string ⟨List.toArray (rc)⟩, .string ⟨List.toArray (tx)⟩, .string ⟨List.toArray (me)⟩, .string ⟨List.toArray (ne)⟩, .slice ka K.length kc, .slice ma L.length mc, .int .i64 (ta)]) rfl (by simp [Value.oneCell']) (us := [.int .i64 (0), .int .i64 (0), .int .i64 (0), .bool false, .string ⟨List.toArray ([])⟩, .string ⟨List.toArray ([])⟩, .string ⟨List.toArray ([])⟩, .string ⟨List.toArray ([])⟩, .string ⟨List.toArray ([])⟩, .string ⟨List.toArray ([])⟩, .slice none 0 0, .slice none 0 0, .int .i64 (0)]) rfl Z3 ?_; intro w5 N5 m5))
        have hld := row_loadVar row_trust w5 (vs := [.int .i64 (a1), .int .i64 (a2), .int .i64 (a3), .bool lb, .string ⟨List.toArray (pa)⟩, .string ⟨List.toArray (sr)⟩, .string ⟨List.toArray (rc)⟩, .string ⟨List.toArray (tx)⟩, .string ⟨List.toArray (me)⟩, .string ⟨List.toArray (ne)⟩, .slice ka K.length kc, .slice ma L.length mc, .int .i64 (ta)]) rfl N5
        refine bodyPost_ret (results_cell_tmp2 rfl _ _ _ _ rfl hld) rfl ?_
        rw [HO2.out, HC.out]
        exact ⟨_, rfl, show TRow _ _ _ _ from ⟨_, _, rfl, SRow.low (r1.mod m5 hlt) (by omega), MRow.low (r2.mod m5 hlt) (by omega)⟩, Below.mod hb3 m5 hb3.size (by simp)⟩
end Go.Proofs.YthgjdaomcpinaaaGreatDoor

/- Plain: the chapter's example of what is trusted. -/
set_option linter.unusedSimpArgs false
set_option linter.unusedVariables false
namespace Go.Proofs.YthgjdaomcpinaaaGreatDoor
open Go.RowKit Pl

namespace Pl
theorem links_odd (h : Int) (h0 : 0 ≤ h) : linksF (2 * h + 1) = [] := by
  unfold linksF
  split
  · rfl
  · exact links_stop (k := 0) (by omega) 20
theorem ds_len : ds.length = 32 := by unfold ds; rw [List.length_replicate]
theorem oneA_ok : chkM oneA = true := by decide
theorem dgA_len : (dgM oneA).length = 32 := by
  unfold dgM
  rw [if_pos oneA_ok]
  exact tagP_len _ _
theorem some_fine (h now : Int) (h0 : 0 ≤ h) (h1 : h ≤ 500000) (n0 : 0 ≤ now) (n1 : now ≤ 1099511627776) : fineT (someT h now) = true := by
  have hl := links_odd h h0
  have h2 := dgA_len
  have h3 := ds_len
  have h4 := oneA_ok
  unfold someT fineT fineH numsH firstH sumsH endH may32 inH
  simp only [hl]
  rw [if_pos (by omega), if_pos (by omega)]
  generalize dgM oneA = D at *
  generalize chkM oneA = c at *
  generalize ds = e at *
  simp only [h2, h3, h4, List.length_nil, List.all_nil, Bool.and_eq_true, Bool.or_eq_true, decide_eq_true_eq, true_and, and_true, true_or, or_true]
  refine ⟨⟨⟨⟨by omega, by omega⟩, by decide, by decide⟩, ?_⟩, by omega, by omega⟩
  simp
theorem some_len (h now : Int) : (writT (someT h now)).length ≤ 430 := by
  have h2 := dgA_len
  have h3 := ds_len
  have h4 := encM_len oneA oneA_ok
  unfold someT writT writH
  simp only
  generalize dgM oneA = D at *
  generalize encM oneA = E at *
  generalize ds = e at *
  have k1 := num_len' (2 * h + 1).toNat
  have k2 := num_len' (1 : Int).toNat
  have k3 := text_len e
  have k4 := text_len ([] : Bs)
  have k5 := text_len E
  have k6 := num_len' now.toNat
  have k7 := text_len (num (2 * h + 1).toNat ++ num (1 : Int).toNat ++ num (1 : Int).toNat ++ flagB true ++ text e ++ text [] ++ text [] ++ e ++ e ++ D ++ ([] : List Bs).flatten)
  have k8 : (flagB true).length = 1 := rfl
  simp only [List.length_append, List.flatten_nil, List.length_nil] at *
  omega
theorem listB_le (l : List Bs) (n : Nat) (h : ∀ x ∈ l, x.length ≤ n) : (listB l).length ≤ l.length * (n + 9) := by
  induction l with
  | nil => simp [listB]
  | cons x r ih =>
    have h1 := ih (fun y hy => h y (List.mem_cons_of_mem _ hy))
    have h2 := h x (List.mem_cons_self ..)
    have h3 := text_len x
    unfold listB
    rw [List.length_append, List.length_cons, Nat.add_mul, Nat.one_mul]
    omega
theorem rec_len (l : List Bs) (n : Nat) (h : ∀ x ∈ l, x.length ≤ n) : (recP l).length ≤ l.length * (n + 9) + 22 := by
  have h1 := listB_le l n h
  have h2 := num_len' l.length
  have h3 := text_len (encS l)
  have h4 : (encS l).length = (num l.length).length + (listB l).length := by unfold encS; rw [List.length_append]
  unfold recP
  rw [List.length_append, List.length_take]
  omega
theorem may_small (l : List Bs) (n : Nat) (h : ∀ x ∈ l, x.length ≤ n) (hl : l.length ≤ 1000) (hn : n ≤ 500) : mayR l = true := by
  have h1 := listB_le l n h
  have h2 := num_len' l.length
  have h4 : (encS l).length = (num l.length).length + (listB l).length := by unfold encS; rw [List.length_append]
  have h5 : l.length * (n + 9) ≤ 1000 * (n + 9) := Nat.mul_le_mul_right _ hl
  unfold mayR
  simp only [Bool.and_eq_true, decide_eq_true_eq, List.all_eq_true]
  exact ⟨⟨by omega, fun x hx => by have := h x hx; omega⟩, by omega⟩
theorem writeD_ok (d : Dk) (l : List Bs) (hd : d.down = false) (hf : d.fuse < 0) (hr : ((recP l).length : Int) ≤ d.room - (d.s.length : Int)) : writeD d l = (⟨d.s ++ recP l, ((d.s ++ recP l).length : Int), d.room, d.fuse, false⟩, 0) := by
  obtain ⟨s, safe, room, fuse, down⟩ := d
  simp only at hd hf hr
  subst hd
  have h1 : appD ⟨s, safe, room, fuse, false⟩ (recP l) = (⟨s ++ recP l, safe, room, fuse, false⟩, 0) := by
    unfold appD
    rw [burnt_neg hf]
    simp only
    rw [if_neg (by decide), if_neg (by omega), if_pos trivial]
  unfold writeD
  rw [h1]
  simp only
  rw [if_pos trivial]
  unfold syncD
  rw [burnt_neg (by simpa using hf)]
  simp
end Pl
end Go.Proofs.YthgjdaomcpinaaaGreatDoor

/- Plain: what comes of adding the law's headers, and which is the best, which the one above. -/
set_option linter.unusedSimpArgs false
set_option linter.unusedVariables false
namespace Go.Proofs.YthgjdaomcpinaaaGreatDoor
open Go.RowKit Go.Maps Pl

/-- All that a store has are the law's. -/
def TInv (T : List (Int × Tr)) : Prop := ∀ e ∈ T, ∃ h a : Int, 0 ≤ h ∧ h ≤ 8 ∧ 0 ≤ a ∧ a ≤ 999 ∧ e = (2 * h + 1, someT h a)
theorem TInv.nil : TInv [] := fun e he => by cases he
theorem TInv.put {T : List (Int × Tr)} (hT : TInv T) {h a : Int} (h0 : 0 ≤ h) (h1 : h ≤ 8) (a0 : 0 ≤ a) (a1 : a ≤ 999) : TInv (putK T (2 * h + 1) (someT h a)) := by
  intro e he
  unfold putK at he
  split at he
  · obtain ⟨x, hx, rfl⟩ := List.mem_map.1 he
    split
    · exact ⟨h, a, h0, h1, a0, a1, rfl⟩
    · exact hT x hx
  · rcases List.mem_append.1 he with he | he
    · exact hT e he
    · rw [List.mem_singleton] at he
      exact ⟨h, a, h0, h1, a0, a1, he⟩
theorem TInv.sm {T : List (Int × Tr)} (hT : TInv T) : TrSm T := by
  intro e he
  obtain ⟨h, a, h0, h1, a0, a1, rfl⟩ := hT e he
  refine ⟨?_, ?_, ?_, ?_⟩
  · show ([] : List Bs).length ≤ _; simp
  · show oneA.length ≤ _; decide
  · simp only; omega
  · simp only; omega
theorem TInv.noclash {T : List (Int × Tr)} (hT : TInv T) (h a : Int) : clashT T (someT h a) = false := by
  unfold clashT
  rw [List.any_eq_false]
  intro e he
  obtain ⟨h', a', _, _, _, _, rfl⟩ := hT e he
  by_cases hk : 2 * h' + 1 = 2 * h + 1
  · have : h' = h := by omega
    subst this
    have hh : (someT h' a').head = (someT h' a).head := rfl
    simp [hh]
  · have : (someT h a).head.height = 2 * h + 1 := rfl
    simp [this, hk]
/-- A disk that is not full. -/
structure DkOk (d : Dk) (n : Nat) : Prop where
  down : d.down = false
  fuse : d.fuse = -1
  room : d.room = 524288
  len : d.s.length ≤ n
theorem add_one {d : Dk} {n : Nat} {T : List (Int × Tr)} (hd : DkOk d n) (hn : n ≤ 100000) (hT : TInv T) {h a : Int} (h0 : 0 ≤ h) (h1 : h ≤ 8) (a0 : 0 ≤ a) (a1 : a ≤ 999) :
    ∃ d', addD d T [someT h a] = (d', putK T (2 * h + 1) (someT h a), 0, false) ∧ DkOk d' (n + 500) := by
  have hf := some_fine h a h0 (by omega) a0 (by omega)
  have hl := some_len h a
  have hrl := rec_len (batchT [someT h a]) 431 (by intro x hx; simp [batchT] at hx; subst hx; simp; omega)
  have hb1 : (batchT [someT h a]).length = 1 := rfl
  rw [hb1] at hrl
  have hlen := hd.len
  have hw := writeD_ok d (batchT [someT h a]) hd.down (by rw [hd.fuse]; omega) (by rw [hd.room]; omega)
  refine ⟨(writeD d (batchT [someT h a])).1, ?_, ?_⟩
  · rw [addD_yes (by simp [hf]) (by rw [addsT_step (hT.noclash h a)]; rfl) (by simp) (by rw [hw]), hw]
    rfl
  · rw [hw]
    exact ⟨rfl, hd.fuse, hd.room, by simp only [List.length_append]; omega⟩
theorem may_one (h a : Int) : mayR (batchT [someT h a]) = true :=
  may_small _ 431 (by intro x hx; have hl := some_len h a; simp [batchT] at hx; subst hx; simp; omega) (by simp [batchT]) (by omega)

/-! ### the best, the one above -/
def freshK (T : List (Int × Tr)) (span now k : Int) : Bool := match lookK T k with
  | some t => !staleT span now t
  | none => false
def bestF (T : List (Int × Tr)) (span now : Int) (l : List Int) : Int := l.foldl (fun b k => if freshK T span now k = true then k else b) (-1)
def abvF (T : List (Int × Tr)) (span now h : Int) (l : List Int) : Int := l.foldl (fun b k => if freshK T span now k = true ∧ b < 0 ∧ h ≤ k then k else b) (-1)
theorem bestF_snoc (T : List (Int × Tr)) (span now : Int) (l : List Int) (k : Int) : bestF T span now (l ++ [k]) = if freshK T span now k = true then k else bestF T span now l := by
  unfold bestF
  rw [List.foldl_append]
  rfl
theorem abvF_snoc (T : List (Int × Tr)) (span now h : Int) (l : List Int) (k : Int) : abvF T span now h (l ++ [k]) = if freshK T span now k = true ∧ abvF T span now h l < 0 ∧ h ≤ k then k else abvF T span now h l := by
  unfold abvF
  rw [List.foldl_append]
  rfl
theorem fresh_some {T : List (Int × Tr)} {span now k : Int} {t : Tr} (h : lookK T k = some t) : freshK T span now k = !staleT span now t := by
  unfold freshK
  rw [h]
theorem first_cons {T : List (Int × Tr)} {span now k : Int} {r : List Int} {t : Tr} (h : lookK T k = some t) : firstT T span now (k :: r) = if freshK T span now k = true then some t else firstT T span now r := by
  rw [fresh_some h]
  cases hs : staleT span now t
  · rw [firstT_fresh h hs]; rfl
  · rw [firstT_stale h hs]; rfl
/-- What the list says of the heights. -/
def Good (T : List (Int × Tr)) (l : List Int) : Prop := ∀ k ∈ l, 0 ≤ k ∧ ∃ t, lookK T k = some t ∧ t.head.height = k
theorem Good.snoc_l {T : List (Int × Tr)} {l : List Int} {k : Int} (h : Good T (l ++ [k])) : Good T l := fun x hx => h x (List.mem_append.2 (.inl hx))
theorem best_law {T : List (Int × Tr)} {span now : Int} : ∀ (n : Nat) (l : List Int), l.length = n → Good T l →
    (firstT T span now l.reverse = none ∧ bestF T span now l = -1) ∨ (∃ t, firstT T span now l.reverse = some t ∧ bestF T span now l = t.head.height ∧ 0 ≤ t.head.height)
  | 0, l, hl, _ => by
    obtain rfl : l = [] := List.length_eq_zero_iff.1 hl
    exact .inl ⟨rfl, rfl⟩
  | n + 1, l, hl, hg => by
    rcases List.eq_nil_or_concat l with e | ⟨l', k, e⟩
    · rw [e] at hl; simp at hl
    · rw [List.concat_eq_append] at e
      subst e
      obtain ⟨hk0, t, hlk, hh⟩ := hg k (by simp)
      rw [List.reverse_append, List.reverse_singleton, List.singleton_append, first_cons hlk, bestF_snoc]
      by_cases hf : freshK T span now k = true
      · rw [if_pos hf, if_pos hf]
        exact .inr ⟨t, rfl, hh.symm, by rw [hh]; exact hk0⟩
      · rw [if_neg hf, if_neg hf]
        exact best_law n l' (by simp at hl; exact hl) hg.snoc_l
theorem abv_stay {T : List (Int × Tr)} {span now h : Int} : ∀ (l : List Int) (b : Int), 0 ≤ b → l.foldl (fun b k => if freshK T span now k = true ∧ b < 0 ∧ h ≤ k then k else b) b = b
  | [], b, _ => rfl
  | k :: r, b, hb => by
    rw [List.foldl_cons, if_neg (by omega)]
    exact abv_stay r b hb
theorem abv_law {T : List (Int × Tr)} {span now h : Int} : ∀ (l : List Int), l.Pairwise (· ≤ ·) → Good T l →
    (firstT T span now (l.drop (l.countP (· < h))) = none ∧ abvF T span now h l = -1) ∨ (∃ t, firstT T span now (l.drop (l.countP (· < h))) = some t ∧ abvF T span now h l = t.head.height ∧ 0 ≤ t.head.height)
  | [], _, _ => .inl ⟨rfl, rfl⟩
  | k :: r, hp, hg => by
    rw [List.pairwise_cons] at hp
    have hgr : Good T r := fun x hx => hg x (List.mem_cons_of_mem _ hx)
    have ih := abv_law (h := h) (span := span) (now := now) r hp.2 hgr
    obtain ⟨hk0, t, hlk, hh⟩ := hg k (List.mem_cons_self ..)
    by_cases hkh : k < h
    · have hc : (k :: r).countP (· < h) = r.countP (· < h) + 1 := by rw [List.countP_cons_of_pos (by simpa using hkh)]
      have ha : abvF T span now h (k :: r) = abvF T span now h r := by
        unfold abvF
        rw [List.foldl_cons, if_neg (by omega)]
      rw [hc, List.drop_succ_cons, ha]
      exact ih
    · have hz : ∀ x ∈ r, ¬ x < h := fun x hx => by have := hp.1 x hx; omega
      have hcr : r.countP (· < h) = 0 := by rw [List.countP_eq_zero]; intro x hx; simpa using hz x hx
      have hc : (k :: r).countP (· < h) = 0 := by rw [List.countP_cons_of_neg (by simpa using hkh), hcr]
      rw [hcr, List.drop_zero] at ih
      rw [hc, List.drop_zero, first_cons hlk]
      by_cases hf : freshK T span now k = true
      · rw [if_pos hf]
        have ha : abvF T span now h (k :: r) = k := by
          unfold abvF
          rw [List.foldl_cons, if_pos ⟨hf, by omega, by omega⟩]
          exact abv_stay r k hk0
        exact .inr ⟨t, rfl, by rw [ha, hh], by rw [hh]; exact hk0⟩
      · rw [if_neg hf]
        have ha : abvF T span now h (k :: r) = abvF T span now h r := by
          unfold abvF
          rw [List.foldl_cons, if_neg (fun h => hf h.1)]
        rw [ha]
        exact ih
theorem TInv.good {T : List (Int × Tr)} (hT : TInv T) (hn : (hts T).Nodup) : Good T (sortZ (hts T)) := by
  intro k hk
  obtain ⟨t, ht⟩ := hts_mem (sortZ_mem.1 hk)
  obtain ⟨h, a, h0, h1, a0, a1, e⟩ := hT _ ht
  injection e with e1 e2
  exact ⟨by omega, t, lookK_in hn ht, by rw [e2, e1]; rfl⟩
theorem TInv.at_ {T : List (Int × Tr)} (hT : TInv T) {k : Int} {t : Tr} (h : (k, t) ∈ T) : 0 ≤ t.at_ ∧ t.at_ ≤ 999 ∧ 0 ≤ k ∧ t.head.height = k := by
  obtain ⟨h, a, h0, h1, a0, a1, e⟩ := hT _ h
  injection e with e1 e2
  subst e2 e1
  exact ⟨a0, a1, by omega, rfl⟩
end Go.Proofs.YthgjdaomcpinaaaGreatDoor
