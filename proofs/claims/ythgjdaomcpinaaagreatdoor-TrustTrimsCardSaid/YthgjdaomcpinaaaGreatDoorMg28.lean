/- TCodes, TrVal, Laid. -/
import Derived.Test.YthgjdaomcpinaaaGreatDoorRows
import Derived.ProofKit
import Derived.LaidMore
import Derived.Stop.Joined
import Derived.Test.YthgjdaomcpinaaaGreatDoorMg5
import Derived.Test.YthgjdaomcpinaaaGreatDoorMg11
import Derived.Test.YthgjdaomcpinaaaGreatDoorMg22
import Derived.Test.YthgjdaomcpinaaaGreatDoorMg27
set_option linter.unnecessarySimpa false

/- What is trusted, its bytes, and the one of any bytes, are those of the document: the law's walk. Printed by mktcodes.py. -/
set_option linter.unusedSimpArgs false
set_option linter.unusedVariables false
namespace Go.Proofs.YthgjdaomcpinaaaGreatDoor
open Go.RowKit Go.WideMaps Go.Maps Go.Sort Go.Shelf Pl

theorem sameTr_refl (t : Tr) : sameTr t t = true := by
  unfold sameTr sameHd
  have h : ∀ l : List Bs, sameL l l = true := fun l => by induction l <;> simp_all [sameL]
  simp [h]
set_option maxRecDepth 100000 in
set_option maxHeartbeats 8000000 in
theorem trustcodes_any (u : Value) (t : Tr) (s : Bs) (w : World) (hu : TV w u t) (hs : s.length ≤ 9223372036854775807) (hk : KT w) :
    Calls Tryz.prog 3 #[u, .string ⟨List.toArray (s)⟩] w fun e w' => e = .returned (.bool true) ∧ Below w.heap.size w w' := by
  obtain ⟨⟨a1, a2, a3, lb, pa, st, rc, tx, me, ne, K⟩, L, ta⟩ := t
  obtain ⟨sk, ms, rfl, h1, h2⟩ := hu
  simp only at h1 h2
  obtain ⟨ka, kc, rfl⟩ := h1.form
  obtain ⟨ma, mc, rfl⟩ := h2.form
  have B0 : Blk (w.alloc (.cells #[.int .i64 (a1), .int .i64 (a2), .int .i64 (a3), .bool lb, .string ⟨List.toArray (pa)⟩, .string ⟨List.toArray (st)⟩, .string ⟨List.toArray (rc)⟩, .string ⟨List.toArray (tx)⟩, .string ⟨List.toArray (me)⟩, .string ⟨List.toArray (ne)⟩, .slice ka K.length kc, .slice ma L.length mc, .int .i64 (ta)] 27)) w.heap.size #[.int .i64 (a1), .int .i64 (a2), .int .i64 (a3), .bool lb, .string ⟨List.toArray (pa)⟩, .string ⟨List.toArray (st)⟩, .string ⟨List.toArray (rc)⟩, .string ⟨List.toArray (tx)⟩, .string ⟨List.toArray (me)⟩, .string ⟨List.toArray (ne)⟩, .slice ka K.length kc, .slice ma L.length mc, .int .i64 (ta)] := Blk.new _ _ _
  have hb0 : Below w.heap.size w (w.alloc (.cells #[.int .i64 (a1), .int .i64 (a2), .int .i64 (a3), .bool lb, .string ⟨List.toArray (pa)⟩, .string ⟨List.toArray (st)⟩, .string ⟨List.toArray (rc)⟩, .string ⟨List.toArray (tx)⟩, .string ⟨List.toArray (me)⟩, .string ⟨List.toArray (ne)⟩, .slice ka K.length kc, .slice ma L.length mc, .int .i64 (ta)] 27)) := Below.allocS (Below.refl _ _) _
  have q2 := big_any _ ⟨⟨a1, a2, a3, lb, pa, st, rc, tx, me, ne, K⟩, L, ta⟩ _ ⟨_, _, rfl, h1.keep hb0, h2.keep hb0⟩
  have HK := Lib.hid hk
  have H1 := Lib.hid h1
  have H2 := Lib.hid h2
  clear h1 h2 hk
  generalize bigT ⟨⟨a1, a2, a3, lb, pa, st, rc, tx, me, ne, K⟩, L, ta⟩ = bg at *
  go_enter Tryz.func3, Tryz.ntmps3
  go_wp2_with (first | (refine wpList_rowLoad row_trust rfl (.tmp 2) rfl rfl (vs := [.int .i64 (a1), .int .i64 (a2), .int .i64 (a3), .bool lb, .string ⟨List.toArray (pa)⟩, .string ⟨List.toArray (st)⟩, .string ⟨List.toArray (rc)⟩, .string ⟨List.toArray (tx)⟩, .string ⟨List.toArray (me)⟩, .string ⟨List.toArray (ne)⟩, .slice ka K.length kc, .slice ma L.length mc, .int .i64 (ta)]) rfl B0 ?_))
  refine q2.mono ?_
  rintro e w2 ⟨rfl, hb⟩
  have B2 := B0.keep hb
  have hb2 := hb0.trans (hb.mono hb0.size)
  clear q2 hb hb0 B0
  cases bg
  · by_cases hl : s.length ≤ 2000
    · have g1 : decide (2000 < (s.length : Int)) = false := by rw [decide_eq_false_iff_not]; omega
      have q3 := tr_encode a1 a2 a3 lb pa st rc tx me ne K _ L _ ta _ (H1.out.keep hb2) (H2.out.keep hb2) (HK.out.keep hb2)
      have q4 := fun (W : World) (hb : Below w.heap.size w W) => rtencode_any a1 a2 a3 lb pa st rc tx me ne K _ _ L _ _ ta W (H1.out.keep hb) (H2.out.keep hb)
      have q5 := fun (W : World) (hk : KT W) => tr_decode s (by omega) W hk
      have q6 := fun (W : World) => rtdecode_any s (by omega) W
      have q7 := fun (W : World) (hb : Below w.heap.size w W) => tr_check a1 a2 a3 lb pa st rc tx me ne K _ L _ ta W (H1.out.keep hb) (H2.out.keep hb) (HK.out.keep hb)
      have q8 := fun (W : World) (hb : Below w.heap.size w W) => rtcheck_any a1 a2 a3 lb pa st rc tx me ne K _ _ L _ _ ta W (H1.out.keep hb) (H2.out.keep hb)
      generalize encTR ⟨⟨a1, a2, a3, lb, pa, st, rc, tx, me, ne, K⟩, L, ta⟩ = x at *
      obtain ⟨x, xc⟩ := x
      generalize decT s = y at *
      obtain ⟨⟨⟨d1, d2, d3, eb, pb, su, rd, ty, mf, nf, K2⟩, L2, tb⟩, yc⟩ := y
      generalize codeT (fineT ⟨⟨a1, a2, a3, lb, pa, st, rc, tx, me, ne, K⟩, L, ta⟩) = cc at *
      have q9 := fun (u v : Value) (W : World) (hu : TV W u ⟨⟨d1, d2, d3, eb, pb, su, rd, ty, mf, nf, K2⟩, L2, tb⟩) (hv : TV W v ⟨⟨d1, d2, d3, eb, pb, su, rd, ty, mf, nf, K2⟩, L2, tb⟩) => sametr_any u v _ _ W hu hv
      rw [sameTr_refl] at q9
      simp only at q3 q4 q5 q6
      go_wp2_with (first | (refine wpList_rowLoad row_trust rfl (.tmp 2) rfl rfl (vs := [.int .i64 (a1), .int .i64 (a2), .int .i64 (a3), .bool lb, .string ⟨List.toArray (pa)⟩, .string ⟨List.toArray (st)⟩, .string ⟨List.toArray (rc)⟩, .string ⟨List.toArray (tx)⟩, .string ⟨List.toArray (me)⟩, .string ⟨List.toArray (ne)⟩, .slice ka K.length kc, .slice ma L.length mc, .int .i64 (ta)]) rfl B2 ?_))
      refine q3.mono ?_
      rintro e w3 ⟨rfl, hb⟩
      have B3 := B2.keep hb
      have hb3 := hb2.trans (hb.mono hb2.size)
      clear q3 hb hb2 B2
      go_wp2_with (first | (refine wpList_rowLoad row_trust rfl (.tmp 2) rfl rfl (vs := [.int .i64 (a1), .int .i64 (a2), .int .i64 (a3), .bool lb, .string ⟨List.toArray (pa)⟩, .string ⟨List.toArray (st)⟩, .string ⟨List.toArray (rc)⟩, .string ⟨List.toArray (tx)⟩, .string ⟨List.toArray (me)⟩, .string ⟨List.toArray (ne)⟩, .slice ka K.length kc, .slice ma L.length mc, .int .i64 (ta)]) rfl B3 ?_))
      refine (q4 _ hb3).mono ?_
      rintro e w4 ⟨rfl, hb⟩
      have B4 := B3.keep hb
      have hb4 := hb3.trans (hb.mono hb3.size)
      clear q4 hb hb3 B3
      go_wp2_with fail
      refine (q5 _ (HK.out.keep hb4)).mono ?_
      rintro e w5 ⟨v, rfl, ⟨sk, ms, rfl, r1, r2⟩, hb⟩
      simp only at r1 r2
      obtain ⟨va, vc, rfl⟩ := r1.form
      obtain ⟨ua, uc, rfl⟩ := r2.form
      have B5 := B4.keep hb
      have hb5 := hb4.trans (hb.mono hb4.size)
      clear q5 hb hb4 B4
      go_wp2_with (first | (refine wpList_rowStore row_trust rfl rfl (.tmp 9) (.tmp 34) rfl rfl rfl (vs := [.int .i64 (d1), .int .i64 (d2), .int .i64 (d3), .bool eb, .string ⟨List.toArray (pb)⟩, .string ⟨List.toArray (su)⟩, .string ⟨List.toArray (rd)⟩, .string ⟨List.toArray (ty)⟩, .string ⟨List.toArray (mf)⟩, .string ⟨List.toArray (nf)⟩, .slice va K2.length vc, .slice ua L2.length uc, .int .i64 (tb)]) rfl (by simp [Value.oneCell']) (us := [.int .i64 (0), .int .i64 (0), .int .i64 (0), .bool false, .string ⟨List.toArray ([])⟩, .string ⟨List.toArray ([])⟩, .string ⟨List.toArray ([])⟩, .string ⟨List.toArray ([])⟩, .string ⟨List.toArray ([])⟩, .string ⟨List.toArray ([])⟩, .slice none 0 0, .slice none 0 0, .int .i64 (0)]) rfl (Blk.new' (by simp)) ?_; intro w6 N6 m6; have hbn := Below.mod (Below.allocS (Below.refl w5.heap.size w5) (.cells #[.int .i64 (0), .int .i64 (0), .int .i64 (0), .bool false, .string ⟨List.toArray ([])⟩, .string ⟨List.toArray ([])⟩, .string ⟨List.toArray ([])⟩, .string ⟨List.toArray ([])⟩, .string ⟨List.toArray ([])⟩, .string ⟨List.toArray ([])⟩, .slice none 0 0, .slice none 0 0, .int .i64 (0)] 27)) m6 (by simp) (by simp); have hb6 := hb5.trans (hbn.mono hb5.size); have B6 := B5.keep hbn; have x1 := r1.keep hbn; have x2 := r2.keep hbn))
      refine (q6 _).mono ?_
      rintro e w7 ⟨v, rfl, ⟨sk, ms, rfl, r3, r4⟩, hb⟩
      simp only at r3 r4
      obtain ⟨va2, vc2, rfl⟩ := r3.form
      obtain ⟨ua2, uc2, rfl⟩ := r4.form
      have B7 := B6.keep hb
      have hb7 := hb6.trans (hb.mono hb6.size)
      have N7 := N6.keep hb
      have x3 := x1.keep hb
      have x4 := x2.keep hb
      clear q6 hb hb6 B6 hbn x1 x2 N6 m6 B5 hb5 r1 r2
      go_wp2_with (first | (refine wpList_rowStore row_trust rfl rfl (.tmp 11) (.tmp 39) rfl rfl rfl (vs := [.int .i64 (d1), .int .i64 (d2), .int .i64 (d3), .bool eb, .string ⟨List.toArray (pb)⟩, .string ⟨List.toArray (su)⟩, .string ⟨List.toArray (rd)⟩, .string ⟨List.toArray (ty)⟩, .string ⟨List.toArray (mf)⟩, .string ⟨List.toArray (nf)⟩, .slice va2 K2.length vc2, .slice ua2 L2.length uc2, .int .i64 (tb)]) rfl (by simp [Value.oneCell']) (us := [.int .i64 (0), .int .i64 (0), .int .i64 (0), .bool false, .string ⟨List.toArray ([])⟩, .string ⟨List.toArray ([])⟩, .string ⟨List.toArray ([])⟩, .string ⟨List.toArray ([])⟩, .string ⟨List.toArray ([])⟩, .string ⟨List.toArray ([])⟩, .slice none 0 0, .slice none 0 0, .int .i64 (0)]) rfl (Blk.new' (by simp)) ?_; intro w8 N8 m8; have hbn := Below.mod (Below.allocS (Below.refl w7.heap.size w7) (.cells #[.int .i64 (0), .int .i64 (0), .int .i64 (0), .bool false, .string ⟨List.toArray ([])⟩, .string ⟨List.toArray ([])⟩, .string ⟨List.toArray ([])⟩, .string ⟨List.toArray ([])⟩, .string ⟨List.toArray ([])⟩, .string ⟨List.toArray ([])⟩, .slice none 0 0, .slice none 0 0, .int .i64 (0)] 27)) m8 (by simp) (by simp); have hb8 := hb7.trans (hbn.mono hb7.size); have B8 := B7.keep hbn; have x5 := r3.keep hbn; have x6 := r4.keep hbn; have x7 := x3.keep hbn; have x8 := x4.keep hbn; have M8 := N7.keep hbn))
      clear hbn m8 B7 hb7 N7 x3 x4 r3 r4
      refine wp_held rfl (by kernel_rfl) ?_
      (refine wpQ_pure (by rfl) ?_ ?_ ?_; rotate_left; focus (intro w; go_simp; try with_reducible rfl))
      try simp only [Act.put, List.setIfInBounds_toArray, List.set_cons_zero, List.set_cons_succ]
      (refine wpQ_pure (by rfl) ?_ ?_ ?_; rotate_left; focus (intro w; go_simp; try with_reducible rfl))
      try simp only [Act.put, List.setIfInBounds_toArray, List.set_cons_zero, List.set_cons_succ]
      (refine wpQ_pure (by rfl) ?_ ?_ ?_; rotate_left; focus (intro w; go_simp; try with_reducible rfl))
      try simp only [Act.put, List.setIfInBounds_toArray, List.set_cons_zero, List.set_cons_succ]
      (refine wpQ_pure (by rfl) ?_ ?_ ?_; rotate_left; focus (intro w; go_simp; try with_reducible rfl))
      try simp only [Act.put, List.setIfInBounds_toArray, List.set_cons_zero, List.set_cons_succ]
      (first | (refine wpQ_skip (by first | rfl | (go_simp; rfl)) ?_) | (refine wpQ_pure (by rfl) ?_ ?_ ?_; rotate_left; focus (intro w; go_simp; try with_reducible rfl)))
      try simp only [Act.put, List.setIfInBounds_toArray, List.set_cons_zero, List.set_cons_succ]
      (first | (refine wpQ_skip (by first | rfl | (go_simp; rfl)) ?_) | (refine wpQ_pure (by rfl) ?_ ?_ ?_; rotate_left; focus (intro w; go_simp; try with_reducible rfl)))
      try simp only [Act.put, List.setIfInBounds_toArray, List.set_cons_zero, List.set_cons_succ]
      (first | (refine wpQ_skip (by first | rfl | (go_simp; rfl)) ?_) | (refine wpQ_pure (by rfl) ?_ ?_ ?_; rotate_left; focus (intro w; go_simp; try with_reducible rfl)))
      try simp only [Act.put, List.setIfInBounds_toArray, List.set_cons_zero, List.set_cons_succ]
      (refine wpQ_pure (by rfl) ?_ ?_ ?_; rotate_left; focus (intro w; go_simp; try with_reducible rfl))
      try simp only [Act.put, List.setIfInBounds_toArray, List.set_cons_zero, List.set_cons_succ]
      (refine wpQ_pure (by rfl) ?_ ?_ ?_; rotate_left; focus (intro w; go_simp; try with_reducible rfl))
      try simp only [Act.put, List.setIfInBounds_toArray, List.set_cons_zero, List.set_cons_succ]
      refine wpQ_row row_trust (by rfl) (.tmp 9) rfl rfl (vs := [.int .i64 (d1), .int .i64 (d2), .int .i64 (d3), .bool eb, .string ⟨List.toArray (pb)⟩, .string ⟨List.toArray (su)⟩, .string ⟨List.toArray (rd)⟩, .string ⟨List.toArray (ty)⟩, .string ⟨List.toArray (mf)⟩, .string ⟨List.toArray (nf)⟩, .slice va K2.length vc, .slice ua L2.length uc, .int .i64 (tb)]) (rfl) (fun w hb => M8.keep hb) ?_
      try simp only [Act.put, List.setIfInBounds_toArray, List.set_cons_zero, List.set_cons_succ]
      refine wpQ_row row_trust (by rfl) (.tmp 11) rfl rfl (vs := [.int .i64 (d1), .int .i64 (d2), .int .i64 (d3), .bool eb, .string ⟨List.toArray (pb)⟩, .string ⟨List.toArray (su)⟩, .string ⟨List.toArray (rd)⟩, .string ⟨List.toArray (ty)⟩, .string ⟨List.toArray (mf)⟩, .string ⟨List.toArray (nf)⟩, .slice va2 K2.length vc2, .slice ua2 L2.length uc2, .int .i64 (tb)]) (rfl) (fun w hb => N8.keep hb) ?_
      try simp only [Act.put, List.setIfInBounds_toArray, List.set_cons_zero, List.set_cons_succ]
      refine wpQ_call (by rfl) _ _ (.bool true) (callW (W := w8) (fun W hb => q9 _ _ W ⟨_, _, rfl, (x7.keep hb).ss, (x8.keep hb).ms⟩ ⟨_, _, rfl, (x5.keep hb).ss, (x6.keep hb).ms⟩)) (by intro w; go_simp; try rfl) ?_
      try simp only [Act.put, List.setIfInBounds_toArray, List.set_cons_zero, List.set_cons_succ]
      (refine wpQ_pure (by rfl) ?_ ?_ ?_; rotate_left; focus (intro w; go_simp; try with_reducible rfl))
      try simp only [Act.put, List.setIfInBounds_toArray, List.set_cons_zero, List.set_cons_succ]
      (refine wpQ_pure (by rfl) ?_ ?_ ?_; rotate_left; focus (intro w; go_simp; try with_reducible rfl))
      try simp only [Act.put, List.setIfInBounds_toArray, List.set_cons_zero, List.set_cons_succ]
      (first | (refine wpQ_skip (by first | rfl | (go_simp; rfl)) ?_) | (refine wpQ_pure (by rfl) ?_ ?_ ?_; rotate_left; focus (intro w; go_simp; try with_reducible rfl)))
      try simp only [Act.put, List.setIfInBounds_toArray, List.set_cons_zero, List.set_cons_succ]
      (first | (refine wpQ_skip (by first | rfl | (go_simp; rfl)) ?_) | (refine wpQ_pure (by rfl) ?_ ?_ ?_; rotate_left; focus (intro w; go_simp; try with_reducible rfl)))
      try simp only [Act.put, List.setIfInBounds_toArray, List.set_cons_zero, List.set_cons_succ]
      (first | (refine wpQ_skip (by first | rfl | (go_simp; rfl)) ?_) | (refine wpQ_pure (by rfl) ?_ ?_ ?_; rotate_left; focus (intro w; go_simp; try with_reducible rfl)))
      try simp only [Act.put, List.setIfInBounds_toArray, List.set_cons_zero, List.set_cons_succ]
      (refine wpQ_pure (by rfl) ?_ ?_ ?_; rotate_left; focus (intro w; go_simp; try with_reducible rfl))
      try simp only [Act.put, List.setIfInBounds_toArray, List.set_cons_zero, List.set_cons_succ]
      (refine wpQ_pure (by rfl) ?_ ?_ ?_; rotate_left; focus (intro w; go_simp; try with_reducible rfl))
      try simp only [Act.put, List.setIfInBounds_toArray, List.set_cons_zero, List.set_cons_succ]
      refine wpQ_row row_trust (by rfl) (.tmp 2) rfl rfl (vs := [.int .i64 (a1), .int .i64 (a2), .int .i64 (a3), .bool lb, .string ⟨List.toArray (pa)⟩, .string ⟨List.toArray (st)⟩, .string ⟨List.toArray (rc)⟩, .string ⟨List.toArray (tx)⟩, .string ⟨List.toArray (me)⟩, .string ⟨List.toArray (ne)⟩, .slice ka K.length kc, .slice ma L.length mc, .int .i64 (ta)]) (rfl) (fun w hb => B8.keep hb) ?_
      try simp only [Act.put, List.setIfInBounds_toArray, List.set_cons_zero, List.set_cons_succ]
      refine wpQ_call (by rfl) _ _ (.int .i64 (cc)) (callW (W := w8) (fun W hb => q7 W (hb8.trans (hb.mono hb8.size)))) (by intro w; go_simp; try rfl) ?_
      try simp only [Act.put, List.setIfInBounds_toArray, List.set_cons_zero, List.set_cons_succ]
      refine wpQ_row row_trust (by rfl) (.tmp 2) rfl rfl (vs := [.int .i64 (a1), .int .i64 (a2), .int .i64 (a3), .bool lb, .string ⟨List.toArray (pa)⟩, .string ⟨List.toArray (st)⟩, .string ⟨List.toArray (rc)⟩, .string ⟨List.toArray (tx)⟩, .string ⟨List.toArray (me)⟩, .string ⟨List.toArray (ne)⟩, .slice ka K.length kc, .slice ma L.length mc, .int .i64 (ta)]) (rfl) (fun w hb => B8.keep hb) ?_
      try simp only [Act.put, List.setIfInBounds_toArray, List.set_cons_zero, List.set_cons_succ]
      refine wpQ_call (by rfl) _ _ (.int .i64 (cc)) (callW (W := w8) (fun W hb => q8 W (hb8.trans (hb.mono hb8.size)))) (by intro w; go_simp; try rfl) ?_
      try simp only [Act.put, List.setIfInBounds_toArray, List.set_cons_zero, List.set_cons_succ]
      (first | (refine wpQ_skip (by first | rfl | (go_simp; rfl)) ?_) | (refine wpQ_pure (by rfl) ?_ ?_ ?_; rotate_left; focus (intro w; go_simp; try with_reducible rfl)))
      try simp only [Act.put, List.setIfInBounds_toArray, List.set_cons_zero, List.set_cons_succ]
      (refine wpQ_pure (by rfl) ?_ ?_ ?_; rotate_left; focus (intro w; go_simp; try with_reducible rfl))
      try simp only [Act.put, List.setIfInBounds_toArray, List.set_cons_zero, List.set_cons_succ]
      (refine wpQ_pure (by rfl) ?_ ?_ ?_; rotate_left; focus (intro w; go_simp; try with_reducible rfl))
      try simp only [Act.put, List.setIfInBounds_toArray, List.set_cons_zero, List.set_cons_succ]
      (refine wpQ_pure (by rfl) ?_ ?_ ?_; rotate_left; focus (intro w; go_simp; try with_reducible rfl))
      try simp only [Act.put, List.setIfInBounds_toArray, List.set_cons_zero, List.set_cons_succ]
      (refine wpQ_pure (by rfl) ?_ ?_ ?_; rotate_left; focus (intro w; go_simp; try with_reducible rfl))
      try simp only [Act.put, List.setIfInBounds_toArray, List.set_cons_zero, List.set_cons_succ]
      refine wpQ_call (by rfl) _ _ (.bool true) (callW (W := w8) (fun W hb => tworks_any W (HK.out.keep (hb8.trans (hb.mono hb8.size))))) (by intro w; go_simp; try rfl) ?_
      try simp only [Act.put, List.setIfInBounds_toArray, List.set_cons_zero, List.set_cons_succ]
      (refine wpQ_pure (by rfl) ?_ ?_ ?_; rotate_left; focus (intro w; go_simp; try with_reducible rfl))
      try simp only [Act.put, List.setIfInBounds_toArray, List.set_cons_zero, List.set_cons_succ]
      (refine wpQ_pure (by rfl) ?_ ?_ ?_; rotate_left; focus (intro w; go_simp; try with_reducible rfl))
      try simp only [Act.put, List.setIfInBounds_toArray, List.set_cons_zero, List.set_cons_succ]
      intro w9 hS
      go_wp2_with fail
      go_ret
      exact ⟨rfl, hb8.trans (hS.mono hb8.size)⟩
    · have g1 : decide (2000 < (s.length : Int)) = true := by rw [decide_eq_true_eq]; omega
      have q3 := tworks_any _ (HK.out.keep hb2)
      go_wp2_with fail
      refine q3.mono ?_
      rintro e w3 ⟨rfl, hb⟩
      go_wp2_with fail
      all_goals (go_ret; exact ⟨rfl, hb2.trans (hb.mono hb2.size)⟩)
  · have q3 := tworks_any _ (HK.out.keep hb2)
    go_wp2_with fail
    refine q3.mono ?_
    rintro e w3 ⟨rfl, hb⟩
    go_wp2_with fail
    all_goals (go_ret; exact ⟨rfl, hb2.trans (hb.mono hb2.size)⟩)
end Go.Proofs.YthgjdaomcpinaaaGreatDoor

/- An argument of the type api.Trusted; a text with its length. -/
set_option linter.unusedVariables false
namespace Go.Proofs.YthgjdaomcpinaaaGreatDoor
open Go.ChangeShapes Go.WideShapes Go.ChangeAt Go.RowKit Pl

theorem tr_val {W : World} {v : Value} (h : Sh.Val W (.pair (.pair (.int .i64) (.pair (.int .i64) (.pair (.int .i64) (.pair .bool (.pair .str (.pair .str (.pair .str (.pair .str (.pair .str (.pair .str (.pair (.slice 1 .str) .unit))))))))))) (.pair (.slice 2 (.pair .str (.pair (.int .i64) .unit))) (.pair (.int .i64) .unit))) v) : ∃ t : Tr, TV W v t := by
  obtain ⟨c0, rfl, hc⟩ := h
  obtain ⟨x0, y0, rfl, ⟨x1, y1, rfl, ⟨n1, rfl, _⟩, x2, y2, rfl, ⟨n2, rfl, _⟩, x3, y3, rfl, ⟨n3, rfl, _⟩, x4, y4, rfl, ⟨b, rfl⟩, x5, y5, rfl, ⟨s1, rfl, _⟩, x6, y6, rfl, ⟨s2, rfl, _⟩, x7, y7, rfl, ⟨s3, rfl, _⟩, x8, y8, rfl, ⟨s4, rfl, _⟩, x9, y9, rfl, ⟨s5, rfl, _⟩, x10, y10, rfl, ⟨s6, rfl, _⟩, x11, y11, rfl, hz1, hu1⟩, x12, y12, rfl, hz2, x13, y13, rfl, ⟨n4, rfl, _⟩, hu2⟩ := hc
  obtain rfl : y11 = [] := hu1
  obtain rfl : y13 = [] := hu2
  obtain ⟨v1, rfl, hv1⟩ : ∃ v', x11 = [v'] ∧ Sh.Val W (.slice 1 .str) v' := by
    rcases hz1 with rfl | ⟨a, len, cap, rfl, hr⟩
    · exact ⟨_, rfl, .inl rfl⟩
    · exact ⟨_, rfl, .inr ⟨a, len, cap, rfl, hr⟩⟩
  obtain ⟨v2, rfl, hv2⟩ : ∃ v', x12 = [v'] ∧ Sh.Val W (.slice 2 (.pair .str (.pair (.int .i64) .unit))) v' := by
    rcases hz2 with rfl | ⟨a, len, cap, rfl, hr⟩
    · exact ⟨_, rfl, .inl rfl⟩
    · exact ⟨_, rfl, .inr ⟨a, len, cap, rfl, hr⟩⟩
  obtain ⟨K, hK, _⟩ := ss_val hv1
  obtain ⟨L, hL⟩ := ms_val hv2
  refine ⟨⟨⟨n1, n2, n3, b, s1.data.toList, s2.data.toList, s3.data.toList, s4.data.toList, s5.data.toList, s6.data.toList, K⟩, L, n4⟩, v1, v2, ?_, hK, hL⟩
  simp only [← str_list]
  rfl
theorem str_valT {W : World} {v : Value} (h : Sh.Val W .str v) : ∃ s : Bs, v = .string ⟨List.toArray (s)⟩ ∧ s.length ≤ maxLen := by
  obtain ⟨s, hs, hl⟩ := h
  obtain rfl : v = .string s := by simpa using hs
  refine ⟨s.data.toList, ?_, by rw [Array.length_toList]; exact hl⟩
  rw [← str_list s]
end Go.Proofs.YthgjdaomcpinaaaGreatDoor

/- The table of constants that the card lists lies where the walks ask for it; a world that has it. -/
set_option linter.unusedSimpArgs false
set_option linter.unusedVariables false
namespace Go.Proofs.YthgjdaomcpinaaaGreatDoor
open Go.ChangeShapes Go.WideShapes Go.ChangeAt Go.RowKit

theorem gK : Tryz.prog.globalNamed "pharos/sha.k" = some 1 := by kernel_rfl
theorem tK : (Tryz.prog.globals[1]?).map (·.type) = some 249 := by kernel_rfl
theorem laid_eq {H : Type} : (Rows.laid_pharos_sha_k : DataW H) = .agg (kList.map fun n => .lit (.int .u32 n)) := rfl
theorem c1K : Tryz.prog.cellsOf 196 = 1 := by kernel_rfl

theorem kt_of_laid {W : World} (h : laidMetH Tryz.prog [("pharos/sha.k", Rows.laid_pharos_sha_k)] W) : KT W := by
  rw [MakeChecks.laidMetH_plain _ _ _ (by kernel_rfl)] at h
  obtain ⟨ps, ⟨g0, t0, cs0, f0, p0, q0, hg0, ht0, hv0, hd0, hrest⟩, _, _⟩ := h
  obtain rfl := Option.some.inj (gK.symm.trans hg0)
  obtain rfl := Option.some.inj (tK.symm.trans ht0)
  rw [laid_eq] at hd0
  obtain ⟨xs, m1, _, hx1, hl, hlen, hel⟩ := DataW.trod_array Tryz.underlying249 hd0
  rw [c1K] at hel
  simp only [Prod.mk.injEq, DataW.agg.injEq] at hx1
  have hcell : ∀ i, i < 64 → W.cell? ⟨1, i, none⟩ = some (.int .u32 (kc i)) := by
    intro i hi
    have h3 := hel i (by omega)
    have hxi : i < xs.length := by omega
    rw [List.getElem?_eq_getElem hxi] at h3
    obtain ⟨n, e1, e2, _⟩ := DataW.trod_int Tryz.underlying196 h3
    have h4 := congrArg (fun l => l[i]?) hx1.1
    simp only [List.getElem?_map, List.getElem?_eq_getElem hxi, Option.map_some] at h4
    rw [e2, List.getElem?_eq_getElem (show i < kList.length from hi)] at h4
    simp at h4
    have hv := World.var?_cell hg0 hv0 i
    rw [Nat.mul_one] at e1
    have h5 := congrArg (fun l => l[0]?) e1
    simp at h5
    have hlt : i < kList.length := hi
    rw [hv, h5, show kc i = n from by rw [← h4]; simp [kc, List.getD, hlt]]
  refine ⟨hcell, ?_⟩
  rcases Nat.lt_or_ge 1 W.heap.size with hlt | hge
  · exact hlt
  · have := hcell 0 (by omega)
    simp [World.cell?, Array.getElem?_eq_none hge] at this

theorem laid_door (os : Os) (args : Array Value) : laidMetH Tryz.prog [("pharos/sha.k", Rows.laid_pharos_sha_k)] ((World.doorLaid Tryz.prog 14 os).forCall (fun _ _ => 0) ⟨#[], args, []⟩).memory :=
  laidMetH_of_parts3 (fuel := 8) (laidMet_of_run' 8 (by kernel_rfl) (by kernel_rfl)) (by kernel_rfl) (by kernel_rfl)

end Go.Proofs.YthgjdaomcpinaaaGreatDoor
